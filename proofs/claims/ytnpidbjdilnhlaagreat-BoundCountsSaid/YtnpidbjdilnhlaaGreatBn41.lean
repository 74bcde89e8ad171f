import Derived.Test.YtnpidbjdilnhlaaGreatBn40
import Derived.Test.YtnpidbjdilnhlaaGreatBn35
import Derived.Test.YtnpidbjdilnhlaaGreatBn23
namespace Go.Proofs.YtnpidbjdilnhlaaGreat
open Go.RowKit
set_option maxRecDepth 100000
set_option maxHeartbeats 4000000
def qc(x:Int)(p:List Int)(o:List Int):List Int:=p.foldl (fun o a=>o.set a.toNat x) o
theorem F7(x:Int):∀(p o:List Int),(qc x p o).length=o.length
 | [],_=>rfl
 | a::p,o=>by
  show (qc x p (o.set a.toNat x)).length=_
  rw[F7 x p,List.length_set]
theorem Wc(x:Int)(p o:List Int)(a:Int):qc x (p++[a]) o=(qc x p o).set a.toNat x:=by unfold qc;rw[List.foldl_append];rfl
def pj(n k:Nat)(Q:List (List Int)):Nat→List Int
 | 0=>List.replicate n 0
 | j+1=>qc (((k*((Q.take j).flatten.length) / n:Nat)):Int) (Q.getD j []) (pj n k Q j)
theorem xa(n k:Nat)(Q:List (List Int)):∀j,(pj n k Q j).length=n
 | 0=>List.length_replicate
 | j+1=>by unfold pj;rw[F7];exact xa n k Q j
def lr(n k:Nat)(l:List aV):List Int:=pj n k (iI n l) (iI n l).length
theorem Q5(k:Nat)(σ:Hp)(h1:1≤k)(h2:k≤64):ACalls Tryz.prog 104 [.int .i64 k] σ (az (.bool true) σ):=by
 refine okF Tryz.func104 (by kernel_rfl) ?_
 refine ao (fun _ =>?_) (fun c=>absurd (show (1:Int)≤k by omega) c)
 refine ao (fun _ =>?_) (fun c=>absurd (show (k:Int)≤64 by omega) c)
 exact .done ⟨rfl,rfl⟩
theorem Lj(Q:List (List Int))(j:Nat):(Q.take j).flatten.length≤Q.flatten.length:=by
 have e:Q.flatten=(Q.take j).flatten++(Q.drop j).flatten:=by rw[← List.flatten_append,List.take_append_drop]
 rw[e,List.length_append];omega
structure acQ(n:Nat)(Q:List (List Int)):Prop where
 node:∀p∈Q,∀x∈p,0≤x∧x<(n:Int)
 flat:Q.flatten.length≤600
 len:Q.length≤600
theorem Yk{k a n:Nat}(hk:k≤64)(ha:a≤600)(_hn:1≤n):IntKind.i64.wrap ((IntKind.i64.wrap ((k:Int)*(a:Nat))).tdiv (n:Int))=((k*a / n:Nat):Int):=by
 have h1:(k:Int)*(a:Nat)=((k*a:Nat):Int):=by simp
 have h2:k*a≤64*600:=Nat.mul_le_mul hk ha
 have h3:k*a / n≤k*a:=Nat.div_le_self _ _
 have h4:IntKind.i64.wrap ((k*a:Nat):Int)=((k*a:Nat):Int):=by rw[IntKind.wrap_i64];omega
 have h5:(((k*a:Nat):Int)).tdiv (n:Int)=((k*a / n:Nat):Int):=rfl
 rw[h1,h4,h5]
 clear h4 h5
 generalize k*a / n=q at h3
 generalize k*a=m at h2 h3
 rw[IntKind.wrap_i64]
 omega
theorem ZR{n:Nat}{l:List aV}{P:List (List Int)}(h:mi n l P)(hr:∀e∈l,(0≤e.1∧e.1<(n:Int))∧0≤e.2.1∧e.2.1<(n:Int))(hn:n≤256):acQ n (iI n l):=by
 have hO:=(Df h hr P.length (Nat.le_refl _)).1
 rw[HW h hr]at hO
 have hm:∀p∈iI n l,p∈P:=fun p hp=>by
  obtain⟨i,_,hi⟩:=(hO.mem p).1 hp
  exact List.mem_of_getElem? hi
 have fB:=CE n _ hO.nd fun x hx=>by
  obtain⟨p,hp,po⟩:=List.mem_flatten.1 hx
  exact h.ok.node p (hm p hp) x po
 have hll:=Lw (Q:=iI n l) fun p hp=>List.length_pos_iff.2 (h.ok.ne p (hm p hp))
 exact⟨fun p hp=>h.ok.node p (hm p hp),by omega,by omega⟩
theorem Zn(n:Nat)(l:List aV)(k:Nat)(σ:Hp)(hl:l.length≤100000)(cU:ej n l=true)(h1:1≤k)(h2:k≤64):ACalls Tryz.prog 106 [.int .i64 n,.ah cI l,.int .i64 k] σ (az (.tup [.ah (.int .i64) (lr n k l),.int .i64 0]) σ):=by
 have hn:1≤n∧n≤256:=by
  unfold ej at cU
  simp only[Bool.and_eq_true,decide_eq_true_eq]at cU
  omega
 have yO:∀e∈l,(0≤e.1∧e.1<(n:Int))∧0≤e.2.1∧e.2.1<(n:Int):=fun e he=>by
  unfold ej at cU
  simp only[Bool.and_eq_true,List.all_eq_true]at cU
  have:=cU.2 e he
  exact⟨jm.1 this.1,jm.1 this.2⟩
 refine okF Tryz.func106 (by kernel_rfl) ?_
 refine ax [] (Q5 k _ h1 h2) ?_
 refine .mk [] _ (Zi n l _ hl cU) ?_
 rintro _ τ ⟨rfl,Jw,P,hP⟩
 subst τ
 have hQ:=ZR hP yO hn.2
 unfold lr
 generalize iI n l=Q at hQ
 have hQl:=hQ.len
 have hnT:((n:Nat):Int).toNat=n:=Int.toNat_natCast n
 refine ag.mk ⟨by omega,by omega,by omega,by decide⟩ ?_
 intro bo
 refine bO (S:=Nat) (fun x=>[(0,.int .i64 n),(2,.int .i64 k),(10,.ae bo 0 n 1),(11,.int .i64 ((Q.take x).flatten.length:Nat)),(30,.ah (.slice (.int .i64)) Q),(31,.int .i64 Q.length),(32,.int .i64 x)]) (fun x=>(bo,aj (pj n k Q x))::σ) (fun x=>x≤Q.length) (fun x=>Q.length-x) 0 ⟨Nat.zero_le _,⟨rfl,rfl,rfl,rfl,rfl,rfl,rfl,trivial⟩,by rw[show aj (pj n k Q 0)=bU [.int .i64 0] n from (vm n).symm];rfl⟩ ?_
 intro j g hj
 have hj:j≤Q.length:=hj
 have Fk:(Q.take j).flatten.length≤600:=Nat.le_trans (Lj Q j) hQ.flat
 refine ao (p:=(j:Int)<Q.length) (fun ab =>?_) (fun au =>?_)
 ·have ab:j<Q.length:=by omega
  obtain⟨p,hp⟩:∃p,Q[j]?=some p:=⟨Q[j]'ab,List.getElem?_eq_getElem ab⟩
  have Fm:=hQ.node p (List.mem_of_getElem? hp)
  have ql:p.length≤600:=Nat.le_trans (List.Sublist.length_le (List.sublist_flatten_of_mem (List.mem_of_getElem? hp))) hQ.flat
  have hx:IntKind.i64.wrap ((IntKind.i64.wrap ((k:Int)*((Q.take j).flatten.length:Nat))).tdiv (n:Int))=((k*(Q.take j).flatten.length / n:Nat):Int):=Yk (by omega) (by omega) (by omega)
  have hu:pj n k Q (j+1)=qc ((k*(Q.take j).flatten.length / n:Nat):Int) p (pj n k Q j):=by
   show qc _ (Q.getD j []) _=_
   rw[List.getD_eq_getElem?_getD,hp];rfl
  have lM:=xa n k Q j
  have gb:(Q.take (j+1)).flatten.length=(Q.take j).flatten.length+p.length:=by
   rw[List.take_succ_eq_append_getElem ab,List.flatten_append,List.length_append,show Q[j]=p from Option.some.inj ((List.getElem?_eq_getElem ab).symm.trans hp)];simp
  generalize pj n k Q j=o at hu lM
  generalize hX:((k*(Q.take j).flatten.length / n:Nat):Int)=X at hx hu
  refine ag.mk rfl (bH.mk p (by omega) (by rw[Int.toNat_natCast];exact hp) ?_)
  refine bO (S:=Nat) (fun y=>[(0,.int .i64 n),(2,.int .i64 k),(10,.ae bo 0 n 1),(11,.int .i64 ((Q.take j).flatten.length:Nat)),(13,.ah (.int .i64) p),(30,.ah (.slice (.int .i64)) Q),(31,.int .i64 Q.length),(32,.int .i64 j),(36,.ah (.int .i64) p),(37,.int .i64 p.length),(38,.int .i64 y)]) (fun y=>(bo,aj (qc X (p.take y) o))::σ) (fun y=>y≤p.length) (fun y=>p.length-y) 0 ⟨Nat.zero_le _,⟨rfl,rfl,rfl,rfl,rfl,rfl,rfl,rfl,rfl,rfl,rfl,trivial⟩,rfl⟩ ?_
  intro y g2 hy
  have hy:y≤p.length:=hy
  refine ao (p:=(y:Int)<p.length) (fun rE =>?_) (fun hg2 =>?_)
  ·have rE:y<p.length:=by omega
   have hz:=Fm _ (List.getElem_mem rE)
   have BJ:=F7 X (p.take y) o
   refine ag.mk rfl (bH.mk p[y] (by omega) (get_some rE) ?_)
   refine ag.mk (by omega) ?_
   refine ag.mk ⟨rfl,by omega,by omega⟩ ?_
   refine cd 0 rfl (kZ rfl _ hz.1 (by omega)) ?_
   exact bg (y+1) (by show p.length-(y+1)<p.length-y;omega) rE ⟨rfl,rfl,rfl,rfl,rfl,rfl,rfl,rfl,rfl,rfl,a8 (by omega),trivial⟩ (aF (by rw[hx,List.take_succ_eq_append_getElem rE,Wc];rfl))
  ·have hg2:p.length=y:=by omega
   subst hg2
   rw[List.take_length]
   exact bg (j+1) (by show Q.length-(j+1)<Q.length-j;omega) ab ⟨rfl,rfl,rfl,(by show AV.int .i64 (IntKind.i64.wrap ((((Q.take j).flatten.length:Nat):Int)+((p.length:Nat):Int)))=.int .i64 (((Q.take (j+1)).flatten.length:Nat):Int);rw[gb,IntKind.wrap_i64];exact aN (by omega)),rfl,rfl,a8 (by omega),trivial⟩ (aF (by rw[hu]))
 ·have au:Q.length=j:=by omega
  subst au
  refine .cb 0 bo 0 n 1 _ (.int .i64) (pj n k Q Q.length) rfl (by rw[List.drop_zero,List.take_of_length_le (by rw[kU,xa,Nat.mul_one];exact Nat.le_refl _)];exact tD _) ⟨xa n k Q _,rfl,by decide⟩ (dK .here (.refl _)) (.done ⟨rfl,rfl⟩)
set_option maxRecDepth 100000
set_option maxHeartbeats 4000000
def lp(L:List Int):Nat→List Int
 | 0=>L
 | i+1=>((lp L i).set i ((lp L i).getD (L.length-1-i) 0)).set (L.length-1-i) ((lp L i).getD i 0)
theorem Cg(L:List Int):∀i,(lp L i).length=L.length
 | 0=>rfl
 | i+1=>by unfold lp;rw[List.length_set,List.length_set];exact Cg L i
theorem Ms(l:List Int)(a:Nat)(v:Int)(t:Nat)(ha:a<l.length):(l.set a v).getD t 0=if a=t then v else l.getD t 0:=by
 rw[List.getD_eq_getElem?_getD,List.getElem?_set]
 by_cases h:a=t
 ·subst h;rw[if_pos rfl,if_pos ha,if_pos rfl];rfl
 ·rw[if_neg h,if_neg h,List.getD_eq_getElem?_getD]
theorem Oj(L:List Int):∀i,2*i≤L.length+1→∀t,t<L.length→(lp L i).getD t 0=if t<i∨L.length-i≤t then L.getD (L.length-1-t) 0 else L.getD t 0
 | 0,_,t,ht=>by
  rw[if_neg (by omega)];rfl
 | i+1,hi,t,ht=>by
  have hl:=Cg L i
  have ih:=Oj L i (by omega)
  have h0:0<L.length:=by omega
  have e1:L.length-1-i<((lp L i).set i ((lp L i).getD (L.length-1-i) 0)).length:=by rw[List.length_set,hl];omega
  unfold lp
  rw[Ms _ _ _ _ e1]
  by_cases hm:i<L.length
  ·rw[Ms _ _ _ _ (by rw[hl];exact hm),ih i hm,ih (L.length-1-i) (by omega),ih t ht]
   repeat' split
   all_goals first | rfl | (exfalso;omega) | (congr 1;omega)
  ·omega
theorem V2{L:List Int}{i:Nat}(h1:2*i≤L.length+1)(h2:L.length≤2*i+1):lp L i=L.reverse:=by
 have hl:=Cg L i
 refine List.ext_getElem (by rw[hl,List.length_reverse]) fun t h3 h4 =>?_
 have ht:t<L.length:=by omega
 have:=Oj L i h1 t ht
 rw[List.getD_eq_getElem?_getD,List.getElem?_eq_getElem h3,List.getD_eq_getElem?_getD,List.getElem?_eq_getElem (show L.length-1-t<L.length by omega),List.getD_eq_getElem?_getD,List.getElem?_eq_getElem ht]at this
 rw[List.getElem_reverse]
 have this:(lp L i)[t]=if t<i∨L.length-i≤t then L[L.length-1-t] else L[t]:=this
 rw[this]
 split
 ·rfl
 ·have e:t=L.length-1-t:=by omega
  congr 1
theorem Xt(b:Nat)(L:List Int)(q:Nat)(σ:Hp)(hq:L.length=q)(hl:q≤1000000):ACalls Tryz.prog 107 [.ae b 0 q 1] ((b,aj L)::σ) (az (.tup []) ((b,aj L.reverse)::σ)):=by
 refine okF Tryz.func107 (by kernel_rfl) ?_
 refine bO (S:=Nat) (fun i=>[(0,.ae b 0 q 1),(2,.int .i64 i),(3,.int .i64 ((q:Int)-1-i))]) (fun i=>(b,aj (lp L i))::σ) (fun i=>2*i≤q+1) (fun i=>q+1-i) 0 ⟨by omega,⟨rfl,rfl,aN (by rw[IntKind.wrap_i64];omega),trivial⟩,rfl⟩ ?_
 intro i g hi
 have hi:2*i≤q+1:=hi
 have eK:=Cg L i
 refine ao (p:=(i:Int)<(q:Int)-1-i) (fun ab =>?_) (fun au =>?_)
 ·have hj:((q:Int)-1-(i:Int)).toNat=L.length-1-i:=by omega
  refine .sched [] (upto [] 16 0) (by kernel_rfl) ?_
  refine ag.mk ⟨rfl,by omega,by omega⟩ ?_
  refine aL 0 rfl (dT rfl (by omega) (by omega)) ?_
  refine ag.mk ⟨rfl,by omega,by omega⟩ ?_
  refine aL 0 rfl (dT rfl (by omega) (by omega)) ?_
  refine ag.mk ⟨rfl,by omega,by omega⟩ ?_
  refine cd 0 rfl (kZ rfl _ (by omega) (by omega)) ?_
  refine ag.mk ⟨rfl,by omega,by omega⟩ ?_
  refine cd 0 rfl (kZ rfl _ (by omega) (by rw[List.length_set];omega)) ?_
  refine bg (i+1) (by show q+1-(i+1)<q+1-i;omega) (by show 2*(i+1)≤q+1;omega) ⟨rfl,aN (by rw[IntKind.wrap_i64];omega),aN (by rw[IntKind.wrap_i64];omega),trivial⟩ (aF ?_)
  show (b,aj (((lp L i).set ((i:Nat):Int).toNat ((lp L i).getD ((q:Int)-1-(i:Int)).toNat 0)).set ((q:Int)-1-(i:Int)).toNat ((lp L i).getD ((i:Nat):Int).toNat 0)))::σ=(b,aj (lp L (i+1)))::σ
  rw[hj,Int.toNat_natCast]
  rfl
 ·rw[V2 (by omega) (by omega)]
  exact .done ⟨rfl,rfl⟩
set_option maxRecDepth 100000
set_option maxHeartbeats 4000000
def kW(k:Nat)(ow al:List Int):List (List Int):=(List.range k).map fun u:Nat=>al.filter fun x=>decide (ow.getD x.toNat 0=(u:Int))
theorem uU(k:Nat)(ow al:List Int):(kW k ow al).length=k:=by unfold kW;rw[List.length_map,List.length_range]
theorem zj{k:Nat}{ow al:List Int}{u:Nat}(h:u<k):(kW k ow al)[u]?=some (al.filter fun x=>decide (ow.getD x.toNat 0=(u:Int))):=by
 unfold kW
 rw[List.getElem?_map,List.getElem?_range h];rfl
theorem RY{k:Nat}{ow al:List Int}{z:Int}{w:Nat}{rl:List Int}(hz:ow.getD z.toNat 0=(w:Int))(hr:(kW k ow al)[w]?=some rl):kW k ow (al++[z])=(kW k ow al).set w (rl++[z]):=by
 have hw:w<k:=by
  have:=(List.getElem?_eq_some_iff.1 hr).1
  rw[uU]at this
  exact this
 refine List.ext_getElem? fun i =>?_
 rw[List.getElem?_set,uU]
 rcases Nat.lt_or_ge i k with hi | hi
 ·rw[zj hi,zj hi,List.filter_append]
  by_cases e:w=i
  ·subst e
   rw[if_pos rfl,if_pos hw]
   rw[zj hw]at hr
   rw[← Option.some.inj hr,List.filter_cons,if_pos (by rw[hz];simp),List.filter_nil]
  ·rw[if_neg e,List.filter_cons,if_neg (by rw[hz];simp;omega),List.filter_nil,List.append_nil]
 ·rw[List.getElem?_eq_none (by rw[uU];exact hi),if_neg (by omega),List.getElem?_eq_none (by rw[uU];exact hi)]
theorem Ud(A:List ig)(r r2:ig)(B:List ig):jx (A++r2::B)=(jx (A++r::B)).set A.length r2.2.2:=by
 unfold jx
 rw[List.map_append,List.map_append,List.set_append_right _ _ (by rw[List.length_map];exact Nat.le_refl _),List.length_map,Nat.sub_self]
 rfl
theorem VX(A:List ig)(r:ig)(B:List ig):(jx (A++r::B))[A.length]?=some r.2.2:=by
 unfold jx
 rw[List.map_append,List.getElem?_append_right (by rw[List.length_map];exact Nat.le_refl _),List.length_map,Nat.sub_self]
 rfl
theorem PN(bx:Nat)(ow:List Int)(x w:Int)(σ:Hp)(hx:0≤x)(hw:ow[x.toNat]?=some w):ACalls Tryz.prog 109 [.int .i64 x,.ptr bx 0] ((bx,[.ah (.int .i64) ow])::σ) (az (.int .i64 w) ((bx,[.ah (.int .i64) ow])::σ)):=by
 refine okF Tryz.func109 (by kernel_rfl) ?_
 refine aa 0 ?_
 refine ag.mk rfl (bH.mk w hx hw ?_)
 exact .done ⟨rfl,rfl⟩
theorem aaz(n k bx:Nat)(ow al:List Int)(σ:Hp)(lN:1≤k)(dm:k≤64)(hal:al.length≤100000)(hr:∀x∈al,0≤x∧x<(n:Int))(lM:ow.length=n)(gV:∀i:Nat,i<n→0≤ow.getD i 0∧ow.getD i 0<(k:Int)):ACalls Tryz.prog 108 [.ah (.int .i64) al,.int .i64 k,.fn (.func 109) [] [.ptr bx 0]] ((bx,[.ah (.int .i64) ow])::σ) (fun r σ'=>∃ls:List (List Int),r=.ah (.slice (.int .i64)) ls∧σ'=(bx,[.ah (.int .i64) ow])::σ∧ls=kW k ow al):=by
 refine SC ?_
 refine okF Tryz.func108 (by kernel_rfl) ?_
 refine ag.mk ⟨by omega,by omega,by omega,by decide⟩ ?_
 intro bo
 refine .cO (.pull [1] (.refl _)) ?_
 refine bO (S:=Nat×List ig) (fun s=>[(2,.fn (.func 109) [] [.ptr bx 0]),(7,.ae bo 0 k 1),(12,.ah (.int .i64) al),(13,.int .i64 al.length),(14,.int .i64 s.1)]) (fun s=>(bx,[.ah (.int .i64) ow])::(bo,iy s.2)::(jN s.2++σ)) (fun s=>s.1≤al.length∧(∀r∈s.2,vP r)∧jx s.2=kW k ow (al.take s.1)) (fun s=>al.length-s.1) (0,List.replicate k (.af,[],[])) ⟨⟨Nat.zero_le _,fun r hr=>.inl (by rw[List.eq_of_mem_replicate hr];exact⟨rfl,rfl,rfl⟩),?_⟩,⟨rfl,rfl,rfl,rfl,rfl,trivial⟩,?_⟩ ?_
 ·refine List.ext_getElem? fun i =>?_
  show (jx (List.replicate k (.af,[],[])))[i]?=_
  unfold jx
  rw[List.getElem?_map,List.getElem?_replicate]
  rcases Nat.lt_or_ge i k with hi | hi
  ·rw[if_pos hi,zj hi];rfl
  ·rw[if_neg (by omega),List.getElem?_eq_none (by rw[uU];exact hi)];rfl
 ·show _=(bx,[AV.ah (.int .i64) ow])::(bo,iy (List.replicate k (.af,[],[])))::(jN (List.replicate k (.af,[],[]))++σ)
  rw[← V3,Ug];rfl
 rintro⟨j,rs⟩ g ⟨qo,ho0,hL0⟩
 have hj:j≤al.length:=qo
 have ho:∀r∈rs,vP r:=ho0
 have hL:jx rs=kW k ow (al.take j):=hL0
 clear qo ho0 hL0
 have sT:rs.length=k:=by
  have:=congrArg List.length hL
  rw[uU]at this
  exact (List.length_map _).symm.trans this
 refine ao (p:=(j:Int)<al.length) (fun ab =>?_) (fun au =>?_)
 rotate_left
 ·have au:¬(j:Int)<al.length:=au
  rw[List.take_of_length_le (by omega)]at hL
  subst sT
  exact .perm ((List.Perm.cons _ List.perm_middle).trans (List.Perm.swap _ _ _)) (.done ⟨bo,rs,rfl,rfl,ho,hL⟩)
 have ab:j<al.length:=by omega
 obtain⟨z,hz⟩:∃z,al[j]=z:=⟨_,rfl⟩
 have fK:=hr z (hz▸List.getElem_mem ab)
 have hzi:al[((j:Nat):Int).toNat]?=some z:=by rw[Int.toNat_natCast,List.getElem?_eq_getElem ab,hz]
 have gb:al.take (j+1)=al.take j++[z]:=by rw[List.take_succ_eq_append_getElem ab,hz]
 obtain⟨w,hw⟩:∃w:Nat,ow.getD z.toNat 0=(w:Int):=⟨(ow.getD z.toNat 0).toNat,by have:=gV z.toNat (by omega);omega⟩
 have qg:w<k:=by have:=gV z.toNat (by omega);omega
 have hzw:ow[z.toNat]?=some (w:Int):=by rw[← hw,List.getD_eq_getElem?_getD,List.getElem?_eq_getElem (by omega)];rfl
 obtain⟨A,r,B,rfl,hA⟩:∃A r B,rs=A++r::B∧w=A.length:=⟨rs.take w,rs[w]'(by omega),rs.drop (w+1),by simp,by rw[List.length_take];omega⟩
 obtain⟨c,acc,rl⟩:=r
 have hAw:((w:Nat):Int)=A.length:=by rw[hA]
 rw[Gt]
 have JX:=VY A (c,acc,rl) B hAw
 have jf:=fun r2=>Ue A (c,acc,rl) r2 B hAw
 have IV:(kW k ow (al.take j))[w]?=some rl:=by rw[← hL,hA];exact VX A (c,acc,rl) B
 have gg:=RY hw IV
 rw[← gb]at gg
 generalize hC:iy (A++(c,acc,rl)::B)=C at JX jf
 have kL:vP (c,acc,rl):=ho _ (List.mem_append_right _ (List.mem_cons_self ..))
 have hCl:C.length=k:=by rw[← hC,Uf];exact sT
 have hrb:rl.length≤100000:=by
  rw[zj qg]at IV
  rw[← Option.some.inj IV]
  exact Nat.le_trans (List.length_filter_le _ _) (by rw[List.length_take];omega)
 have fP:∀v' bh,Acc 1 (rl.length+1) v' bh (aj rl++[.int .i64 z])→j+1≤al.length∧(∀r∈A++(.via v',bh,rl++[z])::B,vP r)∧jx (A++(.via v',bh,rl++[z])::B)=kW k ow (al.take (j+1)):=fun v' bh h'=>by
  have rE:(rl++[z]:List Int).length=rl.length+1:=List.length_append
  refine⟨ab,fun r hr =>?_,?_⟩
  ·rcases List.mem_append.1 hr with hr | hr
   ·exact ho r (List.mem_append_left _ hr)
   ·rcases List.mem_cons.1 hr with rfl | hr
    ·refine .inr ⟨v',rfl,?_⟩
     show Acc 1 (rl++[z]:List Int).length v' bh (aj (rl++[z]))
     rw[rE,show aj (rl++[z])=aj rl++[.int .i64 z] from List.map_append]
     exact h'
    ·exact ho r (List.mem_append_right _ (List.mem_cons_of_mem _ hr))
  ·rw[gg,← hL,hA];exact Ud A (c,acc,rl) (.via v',bh,rl++[z]) B
 refine ag.mk rfl (bH.mk z (by omega) hzi ?_)
 refine ax [] (PN bx ow z w _ fK.1 hzw) ?_
 refine ax [] (PN bx ow z w _ fK.1 hzw) ?_
 refine ag.mk ⟨rfl,by omega,by omega⟩ ?_
 rcases kL with ⟨q1,q2,q3⟩ | ⟨v,q1,q2⟩
 ·have q1:c=.af:=q1
  have q2:acc=[]:=q2
  have q3:rl=[]:=q3
  subst q1
  subst q2
  subst q3
  refine aL 1 rfl (gN rfl JX) ?_
  intro aC
  refine kr ((aC,[.int .i64 z])::(bx,[.ah (.int .i64) ow])::(bo,C)::jN A) (Acc.nil (e:=1)) (.ae 0 aC 0 1 _ rfl (Nat.le_of_ble_eq_true rfl)) rfl (by omega) (by decide) (by decide) (fun v' bh h' =>?_)
  refine ag.mk ⟨rfl,by omega,by omega⟩ ?_
  refine cd 2 rfl ((sa rfl rfl (by omega)).trans (congrArg some (jf (.via v',bh,[]++[z])))) ?_
  exact bg (j+1,A++(.via v',bh,[]++[z])::B) (by show al.length-(j+1)<al.length-j;omega) (fP v' bh h') ⟨rfl,rfl,rfl,rfl,a8 (by omega),trivial⟩ (.drop 0 1 (aF (by rw[Gt];rfl)))
 ·have q1:c=.via v:=q1
  have q2:Acc 1 rl.length v acc (aj rl):=q2
  subst q1
  refine aL 1 rfl (gN rfl JX) ?_
  intro aC
  refine kr (k:=rl.length) (n:=1) ((aC,[.int .i64 z])::(bx,[.ah (.int .i64) ow])::(bo,C)::jN A) q2 (.ae 0 aC 0 1 _ rfl (Nat.le_of_ble_eq_true rfl)) rfl (by omega) (by decide) (by decide) (fun v' bh h' =>?_)
  refine ag.mk ⟨rfl,by omega,by omega⟩ ?_
  refine cd 2 rfl ((sa rfl rfl (by omega)).trans (congrArg some (jf (.via v',bh,rl++[z])))) ?_
  exact bg (j+1,A++(.via v',bh,rl++[z])::B) (by show al.length-(j+1)<al.length-j;omega) (fP v' bh h') ⟨rfl,rfl,rfl,rfl,a8 (by omega),trivial⟩ (.drop 0 1 (aF (by rw[Gt];rfl)))
theorem Mg{k:Nat}{x:Int}(hx:0≤x∧x<(k:Int)):∀(p o:List Int),(∀i:Nat,i<o.length→0≤o.getD i 0∧o.getD i 0<(k:Int))→∀i:Nat,i<o.length→0≤(qc x p o).getD i 0∧(qc x p o).getD i 0<(k:Int)
 | [],_,h=>h
 | a::p,o,h=>by
  have ih:=Mg hx p (o.set a.toNat x) fun i hi=>by
   rw[List.length_set]at hi
   rw[List.getD_eq_getElem?_getD,List.getElem?_set]
   by_cases e:a.toNat=i
   ·subst e;rw[if_pos rfl,if_pos hi];exact hx
   ·rw[if_neg e,← List.getD_eq_getElem?_getD];exact h i hi
  rw[List.length_set]at ih
  exact ih
theorem Mf{n k:Nat}{Q:List (List Int)}(hk:1≤k)(aI:∀p∈Q,p≠[])(fB:Q.flatten.length≤n):∀j,j≤Q.length→∀i:Nat,i<n→0≤(pj n k Q j).getD i 0∧(pj n k Q j).getD i 0<(k:Int)
 | 0,_,i,hi=>by
  show 0≤(List.replicate n (0:Int)).getD i 0∧(List.replicate n (0:Int)).getD i 0<(k:Int)
  rw[List.getD_eq_getElem?_getD,List.getElem?_replicate,if_pos hi]
  show (0:Int)≤0∧(0:Int)<k
  omega
 | j+1,hj,i,hi=>by
  have ih:=Mf hk aI fB j (by omega)
  have ab:j<Q.length:=hj
  have rC:=List.length_pos_iff.2 (aI _ (List.getElem_mem ab))
  have h1:=Lj Q (j+1)
  rw[List.take_succ_eq_append_getElem ab,List.flatten_append,List.length_append,show [Q[j]].flatten=Q[j] by simp]at h1
  have ha:(Q.take j).flatten.length<n:=by omega
  have hx:k*(Q.take j).flatten.length / n<k:=by
   refine Nat.div_lt_of_lt_mul ?_
   rw[Nat.mul_comm n k]
   exact Nat.mul_lt_mul_of_pos_left ha (by omega)
  have hl:=xa n k Q j
  refine Mg (k:=k) ⟨Int.natCast_nonneg _,Int.ofNat_lt.2 hx⟩ _ _ (fun i hi=>ih i (by omega)) i (by omega)
theorem S1{n k:Nat}{l:List aV}(hk:1≤k)(aI:∀p∈iI n l,p≠[])(fB:(iI n l).flatten.length≤n):∀i:Nat,i<n→0≤(lr n k l).getD i 0∧(lr n k l).getD i 0<(k:Int):=Mf hk aI fB _ (Nat.le_refl _)
def yc(n k:Nat)(l:List aV)(fr:List Int):List (List Int):=kW k (lr n k l) (nj n l fr).reverse
theorem aap(n:Nat)(l:List aV)(fr:List Int)(k:Nat)(σ:Hp)(hl:l.length≤100000)(hf:fr.length≤100000)(cU:ej n l=true)(rG:∀x∈fr,0≤x∧x<(n:Int))(h1:1≤k)(h2:k≤64):ACalls Tryz.prog 51 [.int .i64 n,.ah cI l,.ah (.int .i64) fr,.int .i64 k] σ (fun r σ'=>r=.tup [.ah (.slice (.int .i64)) (yc n k l fr),.int .i64 0]∧σ'=σ∧iF n (nj n l fr)∧(∀i:Nat,i<n→0≤(lr n k l).getD i 0∧(lr n k l).getD i 0<(k:Int))∧iF n (iI n l).flatten∧iF n (nM n l fr)):=by
 have hn:1≤n∧n≤256:=by
  unfold ej at cU
  simp only[Bool.and_eq_true,decide_eq_true_eq]at cU
  omega
 refine okF Tryz.func51 (by kernel_rfl) ?_
 refine ax [] (Q5 k _ h1 h2) ?_
 refine .mk [] _ (Zo n l fr _ hl hf cU rG) ?_
 rintro _ _ ⟨ba,rfl,rfl,hA,aI,fB,BJ⟩
 have gV:=S1 (k:=k) h1 aI (Nat.le_of_eq fB.len)
 refine ax [] (Zn n l k _ hl cU h1 h2) ?_
 intro bx
 refine ai 0 ?_
 have hlen:=hA.len
 unfold yc
 have lM:(lr n k l).length=n:=xa n k _ _
 generalize lr n k l=ow at gV lM
 generalize nj n l fr=L at hA hlen
 refine ax [1] (Xt ba L _ _ rfl (by omega)) ?_
 refine .cb (args':=[.ah (.int .i64) L.reverse,.int .i64 k,.fn (.func 109) [] [.ptr bx 0]]) 0 ba 0 L.length 1 _ (.int .i64) L.reverse rfl (by rw[List.drop_zero,List.take_of_length_le (by rw[kU,List.length_reverse,Nat.mul_one];exact Nat.le_refl _)];exact tD _) ⟨List.length_reverse,rfl,by decide⟩ (dK .here (.refl _)) ?_
 refine .mk [] _ (aaz n k bx ow L.reverse _ h1 h2 (by rw[List.length_reverse];omega) (fun x hx=>hA.rg x (List.mem_reverse.1 hx)) lM gV) ?_
 rintro _ _ ⟨ls,rfl,rfl,rfl⟩
 exact .drop 0 1 (.done ⟨rfl,rfl,hA,gV,fB,BJ⟩)
end Go.Proofs.YtnpidbjdilnhlaaGreat
