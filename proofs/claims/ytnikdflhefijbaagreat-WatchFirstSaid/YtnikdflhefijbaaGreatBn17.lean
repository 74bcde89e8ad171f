import Derived.Test.YtnikdflhefijbaaGreatBn16
import Derived.Test.YtnikdflhefijbaaGreatBn14
import Derived.Test.YtnikdflhefijbaaGreatBn10
import Derived.Test.YtnikdflhefijbaaGreatBn9
import Derived.Test.YtnikdflhefijbaaGreatBn12
import Derived.Test.YtnikdflhefijbaaGreatBn6
namespace Go.Proofs.YtnikdflhefijbaaGreat
open Go.RowKit
set_option maxRecDepth 100000
set_option maxHeartbeats 4000000
def sP(x:Int)(p:List Int)(o:List Int):List Int:=p.foldl (fun o a=>o.set a.toNat x) o
theorem KN(x:Int):∀(p o:List Int),(sP x p o).length=o.length
 | [],_=>rfl
 |a::p,o=>by
  show (sP x p (o.set a.toNat x)).length=_
  rw[KN x p,cM]
theorem abK(x:Int)(p o:List Int)(a:Int):sP x (p++[a]) o=(sP x p o).set a.toNat x:=by unfold sP;rw[s9];rfl
def rX(n k:Nat)(Q:List (List Int)):Nat→List Int
 | 0=>List.replicate n 0
 |j+1=>sP (((k*((Q.take j).flatten.length) / n:Nat)):Int) (Q.getD j []) (rX n k Q j)
theorem Am(n k:Nat)(Q:List (List Int)):∀j,(rX n k Q j).length=n
 | 0=>gG
 |j+1=>by unfold rX;rw[KN];exact Am n k Q j
def lK(n k:Nat)(l:List bA):List Int:=rX n k (kb n l) (kb n l).length
theorem Xa(k:Nat)(σ:Hp)(h1:1≤k)(h2:k≤64):ACalls Tryz.prog 214 [.int .i64 k] σ (aB (.bool true) σ):=by
 refine au Tryz.func214 ?_
 refine ak (fun _=>?_) (fun c=>absurd (show (1:Int)≤k by omega) c)
 refine ak (fun _=>?_) (fun c=>absurd (show (k:Int)≤64 by omega) c)
 exact .done ⟨rfl,rfl⟩
theorem QC(Q:List (List Int))(j:Nat):(Q.take j).flatten.length≤Q.flatten.length:=by
 have e:Q.flatten=(Q.take j).flatten++(Q.drop j).flatten:=by rw[← gm8,zZ]
 rw[e,bV];omega
structure aiH(n:Nat)(Q:List (List Int)):Prop where
 node:∀p∈Q,∀x∈p,0≤x∧x<(n:Int)
 flat:Q.flatten.length≤600
 len:Q.length≤600
theorem adY{k a n:Nat}(hk:k≤64)(ha:a≤600)(_hn:1≤n):IntKind.i64.wrap ((IntKind.i64.wrap ((k:Int)*(a:Nat))).tdiv (n:Int))=((k*a / n:Nat):Int):=by
 have h1:(k:Int)*(a:Nat)=((k*a:Nat):Int):=by simp
 have h2:k*a≤64*600:=uA hk ha
 have h3:k*a / n≤k*a:=Nat.div_le_self _ _
 have h4:IntKind.i64.wrap ((k*a:Nat):Int)=((k*a:Nat):Int):=by rw[IntKind.wrap_i64];omega
 have h5:(((k*a:Nat):Int)).tdiv (n:Int)=((k*a / n:Nat):Int):=rfl
 rw[h1,h4,h5]
 clear h4 h5
 generalize k*a / n=q at h3
 generalize k*a=m at h2 h3
 rw[IntKind.wrap_i64]
 omega
theorem afD{n:Nat}{l:List bA}{P:List (List Int)}(h:oO n l P)(hr:∀e∈l,(0≤e.1∧e.1<(n:Int))∧0≤e.2.1∧e.2.1<(n:Int))(hn:n≤256):aiH n (kb n l):=by
 have hO:=(Hi h hr P.length (aR _)).1
 rw[MI h hr]at hO
 have hm:∀p∈kb n l,p∈P:=fun p hp=>by
  obtain⟨i,_,hi⟩:=(hO.mem p).1 hp
  exact cu hi
 have gL:=GB n _ hO.nd fun x hx=>by
  obtain⟨p,hp,rZ⟩:=nf.1 hx
  exact h.ok.node p (hm p hp) x rZ
 have hll:=QP (Q:=kb n l) fun p hp=>mB.2 (h.ok.ne p (hm p hp))
 exact⟨fun p hp=>h.ok.node p (hm p hp),by omega,by omega⟩
theorem af6(n:Nat)(l:List bA)(k:Nat)(σ:Hp)(hl:l.length≤100000)(dU:ey n l=true)(h1:1≤k)(h2:k≤64):ACalls Tryz.prog 216 [.int .i64 n,.ae dC l,.int .i64 k] σ (aB (.tup [.ae (.int .i64) (lK n k l),.int .i64 0]) σ):=by
 have hn:1≤n∧n≤256:=by
  unfold ey at dU
  simp only[bL,decide_eq_true_eq]at dU
  omega
 have B2:∀e∈l,(0≤e.1∧e.1<(n:Int))∧0≤e.2.1∧e.2.1<(n:Int):=fun e he=>by
  unfold ey at dU
  simp only[bL,fI]at dU
  have:=dU.2 e he
  exact⟨kO.1 this.1,kO.1 this.2⟩
 refine au Tryz.func216 ?_
 refine az [] (Xa k _ h1 h2) ?_
 refine .mk [] _ (af0 n l _ hl dU) ?_
 rintro _ τ ⟨rfl,Oh,P,hP⟩
 subst τ
 have hQ:=afD hP B2 hn.2
 unfold lK
 generalize kb n l=Q at hQ
 have hQl:=hQ.len
 have hnT:((n:Nat):Int).toNat=n:=bO n
 refine aY ?_
 intro bo
 refine cc (S:=Nat) (fun x=>[(0,.int .i64 n),(2,.int .i64 k),(10,.af bo 0 n 1),(11,.int .i64 ((Q.take x).flatten.length:Nat)),(30,.ae (.slice (.int .i64)) Q),(31,.int .i64 Q.length),(32,.int .i64 x)]) (fun x=>(bo,ao (rX n k Q x))::σ) (fun x=>x≤Q.length) (fun x=>Q.length-x) 0 ⟨bE _,⟨rfl,rfl,rfl,rfl,rfl,rfl,rfl,trivial⟩,by rw[show ao (rX n k Q 0)=cJ [.int .i64 0] n from (yJ n).symm];rfl⟩ ?_
 intro j g hj
 have hj:j≤Q.length:=hj
 have wg:(Q.take j).flatten.length≤600:=eu (QC Q j) hQ.flat
 refine ak (p:=(j:Int)<Q.length) (fun ab=>?_) (fun aq=>?_)
 ·have ab:j<Q.length:=by omega
  obtain⟨p,hp⟩:∃p,Q[j]?=some p:=⟨Q[j]'ab,bj ab⟩
  have Jq:=hQ.node p (cu hp)
  have sW:p.length≤600:=eu (List.Sublist.length_le (List.sublist_flatten_of_mem (cu hp))) hQ.flat
  have hx:IntKind.i64.wrap ((IntKind.i64.wrap ((k:Int)*((Q.take j).flatten.length:Nat))).tdiv (n:Int))=((k*(Q.take j).flatten.length / n:Nat):Int):=adY (by omega) (by omega) (by omega)
  have hu:rX n k Q (j+1)=sP ((k*(Q.take j).flatten.length / n:Nat):Int) p (rX n k Q j):=by
   show sP _ (Q.getD j []) _=_
   rw[aW,hp];rfl
  have nQ:=Am n k Q j
  have fQ:(Q.take (j+1)).flatten.length=(Q.take j).flatten.length+p.length:=by
   rw[List.take_succ_eq_append_getElem ab,List.flatten_append,List.length_append,show Q[j]=p from Option.some.inj ((List.getElem?_eq_getElem ab).symm.trans hp)];simp
  generalize rX n k Q j=o at hu nQ
  generalize hX:((k*(Q.take j).flatten.length / n:Nat):Int)=X at hx hu
  refine aG.mk rfl (bM.mk p (by omega) (by rw[bO];exact hp) ?_)
  refine cc (S:=Nat) (fun y=>[(0,.int .i64 n),(2,.int .i64 k),(10,.af bo 0 n 1),(11,.int .i64 ((Q.take j).flatten.length:Nat)),(13,.ae (.int .i64) p),(30,.ae (.slice (.int .i64)) Q),(31,.int .i64 Q.length),(32,.int .i64 j),(36,.ae (.int .i64) p),(37,.int .i64 p.length),(38,.int .i64 y)]) (fun y=>(bo,ao (sP X (p.take y) o))::σ) (fun y=>y≤p.length) (fun y=>p.length-y) 0 ⟨bE _,⟨rfl,rfl,rfl,rfl,rfl,rfl,rfl,rfl,rfl,rfl,rfl,trivial⟩,rfl⟩ ?_
  intro y g2 hy
  have hy:y≤p.length:=hy
  refine ak (p:=(y:Int)<p.length) (fun sa=>?_) (fun hg2=>?_)
  ·have sa:y<p.length:=by omega
   have hz:=Jq _ (bX sa)
   have E9:=KN X (p.take y) o
   refine aG.mk rfl (bM.mk p[y] (by omega) (get_some sa) ?_)
   refine fV ?_
   refine aK ?_
   refine da 0 rfl (nq rfl _ hz.1 (by omega)) ?_
   exact bg (y+1) (by show p.length-(y+1)<p.length-y;omega) sa ⟨rfl,rfl,rfl,rfl,rfl,rfl,rfl,rfl,rfl,rfl,a8 (by omega),trivial⟩ (aN (by rw[hx,fw sa,abK];rfl))
  ·have hg2:p.length=y:=by omega
   subst hg2
   rw[fu]
   exact bg (j+1) (by show Q.length-(j+1)<Q.length-j;omega) ab ⟨rfl,rfl,rfl,(by show AV.int .i64 (IntKind.i64.wrap ((((Q.take j).flatten.length:Nat):Int)+((p.length:Nat):Int)))=.int .i64 (((Q.take (j+1)).flatten.length:Nat):Int);rw[fQ,IntKind.wrap_i64];exact aJ (by omega)),rfl,rfl,a8 (by omega),trivial⟩ (aN (by rw[hu]))
 ·have aq:Q.length=j:=by omega
  subst aq
  refine .cX 0 bo 0 n 1 _ (.int .i64) (rX n k Q Q.length) rfl (by rw[iP,fe (by rw[nj,Am,er];exact aR _)];exact xa _) ⟨Am n k Q _,rfl,by decide⟩ (cg .here (.refl _)) (.done ⟨rfl,rfl⟩)
set_option maxHeartbeats 4000000
def ny(L:List Int):Nat→List Int
 | 0=>L
 |i+1=>((ny L i).set i ((ny L i).getD (L.length-1-i) 0)).set (L.length-1-i) ((ny L i).getD i 0)
theorem Ge(L:List Int):∀i,(ny L i).length=L.length
 | 0=>rfl
 |i+1=>by unfold ny;rw[cM,cM];exact Ge L i
theorem RN(l:List Int)(a:Nat)(v:Int)(t:Nat)(ha:a<l.length):(l.set a v).getD t 0=if a=t then v else l.getD t 0:=by
 rw[aW,e9]
 by_cases h:a=t
 ·subst h;rw[ah rfl,ah ha,ah rfl];rfl
 ·rw[ag h,ag h,aW]
theorem TY(L:List Int):∀i,2*i≤L.length+1→∀t,t<L.length→(ny L i).getD t 0=if t<i∨L.length-i≤t then L.getD (L.length-1-t) 0 else L.getD t 0
 | 0,_,t,ht=>by
  rw[ag (by omega)];rfl
 |i+1,hi,t,ht=>by
  have hl:=Ge L i
  have ih:=TY L i (by omega)
  have h0:0<L.length:=by omega
  have e1:L.length-1-i<((ny L i).set i ((ny L i).getD (L.length-1-i) 0)).length:=by rw[cM,hl];omega
  unfold ny
  rw[RN _ _ _ _ e1]
  by_cases hm:i<L.length
  ·rw[RN _ _ _ _ (by rw[hl];exact hm),ih i hm,ih (L.length-1-i) (by omega),ih t ht]
   repeat' split
   all_goals first | rfl | (exfalso;omega) | (congr 1;omega)
  ·omega
theorem abz{L:List Int}{i:Nat}(h1:2*i≤L.length+1)(h2:L.length≤2*i+1):ny L i=L.reverse:=by
 have hl:=Ge L i
 refine Ct (by rw[hl,tb]) fun t h3 h4=>?_
 have ht:t<L.length:=by omega
 have:=TY L i h1 t ht
 rw[aW,bj h3,aW,bj (show L.length-1-t<L.length by omega),aW,bj ht]at this
 rw[List.getElem_reverse]
 have this:(ny L i)[t]=if t<i∨L.length-i≤t then L[L.length-1-t] else L[t]:=this
 rw[this]
 split
 ·rfl
 ·have e:t=L.length-1-t:=by omega
  congr 1
theorem ad0(b:Nat)(L:List Int)(q:Nat)(σ:Hp)(hq:L.length=q)(hl:q≤1000000):ACalls Tryz.prog 217 [.af b 0 q 1] ((b,ao L)::σ) (aB (.tup []) ((b,ao L.reverse)::σ)):=by
 refine au Tryz.func217 ?_
 refine cc (S:=Nat) (fun i=>[(0,.af b 0 q 1),(2,.int .i64 i),(3,.int .i64 ((q:Int)-1-i))]) (fun i=>(b,ao (ny L i))::σ) (fun i=>2*i≤q+1) (fun i=>q+1-i) 0 ⟨by omega,⟨rfl,rfl,aJ (by rw[IntKind.wrap_i64];omega),trivial⟩,rfl⟩ ?_
 intro i g hi
 have hi:2*i≤q+1:=hi
 have fP:=Ge L i
 refine ak (p:=(i:Int)<(q:Int)-1-i) (fun ab=>?_) (fun aq=>?_)
 ·have hj:((q:Int)-1-(i:Int)).toNat=L.length-1-i:=by omega
  refine .sched [] (upto [] 16 0) (by kernel_rfl) ?_
  refine aK ?_
  refine aZ 0 rfl (fg rfl (by omega) (by omega)) ?_
  refine aK ?_
  refine aZ 0 rfl (fg rfl (by omega) (by omega)) ?_
  refine aK ?_
  refine da 0 rfl (nq rfl _ (by omega) (by omega)) ?_
  refine aK ?_
  refine da 0 rfl (nq rfl _ (by omega) (by rw[cM];omega)) ?_
  refine bg (i+1) (by show q+1-(i+1)<q+1-i;omega) (by show 2*(i+1)≤q+1;omega) ⟨rfl,aJ (by rw[IntKind.wrap_i64];omega),aJ (by rw[IntKind.wrap_i64];omega),trivial⟩ (aN ?_)
  show (b,ao (((ny L i).set ((i:Nat):Int).toNat ((ny L i).getD ((q:Int)-1-(i:Int)).toNat 0)).set ((q:Int)-1-(i:Int)).toNat ((ny L i).getD ((i:Nat):Int).toNat 0)))::σ=(b,ao (ny L (i+1)))::σ
  rw[hj,bO]
  rfl
 ·rw[abz (by omega) (by omega)]
  exact .done ⟨rfl,rfl⟩
set_option maxHeartbeats 4000000
def mI(k:Nat)(ow al:List Int):List (List Int):=(List.range k).map fun u:Nat=>al.filter fun x=>decide (ow.getD x.toNat 0=(u:Int))
theorem yq(k:Nat)(ow al:List Int):(mI k ow al).length=k:=by unfold mI;rw[cj,l0]
theorem CT{k:Nat}{ow al:List Int}{u:Nat}(h:u<k):(mI k ow al)[u]?=some (al.filter fun x=>decide (ow.getD x.toNat 0=(u:Int))):=by
 unfold mI
 rw[fm,wI h];rfl
theorem X0{k:Nat}{ow al:List Int}{z:Int}{w:Nat}{rl:List Int}(hz:ow.getD z.toNat 0=(w:Int))(hr:(mI k ow al)[w]?=some rl):mI k ow (al++[z])=(mI k ow al).set w (rl++[z]):=by
 have hw:w<k:=by
  have:=(ck.1 hr).1
  rw[yq]at this
  exact this
 refine zU fun i=>?_
 rw[e9,yq]
 rcases uz i k with hi | hi
 ·rw[CT hi,CT hi,zW]
  by_cases e:w=i
  ·subst e
   rw[ah rfl,ah hw]
   rw[CT hw]at hr
   rw[← Option.some.inj hr,List.filter_cons,if_pos (by rw[hz];simp),List.filter_nil]
  ·rw[if_neg e,List.filter_cons,if_neg (by rw[hz];simp;omega),List.filter_nil,List.append_nil]
 ·rw[uF (by rw[yq];exact hi),ag (by omega),uF (by rw[yq];exact hi)]
theorem ZU(A:List jO)(r r2:jO)(B:List jO):kU (A++r2::B)=(kU (A++r::B)).set A.length r2.2.2:=by
 unfold kU
 rw[dr,dr,Kk _ _ (by rw[cj];exact aR _),cj,qY]
 rfl
theorem abu(A:List jO)(r:jO)(B:List jO):(kU (A++r::B))[A.length]?=some r.2.2:=by
 unfold kU
 rw[dr,iQ (by rw[cj];exact aR _),cj,qY]
 rfl
theorem VE(bx:Nat)(ow:List Int)(x w:Int)(σ:Hp)(hx:0≤x)(hw:ow[x.toNat]?=some w):ACalls Tryz.prog 219 [.int .i64 x,.ptr bx 0] ((bx,[.ae (.int .i64) ow])::σ) (aB (.int .i64 w) ((bx,[.ae (.int .i64) ow])::σ)):=by
 refine au Tryz.func219 ?_
 refine aa 0 ?_
 refine aG.mk rfl (bM.mk w hx hw ?_)
 exact .done ⟨rfl,rfl⟩
theorem agw(n k bx:Nat)(ow al:List Int)(σ:Hp)(lV:1≤k)(ec:k≤64)(hal:al.length≤100000)(hr:∀x∈al,0≤x∧x<(n:Int))(nQ:ow.length=n)(jz:∀i:Nat,i<n→0≤ow.getD i 0∧ow.getD i 0<(k:Int)):ACalls Tryz.prog 218 [.ae (.int .i64) al,.int .i64 k,.fn (.func 219) [] [.ptr bx 0]] ((bx,[.ae (.int .i64) ow])::σ) (fun r σ'=>∃ls:List (List Int),r=.ae (.slice (.int .i64)) ls∧σ'=(bx,[.ae (.int .i64) ow])::σ∧ls=mI k ow al):=by
 refine YA ?_
 refine au Tryz.func218 ?_
 refine aY ?_
 intro bo
 refine .dN (.pull [1] (.refl _)) ?_
 refine cc (S:=Nat×List jO) (fun s=>[(2,.fn (.func 219) [] [.ptr bx 0]),(7,.af bo 0 k 1),(12,.ae (.int .i64) al),(13,.int .i64 al.length),(14,.int .i64 s.1)]) (fun s=>(bx,[.ae (.int .i64) ow])::(bo,jX s.2)::(lG s.2++σ)) (fun s=>s.1≤al.length∧(∀r∈s.2,y7 r)∧kU s.2=mI k ow (al.take s.1)) (fun s=>al.length-s.1) (0,List.replicate k (.ai,[],[])) ⟨⟨bE _,fun r hr=>.inl (by rw[Cr hr];exact⟨rfl,rfl,rfl⟩),?_⟩,⟨rfl,rfl,rfl,rfl,rfl,trivial⟩,?_⟩ ?_
 ·refine zU fun i=>?_
  show (kU (List.replicate k (.ai,[],[])))[i]?=_
  unfold kU
  rw[fm,wM]
  rcases uz i k with hi | hi
  ·rw[ah hi,CT hi];rfl
  ·rw[ag (by omega),uF (by rw[yq];exact hi)];rfl
 ·show _=(bx,[AV.ae (.int .i64) ow])::(bo,jX (List.replicate k (.ai,[],[])))::(lG (List.replicate k (.ai,[],[]))++σ)
  rw[← abA,ZX];rfl
 rintro⟨j,rs⟩ g ⟨pY,ho0,hL0⟩
 have hj:j≤al.length:=pY
 have ho:∀r∈rs,y7 r:=ho0
 have hL:kU rs=mI k ow (al.take j):=hL0
 clear pY ho0 hL0
 have wh:rs.length=k:=by
  have:=congrArg List.length hL
  rw[yq]at this
  exact (cj _).symm.trans this
 refine ak (p:=(j:Int)<al.length) (fun ab=>?_) (fun aq=>?_)
 rotate_left
 ·have aq:¬(j:Int)<al.length:=aq
  rw[fe (by omega)]at hL
  subst wh
  exact .perm ((List.Perm.cons _ nX).trans (List.Perm.swap _ _ _)) (.done ⟨bo,rs,rfl,rfl,ho,hL⟩)
 have ab:j<al.length:=by omega
 obtain⟨z,hz⟩:∃z,al[j]=z:=⟨_,rfl⟩
 have gV:=hr z (hz▸bX ab)
 have hzi:al[((j:Nat):Int).toNat]?=some z:=by rw[bO,bj ab,hz]
 have fQ:al.take (j+1)=al.take j++[z]:=by rw[fw ab,hz]
 obtain⟨w,hw⟩:∃w:Nat,ow.getD z.toNat 0=(w:Int):=⟨(ow.getD z.toNat 0).toNat,by have:=jz z.toNat (by omega);omega⟩
 have sS:w<k:=by have:=jz z.toNat (by omega);omega
 have hzw:ow[z.toNat]?=some (w:Int):=by rw[← hw,aW,bj (by omega)];rfl
 obtain⟨A,r,B,rfl,hA⟩:∃A r B,rs=A++r::B∧w=A.length:=⟨rs.take w,rs[w]'(by omega),rs.drop (w+1),by simp,by rw[List.length_take];omega⟩
 obtain⟨c,acc,rl⟩:=r
 have hAw:((w:Nat):Int)=A.length:=by rw[hA]
 rw[La]
 have OO:=abv A (c,acc,rl) B hAw
 have kK:=fun r2=>ZV A (c,acc,rl) r2 B hAw
 have NG:(mI k ow (al.take j))[w]?=some rl:=by rw[← hL,hA];exact abu A (c,acc,rl) B
 have iC:=X0 hw NG
 rw[← fQ]at iC
 generalize hC:jX (A++(c,acc,rl)::B)=C at OO kK
 have mU:y7 (c,acc,rl):=ho _ (jE _ (bU ..))
 have hCl:C.length=k:=by rw[← hC,ZW];exact wh
 have hrb:rl.length≤100000:=by
  rw[CT sS]at NG
  rw[← Option.some.inj NG]
  exact eu (Cu _ _) (by rw[qb];omega)
 have ib:∀v' bQ,Acc 1 (rl.length+1) v' bQ (ao rl++[.int .i64 z])→j+1≤al.length∧(∀r∈A++(.via v',bQ,rl++[z])::B,y7 r)∧kU (A++(.via v',bQ,rl++[z])::B)=mI k ow (al.take (j+1)):=fun v' bQ h'=>by
  have sa:(rl++[z]:List Int).length=rl.length+1:=bV
  refine⟨ab,fun r hr=>?_,?_⟩
  ·rcases bR.1 hr with hr | hr
   ·exact ho r (gN _ hr)
   ·rcases dA.1 hr with rfl | hr
    ·refine .inr ⟨v',rfl,?_⟩
     show Acc 1 (rl++[z]:List Int).length v' bQ (ao (rl++[z]))
     rw[sa,show ao (rl++[z])=ao rl++[.int .i64 z] from dr]
     exact h'
    ·exact ho r (jE _ (cQ _ hr))
  ·rw[iC,← hL,hA];exact ZU A (c,acc,rl) (.via v',bQ,rl++[z]) B
 refine aG.mk rfl (bM.mk z (by omega) hzi ?_)
 refine az [] (VE bx ow z w _ gV.1 hzw) ?_
 refine az [] (VE bx ow z w _ gV.1 hzw) ?_
 refine aK ?_
 rcases mU with ⟨q1,q2,q3⟩ | ⟨v,q1,q2⟩
 ·have q1:c=.ai:=q1
  have q2:acc=[]:=q2
  have q3:rl=[]:=q3
  subst q1
  subst q2
  subst q3
  refine aZ 1 rfl (iV rfl OO) ?_
  intro aD
  refine l8 ((aD,[.int .i64 z])::(bx,[.ae (.int .i64) ow])::(bo,C)::lG A) (Acc.nil (e:=1)) (.af 0 aD 0 1 _ rfl (cR rfl)) rfl (by omega) (by decide) (by decide) (fun v' bQ h'=>?_)
  refine aK ?_
  refine da 2 rfl ((rC rfl rfl (by omega)).trans (congrArg some (kK (.via v',bQ,[]++[z])))) ?_
  exact bg (j+1,A++(.via v',bQ,[]++[z])::B) (by show al.length-(j+1)<al.length-j;omega) (ib v' bQ h') ⟨rfl,rfl,rfl,rfl,a8 (by omega),trivial⟩ (.drop 0 1 (aN (by rw[La];rfl)))
 ·have q1:c=.via v:=q1
  have q2:Acc 1 rl.length v acc (ao rl):=q2
  subst q1
  refine aZ 1 rfl (iV rfl OO) ?_
  intro aD
  refine l8 (k:=rl.length) (n:=1) ((aD,[.int .i64 z])::(bx,[.ae (.int .i64) ow])::(bo,C)::lG A) q2 (.af 0 aD 0 1 _ rfl (cR rfl)) rfl (by omega) (by decide) (by decide) (fun v' bQ h'=>?_)
  refine aK ?_
  refine da 2 rfl ((rC rfl rfl (by omega)).trans (congrArg some (kK (.via v',bQ,rl++[z])))) ?_
  exact bg (j+1,A++(.via v',bQ,rl++[z])::B) (by show al.length-(j+1)<al.length-j;omega) (ib v' bQ h') ⟨rfl,rfl,rfl,rfl,a8 (by omega),trivial⟩ (.drop 0 1 (aN (by rw[La];rfl)))
theorem RA{k:Nat}{x:Int}(hx:0≤x∧x<(k:Int)):∀(p o:List Int),(∀i:Nat,i<o.length→0≤o.getD i 0∧o.getD i 0<(k:Int))→∀i:Nat,i<o.length→0≤(sP x p o).getD i 0∧(sP x p o).getD i 0<(k:Int)
 | [],_,h=>h
 |a::p,o,h=>by
  have ih:=RA hx p (o.set a.toNat x) fun i hi=>by
   rw[cM]at hi
   rw[aW,e9]
   by_cases e:a.toNat=i
   ·subst e;rw[ah rfl,ah hi];exact hx
   ·rw[ag e,← aW];exact h i hi
  rw[cM]at ih
  exact ih
theorem Rz{n k:Nat}{Q:List (List Int)}(hk:1≤k)(aQ:∀p∈Q,p≠[])(gL:Q.flatten.length≤n):∀j,j≤Q.length→∀i:Nat,i<n→0≤(rX n k Q j).getD i 0∧(rX n k Q j).getD i 0<(k:Int)
 | 0,_,i,hi=>by
  show 0≤(List.replicate n (0:Int)).getD i 0∧(List.replicate n (0:Int)).getD i 0<(k:Int)
  rw[aW,wM,ah hi]
  show (0:Int)≤0∧(0:Int)<k
  omega
 |j+1,hj,i,hi=>by
  have ih:=Rz hk aQ gL j (by omega)
  have ab:j<Q.length:=hj
  have uk:=mB.2 (aQ _ (bX ab))
  have h1:=QC Q (j+1)
  rw[List.take_succ_eq_append_getElem ab,List.flatten_append,List.length_append,show [Q[j]].flatten=Q[j] by simp]at h1
  have ha:(Q.take j).flatten.length<n:=by omega
  have hx:k*(Q.take j).flatten.length / n<k:=by
   refine Nat.div_lt_of_lt_mul ?_
   rw[B8 n k]
   exact Nat.mul_lt_mul_of_pos_left ha (by omega)
  have hl:=Am n k Q j
  refine RA (k:=k) ⟨Pf _,Int.ofNat_lt.2 hx⟩ _ _ (fun i hi=>ih i (by omega)) i (by omega)
theorem YX{n k:Nat}{l:List bA}(hk:1≤k)(aQ:∀p∈kb n l,p≠[])(gL:(kb n l).flatten.length≤n):∀i:Nat,i<n→0≤(lK n k l).getD i 0∧(lK n k l).getD i 0<(k:Int):=Rz hk aQ gL _ (aR _)
def zi(n k:Nat)(l:List bA)(fr:List Int):List (List Int):=mI k (lK n k l) (oM n l fr).reverse
theorem agm(n:Nat)(l:List bA)(fr:List Int)(k:Nat)(σ:Hp)(hl:l.length≤100000)(hf:fr.length≤100000)(dU:ey n l=true)(nR:∀x∈fr,0≤x∧x<(n:Int))(h1:1≤k)(h2:k≤64):ACalls Tryz.prog 160 [.int .i64 n,.ae dC l,.ae (.int .i64) fr,.int .i64 k] σ (fun r σ'=>r=.tup [.ae (.slice (.int .i64)) (zi n k l fr),.int .i64 0]∧σ'=σ∧j8 n (oM n l fr)∧(∀i:Nat,i<n→0≤(lK n k l).getD i 0∧(lK n k l).getD i 0<(k:Int))∧j8 n (kb n l).flatten∧j8 n (qv n l fr)):=by
 have hn:1≤n∧n≤256:=by
  unfold ey at dU
  simp only[bL,decide_eq_true_eq]at dU
  omega
 refine au Tryz.func160 ?_
 refine az [] (Xa k _ h1 h2) ?_
 refine .mk [] _ (af7 n l fr _ hl hf dU nR) ?_
 rintro _ _ ⟨ba,rfl,rfl,hA,aQ,gL,E9⟩
 have jz:=YX (k:=k) h1 aQ (yc gL.len)
 refine az [] (af6 n l k _ hl dU h1 h2) ?_
 intro bx
 refine aj 0 ?_
 have hlen:=hA.len
 unfold zi
 have nQ:(lK n k l).length=n:=Am n k _ _
 generalize lK n k l=ow at jz nQ
 generalize oM n l fr=L at hA hlen
 refine az [1] (ad0 ba L _ _ rfl (by omega)) ?_
 refine .cX (args':=[.ae (.int .i64) L.reverse,.int .i64 k,.fn (.func 219) [] [.ptr bx 0]]) 0 ba 0 L.length 1 _ (.int .i64) L.reverse rfl (by rw[iP,fe (by rw[nj,tb,er];exact aR _)];exact xa _) ⟨tb,rfl,by decide⟩ (cg .here (.refl _)) ?_
 refine .mk [] _ (agw n k bx ow L.reverse _ h1 h2 (by rw[tb];omega) (fun x hx=>hA.rg x (yf.1 hx)) nQ jz) ?_
 rintro _ _ ⟨ls,rfl,rfl,rfl⟩
 exact .drop 0 1 (.done ⟨rfl,rfl,hA,jz,gL,E9⟩)
def ox(b:Nat)(a ws:List Int):Nat→List Int
 | 0=>ws
 |i+1=>(ox b a ws i).set (b+i) (wd a i)
theorem KD(b:Nat)(a ws:List Int)(k:Nat):(ox b a ws k).length=ws.length:=by
 induction k with
 |zero=>rfl
 |succ k ih=>rw[ox,cM,ih]
theorem Rw{b:Nat}{a ws:List Int}:∀(k:Nat),b+k≤1000000000→Bt (b:Int) a ws k=ox b a ws k
 | 0,_=>rfl
 |k+1,h=>by
  rw[Bt,ox,Rw k (by omega),show wr ((b:Int)+(k:Int))=((b+k:Nat):Int) from (gg (by omega) (by omega)).trans (uB b k).symm]
  exact lD _
def nr(N W:Nat)(st:Nat→List Int)(ws:List Int):Nat→List Int
 | 0=>ws
 |v+1=>(ox (v*W) (st v) (nr N W st ws v) W).set (N*W+v) 1
theorem Ad(N W:Nat)(st:Nat→List Int)(ws:List Int)(k:Nat):(nr N W st ws k).length=ws.length:=by
 induction k with
 |zero=>rfl
 |succ k ih=>rw[nr,cM,KD,ih]
def ki(b r:Nat)(x ws:List Int):Nat→List Int
 | 0=>ws
 |i+1=>(ki b r x ws i).set (b+2+(1+i) % r) (x.getD i 0)
theorem Q3(b r:Nat)(x ws:List Int)(k:Nat):(ki b r x ws k).length=ws.length:=by
 induction k with
 |zero=>rfl
 |succ k ih=>rw[ki,cM,ih]
theorem UC(b r:Nat)(x ws:List Int)(y:Int):∀k,ki b r x (ws.set (b+1) y) k=(ki b r x ws k).set (b+1) y
 | 0=>rfl
 |k+1=>by rw[ki,ki,UC b r x ws y k,List.set_comm _ _ (by omega)]
def nY(b r:Nat)(x ws:List Int):List Int:=ki b r x ((ws.set b 1).set (b+1) ((1+x.length:Nat):Int)) x.length
theorem Zi(b r:Nat)(x ws:List Int):(nY b r x ws).length=ws.length:=by rw[nY,Q3,cM,cM]
theorem acC(b r:Nat)(x ws:List Int):(ki b r x ((ws.set b 1).set (b+1) 1) x.length).set (b+1) ((1+x.length:Nat):Int)=nY b r x ws:=by
 rw[← UC,List.set_set];rfl
def lf(b0 d r:Nat)(ls:List (List Int))(ws:List Int):Nat→List Int
 | 0=>ws
 |w+1=>nY (b0+w*d) r (ls.getD w []) (lf b0 d r ls ws w)
theorem Qr(b0 d r:Nat)(ls:List (List Int))(ws:List Int)(k:Nat):(lf b0 d r ls ws k).length=ws.length:=by
 induction k with
 |zero=>rfl
 |succ k ih=>rw[lf,Zi,ih]
def zg(N W:Nat)(st:Nat→List Int)(ls:List (List Int))(ws:List Int):List Int:=
 lf (N*W+N+1) (N+3) (N+1) ls ((nr N W st ws N).set (N*W+N) (N:Int)) ls.length
theorem XM(N W:Nat)(st:Nat→List Int)(ls:List (List Int))(ws:List Int):(zg N W st ls ws).length=ws.length:=by rw[zg,Qr,cM,Ad]
theorem A4(x:List Int)(i a:Nat)(z:Int)(hi:i<x.length):(x.set i z).getD a 0=if a=i then z else x.getD a 0:=by
 rw[aW,aW,e9]
 by_cases h:a=i
 ·subst h;rw[ah rfl,ah hi,ah rfl];rfl
 ·rw[ag (fun e=>h e.symm),ag h]
theorem rp(x:List Int)(i a:Nat)(z:Int)(h:a≠i):(x.set i z).getD a 0=x.getD a 0:=by
 rw[aW,aW,e9,ag (fun e=>h e.symm)]
theorem Sw{b:Nat}{l ws:List Int}{a:Nat}:∀k,b+k≤a→(ox b l ws k).getD a 0=ws.getD a 0
 | 0,_=>rfl
 |k+1,h=>by rw[ox,rp _ _ _ _ (by omega)];exact Sw k (by omega)
set_option maxHeartbeats 4000000
def nw(s:Sy)(l:Lay):List (List Int):=zi (nN s) l.k.toNat s.aT s.entry
def zf(s:Sy)(l:Lay)(ws:List Int):List Int:=zg (nN s) (nW l) (fun v=>gh s v) (nw s l) ws
theorem aby{s:Sy}(hg:Good s):ey s.n s.aT=true:=by
 unfold ey
 have h1:=hg.n1
 have h2:=hg.n2
 have h3:=hg.el
 simp only[bL,decide_eq_true_eq,fI]
 exact⟨⟨⟨h1,h2⟩,h3⟩,fun e he=>⟨kO.2 (hg.zu e he).1,kO.2 (hg.zu e he).2⟩⟩
theorem Qe(s:Sy)(l:Lay):(nw s l).length=l.k.toNat:=yq _ _ _
theorem YB{f:FuncId}{xs:List AV}{σ j9 σ2:Hp}{x:AV}(h:ACalls Tryz.prog f xs σ (aB x j9))(e:j9=σ2):ACalls Tryz.prog f xs σ (aB x σ2):=e▸h
theorem aat{s:Sy}{l:Lay}(hs:LS s l){v:Nat}(hv:v<nN s)(us x:List Int):gZ (Bt (aX l v) x us (cw l.words)) (wr (cT l+(v:Nat))) 1=(ox (v*nW l) x us (nW l)).set (nN s*nW l+v) 1:=by
 have h1:=hs.nn
 have h2:=hs.ww
 have h3:=sy h1.2.2 h2.2
 have h4:(v+1)*nW l≤nN s*nW l:=kg _ hv
 rw[qa]at h4
 rw[hs.Wo hv,hs.Bi hv,Rw _ (by show _+nW l≤_;omega)]
 exact lD _
theorem Zg{s:Sy}{l:Lay}(hs:LS s l)(us:List Int):gZ us (cE l) (wu s.n)=us.set (nN s*nW l+nN s) (nN s:Int):=by
 have h1:=hs.nn
 rw[hs.count,lD,show wu s.n=(nN s:Int) by show IntKind.u64.wrap s.n=_;rw[IntKind.wrap_u64];omega]
theorem Ze{a:Nat}(ha:a≤1000000)(us:List Int):gZ (gZ us (a:Int) 1) (eZ (a:Int)) 1=(us.set a 1).set (a+1) 1:=by
 rw[lD,show eZ (a:Int)=((a+1:Nat):Int) from (gg (by omega) (by omega)).trans (uB a 1).symm,lD]
theorem Zf{s:Sy}{l:Lay}(hs:LS s l){a i:Nat}(ha:a≤1000000)(hi:i≤1000000):wr (wr ((a:Int)+2)+(wr (1+(i:Int))).tmod (eA l))=((a+2+(1+i) % (nN s+1):Nat):Int):=by
 have h1:=hs.nn
 have hm:=nT (1+i) (show 0<nN s+1 by omega)
 rw[gg (z:=(a:Int)+2) (by omega) (by omega),gg (z:=1+(i:Int)) (by omega) (by omega),hs.room.1,show (1+(i:Int)).tmod ((nN s+1:Nat):Int)=(((1+i) % (nN s+1):Nat):Int) by rw[show (1+(i:Int))=((1+i:Nat):Int) by omega];rfl]
 rw[gg (by omega) (by omega)]
 omega
theorem aas{a r:Nat}(ha:a≤1000000)(x us:List Int)(hx:x.length≤1000000):gZ (ki a r x ((us.set a 1).set (a+1) 1) x.length) (wr ((a:Int)+1)) (wu (wr (1+(x.length:Int))))=nY a r x us:=by
 rw[gg (z:=(a:Int)+1) (by omega) (by omega),gg (z:=1+(x.length:Int)) (by omega) (by omega),show wu (1+(x.length:Int))=((1+x.length:Nat):Int) by show IntKind.u64.wrap _=_;rw[IntKind.wrap_u64];omega,show (a:Int)+1=((a+1:Nat):Int) by omega,lD]
 exact acC _ _ _ _
theorem aar{us:List Int}{b:Nat}{z:Int}(hz:0≤z)(gm:z≤1000000):gZ us (b:Int) (wu z)=us.set b z:=by
 rw[lD,show wu z=z by show IntKind.u64.wrap _=_;rw[IntKind.wrap_u64];omega]
structure kq(s:Sy)(l:Lay):Prop where
 all:j8 (nN s) (oM (nN s) s.aT s.entry)
 own:∀i:Nat,i<nN s→0≤(lK (nN s) l.k.toNat s.aT).getD i 0∧(lK (nN s) l.k.toNat s.aT).getD i 0<(l.k.toNat:Int)
 flat:j8 (nN s) (kb (nN s) s.aT).flatten
 post:j8 (nN s) (qv (nN s) s.aT s.entry)
theorem kq.rows{s:Sy}{l:Lay}(h:kq s l)(hn:nN s≤256):∀x∈nw s l,x.length≤256∧∀z∈x,0≤z∧z<(nN s:Int):=by
 intro x hx
 unfold nw zi mI at hx
 obtain⟨u,_,rfl⟩:=dL.1 hx
 have hlen:=Cu (fun y=>decide ((lK (nN s) l.k.toNat s.aT).getD y.toNat 0=(u:Int))) (oM (nN s) s.aT s.entry).reverse
 rw[tb]at hlen
 have:=h.all.len
 exact⟨by omega,fun z hz=>h.all.rg z (yf.1 (lZ.1 hz).1)⟩
theorem aeZ(s:Sy)(l:Lay)(k:Nat)(σ:Hp)(hf:Fit s)(hg:Good s)(hk:l.k=k)(h1:1≤k)(h2:k≤64):ACalls Tryz.prog 160 [.int .i64 s.n,.ae dC s.aT,.ae (.int .i64) s.entry,.int .i64 k] σ (fun r σ'=>r=.tup [.ae (.slice (.int .i64)) (nw s l),.int .i64 0]∧σ'=σ∧kq s l):=by
 have hn:s.n=(nN s:Int):=by have:=hg.n1;unfold nN;omega
 have hr:=aby hg
 have he:=hg.ent
 have ec:k=l.k.toNat:=by omega
 subst ec
 unfold nw
 rw[hn]at hr he ⊢
 refine (agm (nN s) s.aT s.entry l.k.toNat σ hf.xL hf.Bv hr he h1 h2).mono ?_
 rintro _ _ ⟨rfl,rfl,hA,jz,gL,E9⟩
 exact⟨rfl,rfl,hA,jz,gL,E9⟩
theorem afg(s:Sy)(k:Nat)(p q:Nat)(ws:List Int)(σ:Hp)(hf:Fit s)(he:cP s k=0)(eC:nG (ir s k)≤ws.length):ACalls Tryz.prog 97 [kB p,.agg (aV s),.int .i64 k] (bG p q ws σ) (fun r σ'=>r=.int .i64 0∧σ'=bG p q (zf s (ir s k) ws) σ∧kq s (ir s k)):=by
 obtain⟨hs,JE⟩:=DX hf he
 obtain⟨xR,gm,mw⟩:=hs.size
 obtain⟨hc,lV,ec⟩:=LH he
 have hg:=xl hc
 have hn:=hs.nn
 have hw:=hs.ww
 have fC:=hs.low
 have hN:=hs.n
 refine au Tryz.func97 ?_
 obtain⟨l,hl⟩:∃l,ir s k=l:=⟨_,rfl⟩
 have e1:AV.tup [.agg (gR (ir s k)),.int .i64 (cP s k)]=.tup [.agg (gR l),.int .i64 (cP s k)]:=by rw[hl]
 rw[hl]at hs JE xR gm mw hw fC hN eC ⊢
 generalize hE:cP s k=E at e1 he
 intro b4
 refine aa 0 ?_
 refine az [] (qg (HW s k _ hf) (hE▸e1)) ?_
 intro b7
 refine aj 0 ?_
 refine cI (fun c3=>?_) (fun c3=>?_)
 ·have c3:¬(cP s (↑k:Int)=0):=by simpa using c3
  exact absurd (hE.trans he) c3
 refine az [] (dF _ _ _) ?_
 refine .sched [1,3] (upto [1,3] 5 0) (by kernel_rfl) ?_
 refine⟨_,mLen_,?_⟩
 refine aH [3,3] (Xb p q ws _) ?_
 refine aa 0 ?_
 refine aH [] (VK _ _) ?_
 refine ak (p:=(ws.length:Int)<eR l l.k) (fun c4=>?_) (fun c4=>?_)
 ·omega
 refine aa 1 ?_
 refine cc (S:=Nat) (fun v=>[(0,kB p),(2,.int .i64 k),(4,.ptr b4 0),(7,.ptr b7 0),(36,.int .i64 s.n),(37,.int .i64 v)]) (fun v=>(b7,gR l)::(b4,aV s)::bG p q (nr (nN s) (nW l) (fun v=>gh s v) ws v) σ) (fun v=>v≤nN s) (fun v=>nN s-v) 0 ⟨bE _,⟨rfl,rfl,rfl,rfl,rfl,rfl,trivial⟩,rfl⟩ ?_
 intro v g r8
 have hv:v≤nN s:=r8
 clear r8
 have v7:=Ad (nN s) (nW l) (fun v=>gh s v) ws v
 refine ak (p:=(v:Int)<s.n) (fun ab=>?_) (fun aq=>?_)
 ·have ab:v<nN s:=by omega
  have qx:iX s v=0:=(GC hc ⟨by omega,by omega⟩).symm
  refine aa 1 ?_
  refine az [] (aaW s v _ hf) ?_
  rw[uS qx]
  refine aa 0 ?_
  refine az [] (HX l v _) ?_
  refine az [3,3] (aix p q _ _ _ _ _ _) ?_
  refine .sched [2] (upto [2] 10 0) (by kernel_rfl) ?_
  refine aa 2 ?_
  refine aH [] (AT l _) ?_
  refine ff.mk hStore_ ?_
  refine⟨_,mStore_,?_⟩
  refine az [] (aStore p q _ _ _ _) ?_
  exact bg (v+1) (by show nN s-(v+1)<nN s-v;omega) ab ⟨rfl,rfl,rfl,rfl,rfl,a8 (by omega),trivial⟩ (.pull [3,3] (aN (congrArg (fun z=>_::_::bG p q z σ) (aat hs ab _ _))))
 have aq:v=nN s:=by omega
 subst aq
 obtain⟨us,ga⟩:∃us,nr (nN s) (nW l) (fun v=>gh s v) ws (nN s)=us:=⟨_,rfl⟩
 rw[ga]at v7 ⊢
 refine .sched [2] (upto [2] 11 0) (by kernel_rfl) ?_
 refine aa 0 ?_
 refine aH [] (AT l _) ?_
 refine aa 1 ?_
 refine ff.mk hStore_ ?_
 refine⟨_,mStore_,?_⟩
 refine az [3,3] (aStore p q _ _ _ _) ?_
 refine aa 3 ?_
 refine aa 3 ?_
 refine aa 3 ?_
 refine .mk [] _ (aeZ s l k _ hf hg JE (by omega) (by omega)) ?_
 rintro _ τ ⟨rfl,Oh,cd⟩
 subst τ
 have hx:=cd.rows hn.2.2
 have cY:=Qe s l
 have xI:zf s l ws=lf (nN s*nW l+nN s+1) (nN s+3) (nN s+1) (nw s l) ((nr (nN s) (nW l) (fun v=>gh s v) ws (nN s)).set (nN s*nW l+nN s) (nN s:Int)) (nw s l).length:=rfl
 rw[ga]at xI
 generalize nw s l=ls at hx cY xI
 refine cc (S:=Nat) (fun w=>[(0,kB p),(7,.ptr b7 0),(85,.ae (.slice (.int .i64)) ls),(86,.int .i64 ls.length),(87,.int .i64 w)]) (fun w=>bG p q (lf (nN s*nW l+nN s+1) (nN s+3) (nN s+1) ls (us.set (nN s*nW l+nN s) (nN s:Int)) w) ((b7,gR l)::(b4,aV s)::σ)) (fun w=>w≤ls.length) (fun w=>ls.length-w) 0 ⟨bE _,⟨rfl,rfl,rfl,rfl,rfl,trivial⟩,congrArg (fun z=>bG p q z _) (Zg hs us)⟩ ?_
 intro w g2 hw0
 have ID:w≤ls.length:=hw0
 clear hw0
 refine ak (p:=(w:Int)<(ls.length:Int)) (fun ab=>?_) (fun aq=>?_)
 rotate_left
 ·have aq:w=ls.length:=by omega
  subst aq
  rw[xI]
  exact .drop 2 2 (.done ⟨rfl,rfl,cd⟩)
 have ab:w<ls.length:=by omega
 obtain⟨x,ie⟩:∃x:List Int,ls[w]=x:=⟨_,rfl⟩
 obtain⟨On,hxz⟩:=hx _ (bX ab)
 rw[ie]at On hxz
 have hxd:ls.getD w []=x:=by rw[aW,bj ab,ie];rfl
 have Fk:=hs.vv (k:=w) (by omega)
 have dc:lf (nN s*nW l+nN s+1) (nN s+3) (nN s+1) ls (us.set (nN s*nW l+nN s) (nN s:Int)) (w+1)=nY (nN s*nW l+nN s+1+w*(nN s+3)) (nN s+1) x (lf (nN s*nW l+nN s+1) (nN s+3) (nN s+1) ls (us.set (nN s*nW l+nN s) (nN s:Int)) w):=by rw[lf,hxd]
 have ur:nN s*nW l+nN s+1+w*(nN s+3)≤1000000:=by
  have h3:=sy hn.2.2 hw.2
  have h4:w*(nN s+3)≤64*259:=uA (by omega) (by omega)
  omega
 refine aG.mk rfl (bM.mk x (by omega) ((get_some ab).trans (congrArg some ie)) ?_)
 refine aa 2 ?_
 refine az [] (qg (yR l w _) (congrArg (fun z=>AV.agg [.int .i64 z,.int .i64 (eA l)]) Fk)) ?_
 generalize nN s*nW l+nN s+1+w*(nN s+3)=a at Fk dc ur
 generalize lf (nN s*nW l+nN s+1) (nN s+3) (nN s+1) ls (us.set (nN s*nW l+nN s) (nN s:Int)) w=vs at dc
 intro b16
 refine aj 0 ?_
 refine aa 0 ?_
 refine az [2,2] (YB (af3 p q vs a (eA l) _) (congrArg (fun z=>bG p q z _) (Ze ur vs))) ?_
 refine cc (S:=Nat) (fun i=>[(0,kB p),(7,.ptr b7 0),(15,.ae (.int .i64) x),(16,.ptr b16 0),(85,.ae (.slice (.int .i64)) ls),(86,.int .i64 ls.length),(87,.int .i64 w),(98,.ae (.int .i64) x),(99,.int .i64 x.length),(100,.int .i64 i)]) (fun i=>bG p q (ki a (nN s+1) x ((vs.set a 1).set (a+1) 1) i) ((b16,[.int .i64 a,.int .i64 (eA l)])::(b7,gR l)::(b4,aV s)::σ)) (fun i=>i≤x.length) (fun i=>x.length-i) 0 ⟨bE _,⟨rfl,rfl,rfl,rfl,rfl,rfl,rfl,rfl,rfl,rfl,trivial⟩,rfl⟩ ?_
 intro i g3 eD
 have hi:i≤x.length:=eD
 clear eD
 refine ak (p:=(i:Int)<(x.length:Int)) (fun eL=>?_) (fun pQ=>?_)
 ·have eL:i<x.length:=by omega
  obtain⟨z,hz⟩:∃z,x[i]=z:=⟨_,rfl⟩
  have ic:=hxz z (hz▸bX eL)
  have hzd:x.getD i 0=z:=by rw[aW,bj eL,hz];rfl
  have WT:ki a (nN s+1) x ((vs.set a 1).set (a+1) 1) (i+1)=(ki a (nN s+1) x ((vs.set a 1).set (a+1) 1) i).set (a+2+(1+i) % (nN s+1)) z:=by rw[ki,hzd]
  have sW:=Zf hs (i:=i) ur (by omega)
  generalize ki a (nN s+1) x ((vs.set a 1).set (a+1) 1) i=ys at WT
  have an:gZ ys (wr (wr ((a:Int)+2)+(wr (1+(i:Int))).tmod (eA l))) (wu z)=ki a (nN s+1) x ((vs.set a 1).set (a+1) 1) (i+1):=by
   rw[sW,aar (by omega) (by omega),WT]
  refine aG.mk rfl (bM.mk z (by omega) ((get_some eL).trans (congrArg some hz)) ?_)
  refine .sched [7] (upto [7] 16 0) (by kernel_rfl) ?_
  refine aa 2 ?_
  refine aa 3 ?_
  refine aH [] (MY l _) ?_
  refine aG.mk (by rw[hs.room.1];omega) ?_
  refine ff.mk hStore_ ?_
  refine⟨_,mStore_,?_⟩
  refine az [] (aStore p q _ _ _ _) ?_
  exact bg (i+1) (by show x.length-(i+1)<x.length-i;omega) eL ⟨rfl,rfl,rfl,rfl,rfl,rfl,rfl,rfl,rfl,a8 (by omega),trivial⟩ (aN (congrArg (fun z=>bG p q z _) an))
 have pQ:i=x.length:=by omega
 subst pQ
 refine aa 2 ?_
 refine⟨_,mStore_,?_⟩
 refine az [] (aStore p q _ _ _ _) ?_
 exact bg (w+1) (by show ls.length-(w+1)<ls.length-w;omega) ab ⟨rfl,rfl,rfl,rfl,a8 (by omega),trivial⟩ (.drop 2 1 (aN (congrArg (fun z=>bG p q z _) ((aas ur x vs (by omega)).trans dc.symm))))
set_option maxHeartbeats 4000000
def fB(p:Int)(n:Nat):Nat:=if n<1 then 0 else (p % (n:Int)).toNat
theorem AF{p:Int}{n:Nat}(h:0<n):fB p n<n:=by
 unfold fB
 rw[ag (by omega)]
 have h1:=JP p (show (n:Int)≠0 by omega)
 have h2:=J0 p (show (0:Int)<n by omega)
 omega
theorem adq{p:Int}{n:Nat}(h0:0<n)(hn:n≤1000000)(h:p.tmod n<0):IntKind.i64.wrap (p.tmod n+n)=((fB p n:Nat):Int):=by
 have h1:=JP p (show (n:Int)≠0 by omega)
 have h2:=J0 p (show (0:Int)<n by omega)
 have e:= @Int.tmod_eq_emod p n
 unfold fB
 rw[ag (by omega),IntKind.wrap_i64]
 split at e <;> omega
theorem adp{p:Int}{n:Nat}(h0:0<n)(h:¬p.tmod n<0):p.tmod n=((fB p n:Nat):Int):=by
 have h1:=JP p (show (n:Int)≠0 by omega)
 have h2:=J0 p (show (0:Int)<n by omega)
 have e:= @Int.tmod_eq_emod p n
 unfold fB
 rw[ag (by omega)]
 split at e <;> omega
theorem ab6{p:Int}{n:Nat}(h:(n:Int)<1):(0:Int)=((fB p n:Nat):Int):=by
 unfold fB
 rw[ah (by omega)];rfl
theorem Ij(p d:Int)(n:Nat)(σ:Hp)(hn:n≤1000000):ACalls Tryz.prog 70 [.agg [.int .i64 p,.int .i64 d],.int .i64 n] σ (aB (.int .i64 (fB p n)) σ):=by
 refine au Tryz.func70 ?_
 intro aD
 refine ak (fun c2=>?_) (fun c2=>?_)
 ·have c2:(↑n:Int)<1:=c2
  exact .drop 0 1 (.done ⟨aJ (ab6 (by assumption)),rfl⟩)
 ·have c2:¬((↑n:Int)<1):=c2
  refine aa 0 ?_
  refine fV ?_
  refine ak (fun c3=>?_) (fun c3=>?_)
  ·have c3:p.tmod (↑n:Int)<0:=c3
   exact .drop 0 1 (.done ⟨aJ (adq (by omega) hn (by assumption)),rfl⟩)
  ·have c3:¬(p.tmod (↑n:Int)<0):=c3
   exact .drop 0 1 (.done ⟨aJ (adp (by omega) (by assumption)),rfl⟩)
def jH(l:List Bool):List AV:=l.map AV.bool
theorem tG{dn:List Bool}{k:Nat}(h:k<dn.length){b:Bool}(hb:dn[k]=b):(jH dn)[0+((k:Int)).toNat*1]?=some (.bool b):=by
 simp[jH,h,hb]
theorem agb{dn:List Bool}{k:Nat}(h:k<dn.length)(hd:dn[k]=false):dn.all id=false:=by
 cases ha:dn.all id with
 |false=>rfl
 |true=>
  have:=fI.1 ha _ (bX h)
  rw[hd]at this
  cases this
theorem Io(sv:AV)(u:Int)(b:Nat)(dn:List Bool)(σ:Hp)(hn:dn.length≤1000000):ACalls Tryz.prog 42 [.agg [sv,.af b 0 dn.length 1,.int .i64 u]] ((b,jH dn)::σ) (aB (.bool (dn.all id)) ((b,jH dn)::σ)):=by
 refine au Tryz.func42 ?_
 intro aD
 refine aa 0 ?_
 refine cc (S:=Nat) (fun s=>[(6,.af b 0 dn.length 1),(7,.int .i64 dn.length),(8,.int .i64 s)]) (fun _=>(aD,[sv,.af b 0 dn.length 1,.int .i64 u])::(b,jH dn)::σ) (fun s=>s≤dn.length∧(dn.take s).all id=true) (fun s=>dn.length-s) 0 ⟨⟨bE _,rfl⟩,⟨rfl,rfl,rfl,trivial⟩,rfl⟩ ?_
 rintro k g ⟨hk,cD⟩
 refine ak (fun h=>?_) (fun h=>?_)
 ·have h:(k:Int)<dn.length:=h
  have sX:k<dn.length:=by omega
  refine aK ?_
  cases hd:dn[k] with
  |true=>
   refine aZ 1 rfl (tG sX hd) ?_
   refine bg (k+1) ?_ ⟨sX,?_⟩ ⟨rfl,rfl,a8 (by omega),trivial⟩ (aN rfl)
   ·show dn.length-(k+1)<dn.length-k;omega
   ·rw[fw sX,Ci,cD,hd];rfl
  |false=>
   refine aZ 1 rfl (tG sX hd) ?_
   exact .drop 0 1 (.done ⟨congrArg AV.bool (agb sX hd).symm,rfl⟩)
 ·have h:¬(k:Int)<dn.length:=h
  exact .drop 0 1 (.done ⟨congrArg AV.bool (by rw[← fe (show dn.length≤k by omega)];exact cD.symm),rfl⟩)
def kA(l:List Int):List AV:=l.map (AV.int .i64)
def isNil:AV→Bool
 |.nilif=>true
 |_=>false
theorem adO(n:Nat):cJ [.bool false] n=jH (List.replicate n false):=by
 unfold jH
 induction n with
 |zero=>rfl
 |succ n ih=>simp[cJ,ih,List.replicate_succ]
theorem adN(n:Nat):cJ [.int .i64 0] n=kA (List.replicate n 0):=by
 unfold kA
 induction n with
 |zero=>rfl
 |succ n ih=>simp[cJ,ih,List.replicate_succ]
def te(L:List AV)(k:Nat):List Bool:=(L.take k).map isNil++List.replicate (L.length-k) false
theorem acE(L:List AV):te L 0=List.replicate L.length false:=by simp[te]
theorem KT(L:List AV)(k:Nat)(h:k≤L.length):(te L k).length=L.length:=by simp[te];omega
theorem UG(L:List AV):te L L.length=L.map isNil:=by simp[te]
theorem UF(L:List AV)(k:Nat)(h:k<L.length):(te L k).set k (isNil L[k])=te L (k+1):=by
 unfold te
 rw[show L.length-k=(L.length-(k+1))+1 by omega,Kl,fw h,dr]
 have hl:((L.take k).map isNil).length=k:=by simp;omega
 rw[Kk _ _ (by omega),hl,qY]
 simp
theorem Bd{L:List AV}{k:Nat}(h:k<L.length){x:AV}(hx:L[k]=x):L[0+((k:Int)).toNat*1]?=some x:=by
 rw[show 0+((k:Int)).toNat*1=k by omega,bj h,hx]
theorem tF{dn:List Bool}{k:Nat}(b:Bool)(h:k<dn.length):kP ⟨.bool,1,1,[.bool false]⟩ (jH dn) (0+((k:Int)).toNat*1) (.bool b)=some (jH (dn.set k b)):=by
 have e:0+((k:Int)).toNat*1=k:=by omega
 have h2:Nat.ble (k+1) (jH dn).length=true:=Nat.ble_eq_true_of_le (by simp[jH];omega)
 rw[e]
 show (match Nat.beq 1 1,Nat.ble (k+1) (jH dn).length with | true,true=>some (fL (jH dn) k [.bool b]) | _,_=>none)=_
 rw[h2]
 show some ((jH dn).set k (.bool b))=_
 rw[show (jH dn).set k (.bool b)=jH (dn.set k b) by simp[jH,List.map_set]]
theorem xe{l:List Int}{k:Nat}(h:k<l.length):(kA l)[0+((k:Int)).toNat*1]?=some (.int .i64 (l.getD k 0)):=by
 simp[kA,h,List.getD]
theorem xd{l:List Int}{k:Nat}(x:Int)(h:k<l.length):kP ⟨.int .i64,1,8,[.int .i64 0]⟩ (kA l) (0+((k:Int)).toNat*1) (.int .i64 x)=some (kA (l.set k x)):=by
 have e:0+((k:Int)).toNat*1=k:=by omega
 have h2:Nat.ble (k+1) (kA l).length=true:=Nat.ble_eq_true_of_le (by simp[kA];omega)
 rw[e]
 show (match Nat.beq 1 1,Nat.ble (k+1) (kA l).length with | true,true=>some (fL (kA l) k [.int .i64 x]) | _,_=>none)=_
 rw[h2]
 show some ((kA l).set k (.int .i64 x))=_
 rw[show (kA l).set k (.int .i64 x)=kA (l.set k x) by simp[kA,List.map_set]]
structure gw(A:Type) where
 a:A
 st:List Int
 dn:List Bool
 us:Nat
def iG{A:Type}(step:A→Nat→Int→A×Bool)(tell:A→Nat→A)(n:Nat)(x:gw A)(p:Int×Int×Unit):gw A:=
 if x.dn.getD (fB p.1 n) true then ⟨tell x.a (x.us+1),x.st,x.dn,x.us+1⟩
 else ⟨tell (step x.a (fB p.1 n) p.2.1).1 (x.us+1),x.st.set (fB p.1 n) (wr (x.st.getD (fB p.1 n) 0+1)),x.dn.set (fB p.1 n) (step x.a (fB p.1 n) p.2.1).2,x.us+1⟩
def jC{A:Type}(step:A→Nat→Int→A×Bool)(tell:A→Nat→A)(n:Nat):List (Int×Int×Unit)→gw A→gw A
 | [],x=>x
 |p::ps,x=>if x.dn.all id then x else jC step tell n ps (iG step tell n x p)
structure AWorld where
 A:Type
 S:Type
 abs:S→A
 B:S→Hp
 L:List AV
 mt:TypeId
 mp:Nat
 step:A→Nat→Int→A×Bool
 tell:A→Nat→A
 free:A→Prop
 keeps:∀a i d,free a→i<L.length→free (step a i d).1
 told:∀a k,free a→free (tell a k)
 mach : ∀ i (h : i < L.length), L[i] = .nilif ∨ ∃ t r, L[i] = .iface t (.ptr r 0) ∧ ∃ g, Meth Tryz.prog t "Step" g ∧
  ∀(s:S) (d:Int) (σ:Hp),free (abs s)→ACalls Tryz.prog g [.ptr r 0,.iface mt (.ptr mp 0),.int .i64 d] (B s++σ) (fun x σ'=>∃s',abs s'=(step (abs s) i d).1∧x=.bool (step (abs s) i d).2∧σ'=B s'++σ)
abbrev AWorld.mv(W:AWorld):AV:=.iface W.mt (.ptr W.mp 0)
def AWorld.init(W:AWorld)(a:W.A):gw W.A:=⟨a,List.replicate W.L.length 0,W.L.map isNil,0⟩
theorem AWorld.aStep (W : AWorld) (fr : Hp) {s : W.S} {σ : Hp} {K : AV → Hp → Prop} {i r : Nat} {t : TypeId} {g : FuncId} {d : Int} (hMe : Meth Tryz.prog t "Step" g)
  (gP:∀(s:W.S) (d:Int) (σ:Hp),W.free (W.abs s)→ACalls Tryz.prog g [.ptr r 0,.iface W.mt (.ptr W.mp 0),.int .i64 d] (W.B s++σ) (fun x σ'=>∃s',W.abs s'=(W.step (W.abs s) i d).1∧x=.bool (W.step (W.abs s) i d).2∧σ'=W.B s'++σ))
  (hf : W.free (W.abs s)) (k : ∀ s', W.abs s' = (W.step (W.abs s) i d).1 → K (.bool (W.step (W.abs s) i d).2) (fr ++ (W.B s' ++ σ))) : InvAt Tryz.prog t "Step" fun g => CallAt Tryz.prog g K [.ptr r 0, W.mv, .int .i64 d] (fr ++ (W.B s ++ σ)) := by
 refine⟨g,hMe,.perm _ (tw fr (W.B s) σ) (gP s d (fr++σ) hf) ?_⟩
 rintro r σ' ⟨s',h3,rfl,rfl⟩
 exact⟨_,(tw fr (W.B s') σ).symm,k s' h3⟩
def AWorld.run(W:AWorld)(aw:List (Int×Int×Unit))(a:W.A):gw W.A:=jC W.step W.tell W.L.length aw (W.init a)
def L3(W:AWorld)(aw:List (Int×Int×Unit))(a:W.A)(fr σ:Hp):AV→Hp→Prop:=fun x σ'=>∃s',W.abs s'=(W.run aw a).a∧x=.agg [.ae (.int .i64) (W.run aw a).st,.ae .bool (W.run aw a).dn,.int .i64 (W.run aw a).us]∧σ'=fr++(W.B s'++σ)
theorem nt{b off len es:Nat}{e:Sh}{l:List e.T}{x1 x2 x3 y1 y2 y3:AV}(h1:eI b off len es e l x1 y1)(h2:eI b off len es e l x2 y2)(h3:eI b off len es e l x3 y3)(l1:y1.leaf=true)(l2:y2.leaf=true)(l3:y3.leaf=true):eI b off len es e l (.agg [x1,x2,x3]) (.agg [y1,y2,y3]):=by
 refine .agg _ _ rfl (fun i y hy=>?_) (fun i x y hx hy=>?_)
 ·match i,hy with
  | 0,hy=>cases hy;exact l1
  | 1,hy=>cases hy;exact l2
  | 2,hy=>cases hy;exact l3
  |i+3,hy=>cases hy
 ·match i,hx,hy with
  | 0,hx,hy=>cases hx;cases hy;exact h1
  | 1,hx,hy=>cases hx;cases hy;exact h2
  | 2,hx,hy=>cases hx;cases hy;exact h3
  |i+3,hx,hy=>cases hx
theorem Ss:∀(ws:List Int),kA ws=ws.flatMap (Sh.cells (.int .i64))
 | []=>rfl
 |z::ws=>congrArg (AV.int .i64 z :: ·) (Ss ws)
theorem Tt:∀(ws:List Bool),jH ws=ws.flatMap (Sh.cells .bool)
 | []=>rfl
 |z::ws=>congrArg (AV.bool z :: ·) (Tt ws)
theorem xf{l:List Int}{n:Nat}(h:l.length=n):((kA l).drop 0).take (n*1)=l.flatMap (Sh.cells (.int .i64)):=by
 rw[iP,← Ss]
 exact List.take_of_length_le (by simp[kA,h])
theorem xm{l:List Bool}{n:Nat}(h:l.length=n):((jH l).drop 0).take (n*1)=l.flatMap (Sh.cells .bool):=by
 rw[iP,← Tt]
 exact List.take_of_length_le (by simp[jH,h])
def vN(W:AWorld)(aw:List (Int×Int×Unit))(a0:W.A)(x:W.S×List Int×List Bool×Nat):Prop:=
 x.2.2.2≤aw.length∧x.2.1.length=W.L.length∧x.2.2.1.length=W.L.length∧(∀i (h:i<W.L.length),W.L[i]=.nilif→x.2.2.1[i]?=some true)∧W.free (W.abs x.1)∧jC W.step W.tell W.L.length (aw.drop x.2.2.2) ⟨W.abs x.1,x.2.1,x.2.2.1,x.2.2.2⟩=W.run aw a0
theorem aer{A:Type}{step:A→Nat→Int→A×Bool}{tell:A→Nat→A}{n:Nat}(l:List (Int×Int×Unit)){x:gw A}(h:x.dn.all id=true):jC step tell n l x=x:=by
 cases l with
 |nil=>rfl
 |cons p ps=>rw[jC,ah h]
theorem Tf{A:Type}{step:A→Nat→Int→A×Bool}{tell:A→Nat→A}{n:Nat}(p:Int×Int×Unit)(ps:List (Int×Int×Unit)){x:gw A}(h:x.dn.all id=false):jC step tell n (p::ps) x=jC step tell n ps (iG step tell n x p):=by
 rw[jC,ag (by rw[h];decide)]
theorem xk{W:AWorld}{aw:List (Int×Int×Unit)}{a0:W.A}{s:W.S}{st:List Int}{dn:List Bool}{us:Nat}(h:vN W aw a0 (s,st,dn,us))(he:us=aw.length∨dn.all id=true):W.run aw a0=⟨W.abs s,st,dn,us⟩:=by
 obtain⟨_,_,_,_,_,hg⟩:=h
 rw[← hg]
 rcases he with he | he
 ·show jC _ _ _ (aw.drop us) _=_
  rw[he,List.drop_length];rfl
 ·exact aer _ he
theorem Uu{dn:List Bool}{i:Nat}{b d:Bool}(h:i<dn.length)(hd:dn[i]=b):dn.getD i d=b:=by
 rw[aW,bj h,hd];rfl
theorem GZ{W:AWorld}{aw:List (Int×Int×Unit)}{a0:W.A}{s:W.S}{st:List Int}{dn:List Bool}{us i:Nat}{pw pd:Int}{pu:Unit}(h:vN W aw a0 (s,st,dn,us))(mg:∀a k,W.tell a k=a)(cD:dn.all id=false)(fP:us<aw.length)(eW:(pw,pd,pu)=aw[us])(hi:i=fB pw W.L.length)(ee:i<dn.length)(hd:dn[i]=true):vN W aw a0 (s,st,dn,us+1):=by
 obtain⟨h1,h2,h3,h4,h5,hg⟩:=h
 refine⟨fP,h2,h3,h4,h5,?_⟩
 rw[← hg]
 show jC _ _ _ (aw.drop (us+1)) _=jC _ _ _ (aw.drop us) _
 rw[Kc fP,← eW,Tf _ _ cD]
 unfold iG
 dsimp only
 rw[← hi,ah (Uu ee hd),mg]
theorem w9{W:AWorld}{aw:List (Int×Int×Unit)}{a0:W.A}{s s':W.S}{st:List Int}{dn:List Bool}{us i:Nat}{pw pd:Int}{pu:Unit}(h:vN W aw a0 (s,st,dn,us))(mg:∀a k,W.tell a k=a)(cD:dn.all id=false)(fP:us<aw.length)(eW:(pw,pd,pu)=aw[us])(hi:i=fB pw W.L.length)(ee:i<W.L.length){W4:i<dn.length}(hd:dn[i]=false)(dP:W.abs s'=(W.step (W.abs s) i pd).1):
  vN W aw a0 (s',st.set i (wr (st.getD i 0+1)),dn.set i (W.step (W.abs s) i pd).2,us+1):=by
 obtain⟨h1,h2,h3,h4,h5,hg⟩:=h
 refine⟨fP,(cM ..).trans h2,(cM ..).trans h3,?_,?_,?_⟩
 ·intro k hk hm
  have:=h4 k hk hm
  show (dn.set i _)[k]?=some true
  rw[e9]
  split
  ·rename_i he
   subst he
   rw[bj W4,hd]at this
   cases this
  ·exact this
 ·show W.free (W.abs s')
  rw[dP];exact W.keeps _ _ _ h5 ee
 ·rw[← hg]
  show jC _ _ _ (aw.drop (us+1)) _=jC _ _ _ (aw.drop us) _
  rw[Kc fP,← eW,Tf _ _ cD]
  unfold iG
  dsimp only
  rw[← hi,ag (by rw[Uu W4 hd];decide),mg,← dP]
theorem ahp(W:AWorld)(lb:Nat)(aw:List (Int×Int×Unit))(s0:W.S)(σ:Hp)(hn:W.L.length≤100000)(hs:aw.length≤100000)(hf:W.free (W.abs s0))(mg:∀a k,W.tell a k=a):
  ACalls Tryz.prog 140 [W.mv,.af lb 0 W.L.length 1,.ae (.field (.int .i64) (.field (.int .i64) .nil)) aw,.iH] ((lb,W.L)::(W.B s0++σ)) (L3 W aw (W.abs s0) [(lb,W.L)] σ):=by
 obtain⟨a0,lv⟩:∃a0,a0=W.abs s0:=⟨_,rfl⟩
 rw[← lv]
 obtain⟨z,qS⟩:∃z,z=s0:=⟨_,rfl⟩
 subst qS
 refine au Tryz.func140 ?_
 intro aD
 refine .meet (S:=Nat×Nat×Nat) (fun s=>[(0,W.mv),(1,.af lb 0 W.L.length 1),(2,.ae (.field (.int .i64) (.field (.int .i64) .nil)) aw),(3,.iH),(8,.ptr aD 0),(9,.ptr s.1 0)])
  (fun s=>(s.1,[.af s.2.1 0 W.L.length 1,.af s.2.2 0 W.L.length 1,.int .i64 0])::(s.2.1,cJ [.int .i64 0] W.L.length)::(s.2.2,cJ [.bool false] W.L.length)::(aD,[.ai,.ai,.int .i64 0])::(lb,W.L)::(W.B z++σ)) (by kernel_rfl) ?_ ?_
 ·repeat' first
   |exact dh.mk (_,_,_) ⟨rfl,rfl,rfl,rfl,rfl,rfl,trivial⟩ (aN rfl)
   |exact dh.mk (_,_,_) ⟨rfl,rfl,rfl,rfl,rfl,rfl,trivial⟩ (.pull [2,2,1] (aN rfl))
   |exact dh.mk (_,_,_) ⟨rfl,rfl,rfl,rfl,rfl,rfl,trivial⟩ (.pull [2,1,2] (aN rfl))
   |exact dh.mk (_,_,_) ⟨rfl,rfl,rfl,rfl,rfl,rfl,trivial⟩ (.pull [2,2,0] (aN rfl))
   |exact dh.mk (_,_,_) ⟨rfl,rfl,rfl,rfl,rfl,rfl,trivial⟩ (.pull [2,1,1] (aN rfl))
   |exact dh.mk (_,_,_) ⟨rfl,rfl,rfl,rfl,rfl,rfl,trivial⟩ (.pull [2,1,0] (aN rfl))
   |refine And.intro ?_ ?_
   |refine aY ?_
   |refine aj 0 ?_
   |refine aj 1 ?_
   |refine aj 2 ?_
   |intro b
 rintro⟨br,ba,bd⟩ g
 refine az [] (dF _ _ _) ?_
 obtain⟨us,ga⟩:∃us:Nat,us=0:=⟨_,rfl⟩
 obtain⟨st,an⟩:∃st,st=(List.replicate W.L.length 0:List Int):=⟨_,rfl⟩
 refine cc (S:=Nat) (fun s=>[(0,W.mv),(1,.af lb 0 W.L.length 1),(2,.ae (.field (.int .i64) (.field (.int .i64) .nil)) aw),(3,.iH),(8,.ptr aD 0),(9,.ptr br 0),(23,.af lb 0 W.L.length 1),(24,.int .i64 W.L.length),(25,.int .i64 s)])
  (fun s=>(br,[.af ba 0 W.L.length 1,.af bd 0 W.L.length 1,.int .i64 us])::(ba,kA st)::(bd,jH (te W.L s))::(aD,[.ai,.ai,.int .i64 0])::(lb,W.L)::(W.B z++σ)) (fun s=>s≤W.L.length) (fun s=>W.L.length-s) 0 ⟨bE _,⟨rfl,rfl,rfl,rfl,rfl,rfl,rfl,rfl,rfl,trivial⟩,by rw[acE,← adO,an,← adN,ga];rfl⟩ ?_
 intro k g hk
 have hk:k≤W.L.length:=hk
 refine ak (fun ab=>?_) (fun aq=>?_)
 ·have ab:(k:Int)<W.L.length:=ab
  have ab:k<W.L.length:=by omega
  refine aK ?_
  rcases W.mach k ab with hm | ⟨t,r,hm,_⟩
  ·refine eU.mk 4 _ (AV.nilif) rfl (Bd ab hm) ?_
   refine .sched [] (upto [] 7 0) (by kernel_rfl) ?_
   refine aa 0 ?_
   refine aK ?_
   refine da 2 rfl (tF _ (by rw[KT _ _ hk];omega)) ?_
   refine bg (k+1) ?_ ab ⟨rfl,rfl,rfl,rfl,rfl,rfl,rfl,rfl,a8 (by omega),trivial⟩ (aN ?_)
   ·show W.L.length-(k+1)<W.L.length-k;omega
   ·rw[← UF _ _ ab,hm];rfl
  ·refine eU.mk 4 _ (AV.iface t (.ptr r 0)) rfl (Bd ab hm) ?_
   refine .sched [] (upto [] 7 0) (by kernel_rfl) ?_
   refine aa 0 ?_
   refine aK ?_
   refine da 2 rfl (tF _ (by rw[KT _ _ hk];omega)) ?_
   refine bg (k+1) ?_ ab ⟨rfl,rfl,rfl,rfl,rfl,rfl,rfl,rfl,a8 (by omega),trivial⟩ (aN ?_)
   ·show W.L.length-(k+1)<W.L.length-k;omega
   ·rw[← UF _ _ ab,hm];rfl
 ·have aq:¬(k:Int)<W.L.length:=aq
  obtain rfl:k=W.L.length:=by omega
  obtain⟨dn,mA⟩:∃dn,dn=te W.L W.L.length:=⟨_,rfl⟩
  rw[← mA]
  have eF:dn.length=W.L.length:=by rw[mA];exact KT _ _ (aR _)
  have cY:st.length=W.L.length:=by rw[an,gG]
  have rS:∀i (h:i<W.L.length),W.L[i]=.nilif→dn[i]?=some true:=by
   intro i h hm
   rw[mA,UG,fm,bj h,hm];rfl
  obtain⟨s,eC⟩:∃s,s=z:=⟨_,rfl⟩
  subst eC
  have hI:vN W aw a0 (s,st,dn,us):=by
   exact⟨by show us≤_;omega,cY,eF,rS,hf,by rw[ga,mA,UG,an,lv];rfl⟩
  have ⟨ga,cY,eF,rS,hf,OG⟩:=hI
  have ga:us≤aw.length:=ga
  have cY:st.length=W.L.length:=cY
  have eF:dn.length=W.L.length:=eF
  have hF:=fun σ=>Io (.af ba 0 W.L.length 1) us bd dn σ (by omega)
  rw[eF]at hF
  refine aa 0 ?_
  refine ak (fun c1=>?_) (fun c1=>?_)
  ·have c1:(↑us:Int)=(↑aw.length:Int):=c1
   have hE:=xk hI (.inl (by show us=_;omega))
   refine aa 0 ?_
   refine aj 3 ?_
   refine aa 3 ?_
   refine .cX 1 ba 0 W.L.length 1 _ (.int .i64) st rfl (xf cY) ⟨cY,rfl,by decide⟩ (nt .here (.refl _) (.refl _) rfl rfl rfl) ?_
   refine .cX 1 bd 0 W.L.length 1 _ .bool dn rfl (xm eF) ⟨eF,rfl,by decide⟩ (nt (.refl _) .here (.refl _) rfl rfl rfl) ?_
   exact .drop 0 2 (.done ⟨s,by rw[hE],by rw[hE],rfl⟩)
  ·have c1:¬((↑us:Int)=(↑aw.length:Int)):=c1
   refine aa 0 ?_
   refine az [2] (hF _) ?_
   cases cD:dn.all id with
   |true=>
    have hE:=xk hI (.inr cD)
    refine aa 1 ?_
    refine aj 3 ?_
    refine aa 3 ?_
    refine .cX 2 ba 0 W.L.length 1 _ (.int .i64) st rfl (xf cY) ⟨cY,rfl,by decide⟩ (nt .here (.refl _) (.refl _) rfl rfl rfl) ?_
    refine .cX 0 bd 0 W.L.length 1 _ .bool dn rfl (xm eF) ⟨eF,rfl,by decide⟩ (nt (.refl _) .here (.refl _) rfl rfl rfl) ?_
    exact .drop 0 2 (.done ⟨s,by rw[hE],by rw[hE],rfl⟩)
   |false=>
    refine aa 1 ?_
    refine aG.mk rfl ?_
    have fP:us<aw.length:=by omega
    have mq:AV.int .i64 (IntKind.i64.wrap ((us:Int)+1))=AV.int .i64 ((us+1:Nat):Int):=a8 (by omega)
    obtain⟨pk,eW⟩:∃pk,pk=aw[us]:=⟨_,rfl⟩
    obtain⟨pw,pd,pu⟩:=pk
    have e8:0<W.L.length:=by
     rcases uD W.L.length with h0 | h0
     ·rw[iR.1 (eF.trans h0)]at cD;cases cD
     ·exact h0
    refine bM.mk (pw,pd,pu) (by omega) ((get_some fP).trans (congrArg some eW.symm)) ?_
    obtain⟨i,hi⟩:∃i,i=fB pw W.L.length:=⟨_,rfl⟩
    have ee:i<W.L.length:=by rw[hi];exact AF e8
    have sH:=fun σ=>Ij pw pd W.L.length σ (by omega)
    rw[← hi]at sH
    intro bp
    refine aj 0 ?_
    refine aa 0 ?_
    refine az [] (sH _) ?_
    refine aa 2 ?_
    refine aK ?_
    cases hd:dn[i] with
    |true=>
     refine aZ 1 rfl (tG (by omega) hd) ?_
     refine aa 2 ?_
     refine aj 2 ?_
     refine .loop (S:=W.S×List Int×List Bool×Nat) (fun _=>0) (fun _=>[(0,W.mv),(1,.af lb 0 W.L.length 1),(2,.ae (.field (.int .i64) (.field (.int .i64) .nil)) aw),(3,.iH),(8,.ptr aD 0),(9,.ptr br 0)]) (fun x=>(br,[.af ba 0 W.L.length 1,.af bd 0 W.L.length 1,.int .i64 x.2.2.2])::(ba,kA x.2.1)::(bd,jH x.2.2.1)::(aD,[.ai,.ai,.int .i64 0])::(lb,W.L)::(W.B x.1++σ)) (vN W aw a0) (fun x=>aw.length-x.2.2.2) (s,st,dn,us+1) ⟨rfl,(GZ hI mg cD fP eW hi (by omega) hd),⟨rfl,rfl,rfl,rfl,rfl,rfl,trivial⟩,.drop 0 1 (.pull [2,2,0] (aN ?_))⟩ ?_
     ·show _=(br,[AV.af ba 0 W.L.length 1,AV.af bd 0 W.L.length 1,AV.int .i64 ((us+1:Nat):Int)])::_
      rw[← mq]
      rfl
     rintro⟨s,st,dn,us⟩ g hI
     have ⟨ga,cY,eF,rS,hf,OG⟩:=hI
     have ga:us≤aw.length:=ga
     have cY:st.length=W.L.length:=cY
     have eF:dn.length=W.L.length:=eF
     have hF:=fun σ=>Io (.af ba 0 W.L.length 1) us bd dn σ (by omega)
     rw[eF]at hF
     refine aa 0 ?_
     refine ak (fun c1=>?_) (fun c1=>?_)
     ·have c1:(↑us:Int)=(↑aw.length:Int):=c1
      have hE:=xk hI (.inl (by show us=_;omega))
      refine aa 0 ?_
      refine aj 3 ?_
      refine aa 3 ?_
      refine .cX 1 ba 0 W.L.length 1 _ (.int .i64) st rfl (xf cY) ⟨cY,rfl,by decide⟩ (nt .here (.refl _) (.refl _) rfl rfl rfl) ?_
      refine .cX 1 bd 0 W.L.length 1 _ .bool dn rfl (xm eF) ⟨eF,rfl,by decide⟩ (nt (.refl _) .here (.refl _) rfl rfl rfl) ?_
      exact .drop 0 2 (.done ⟨s,by rw[hE],by rw[hE],rfl⟩)
     ·have c1:¬((↑us:Int)=(↑aw.length:Int)):=c1
      refine aa 0 ?_
      refine az [2] (hF _) ?_
      cases cD:dn.all id with
      |true=>
       have hE:=xk hI (.inr cD)
       refine aa 1 ?_
       refine aj 3 ?_
       refine aa 3 ?_
       refine .cX 2 ba 0 W.L.length 1 _ (.int .i64) st rfl (xf cY) ⟨cY,rfl,by decide⟩ (nt .here (.refl _) (.refl _) rfl rfl rfl) ?_
       refine .cX 0 bd 0 W.L.length 1 _ .bool dn rfl (xm eF) ⟨eF,rfl,by decide⟩ (nt (.refl _) .here (.refl _) rfl rfl rfl) ?_
       exact .drop 0 2 (.done ⟨s,by rw[hE],by rw[hE],rfl⟩)
      |false=>
       refine aa 1 ?_
       refine aG.mk rfl ?_
       have fP:us<aw.length:=by omega
       have mq:AV.int .i64 (IntKind.i64.wrap ((us:Int)+1))=AV.int .i64 ((us+1:Nat):Int):=a8 (by omega)
       obtain⟨pk,eW⟩:∃pk,pk=aw[us]:=⟨_,rfl⟩
       obtain⟨pw,pd,pu⟩:=pk
       have e8:0<W.L.length:=by
        rcases uD W.L.length with h0 | h0
        ·rw[iR.1 (eF.trans h0)]at cD;cases cD
        ·exact h0
       refine bM.mk (pw,pd,pu) (by omega) ((get_some fP).trans (congrArg some eW.symm)) ?_
       obtain⟨i,hi⟩:∃i,i=fB pw W.L.length:=⟨_,rfl⟩
       have ee:i<W.L.length:=by rw[hi];exact AF e8
       have sH:=fun σ=>Ij pw pd W.L.length σ (by omega)
       rw[← hi]at sH
       intro bp
       refine aj 0 ?_
       refine aa 0 ?_
       refine az [] (sH _) ?_
       refine aa 2 ?_
       refine aK ?_
       cases hd:dn[i] with
       |true=>
        refine aZ 1 rfl (tG (by omega) hd) ?_
        refine aa 2 ?_
        refine aj 2 ?_
        refine .mk (s,st,dn,us+1) rfl (by show aw.length-(us+1)<aw.length-us;omega) (GZ hI mg cD fP eW hi (by omega) hd) ⟨rfl,rfl,rfl,rfl,rfl,rfl,trivial⟩ (.drop 0 1 (.pull [2,2,0] (aN ?_)))
        show _=(br,[AV.af ba 0 W.L.length 1,AV.af bd 0 W.L.length 1,AV.int .i64 ((us+1:Nat):Int)])::_
        rw[← mq]
        rfl
       |false=>
        refine aZ 1 rfl (tG (by omega) hd) ?_
        rcases W.mach i ee with hm | ⟨t,r,hm,gS,hMe,gP⟩
        ·have:=rS i ee hm
         rw[bj (by show i<dn.length;omega)]at this
         exact absurd (hd.symm.trans (Option.some.inj this)) (by decide)
        refine .sched [] (.one 0 false (.one 2 false (.one 3 false (.one 4 false (.one 5 false (.one 6 false (.one 7 false (.one 8 false (.one 9 false (.alt 1 (.one 10 false (.one 11 false (.one 12 false .stop))) (.one 10 false (.one 1 false (.one 11 false (.one 12 false .stop)))))))))))))) (by kernel_rfl) ?_
        refine aK ?_
        refine eU.mk 5 _ (AV.iface t (.ptr r 0)) rfl (Bd ee hm) ?_
        refine aa 0 ?_
        refine And.intro ?_ ?_
        ·refine aa 2 ?_
         refine W.aStep [_,_,_,_,_,_] hMe gP hf fun s' dP=>?_
         refine aK ?_
         refine da 1 rfl (tF _ (by omega)) ?_
         refine aa 2 ?_
         refine aK ?_
         refine aZ 3 rfl (xe (by omega)) ?_
         refine aK ?_
         refine da 3 rfl (xd _ (by omega)) ?_
         refine aa 2 ?_
         refine aj 2 ?_
         refine .mk (s',(st.set i (wr (st.getD i 0+1))),(dn.set i (W.step (W.abs s) i pd).2),us+1) rfl (by show aw.length-(us+1)<aw.length-us;omega) (w9 hI mg cD fP eW hi ee hd dP) ⟨rfl,rfl,rfl,rfl,rfl,rfl,trivial⟩ (.drop 0 1 (.pull [2,2,0] (aN ?_)))
         show _=(br,[AV.af ba 0 W.L.length 1,AV.af bd 0 W.L.length 1,AV.int .i64 ((us+1:Nat):Int)])::_
         rw[← mq]
         rfl
        ·refine W.aStep [_,_,_,_,_,_] hMe gP hf fun s' dP=>?_
         refine aa 2 ?_
         refine aK ?_
         refine da 1 rfl (tF _ (by omega)) ?_
         refine aa 2 ?_
         refine aK ?_
         refine aZ 3 rfl (xe (by omega)) ?_
         refine aK ?_
         refine da 3 rfl (xd _ (by omega)) ?_
         refine aa 2 ?_
         refine aj 2 ?_
         refine .mk (s',(st.set i (wr (st.getD i 0+1))),(dn.set i (W.step (W.abs s) i pd).2),us+1) rfl (by show aw.length-(us+1)<aw.length-us;omega) (w9 hI mg cD fP eW hi ee hd dP) ⟨rfl,rfl,rfl,rfl,rfl,rfl,trivial⟩ (.drop 0 1 (.pull [2,2,0] (aN ?_)))
         show _=(br,[AV.af ba 0 W.L.length 1,AV.af bd 0 W.L.length 1,AV.int .i64 ((us+1:Nat):Int)])::_
         rw[← mq]
         rfl
    |false=>
     refine aZ 1 rfl (tG (by omega) hd) ?_
     rcases W.mach i ee with hm | ⟨t,r,hm,gS,hMe,gP⟩
     ·have:=rS i ee hm
      rw[bj (by show i<dn.length;omega)]at this
      exact absurd (hd.symm.trans (Option.some.inj this)) (by decide)
     refine .sched [] (.one 0 false (.one 2 false (.one 3 false (.one 4 false (.one 5 false (.one 6 false (.one 7 false (.one 8 false (.one 9 false (.alt 1 (.one 10 false (.one 11 false (.one 12 false .stop))) (.one 10 false (.one 1 false (.one 11 false (.one 12 false .stop)))))))))))))) (by kernel_rfl) ?_
     refine aK ?_
     refine eU.mk 5 _ (AV.iface t (.ptr r 0)) rfl (Bd ee hm) ?_
     refine aa 0 ?_
     refine And.intro ?_ ?_
     ·refine aa 2 ?_
      refine W.aStep [_,_,_,_,_,_] hMe gP hf fun s' dP=>?_
      refine aK ?_
      refine da 1 rfl (tF _ (by omega)) ?_
      refine aa 2 ?_
      refine aK ?_
      refine aZ 3 rfl (xe (by omega)) ?_
      refine aK ?_
      refine da 3 rfl (xd _ (by omega)) ?_
      refine aa 2 ?_
      refine aj 2 ?_
      refine .loop (S:=W.S×List Int×List Bool×Nat) (fun _=>0) (fun _=>[(0,W.mv),(1,.af lb 0 W.L.length 1),(2,.ae (.field (.int .i64) (.field (.int .i64) .nil)) aw),(3,.iH),(8,.ptr aD 0),(9,.ptr br 0)]) (fun x=>(br,[.af ba 0 W.L.length 1,.af bd 0 W.L.length 1,.int .i64 x.2.2.2])::(ba,kA x.2.1)::(bd,jH x.2.2.1)::(aD,[.ai,.ai,.int .i64 0])::(lb,W.L)::(W.B x.1++σ)) (vN W aw a0) (fun x=>aw.length-x.2.2.2) (s',(st.set i (wr (st.getD i 0+1))),(dn.set i (W.step (W.abs s) i pd).2),us+1) ⟨rfl,(w9 hI mg cD fP eW hi ee hd dP),⟨rfl,rfl,rfl,rfl,rfl,rfl,trivial⟩,.drop 0 1 (.pull [2,2,0] (aN ?_))⟩ ?_
      ·show _=(br,[AV.af ba 0 W.L.length 1,AV.af bd 0 W.L.length 1,AV.int .i64 ((us+1:Nat):Int)])::_
       rw[← mq]
       rfl
      rintro⟨s,st,dn,us⟩ g hI
      have ⟨ga,cY,eF,rS,hf,OG⟩:=hI
      have ga:us≤aw.length:=ga
      have cY:st.length=W.L.length:=cY
      have eF:dn.length=W.L.length:=eF
      have hF:=fun σ=>Io (.af ba 0 W.L.length 1) us bd dn σ (by omega)
      rw[eF]at hF
      refine aa 0 ?_
      refine ak (fun c1=>?_) (fun c1=>?_)
      ·have c1:(↑us:Int)=(↑aw.length:Int):=c1
       have hE:=xk hI (.inl (by show us=_;omega))
       refine aa 0 ?_
       refine aj 3 ?_
       refine aa 3 ?_
       refine .cX 1 ba 0 W.L.length 1 _ (.int .i64) st rfl (xf cY) ⟨cY,rfl,by decide⟩ (nt .here (.refl _) (.refl _) rfl rfl rfl) ?_
       refine .cX 1 bd 0 W.L.length 1 _ .bool dn rfl (xm eF) ⟨eF,rfl,by decide⟩ (nt (.refl _) .here (.refl _) rfl rfl rfl) ?_
       exact .drop 0 2 (.done ⟨s,by rw[hE],by rw[hE],rfl⟩)
      ·have c1:¬((↑us:Int)=(↑aw.length:Int)):=c1
       refine aa 0 ?_
       refine az [2] (hF _) ?_
       cases cD:dn.all id with
       |true=>
        have hE:=xk hI (.inr cD)
        refine aa 1 ?_
        refine aj 3 ?_
        refine aa 3 ?_
        refine .cX 2 ba 0 W.L.length 1 _ (.int .i64) st rfl (xf cY) ⟨cY,rfl,by decide⟩ (nt .here (.refl _) (.refl _) rfl rfl rfl) ?_
        refine .cX 0 bd 0 W.L.length 1 _ .bool dn rfl (xm eF) ⟨eF,rfl,by decide⟩ (nt (.refl _) .here (.refl _) rfl rfl rfl) ?_
        exact .drop 0 2 (.done ⟨s,by rw[hE],by rw[hE],rfl⟩)
       |false=>
        refine aa 1 ?_
        refine aG.mk rfl ?_
        have fP:us<aw.length:=by omega
        have mq:AV.int .i64 (IntKind.i64.wrap ((us:Int)+1))=AV.int .i64 ((us+1:Nat):Int):=a8 (by omega)
        obtain⟨pk,eW⟩:∃pk,pk=aw[us]:=⟨_,rfl⟩
        obtain⟨pw,pd,pu⟩:=pk
        have e8:0<W.L.length:=by
         rcases uD W.L.length with h0 | h0
         ·rw[iR.1 (eF.trans h0)]at cD;cases cD
         ·exact h0
        refine bM.mk (pw,pd,pu) (by omega) ((get_some fP).trans (congrArg some eW.symm)) ?_
        obtain⟨i,hi⟩:∃i,i=fB pw W.L.length:=⟨_,rfl⟩
        have ee:i<W.L.length:=by rw[hi];exact AF e8
        have sH:=fun σ=>Ij pw pd W.L.length σ (by omega)
        rw[← hi]at sH
        intro bp
        refine aj 0 ?_
        refine aa 0 ?_
        refine az [] (sH _) ?_
        refine aa 2 ?_
        refine aK ?_
        cases hd:dn[i] with
        |true=>
         refine aZ 1 rfl (tG (by omega) hd) ?_
         refine aa 2 ?_
         refine aj 2 ?_
         refine .mk (s,st,dn,us+1) rfl (by show aw.length-(us+1)<aw.length-us;omega) (GZ hI mg cD fP eW hi (by omega) hd) ⟨rfl,rfl,rfl,rfl,rfl,rfl,trivial⟩ (.drop 0 1 (.pull [2,2,0] (aN ?_)))
         show _=(br,[AV.af ba 0 W.L.length 1,AV.af bd 0 W.L.length 1,AV.int .i64 ((us+1:Nat):Int)])::_
         rw[← mq]
         rfl
        |false=>
         refine aZ 1 rfl (tG (by omega) hd) ?_
         rcases W.mach i ee with hm | ⟨t,r,hm,gS,hMe,gP⟩
         ·have:=rS i ee hm
          rw[bj (by show i<dn.length;omega)]at this
          exact absurd (hd.symm.trans (Option.some.inj this)) (by decide)
         refine .sched [] (.one 0 false (.one 2 false (.one 3 false (.one 4 false (.one 5 false (.one 6 false (.one 7 false (.one 8 false (.one 9 false (.alt 1 (.one 10 false (.one 11 false (.one 12 false .stop))) (.one 10 false (.one 1 false (.one 11 false (.one 12 false .stop)))))))))))))) (by kernel_rfl) ?_
         refine aK ?_
         refine eU.mk 5 _ (AV.iface t (.ptr r 0)) rfl (Bd ee hm) ?_
         refine aa 0 ?_
         refine And.intro ?_ ?_
         ·refine aa 2 ?_
          refine W.aStep [_,_,_,_,_,_] hMe gP hf fun s' dP=>?_
          refine aK ?_
          refine da 1 rfl (tF _ (by omega)) ?_
          refine aa 2 ?_
          refine aK ?_
          refine aZ 3 rfl (xe (by omega)) ?_
          refine aK ?_
          refine da 3 rfl (xd _ (by omega)) ?_
          refine aa 2 ?_
          refine aj 2 ?_
          refine .mk (s',(st.set i (wr (st.getD i 0+1))),(dn.set i (W.step (W.abs s) i pd).2),us+1) rfl (by show aw.length-(us+1)<aw.length-us;omega) (w9 hI mg cD fP eW hi ee hd dP) ⟨rfl,rfl,rfl,rfl,rfl,rfl,trivial⟩ (.drop 0 1 (.pull [2,2,0] (aN ?_)))
          show _=(br,[AV.af ba 0 W.L.length 1,AV.af bd 0 W.L.length 1,AV.int .i64 ((us+1:Nat):Int)])::_
          rw[← mq]
          rfl
         ·refine W.aStep [_,_,_,_,_,_] hMe gP hf fun s' dP=>?_
          refine aa 2 ?_
          refine aK ?_
          refine da 1 rfl (tF _ (by omega)) ?_
          refine aa 2 ?_
          refine aK ?_
          refine aZ 3 rfl (xe (by omega)) ?_
          refine aK ?_
          refine da 3 rfl (xd _ (by omega)) ?_
          refine aa 2 ?_
          refine aj 2 ?_
          refine .mk (s',(st.set i (wr (st.getD i 0+1))),(dn.set i (W.step (W.abs s) i pd).2),us+1) rfl (by show aw.length-(us+1)<aw.length-us;omega) (w9 hI mg cD fP eW hi ee hd dP) ⟨rfl,rfl,rfl,rfl,rfl,rfl,trivial⟩ (.drop 0 1 (.pull [2,2,0] (aN ?_)))
          show _=(br,[AV.af ba 0 W.L.length 1,AV.af bd 0 W.L.length 1,AV.int .i64 ((us+1:Nat):Int)])::_
          rw[← mq]
          rfl
     ·refine W.aStep [_,_,_,_,_,_] hMe gP hf fun s' dP=>?_
      refine aa 2 ?_
      refine aK ?_
      refine da 1 rfl (tF _ (by omega)) ?_
      refine aa 2 ?_
      refine aK ?_
      refine aZ 3 rfl (xe (by omega)) ?_
      refine aK ?_
      refine da 3 rfl (xd _ (by omega)) ?_
      refine aa 2 ?_
      refine aj 2 ?_
      refine .loop (S:=W.S×List Int×List Bool×Nat) (fun _=>0) (fun _=>[(0,W.mv),(1,.af lb 0 W.L.length 1),(2,.ae (.field (.int .i64) (.field (.int .i64) .nil)) aw),(3,.iH),(8,.ptr aD 0),(9,.ptr br 0)]) (fun x=>(br,[.af ba 0 W.L.length 1,.af bd 0 W.L.length 1,.int .i64 x.2.2.2])::(ba,kA x.2.1)::(bd,jH x.2.2.1)::(aD,[.ai,.ai,.int .i64 0])::(lb,W.L)::(W.B x.1++σ)) (vN W aw a0) (fun x=>aw.length-x.2.2.2) (s',(st.set i (wr (st.getD i 0+1))),(dn.set i (W.step (W.abs s) i pd).2),us+1) ⟨rfl,(w9 hI mg cD fP eW hi ee hd dP),⟨rfl,rfl,rfl,rfl,rfl,rfl,trivial⟩,.drop 0 1 (.pull [2,2,0] (aN ?_))⟩ ?_
      ·show _=(br,[AV.af ba 0 W.L.length 1,AV.af bd 0 W.L.length 1,AV.int .i64 ((us+1:Nat):Int)])::_
       rw[← mq]
       rfl
      rintro⟨s,st,dn,us⟩ g hI
      have ⟨ga,cY,eF,rS,hf,OG⟩:=hI
      have ga:us≤aw.length:=ga
      have cY:st.length=W.L.length:=cY
      have eF:dn.length=W.L.length:=eF
      have hF:=fun σ=>Io (.af ba 0 W.L.length 1) us bd dn σ (by omega)
      rw[eF]at hF
      refine aa 0 ?_
      refine ak (fun c1=>?_) (fun c1=>?_)
      ·have c1:(↑us:Int)=(↑aw.length:Int):=c1
       have hE:=xk hI (.inl (by show us=_;omega))
       refine aa 0 ?_
       refine aj 3 ?_
       refine aa 3 ?_
       refine .cX 1 ba 0 W.L.length 1 _ (.int .i64) st rfl (xf cY) ⟨cY,rfl,by decide⟩ (nt .here (.refl _) (.refl _) rfl rfl rfl) ?_
       refine .cX 1 bd 0 W.L.length 1 _ .bool dn rfl (xm eF) ⟨eF,rfl,by decide⟩ (nt (.refl _) .here (.refl _) rfl rfl rfl) ?_
       exact .drop 0 2 (.done ⟨s,by rw[hE],by rw[hE],rfl⟩)
      ·have c1:¬((↑us:Int)=(↑aw.length:Int)):=c1
       refine aa 0 ?_
       refine az [2] (hF _) ?_
       cases cD:dn.all id with
       |true=>
        have hE:=xk hI (.inr cD)
        refine aa 1 ?_
        refine aj 3 ?_
        refine aa 3 ?_
        refine .cX 2 ba 0 W.L.length 1 _ (.int .i64) st rfl (xf cY) ⟨cY,rfl,by decide⟩ (nt .here (.refl _) (.refl _) rfl rfl rfl) ?_
        refine .cX 0 bd 0 W.L.length 1 _ .bool dn rfl (xm eF) ⟨eF,rfl,by decide⟩ (nt (.refl _) .here (.refl _) rfl rfl rfl) ?_
        exact .drop 0 2 (.done ⟨s,by rw[hE],by rw[hE],rfl⟩)
       |false=>
        refine aa 1 ?_
        refine aG.mk rfl ?_
        have fP:us<aw.length:=by omega
        have mq:AV.int .i64 (IntKind.i64.wrap ((us:Int)+1))=AV.int .i64 ((us+1:Nat):Int):=a8 (by omega)
        obtain⟨pk,eW⟩:∃pk,pk=aw[us]:=⟨_,rfl⟩
        obtain⟨pw,pd,pu⟩:=pk
        have e8:0<W.L.length:=by
         rcases uD W.L.length with h0 | h0
         ·rw[iR.1 (eF.trans h0)]at cD;cases cD
         ·exact h0
        refine bM.mk (pw,pd,pu) (by omega) ((get_some fP).trans (congrArg some eW.symm)) ?_
        obtain⟨i,hi⟩:∃i,i=fB pw W.L.length:=⟨_,rfl⟩
        have ee:i<W.L.length:=by rw[hi];exact AF e8
        have sH:=fun σ=>Ij pw pd W.L.length σ (by omega)
        rw[← hi]at sH
        intro bp
        refine aj 0 ?_
        refine aa 0 ?_
        refine az [] (sH _) ?_
        refine aa 2 ?_
        refine aK ?_
        cases hd:dn[i] with
        |true=>
         refine aZ 1 rfl (tG (by omega) hd) ?_
         refine aa 2 ?_
         refine aj 2 ?_
         refine .mk (s,st,dn,us+1) rfl (by show aw.length-(us+1)<aw.length-us;omega) (GZ hI mg cD fP eW hi (by omega) hd) ⟨rfl,rfl,rfl,rfl,rfl,rfl,trivial⟩ (.drop 0 1 (.pull [2,2,0] (aN ?_)))
         show _=(br,[AV.af ba 0 W.L.length 1,AV.af bd 0 W.L.length 1,AV.int .i64 ((us+1:Nat):Int)])::_
         rw[← mq]
         rfl
        |false=>
         refine aZ 1 rfl (tG (by omega) hd) ?_
         rcases W.mach i ee with hm | ⟨t,r,hm,gS,hMe,gP⟩
         ·have:=rS i ee hm
          rw[bj (by show i<dn.length;omega)]at this
          exact absurd (hd.symm.trans (Option.some.inj this)) (by decide)
         refine .sched [] (.one 0 false (.one 2 false (.one 3 false (.one 4 false (.one 5 false (.one 6 false (.one 7 false (.one 8 false (.one 9 false (.alt 1 (.one 10 false (.one 11 false (.one 12 false .stop))) (.one 10 false (.one 1 false (.one 11 false (.one 12 false .stop)))))))))))))) (by kernel_rfl) ?_
         refine aK ?_
         refine eU.mk 5 _ (AV.iface t (.ptr r 0)) rfl (Bd ee hm) ?_
         refine aa 0 ?_
         refine And.intro ?_ ?_
         ·refine aa 2 ?_
          refine W.aStep [_,_,_,_,_,_] hMe gP hf fun s' dP=>?_
          refine aK ?_
          refine da 1 rfl (tF _ (by omega)) ?_
          refine aa 2 ?_
          refine aK ?_
          refine aZ 3 rfl (xe (by omega)) ?_
          refine aK ?_
          refine da 3 rfl (xd _ (by omega)) ?_
          refine aa 2 ?_
          refine aj 2 ?_
          refine .mk (s',(st.set i (wr (st.getD i 0+1))),(dn.set i (W.step (W.abs s) i pd).2),us+1) rfl (by show aw.length-(us+1)<aw.length-us;omega) (w9 hI mg cD fP eW hi ee hd dP) ⟨rfl,rfl,rfl,rfl,rfl,rfl,trivial⟩ (.drop 0 1 (.pull [2,2,0] (aN ?_)))
          show _=(br,[AV.af ba 0 W.L.length 1,AV.af bd 0 W.L.length 1,AV.int .i64 ((us+1:Nat):Int)])::_
          rw[← mq]
          rfl
         ·refine W.aStep [_,_,_,_,_,_] hMe gP hf fun s' dP=>?_
          refine aa 2 ?_
          refine aK ?_
          refine da 1 rfl (tF _ (by omega)) ?_
          refine aa 2 ?_
          refine aK ?_
          refine aZ 3 rfl (xe (by omega)) ?_
          refine aK ?_
          refine da 3 rfl (xd _ (by omega)) ?_
          refine aa 2 ?_
          refine aj 2 ?_
          refine .mk (s',(st.set i (wr (st.getD i 0+1))),(dn.set i (W.step (W.abs s) i pd).2),us+1) rfl (by show aw.length-(us+1)<aw.length-us;omega) (w9 hI mg cD fP eW hi ee hd dP) ⟨rfl,rfl,rfl,rfl,rfl,rfl,trivial⟩ (.drop 0 1 (.pull [2,2,0] (aN ?_)))
          show _=(br,[AV.af ba 0 W.L.length 1,AV.af bd 0 W.L.length 1,AV.int .i64 ((us+1:Nat):Int)])::_
          rw[← mq]
          rfl
end Go.Proofs.YtnikdflhefijbaaGreat
