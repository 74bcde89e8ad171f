import Derived.Test.YtnikdflhefijbaaGreatBn17
import Derived.Test.YtnikdflhefijbaaGreatBn15
import Derived.Test.YtnikdflhefijbaaGreatBn11
import Derived.Test.YtnikdflhefijbaaGreatBn9
import Derived.Test.YtnikdflhefijbaaGreatBn13
import Derived.Test.YtnikdflhefijbaaGreatBn10
import Derived.Test.YtnikdflhefijbaaGreatBn6
namespace Go.Proofs.YtnikdflhefijbaaGreat
open Go.RowKit
set_option maxRecDepth 100000
set_option maxHeartbeats 4000000
def sU(x:Int)(p:List Int)(o:List Int):List Int:=p.foldl (fun o a=>o.set a.toNat x) o
theorem Lf(x:Int):∀(p o:List Int),(sU x p o).length=o.length
 | [],_=>rfl
 |a::p,o=>by
  show (sU x p (o.set a.toNat x)).length=_
  rw[Lf x p,cR]
theorem abO(x:Int)(p o:List Int)(a:Int):sU x (p++[a]) o=(sU x p o).set a.toNat x:=by unfold sU;rw[uJ];rfl
def r7(n k:Nat)(Q:List (List Int)):Nat→List Int
 | 0=>List.replicate n 0
 |j+1=>sU (((k*((Q.take j).flatten.length) / n:Nat)):Int) (Q.getD j []) (r7 n k Q j)
theorem AG(n k:Nat)(Q:List (List Int)):∀j,(r7 n k Q j).length=n
 | 0=>gl
 |j+1=>by unfold r7;rw[Lf];exact AG n k Q j
def lT(n k:Nat)(l:List bK):List Int:=r7 n k (kq n l) (kq n l).length
theorem Xo(k:Nat)(σ:Hp)(h1:1≤k)(h2:k≤64):ACalls Tryz.prog 214 [.int .i64 k] σ (ay (.bool true) σ):=by
 refine ar Tryz.func214 ?_
 refine ak (fun _=>?_) (fun c=>absurd (show (1:Int)≤k by omega) c)
 refine ak (fun _=>?_) (fun c=>absurd (show (k:Int)≤64 by omega) c)
 exact .done ⟨rfl,rfl⟩
theorem QP(Q:List (List Int))(j:Nat):(Q.take j).flatten.length≤Q.flatten.length:=by
 have e:Q.flatten=(Q.take j).flatten++(Q.drop j).flatten:=by rw[← gm4,CB]
 rw[e,bZ];omega
structure aiY(n:Nat)(Q:List (List Int)):Prop where
 node:∀p∈Q,∀x∈p,0≤x∧x<(n:Int)
 flat:Q.flatten.length≤600
 len:Q.length≤600
theorem ae4{k a n:Nat}(hk:k≤64)(ha:a≤600)(_hn:1≤n):IntKind.i64.wrap ((IntKind.i64.wrap ((k:Int)*(a:Nat))).tdiv (n:Int))=((k*a / n:Nat):Int):=by
 have h1:(k:Int)*(a:Nat)=((k*a:Nat):Int):=by simp
 have h2:k*a≤64*600:=uF hk ha
 have h3:k*a / n≤k*a:=Nat.div_le_self _ _
 have h4:IntKind.i64.wrap ((k*a:Nat):Int)=((k*a:Nat):Int):=by rw[IntKind.wrap_i64];omega
 have h5:(((k*a:Nat):Int)).tdiv (n:Int)=((k*a / n:Nat):Int):=rfl
 rw[h1,h4,h5]
 clear h4 h5
 generalize k*a / n=q at h3
 generalize k*a=m at h2 h3
 rw[IntKind.wrap_i64]
 omega
theorem afP{n:Nat}{l:List bK}{P:List (List Int)}(h:oZ n l P)(hr:∀e∈l,(0≤e.1∧e.1<(n:Int))∧0≤e.2.1∧e.2.1<(n:Int))(hn:n≤256):aiY n (kq n l):=by
 have hO:=(HF h hr P.length (a8 _)).1
 rw[MS h hr]at hO
 have hm:∀p∈kq n l,p∈P:=fun p hp=>by
  obtain⟨i,_,hi⟩:=(hO.mem p).1 hp
  exact cx hi
 have gx:=GY n _ hO.nd fun x hx=>by
  obtain⟨p,hp,r9⟩:=pr.1 hx
  exact h.ok.node p (hm p hp) x r9
 have hll:=Q3 (Q:=kq n l) fun p hp=>mG.2 (h.ok.ne p (hm p hp))
 exact⟨fun p hp=>h.ok.node p (hm p hp),by omega,by omega⟩
theorem aff(n:Nat)(l:List bK)(k:Nat)(σ:Hp)(hl:l.length≤100000)(dY:fF n l=true)(h1:1≤k)(h2:k≤64):ACalls Tryz.prog 216 [.int .i64 n,.ae dB l,.int .i64 k] σ (ay (.tup [.ae (.int .i64) (lT n k l),.int .i64 0]) σ):=by
 have hn:1≤n∧n≤256:=by
  unfold fF at dY
  simp only[bO,decide_eq_true_eq]at dY
  omega
 have Cg:∀e∈l,(0≤e.1∧e.1<(n:Int))∧0≤e.2.1∧e.2.1<(n:Int):=fun e he=>by
  unfold fF at dY
  simp only[bO,fK]at dY
  have:=dY.2 e he
  exact⟨kW.1 this.1,kW.1 this.2⟩
 refine ar Tryz.func216 ?_
 refine aw [] (Xo k _ h1 h2) ?_
 refine .mk [] _ (af8 n l _ hl dY) ?_
 rintro _ τ ⟨rfl,Ox,P,hP⟩
 subst τ
 have hQ:=afP hP Cg hn.2
 unfold lT
 generalize kq n l=Q at hQ
 have hQl:=hQ.len
 have hnT:((n:Nat):Int).toNat=n:=bC n
 refine bc ?_
 intro bo
 refine bQ (S:=Nat) (fun x=>[(0,.int .i64 n),(2,.int .i64 k),(10,.af bo 0 n 1),(11,.int .i64 ((Q.take x).flatten.length:Nat)),(30,.ae (.slice (.int .i64)) Q),(31,.int .i64 Q.length),(32,.int .i64 x)]) (fun x=>(bo,ao (r7 n k Q x))::σ) (fun x=>x≤Q.length) (fun x=>Q.length-x) 0 ⟨bA _,⟨rfl,rfl,rfl,rfl,rfl,rfl,rfl,trivial⟩,by rw[show ao (r7 n k Q 0)=cD [.int .i64 0] n from (yW n).symm];rfl⟩ ?_
 intro j g hj
 have hj:j≤Q.length:=hj
 have sZ:(Q.take j).flatten.length≤600:=eH (QP Q j) hQ.flat
 refine ak (p:=(j:Int)<Q.length) (fun ab=>?_) (fun aq=>?_)
 ·have ab:j<Q.length:=by omega
  obtain⟨p,hp⟩:∃p,Q[j]?=some p:=⟨Q[j]'ab,bh ab⟩
  have JS:=hQ.node p (cx hp)
  have s7:p.length≤600:=eH (List.Sublist.length_le (List.sublist_flatten_of_mem (cx hp))) hQ.flat
  have hx:IntKind.i64.wrap ((IntKind.i64.wrap ((k:Int)*((Q.take j).flatten.length:Nat))).tdiv (n:Int))=((k*(Q.take j).flatten.length / n:Nat):Int):=ae4 (by omega) (by omega) (by omega)
  have hu:r7 n k Q (j+1)=sU ((k*(Q.take j).flatten.length / n:Nat):Int) p (r7 n k Q j):=by
   show sU _ (Q.getD j []) _=_
   rw[aZ,hp];rfl
  have nZ:=AG n k Q j
  have fi:(Q.take (j+1)).flatten.length=(Q.take j).flatten.length+p.length:=by
   rw[List.take_succ_eq_append_getElem ab,List.flatten_append,List.length_append,show Q[j]=p from Option.some.inj ((List.getElem?_eq_getElem ab).symm.trans hp)];simp
  generalize r7 n k Q j=o at hu nZ
  generalize hX:((k*(Q.take j).flatten.length / n:Nat):Int)=X at hx hu
  refine aG.mk rfl (bE.mk p (by omega) (by rw[bC];exact hp) ?_)
  refine bQ (S:=Nat) (fun y=>[(0,.int .i64 n),(2,.int .i64 k),(10,.af bo 0 n 1),(11,.int .i64 ((Q.take j).flatten.length:Nat)),(13,.ae (.int .i64) p),(30,.ae (.slice (.int .i64)) Q),(31,.int .i64 Q.length),(32,.int .i64 j),(36,.ae (.int .i64) p),(37,.int .i64 p.length),(38,.int .i64 y)]) (fun y=>(bo,ao (sU X (p.take y) o))::σ) (fun y=>y≤p.length) (fun y=>p.length-y) 0 ⟨bA _,⟨rfl,rfl,rfl,rfl,rfl,rfl,rfl,rfl,rfl,rfl,rfl,trivial⟩,rfl⟩ ?_
  intro y g2 hy
  have hy:y≤p.length:=hy
  refine ak (p:=(y:Int)<p.length) (fun pc=>?_) (fun hg2=>?_)
  ·have pc:y<p.length:=by omega
   have hz:=JS _ (bP pc)
   have Fp:=Lf X (p.take y) o
   refine aG.mk rfl (bE.mk p[y] (by omega) (get_some pc) ?_)
   refine eD ?_
   refine aM ?_
   refine cT 0 rfl (nu rfl _ hz.1 (by omega)) ?_
   exact aY (y+1) (by show p.length-(y+1)<p.length-y;omega) pc ⟨rfl,rfl,rfl,rfl,rfl,rfl,rfl,rfl,rfl,rfl,aS (by omega),trivial⟩ (aL (by rw[hx,ff pc,abO];rfl))
  ·have hg2:p.length=y:=by omega
   subst hg2
   rw[fA]
   exact aY (j+1) (by show Q.length-(j+1)<Q.length-j;omega) ab ⟨rfl,rfl,rfl,(by show AV.int .i64 (IntKind.i64.wrap ((((Q.take j).flatten.length:Nat):Int)+((p.length:Nat):Int)))=.int .i64 (((Q.take (j+1)).flatten.length:Nat):Int);rw[fi,IntKind.wrap_i64];exact aQ (by omega)),rfl,rfl,aS (by omega),trivial⟩ (aL (by rw[hu]))
 ·have aq:Q.length=j:=by omega
  subst aq
  refine .cJ 0 bo 0 n 1 _ (.int .i64) (r7 n k Q Q.length) rfl (by rw[gz,ek (by rw[nq,AG,eA];exact a8 _)];exact uY _) ⟨AG n k Q _,rfl,by decide⟩ (cd .here (.refl _)) (.done ⟨rfl,rfl⟩)
set_option maxHeartbeats 4000000
def nF(L:List Int):Nat→List Int
 | 0=>L
 |i+1=>((nF L i).set i ((nF L i).getD (L.length-1-i) 0)).set (L.length-1-i) ((nF L i).getD i 0)
theorem Gw(L:List Int):∀i,(nF L i).length=L.length
 | 0=>rfl
 |i+1=>by unfold nF;rw[cR,cR];exact Gw L i
theorem R7(l:List Int)(a:Nat)(v:Int)(t:Nat)(ha:a<l.length):(l.set a v).getD t 0=if a=t then v else l.getD t 0:=by
 rw[aZ,fj]
 by_cases h:a=t
 ·subst h;rw[ah rfl,ah ha,ah rfl];rfl
 ·rw[ag h,ag h,aZ]
theorem Un(L:List Int):∀i,2*i≤L.length+1→∀t,t<L.length→(nF L i).getD t 0=if t<i∨L.length-i≤t then L.getD (L.length-1-t) 0 else L.getD t 0
 | 0,_,t,ht=>by
  rw[ag (by omega)];rfl
 |i+1,hi,t,ht=>by
  have hl:=Gw L i
  have ih:=Un L i (by omega)
  have h0:0<L.length:=by omega
  have e1:L.length-1-i<((nF L i).set i ((nF L i).getD (L.length-1-i) 0)).length:=by rw[cR,hl];omega
  unfold nF
  rw[R7 _ _ _ _ e1]
  by_cases hm:i<L.length
  ·rw[R7 _ _ _ _ (by rw[hl];exact hm),ih i hm,ih (L.length-1-i) (by omega),ih t ht]
   repeat' split
   all_goals first | rfl | (exfalso;omega) | (congr 1;omega)
  ·omega
theorem abG{L:List Int}{i:Nat}(h1:2*i≤L.length+1)(h2:L.length≤2*i+1):nF L i=L.reverse:=by
 have hl:=Gw L i
 refine As (by rw[hl,tg]) fun t h3 h4=>?_
 have ht:t<L.length:=by omega
 have:=Un L i h1 t ht
 rw[aZ,bh h3,aZ,bh (show L.length-1-t<L.length by omega),aZ,bh ht]at this
 rw[List.getElem_reverse]
 have this:(nF L i)[t]=if t<i∨L.length-i≤t then L[L.length-1-t] else L[t]:=this
 rw[this]
 split
 ·rfl
 ·have e:t=L.length-1-t:=by omega
  congr 1
theorem ad1(b:Nat)(L:List Int)(q:Nat)(σ:Hp)(hq:L.length=q)(hl:q≤1000000):ACalls Tryz.prog 217 [.af b 0 q 1] ((b,ao L)::σ) (ay (.tup []) ((b,ao L.reverse)::σ)):=by
 refine ar Tryz.func217 ?_
 refine bQ (S:=Nat) (fun i=>[(0,.af b 0 q 1),(2,.int .i64 i),(3,.int .i64 ((q:Int)-1-i))]) (fun i=>(b,ao (nF L i))::σ) (fun i=>2*i≤q+1) (fun i=>q+1-i) 0 ⟨by omega,⟨rfl,rfl,aQ (by rw[IntKind.wrap_i64];omega),trivial⟩,rfl⟩ ?_
 intro i g hi
 have hi:2*i≤q+1:=hi
 have ga:=Gw L i
 refine ak (p:=(i:Int)<(q:Int)-1-i) (fun ab=>?_) (fun aq=>?_)
 ·have hj:((q:Int)-1-(i:Int)).toNat=L.length-1-i:=by omega
  refine .sched [] (upto [] 16 0) (by kernel_rfl) ?_
  refine aM ?_
  refine bf 0 rfl (fq rfl (by omega) (by omega)) ?_
  refine aM ?_
  refine bf 0 rfl (fq rfl (by omega) (by omega)) ?_
  refine aM ?_
  refine cT 0 rfl (nu rfl _ (by omega) (by omega)) ?_
  refine aM ?_
  refine cT 0 rfl (nu rfl _ (by omega) (by rw[cR];omega)) ?_
  refine aY (i+1) (by show q+1-(i+1)<q+1-i;omega) (by show 2*(i+1)≤q+1;omega) ⟨rfl,aQ (by rw[IntKind.wrap_i64];omega),aQ (by rw[IntKind.wrap_i64];omega),trivial⟩ (aL ?_)
  show (b,ao (((nF L i).set ((i:Nat):Int).toNat ((nF L i).getD ((q:Int)-1-(i:Int)).toNat 0)).set ((q:Int)-1-(i:Int)).toNat ((nF L i).getD ((i:Nat):Int).toNat 0)))::σ=(b,ao (nF L (i+1)))::σ
  rw[hj,bC]
  rfl
 ·rw[abG (by omega) (by omega)]
  exact .done ⟨rfl,rfl⟩
set_option maxHeartbeats 4000000
def mO(k:Nat)(ow al:List Int):List (List Int):=(List.range k).map fun u:Nat=>al.filter fun x=>decide (ow.getD x.toNat 0=(u:Int))
theorem yE(k:Nat)(ow al:List Int):(mO k ow al).length=k:=by unfold mO;rw[cg,kS]
theorem C1{k:Nat}{ow al:List Int}{u:Nat}(h:u<k):(mO k ow al)[u]?=some (al.filter fun x=>decide (ow.getD x.toNat 0=(u:Int))):=by
 unfold mO
 rw[fm,tf h];rfl
theorem Yb{k:Nat}{ow al:List Int}{z:Int}{w:Nat}{rl:List Int}(hz:ow.getD z.toNat 0=(w:Int))(hr:(mO k ow al)[w]?=some rl):mO k ow (al++[z])=(mO k ow al).set w (rl++[z]):=by
 have hw:w<k:=by
  have:=(ck.1 hr).1
  rw[yE]at this
  exact this
 refine Am fun i=>?_
 rw[fj,yE]
 rcases wQ i k with hi | hi
 ·rw[C1 hi,C1 hi,An]
  by_cases e:w=i
  ·subst e
   rw[ah rfl,ah hw]
   rw[C1 hw]at hr
   rw[← Option.some.inj hr,List.filter_cons,if_pos (by rw[hz];simp),List.filter_nil]
  ·rw[if_neg e,List.filter_cons,if_neg (by rw[hz];simp;omega),List.filter_nil,List.append_nil]
 ·rw[uN (by rw[yE];exact hi),ag (by omega),uN (by rw[yE];exact hi)]
theorem Z1(A:List jX)(r r2:jX)(B:List jX):lq (A++r2::B)=(lq (A++r::B)).set A.length r2.2.2:=by
 unfold lq
 rw[cW,cW,KL _ _ (by rw[cg];exact a8 _),cg,qd]
 rfl
theorem abA(A:List jX)(r:jX)(B:List jX):(lq (A++r::B))[A.length]?=some r.2.2:=by
 unfold lq
 rw[cW,jb (by rw[cg];exact a8 _),cg,qd]
 rfl
theorem VS(bx:Nat)(ow:List Int)(x w:Int)(σ:Hp)(hx:0≤x)(hw:ow[x.toNat]?=some w):ACalls Tryz.prog 219 [.int .i64 x,.ptr bx 0] ((bx,[.ae (.int .i64) ow])::σ) (ay (.int .i64 w) ((bx,[.ae (.int .i64) ow])::σ)):=by
 refine ar Tryz.func219 ?_
 refine aa 0 ?_
 refine aG.mk rfl (bE.mk w hx hw ?_)
 exact .done ⟨rfl,rfl⟩
theorem agM(n k bx:Nat)(ow al:List Int)(σ:Hp)(n0:1≤k)(ei:k≤64)(O6:al.length≤100000)(hr:∀x∈al,0≤x∧x<(n:Int))(nZ:ow.length=n)(jJ:∀i:Nat,i<n→0≤ow.getD i 0∧ow.getD i 0<(k:Int)):ACalls Tryz.prog 218 [.ae (.int .i64) al,.int .i64 k,.fn (.func 219) [] [.ptr bx 0]] ((bx,[.ae (.int .i64) ow])::σ) (fun r σ'=>∃ls:List (List Int),r=.ae (.slice (.int .i64)) ls∧σ'=(bx,[.ae (.int .i64) ow])::σ∧ls=mO k ow al):=by
 refine YM ?_
 refine ar Tryz.func218 ?_
 refine bc ?_
 intro bo
 refine .dO (.pull [1] (.refl _)) ?_
 refine bQ (S:=Nat×List jX) (fun s=>[(2,.fn (.func 219) [] [.ptr bx 0]),(7,.af bo 0 k 1),(12,.ae (.int .i64) al),(13,.int .i64 al.length),(14,.int .i64 s.1)]) (fun s=>(bx,[.ae (.int .i64) ow])::(bo,kb s.2)::(lP s.2++σ)) (fun s=>s.1≤al.length∧(∀r∈s.2,zp r)∧lq s.2=mO k ow (al.take s.1)) (fun s=>al.length-s.1) (0,List.replicate k (.ai,[],[])) ⟨⟨bA _,fun r hr=>.inl (by rw[Ar hr];exact⟨rfl,rfl,rfl⟩),?_⟩,⟨rfl,rfl,rfl,rfl,rfl,trivial⟩,?_⟩ ?_
 ·refine Am fun i=>?_
  show (lq (List.replicate k (.ai,[],[])))[i]?=_
  unfold lq
  rw[fm,wV]
  rcases wQ i k with hi | hi
  ·rw[ah hi,C1 hi];rfl
  ·rw[ag (by omega),uN (by rw[yE];exact hi)];rfl
 ·show _=(bx,[AV.ae (.int .i64) ow])::(bo,kb (List.replicate k (.ai,[],[])))::(lP (List.replicate k (.ai,[],[]))++σ)
  rw[← abH,Z4];rfl
 rintro⟨j,rs⟩ g ⟨p8,ho0,hL0⟩
 have hj:j≤al.length:=p8
 have ho:∀r∈rs,zp r:=ho0
 have hL:lq rs=mO k ow (al.take j):=hL0
 clear p8 ho0 hL0
 have wD:rs.length=k:=by
  have:=congrArg List.length hL
  rw[yE]at this
  exact (cg _).symm.trans this
 refine ak (p:=(j:Int)<al.length) (fun ab=>?_) (fun aq=>?_)
 rotate_left
 ·have aq:¬(j:Int)<al.length:=aq
  rw[ek (by omega)]at hL
  subst wD
  exact .perm ((List.Perm.cons _ oh).trans (List.Perm.swap _ _ _)) (.done ⟨bo,rs,rfl,rfl,ho,hL⟩)
 have ab:j<al.length:=by omega
 obtain⟨z,hz⟩:∃z,al[j]=z:=⟨_,rfl⟩
 have ij:=hr z (hz▸bP ab)
 have hzi:al[((j:Nat):Int).toNat]?=some z:=by rw[bC,bh ab,hz]
 have fi:al.take (j+1)=al.take j++[z]:=by rw[ff ab,hz]
 obtain⟨w,hw⟩:∃w:Nat,ow.getD z.toNat 0=(w:Int):=⟨(ow.getD z.toNat 0).toNat,by have:=jJ z.toNat (by omega);omega⟩
 have sY:w<k:=by have:=jJ z.toNat (by omega);omega
 have hzw:ow[z.toNat]?=some (w:Int):=by rw[← hw,aZ,bh (by omega)];rfl
 obtain⟨A,r,B,rfl,hA⟩:∃A r B,rs=A++r::B∧w=A.length:=⟨rs.take w,rs[w]'(by omega),rs.drop (w+1),by simp,by rw[List.length_take];omega⟩
 obtain⟨c,acc,rl⟩:=r
 have hAw:((w:Nat):Int)=A.length:=by rw[hA]
 rw[Lv]
 have O0:=abB A (c,acc,rl) B hAw
 have jB:=fun r2=>Z2 A (c,acc,rl) r2 B hAw
 have NR:(mO k ow (al.take j))[w]?=some rl:=by rw[← hL,hA];exact abA A (c,acc,rl) B
 have gV:=Yb hw NR
 rw[← fi]at gV
 generalize hC:kb (A++(c,acc,rl)::B)=C at O0 jB
 have mY:zp (c,acc,rl):=ho _ (jM _ (cj ..))
 have hCl:C.length=k:=by rw[← hC,Z3];exact wD
 have hrb:rl.length≤100000:=by
  rw[C1 sY]at NR
  rw[← Option.some.inj NR]
  exact eH (Gg _ _) (by rw[sk];omega)
 have iz:∀v' bD,Acc 1 (rl.length+1) v' bD (ao rl++[.int .i64 z])→j+1≤al.length∧(∀r∈A++(.via v',bD,rl++[z])::B,zp r)∧lq (A++(.via v',bD,rl++[z])::B)=mO k ow (al.take (j+1)):=fun v' bD h'=>by
  have pc:(rl++[z]:List Int).length=rl.length+1:=bZ
  refine⟨ab,fun r hr=>?_,?_⟩
  ·rcases bV.1 hr with hr | hr
   ·exact ho r (gY _ hr)
   ·rcases eB.1 hr with rfl | hr
    ·refine .inr ⟨v',rfl,?_⟩
     show Acc 1 (rl++[z]:List Int).length v' bD (ao (rl++[z]))
     rw[pc,show ao (rl++[z])=ao rl++[.int .i64 z] from cW]
     exact h'
    ·exact ho r (jM _ (dp _ hr))
  ·rw[gV,← hL,hA];exact Z1 A (c,acc,rl) (.via v',bD,rl++[z]) B
 refine aG.mk rfl (bE.mk z (by omega) hzi ?_)
 refine aw [] (VS bx ow z w _ ij.1 hzw) ?_
 refine aw [] (VS bx ow z w _ ij.1 hzw) ?_
 refine aM ?_
 rcases mY with ⟨q1,q2,q3⟩ | ⟨v,q1,q2⟩
 ·have q1:c=.ai:=q1
  have q2:acc=[]:=q2
  have q3:rl=[]:=q3
  subst q1
  subst q2
  subst q3
  refine bf 1 rfl (jf rfl O0) ?_
  intro aB
  refine jP ((aB,[.int .i64 z])::(bx,[.ae (.int .i64) ow])::(bo,C)::lP A) (Acc.nil (e:=1)) (.af 0 aB 0 1 _ rfl (cI rfl)) rfl (by omega) (by decide) (by decide) (fun v' bD h'=>?_)
  refine aM ?_
  refine cT 2 rfl ((rH rfl rfl (by omega)).trans (congrArg some (jB (.via v',bD,[]++[z])))) ?_
  exact aY (j+1,A++(.via v',bD,[]++[z])::B) (by show al.length-(j+1)<al.length-j;omega) (iz v' bD h') ⟨rfl,rfl,rfl,rfl,aS (by omega),trivial⟩ (.drop 0 1 (aL (by rw[Lv];rfl)))
 ·have q1:c=.via v:=q1
  have q2:Acc 1 rl.length v acc (ao rl):=q2
  subst q1
  refine bf 1 rfl (jf rfl O0) ?_
  intro aB
  refine jP (k:=rl.length) (n:=1) ((aB,[.int .i64 z])::(bx,[.ae (.int .i64) ow])::(bo,C)::lP A) q2 (.af 0 aB 0 1 _ rfl (cI rfl)) rfl (by omega) (by decide) (by decide) (fun v' bD h'=>?_)
  refine aM ?_
  refine cT 2 rfl ((rH rfl rfl (by omega)).trans (congrArg some (jB (.via v',bD,rl++[z])))) ?_
  exact aY (j+1,A++(.via v',bD,rl++[z])::B) (by show al.length-(j+1)<al.length-j;omega) (iz v' bD h') ⟨rfl,rfl,rfl,rfl,aS (by omega),trivial⟩ (.drop 0 1 (aL (by rw[Lv];rfl)))
theorem RS{k:Nat}{x:Int}(hx:0≤x∧x<(k:Int)):∀(p o:List Int),(∀i:Nat,i<o.length→0≤o.getD i 0∧o.getD i 0<(k:Int))→∀i:Nat,i<o.length→0≤(sU x p o).getD i 0∧(sU x p o).getD i 0<(k:Int)
 | [],_,h=>h
 |a::p,o,h=>by
  have ih:=RS hx p (o.set a.toNat x) fun i hi=>by
   rw[cR]at hi
   rw[aZ,fj]
   by_cases e:a.toNat=i
   ·subst e;rw[ah rfl,ah hi];exact hx
   ·rw[ag e,← aZ];exact h i hi
  rw[cR]at ih
  exact ih
theorem RR{n k:Nat}{Q:List (List Int)}(hk:1≤k)(aX:∀p∈Q,p≠[])(gx:Q.flatten.length≤n):∀j,j≤Q.length→∀i:Nat,i<n→0≤(r7 n k Q j).getD i 0∧(r7 n k Q j).getD i 0<(k:Int)
 | 0,_,i,hi=>by
  show 0≤(List.replicate n (0:Int)).getD i 0∧(List.replicate n (0:Int)).getD i 0<(k:Int)
  rw[aZ,wV,ah hi]
  show (0:Int)≤0∧(0:Int)<k
  omega
 |j+1,hj,i,hi=>by
  have ih:=RR hk aX gx j (by omega)
  have ab:j<Q.length:=hj
  have uv:=mG.2 (aX _ (bP ab))
  have h1:=QP Q (j+1)
  rw[List.take_succ_eq_append_getElem ab,List.flatten_append,List.length_append,show [Q[j]].flatten=Q[j] by simp]at h1
  have ha:(Q.take j).flatten.length<n:=by omega
  have hx:k*(Q.take j).flatten.length / n<k:=by
   refine Nat.div_lt_of_lt_mul ?_
   rw[Co n k]
   exact Nat.mul_lt_mul_of_pos_left ha (by omega)
  have hl:=AG n k Q j
  refine RS (k:=k) ⟨Kv _,Int.ofNat_lt.2 hx⟩ _ _ (fun i hi=>ih i (by omega)) i (by omega)
theorem Y8{n k:Nat}{l:List bK}(hk:1≤k)(aX:∀p∈kq n l,p≠[])(gx:(kq n l).flatten.length≤n):∀i:Nat,i<n→0≤(lT n k l).getD i 0∧(lT n k l).getD i 0<(k:Int):=RR hk aX gx _ (a8 _)
def zE(n k:Nat)(l:List bK)(fr:List Int):List (List Int):=mO k (lT n k l) (oX n l fr).reverse
theorem agz(n:Nat)(l:List bK)(fr:List Int)(k:Nat)(σ:Hp)(hl:l.length≤100000)(hf:fr.length≤100000)(dY:fF n l=true)(n5:∀x∈fr,0≤x∧x<(n:Int))(h1:1≤k)(h2:k≤64):ACalls Tryz.prog 160 [.int .i64 n,.ae dB l,.ae (.int .i64) fr,.int .i64 k] σ (fun r σ'=>r=.tup [.ae (.slice (.int .i64)) (zE n k l fr),.int .i64 0]∧σ'=σ∧kn n (oX n l fr)∧(∀i:Nat,i<n→0≤(lT n k l).getD i 0∧(lT n k l).getD i 0<(k:Int))∧kn n (kq n l).flatten∧kn n (qB n l fr)):=by
 have hn:1≤n∧n≤256:=by
  unfold fF at dY
  simp only[bO,decide_eq_true_eq]at dY
  omega
 refine ar Tryz.func160 ?_
 refine aw [] (Xo k _ h1 h2) ?_
 refine .mk [] _ (afg n l fr _ hl hf dY n5) ?_
 rintro _ _ ⟨ba,rfl,rfl,hA,aX,gx,Fp⟩
 have jJ:=Y8 (k:=k) h1 aX (wP gx.len)
 refine aw [] (aff n l k _ hl dY h1 h2) ?_
 intro bx
 refine aj 0 ?_
 have hlen:=hA.len
 unfold zE
 have nZ:(lT n k l).length=n:=AG n k _ _
 generalize lT n k l=ow at jJ nZ
 generalize oX n l fr=L at hA hlen
 refine aw [1] (ad1 ba L _ _ rfl (by omega)) ?_
 refine .cJ (args':=[.ae (.int .i64) L.reverse,.int .i64 k,.fn (.func 219) [] [.ptr bx 0]]) 0 ba 0 L.length 1 _ (.int .i64) L.reverse rfl (by rw[gz,ek (by rw[nq,tg,eA];exact a8 _)];exact uY _) ⟨tg,rfl,by decide⟩ (cd .here (.refl _)) ?_
 refine .mk [] _ (agM n k bx ow L.reverse _ h1 h2 (by rw[tg];omega) (fun x hx=>hA.rg x (yw.1 hx)) nZ jJ) ?_
 rintro _ _ ⟨ls,rfl,rfl,rfl⟩
 exact .drop 0 1 (.done ⟨rfl,rfl,hA,jJ,gx,Fp⟩)
def oN(b:Nat)(a ws:List Int):Nat→List Int
 | 0=>ws
 |i+1=>(oN b a ws i).set (b+i) (wd a i)
theorem K7(b:Nat)(a ws:List Int)(k:Nat):(oN b a ws k).length=ws.length:=by
 induction k with
 |zero=>rfl
 |succ k ih=>rw[oN,cR,ih]
theorem RP{b:Nat}{a ws:List Int}:∀(k:Nat),b+k≤1000000000→BE (b:Int) a ws k=oN b a ws k
 | 0,_=>rfl
 |k+1,h=>by
  rw[BE,oN,RP k (by omega),show wr ((b:Int)+(k:Int))=((b+k:Nat):Int) from (iG (by omega) (by omega)).trans (uG b k).symm]
  exact lJ _
def nw(N W:Nat)(st:Nat→List Int)(ws:List Int):Nat→List Int
 | 0=>ws
 |v+1=>(oN (v*W) (st v) (nw N W st ws v) W).set (N*W+v) 1
theorem Az(N W:Nat)(st:Nat→List Int)(ws:List Int)(k:Nat):(nw N W st ws k).length=ws.length:=by
 induction k with
 |zero=>rfl
 |succ k ih=>rw[nw,cR,K7,ih]
def kz(b r:Nat)(x ws:List Int):Nat→List Int
 | 0=>ws
 |i+1=>(kz b r x ws i).set (b+2+(1+i) % r) (x.getD i 0)
theorem Rh(b r:Nat)(x ws:List Int)(k:Nat):(kz b r x ws k).length=ws.length:=by
 induction k with
 |zero=>rfl
 |succ k ih=>rw[kz,cR,ih]
theorem UR(b r:Nat)(x ws:List Int)(y:Int):∀k,kz b r x (ws.set (b+1) y) k=(kz b r x ws k).set (b+1) y
 | 0=>rfl
 |k+1=>by rw[kz,kz,UR b r x ws y k,List.set_comm _ _ (by omega)]
def oo(b r:Nat)(x ws:List Int):List Int:=kz b r x ((ws.set b 1).set (b+1) ((1+x.length:Nat):Int)) x.length
theorem Zt(b r:Nat)(x ws:List Int):(oo b r x ws).length=ws.length:=by rw[oo,Rh,cR,cR]
theorem acF(b r:Nat)(x ws:List Int):(kz b r x ((ws.set b 1).set (b+1) 1) x.length).set (b+1) ((1+x.length:Nat):Int)=oo b r x ws:=by
 rw[← UR,List.set_set];rfl
def lB(b0 d r:Nat)(ls:List (List Int))(ws:List Int):Nat→List Int
 | 0=>ws
 |w+1=>oo (b0+w*d) r (ls.getD w []) (lB b0 d r ls ws w)
theorem QD(b0 d r:Nat)(ls:List (List Int))(ws:List Int)(k:Nat):(lB b0 d r ls ws k).length=ws.length:=by
 induction k with
 |zero=>rfl
 |succ k ih=>rw[lB,Zt,ih]
def zB(N W:Nat)(st:Nat→List Int)(ls:List (List Int))(ws:List Int):List Int:=
 lB (N*W+N+1) (N+3) (N+1) ls ((nw N W st ws N).set (N*W+N) (N:Int)) ls.length
theorem XY(N W:Nat)(st:Nat→List Int)(ls:List (List Int))(ws:List Int):(zB N W st ls ws).length=ws.length:=by rw[zB,QD,cR,Az]
theorem Bh(x:List Int)(i a:Nat)(z:Int)(hi:i<x.length):(x.set i z).getD a 0=if a=i then z else x.getD a 0:=by
 rw[aZ,aZ,fj]
 by_cases h:a=i
 ·subst h;rw[ah rfl,ah hi,ah rfl];rfl
 ·rw[ag (fun e=>h e.symm),ag h]
theorem ry(x:List Int)(i a:Nat)(z:Int)(h:a≠i):(x.set i z).getD a 0=x.getD a 0:=by
 rw[aZ,aZ,fj,ag (fun e=>h e.symm)]
theorem SP{b:Nat}{l ws:List Int}{a:Nat}:∀k,b+k≤a→(oN b l ws k).getD a 0=ws.getD a 0
 | 0,_=>rfl
 |k+1,h=>by rw[oN,ry _ _ _ _ (by omega)];exact SP k (by omega)
set_option maxHeartbeats 4000000
def nE(s:Sy)(l:Lay):List (List Int):=zE (nN s) l.k.toNat s.aO s.entry
def zA(s:Sy)(l:Lay)(ws:List Int):List Int:=zB (nN s) (nW l) (fun v=>fp s v) (nE s l) ws
theorem abF{s:Sy}(hg:Good s):fF s.n s.aO=true:=by
 unfold fF
 have h1:=hg.n1
 have h2:=hg.n2
 have h3:=hg.el
 simp only[bO,decide_eq_true_eq,fK]
 exact⟨⟨⟨h1,h2⟩,h3⟩,fun e he=>⟨kW.2 (hg.ui e he).1,kW.2 (hg.ui e he).2⟩⟩
theorem Qs(s:Sy)(l:Lay):(nE s l).length=l.k.toNat:=yE _ _ _
theorem YN{f:FuncId}{xs:List AV}{σ ko σ2:Hp}{x:AV}(h:ACalls Tryz.prog f xs σ (ay x ko))(e:ko=σ2):ACalls Tryz.prog f xs σ (ay x σ2):=e▸h
theorem aaz{s:Sy}{l:Lay}(hs:LS s l){v:Nat}(hv:v<nN s)(us x:List Int):iv (BE (bg l v) x us (cw l.words)) (wr (cO l+(v:Nat))) 1=(oN (v*nW l) x us (nW l)).set (nN s*nW l+v) 1:=by
 have h1:=hs.nn
 have h2:=hs.ww
 have h3:=sF h1.2.2 h2.2
 have h4:(v+1)*nW l≤nN s*nW l:=lI _ hv
 rw[qe]at h4
 rw[hs.Wy hv,hs.zy hv,RP _ (by show _+nW l≤_;omega)]
 exact lJ _
theorem Zr{s:Sy}{l:Lay}(hs:LS s l)(us:List Int):iv us (cq l) (wu s.n)=us.set (nN s*nW l+nN s) (nN s:Int):=by
 have h1:=hs.nn
 rw[hs.count,lJ,show wu s.n=(nN s:Int) by show IntKind.u64.wrap s.n=_;rw[IntKind.wrap_u64];omega]
theorem Zp{a:Nat}(ha:a≤1000000)(us:List Int):iv (iv us (a:Int) 1) (eR (a:Int)) 1=(us.set a 1).set (a+1) 1:=by
 rw[lJ,show eR (a:Int)=((a+1:Nat):Int) from (iG (by omega) (by omega)).trans (uG a 1).symm,lJ]
theorem Zq{s:Sy}{l:Lay}(hs:LS s l){a i:Nat}(ha:a≤1000000)(hi:i≤1000000):wr (wr ((a:Int)+2)+(wr (1+(i:Int))).tmod (eC l))=((a+2+(1+i) % (nN s+1):Nat):Int):=by
 have h1:=hs.nn
 have hm:=ob (1+i) (show 0<nN s+1 by omega)
 rw[iG (z:=(a:Int)+2) (by omega) (by omega),iG (z:=1+(i:Int)) (by omega) (by omega),hs.room.1,show (1+(i:Int)).tmod ((nN s+1:Nat):Int)=(((1+i) % (nN s+1):Nat):Int) by rw[show (1+(i:Int))=((1+i:Nat):Int) by omega];rfl]
 rw[iG (by omega) (by omega)]
 omega
theorem aay{a r:Nat}(ha:a≤1000000)(x us:List Int)(hx:x.length≤1000000):iv (kz a r x ((us.set a 1).set (a+1) 1) x.length) (wr ((a:Int)+1)) (wu (wr (1+(x.length:Int))))=oo a r x us:=by
 rw[iG (z:=(a:Int)+1) (by omega) (by omega),iG (z:=1+(x.length:Int)) (by omega) (by omega),show wu (1+(x.length:Int))=((1+x.length:Nat):Int) by show IntKind.u64.wrap _=_;rw[IntKind.wrap_u64];omega,show (a:Int)+1=((a+1:Nat):Int) by omega,lJ]
 exact acF _ _ _ _
theorem aax{us:List Int}{b:Nat}{z:Int}(hz:0≤z)(fR:z≤1000000):iv us (b:Int) (wu z)=us.set b z:=by
 rw[lJ,show wu z=z by show IntKind.u64.wrap _=_;rw[IntKind.wrap_u64];omega]
structure kE(s:Sy)(l:Lay):Prop where
 all:kn (nN s) (oX (nN s) s.aO s.entry)
 own:∀i:Nat,i<nN s→0≤(lT (nN s) l.k.toNat s.aO).getD i 0∧(lT (nN s) l.k.toNat s.aO).getD i 0<(l.k.toNat:Int)
 flat:kn (nN s) (kq (nN s) s.aO).flatten
 post:kn (nN s) (qB (nN s) s.aO s.entry)
theorem kE.rows{s:Sy}{l:Lay}(h:kE s l)(hn:nN s≤256):∀x∈nE s l,x.length≤256∧∀z∈x,0≤z∧z<(nN s:Int):=by
 intro x hx
 unfold nE zE mO at hx
 obtain⟨u,_,rfl⟩:=dT.1 hx
 have hlen:=Gg (fun y=>decide ((lT (nN s) l.k.toNat s.aO).getD y.toNat 0=(u:Int))) (oX (nN s) s.aO s.entry).reverse
 rw[tg]at hlen
 have:=h.all.len
 exact⟨by omega,fun z hz=>h.all.rg z (yw.1 (oe.1 hz).1)⟩
theorem af7(s:Sy)(l:Lay)(k:Nat)(σ:Hp)(hf:Fit s)(hg:Good s)(hk:l.k=k)(h1:1≤k)(h2:k≤64):ACalls Tryz.prog 160 [.int .i64 s.n,.ae dB s.aO,.ae (.int .i64) s.entry,.int .i64 k] σ (fun r σ'=>r=.tup [.ae (.slice (.int .i64)) (nE s l),.int .i64 0]∧σ'=σ∧kE s l):=by
 have hn:s.n=(nN s:Int):=by have:=hg.n1;unfold nN;omega
 have hr:=abF hg
 have he:=hg.ent
 have ei:k=l.k.toNat:=by omega
 subst ei
 unfold nE
 rw[hn]at hr he ⊢
 refine (agz (nN s) s.aO s.entry l.k.toNat σ hf.BN hf.BG hr he h1 h2).mono ?_
 rintro _ _ ⟨rfl,rfl,hA,jJ,gx,Fp⟩
 exact⟨rfl,rfl,hA,jJ,gx,Fp⟩
theorem afp(s:Sy)(k:Nat)(p q:Nat)(ws:List Int)(σ:Hp)(hf:Fit s)(he:du s k=0)(eF:nQ (iJ s k)≤ws.length):ACalls Tryz.prog 97 [kK p,.agg (aW s),.int .i64 k] (bM p q ws σ) (fun r σ'=>r=.int .i64 0∧σ'=bM p q (zA s (iJ s k) ws) σ∧kE s (iJ s k)):=by
 obtain⟨hs,J7⟩:=Eb hf he
 obtain⟨ya,fR,mw⟩:=hs.size
 obtain⟨hc,n0,ei⟩:=LY he
 have hg:=xB hc
 have hn:=hs.nn
 have hw:=hs.ww
 have fv:=hs.low
 have hN:=hs.n
 refine ar Tryz.func97 ?_
 obtain⟨l,hl⟩:∃l,iJ s k=l:=⟨_,rfl⟩
 have e1:AV.tup [.agg (ib (iJ s k)),.int .i64 (du s k)]=.tup [.agg (ib l),.int .i64 (du s k)]:=by rw[hl]
 rw[hl]at hs J7 ya fR mw hw fv hN eF ⊢
 generalize hE:du s k=E at e1 he
 intro b4
 refine aa 0 ?_
 refine aw [] (ot (It s k _ hf) (hE▸e1)) ?_
 intro b7
 refine aj 0 ?_
 refine cX (fun c3=>?_) (fun c3=>?_)
 ·have c3:¬(du s (↑k:Int)=0):=by simpa using c3
  exact absurd (hE.trans he) c3
 refine aw [] (dG _ _ _) ?_
 refine .sched [1,3] (upto [1,3] 5 0) (by kernel_rfl) ?_
 refine⟨_,mLen_,?_⟩
 refine aI [3,3] (Xp p q ws _) ?_
 refine aa 0 ?_
 refine aI [] (VW _ _) ?_
 refine ak (p:=(ws.length:Int)<ec l l.k) (fun c4=>?_) (fun c4=>?_)
 ·omega
 refine aa 1 ?_
 refine bQ (S:=Nat) (fun v=>[(0,kK p),(2,.int .i64 k),(4,.ptr b4 0),(7,.ptr b7 0),(36,.int .i64 s.n),(37,.int .i64 v)]) (fun v=>(b7,ib l)::(b4,aW s)::bM p q (nw (nN s) (nW l) (fun v=>fp s v) ws v) σ) (fun v=>v≤nN s) (fun v=>nN s-v) 0 ⟨bA _,⟨rfl,rfl,rfl,rfl,rfl,rfl,trivial⟩,rfl⟩ ?_
 intro v g o6
 have hv:v≤nN s:=o6
 clear o6
 have wz:=Az (nN s) (nW l) (fun v=>fp s v) ws v
 refine ak (p:=(v:Int)<s.n) (fun ab=>?_) (fun aq=>?_)
 ·have ab:v<nN s:=by omega
  have qD:jg s v=0:=(GZ hc ⟨by omega,by omega⟩).symm
  refine aa 1 ?_
  refine aw [] (ab0 s v _ hf) ?_
  rw[ve qD]
  refine aa 0 ?_
  refine aw [] (Iu l v _) ?_
  refine aw [3,3] (aiO p q _ _ _ _ _ _) ?_
  refine .sched [2] (upto [2] 10 0) (by kernel_rfl) ?_
  refine aa 2 ?_
  refine aI [] (A9 l _) ?_
  refine fo.mk hStore_ ?_
  refine⟨_,mStore_,?_⟩
  refine aw [] (aStore p q _ _ _ _) ?_
  exact aY (v+1) (by show nN s-(v+1)<nN s-v;omega) ab ⟨rfl,rfl,rfl,rfl,rfl,aS (by omega),trivial⟩ (.pull [3,3] (aL (congrArg (fun z=>_::_::bM p q z σ) (aaz hs ab _ _))))
 have aq:v=nN s:=by omega
 subst aq
 obtain⟨us,gu⟩:∃us,nw (nN s) (nW l) (fun v=>fp s v) ws (nN s)=us:=⟨_,rfl⟩
 rw[gu]at wz ⊢
 refine .sched [2] (upto [2] 11 0) (by kernel_rfl) ?_
 refine aa 0 ?_
 refine aI [] (A9 l _) ?_
 refine aa 1 ?_
 refine fo.mk hStore_ ?_
 refine⟨_,mStore_,?_⟩
 refine aw [3,3] (aStore p q _ _ _ _) ?_
 refine aa 3 ?_
 refine aa 3 ?_
 refine aa 3 ?_
 refine .mk [] _ (af7 s l k _ hf hg J7 (by omega) (by omega)) ?_
 rintro _ τ ⟨rfl,Ox,cb⟩
 subst τ
 have hx:=cb.rows hn.2.2
 have df:=Qs s l
 have ug:zA s l ws=lB (nN s*nW l+nN s+1) (nN s+3) (nN s+1) (nE s l) ((nw (nN s) (nW l) (fun v=>fp s v) ws (nN s)).set (nN s*nW l+nN s) (nN s:Int)) (nE s l).length:=rfl
 rw[gu]at ug
 generalize nE s l=ls at hx df ug
 refine bQ (S:=Nat) (fun w=>[(0,kK p),(7,.ptr b7 0),(85,.ae (.slice (.int .i64)) ls),(86,.int .i64 ls.length),(87,.int .i64 w)]) (fun w=>bM p q (lB (nN s*nW l+nN s+1) (nN s+3) (nN s+1) ls (us.set (nN s*nW l+nN s) (nN s:Int)) w) ((b7,ib l)::(b4,aW s)::σ)) (fun w=>w≤ls.length) (fun w=>ls.length-w) 0 ⟨bA _,⟨rfl,rfl,rfl,rfl,rfl,trivial⟩,congrArg (fun z=>bM p q z _) (Zr hs us)⟩ ?_
 intro w g2 hw0
 have I5:w≤ls.length:=hw0
 clear hw0
 refine ak (p:=(w:Int)<(ls.length:Int)) (fun ab=>?_) (fun aq=>?_)
 rotate_left
 ·have aq:w=ls.length:=by omega
  subst aq
  rw[ug]
  exact .drop 2 2 (.done ⟨rfl,rfl,cb⟩)
 have ab:w<ls.length:=by omega
 obtain⟨x,iC⟩:∃x:List Int,ls[w]=x:=⟨_,rfl⟩
 obtain⟨OC,hxz⟩:=hx _ (bP ab)
 rw[iC]at OC hxz
 have hxd:ls.getD w []=x:=by rw[aZ,bh ab,iC];rfl
 have Fz:=hs.vI (k:=w) (by omega)
 have cU:lB (nN s*nW l+nN s+1) (nN s+3) (nN s+1) ls (us.set (nN s*nW l+nN s) (nN s:Int)) (w+1)=oo (nN s*nW l+nN s+1+w*(nN s+3)) (nN s+1) x (lB (nN s*nW l+nN s+1) (nN s+3) (nN s+1) ls (us.set (nN s*nW l+nN s) (nN s:Int)) w):=by rw[lB,hxd]
 have uB:nN s*nW l+nN s+1+w*(nN s+3)≤1000000:=by
  have h3:=sF hn.2.2 hw.2
  have h4:w*(nN s+3)≤64*259:=uF (by omega) (by omega)
  omega
 refine aG.mk rfl (bE.mk x (by omega) ((get_some ab).trans (congrArg some iC)) ?_)
 refine aa 2 ?_
 refine aw [] (ot (za l w _) (congrArg (fun z=>AV.agg [.int .i64 z,.int .i64 (eC l)]) Fz)) ?_
 generalize nN s*nW l+nN s+1+w*(nN s+3)=a at Fz cU uB
 generalize lB (nN s*nW l+nN s+1) (nN s+3) (nN s+1) ls (us.set (nN s*nW l+nN s) (nN s:Int)) w=vs at cU
 intro b16
 refine aj 0 ?_
 refine aa 0 ?_
 refine aw [2,2] (YN (afb p q vs a (eC l) _) (congrArg (fun z=>bM p q z _) (Zp uB vs))) ?_
 refine bQ (S:=Nat) (fun i=>[(0,kK p),(7,.ptr b7 0),(15,.ae (.int .i64) x),(16,.ptr b16 0),(85,.ae (.slice (.int .i64)) ls),(86,.int .i64 ls.length),(87,.int .i64 w),(98,.ae (.int .i64) x),(99,.int .i64 x.length),(100,.int .i64 i)]) (fun i=>bM p q (kz a (nN s+1) x ((vs.set a 1).set (a+1) 1) i) ((b16,[.int .i64 a,.int .i64 (eC l)])::(b7,ib l)::(b4,aW s)::σ)) (fun i=>i≤x.length) (fun i=>x.length-i) 0 ⟨bA _,⟨rfl,rfl,rfl,rfl,rfl,rfl,rfl,rfl,rfl,rfl,trivial⟩,rfl⟩ ?_
 intro i g3 dZ
 have hi:i≤x.length:=dZ
 clear dZ
 refine ak (p:=(i:Int)<(x.length:Int)) (fun dA=>?_) (fun lV=>?_)
 ·have dA:i<x.length:=by omega
  obtain⟨z,hz⟩:∃z,x[i]=z:=⟨_,rfl⟩
  have iB:=hxz z (hz▸bP dA)
  have hzd:x.getD i 0=z:=by rw[aZ,bh dA,hz];rfl
  have Xc:kz a (nN s+1) x ((vs.set a 1).set (a+1) 1) (i+1)=(kz a (nN s+1) x ((vs.set a 1).set (a+1) 1) i).set (a+2+(1+i) % (nN s+1)) z:=by rw[kz,hzd]
  have s7:=Zq hs (i:=i) uB (by omega)
  generalize kz a (nN s+1) x ((vs.set a 1).set (a+1) 1) i=ys at Xc
  have an:iv ys (wr (wr ((a:Int)+2)+(wr (1+(i:Int))).tmod (eC l))) (wu z)=kz a (nN s+1) x ((vs.set a 1).set (a+1) 1) (i+1):=by
   rw[s7,aax (by omega) (by omega),Xc]
  refine aG.mk rfl (bE.mk z (by omega) ((get_some dA).trans (congrArg some hz)) ?_)
  refine .sched [7] (upto [7] 16 0) (by kernel_rfl) ?_
  refine aa 2 ?_
  refine aa 3 ?_
  refine aI [] (M8 l _) ?_
  refine aG.mk (by rw[hs.room.1];omega) ?_
  refine fo.mk hStore_ ?_
  refine⟨_,mStore_,?_⟩
  refine aw [] (aStore p q _ _ _ _) ?_
  exact aY (i+1) (by show x.length-(i+1)<x.length-i;omega) dA ⟨rfl,rfl,rfl,rfl,rfl,rfl,rfl,rfl,rfl,aS (by omega),trivial⟩ (aL (congrArg (fun z=>bM p q z _) an))
 have lV:i=x.length:=by omega
 subst lV
 refine aa 2 ?_
 refine⟨_,mStore_,?_⟩
 refine aw [] (aStore p q _ _ _ _) ?_
 exact aY (w+1) (by show ls.length-(w+1)<ls.length-w;omega) ab ⟨rfl,rfl,rfl,rfl,aS (by omega),trivial⟩ (.drop 2 1 (aL (congrArg (fun z=>bM p q z _) ((aay uB x vs (by omega)).trans cU.symm))))
set_option maxHeartbeats 4000000
def jk(p:Int)(n:Nat):Nat:=if n<1 then 0 else (p % (n:Int)).toNat
theorem Dw{p:Int}{n:Nat}(h:0<n):jk p n<n:=by
 unfold jk
 rw[ag (by omega)]
 have h1:=Kh p (show (n:Int)≠0 by omega)
 have h2:=Kt p (show (0:Int)<n by omega)
 omega
theorem adw{p:Int}{n:Nat}(h0:0<n)(hn:n≤1000000)(h:p.tmod n<0):IntKind.i64.wrap (p.tmod n+n)=((jk p n:Nat):Int):=by
 have h1:=Kh p (show (n:Int)≠0 by omega)
 have h2:=Kt p (show (0:Int)<n by omega)
 have e:= @Int.tmod_eq_emod p n
 unfold jk
 rw[ag (by omega),IntKind.wrap_i64]
 split at e <;> omega
theorem adv{p:Int}{n:Nat}(h0:0<n)(h:¬p.tmod n<0):p.tmod n=((jk p n:Nat):Int):=by
 have h1:=Kh p (show (n:Int)≠0 by omega)
 have h2:=Kt p (show (0:Int)<n by omega)
 have e:= @Int.tmod_eq_emod p n
 unfold jk
 rw[ag (by omega)]
 split at e <;> omega
theorem abd{p:Int}{n:Nat}(h:(n:Int)<1):(0:Int)=((jk p n:Nat):Int):=by
 unfold jk
 rw[ah (by omega)];rfl
theorem IM(p d:Int)(n:Nat)(σ:Hp)(hn:n≤1000000):ACalls Tryz.prog 70 [.agg [.int .i64 p,.int .i64 d],.int .i64 n] σ (ay (.int .i64 (jk p n)) σ):=by
 refine ar Tryz.func70 ?_
 intro aB
 refine ak (fun c2=>?_) (fun c2=>?_)
 ·have c2:(↑n:Int)<1:=c2
  exact .drop 0 1 (.done ⟨aQ (abd (by assumption)),rfl⟩)
 ·have c2:¬((↑n:Int)<1):=c2
  refine aa 0 ?_
  refine eD ?_
  refine ak (fun c3=>?_) (fun c3=>?_)
  ·have c3:p.tmod (↑n:Int)<0:=c3
   exact .drop 0 1 (.done ⟨aQ (adw (by omega) hn (by assumption)),rfl⟩)
  ·have c3:¬(p.tmod (↑n:Int)<0):=c3
   exact .drop 0 1 (.done ⟨aQ (adv (by omega) (by assumption)),rfl⟩)
def jO(l:List Bool):List AV:=l.map AV.bool
theorem tK{dn:List Bool}{k:Nat}(h:k<dn.length){b:Bool}(hb:dn[k]=b):(jO dn)[0+((k:Int)).toNat*1]?=some (.bool b):=by
 simp[jO,h,hb]
theorem agp{dn:List Bool}{k:Nat}(h:k<dn.length)(hd:dn[k]=false):dn.all id=false:=by
 cases ha:dn.all id with
 |false=>rfl
 |true=>
  have:=fK.1 ha _ (bP h)
  rw[hd]at this
  cases this
theorem IT(sv:AV)(u:Int)(b:Nat)(dn:List Bool)(σ:Hp)(hn:dn.length≤1000000):ACalls Tryz.prog 42 [.agg [sv,.af b 0 dn.length 1,.int .i64 u]] ((b,jO dn)::σ) (ay (.bool (dn.all id)) ((b,jO dn)::σ)):=by
 refine ar Tryz.func42 ?_
 intro aB
 refine aa 0 ?_
 refine bQ (S:=Nat) (fun s=>[(6,.af b 0 dn.length 1),(7,.int .i64 dn.length),(8,.int .i64 s)]) (fun _=>(aB,[sv,.af b 0 dn.length 1,.int .i64 u])::(b,jO dn)::σ) (fun s=>s≤dn.length∧(dn.take s).all id=true) (fun s=>dn.length-s) 0 ⟨⟨bA _,rfl⟩,⟨rfl,rfl,rfl,trivial⟩,rfl⟩ ?_
 rintro k g ⟨hk,cQ⟩
 refine ak (fun h=>?_) (fun h=>?_)
 ·have h:(k:Int)<dn.length:=h
  have s8:k<dn.length:=by omega
  refine aM ?_
  cases hd:dn[k] with
  |true=>
   refine bf 1 rfl (tK s8 hd) ?_
   refine aY (k+1) ?_ ⟨s8,?_⟩ ⟨rfl,rfl,aS (by omega),trivial⟩ (aL rfl)
   ·show dn.length-(k+1)<dn.length-k;omega
   ·rw[ff s8,FX,cQ,hd];rfl
  |false=>
   refine bf 1 rfl (tK s8 hd) ?_
   exact .drop 0 1 (.done ⟨congrArg AV.bool (agp s8 hd).symm,rfl⟩)
 ·have h:¬(k:Int)<dn.length:=h
  exact .drop 0 1 (.done ⟨congrArg AV.bool (by rw[← ek (show dn.length≤k by omega)];exact cQ.symm),rfl⟩)
def kJ(l:List Int):List AV:=l.map (AV.int .i64)
def isNil:AV→Bool
 |.nilif=>true
 |_=>false
theorem adU(n:Nat):cD [.bool false] n=jO (List.replicate n false):=by
 unfold jO
 induction n with
 |zero=>rfl
 |succ n ih=>simp[cD,ih,List.replicate_succ]
theorem adT(n:Nat):cD [.int .i64 0] n=kJ (List.replicate n 0):=by
 unfold kJ
 induction n with
 |zero=>rfl
 |succ n ih=>simp[cD,ih,List.replicate_succ]
def tq(L:List AV)(k:Nat):List Bool:=(L.take k).map isNil++List.replicate (L.length-k) false
theorem acG(L:List AV):tq L 0=List.replicate L.length false:=by simp[tq]
theorem Lk(L:List AV)(k:Nat)(h:k≤L.length):(tq L k).length=L.length:=by simp[tq];omega
theorem UW(L:List AV):tq L L.length=L.map isNil:=by simp[tq]
theorem UU(L:List AV)(k:Nat)(h:k<L.length):(tq L k).set k (isNil L[k])=tq L (k+1):=by
 unfold tq
 rw[show L.length-k=(L.length-(k+1))+1 by omega,KM,ff h,cW]
 have hl:((L.take k).map isNil).length=k:=by simp;omega
 rw[KL _ _ (by omega),hl,qd]
 simp
theorem Br{L:List AV}{k:Nat}(h:k<L.length){x:AV}(hx:L[k]=x):L[0+((k:Int)).toNat*1]?=some x:=by
 rw[show 0+((k:Int)).toNat*1=k by omega,bh h,hx]
theorem tJ{dn:List Bool}{k:Nat}(b:Bool)(h:k<dn.length):kX ⟨.bool,1,1,[.bool false]⟩ (jO dn) (0+((k:Int)).toNat*1) (.bool b)=some (jO (dn.set k b)):=by
 have e:0+((k:Int)).toNat*1=k:=by omega
 have h2:Nat.ble (k+1) (jO dn).length=true:=Nat.ble_eq_true_of_le (by simp[jO];omega)
 rw[e]
 show (match Nat.beq 1 1,Nat.ble (k+1) (jO dn).length with | true,true=>some (fV (jO dn) k [.bool b]) | _,_=>none)=_
 rw[h2]
 show some ((jO dn).set k (.bool b))=_
 rw[show (jO dn).set k (.bool b)=jO (dn.set k b) by simp[jO,List.map_set]]
theorem xr{l:List Int}{k:Nat}(h:k<l.length):(kJ l)[0+((k:Int)).toNat*1]?=some (.int .i64 (l.getD k 0)):=by
 simp[kJ,h,List.getD]
theorem xq{l:List Int}{k:Nat}(x:Int)(h:k<l.length):kX ⟨.int .i64,1,8,[.int .i64 0]⟩ (kJ l) (0+((k:Int)).toNat*1) (.int .i64 x)=some (kJ (l.set k x)):=by
 have e:0+((k:Int)).toNat*1=k:=by omega
 have h2:Nat.ble (k+1) (kJ l).length=true:=Nat.ble_eq_true_of_le (by simp[kJ];omega)
 rw[e]
 show (match Nat.beq 1 1,Nat.ble (k+1) (kJ l).length with | true,true=>some (fV (kJ l) k [.int .i64 x]) | _,_=>none)=_
 rw[h2]
 show some ((kJ l).set k (.int .i64 x))=_
 rw[show (kJ l).set k (.int .i64 x)=kJ (l.set k x) by simp[kJ,List.map_set]]
structure iF(A:Type) where
 a:A
 st:List Int
 dn:List Bool
 us:Nat
def jT{A:Type}(step:A→Nat→Int→A×Bool)(tell:A→Nat→A)(n:Nat)(x:iF A)(p:Int×Int×Unit):iF A:=
 if x.dn.getD (jk p.1 n) true then ⟨tell x.a (x.us+1),x.st,x.dn,x.us+1⟩
 else ⟨tell (step x.a (jk p.1 n) p.2.1).1 (x.us+1),x.st.set (jk p.1 n) (wr (x.st.getD (jk p.1 n) 0+1)),x.dn.set (jk p.1 n) (step x.a (jk p.1 n) p.2.1).2,x.us+1⟩
def mD{A:Type}(step:A→Nat→Int→A×Bool)(tell:A→Nat→A)(n:Nat):List (Int×Int×Unit)→iF A→iF A
 | [],x=>x
 |p::ps,x=>if x.dn.all id then x else mD step tell n ps (jT step tell n x p)
structure AWorld where
 A:Type
 S:Type
 abs:S→A
 B:S→Hp
 L:List AV
 mt:TypeId
 mp:Nat
 step:A→Nat→Int→A×Bool
 tell:A→Nat→A
 free:A→Prop
 keeps:∀a i d,free a→i<L.length→free (step a i d).1
 told:∀a k,free a→free (tell a k)
 mach : ∀ i (h : i < L.length), L[i] = .nilif ∨ ∃ t r, L[i] = .iface t (.ptr r 0) ∧ ∃ g, Meth Tryz.prog t "Step" g ∧
  ∀(s:S) (d:Int) (σ:Hp),free (abs s)→ACalls Tryz.prog g [.ptr r 0,.iface mt (.ptr mp 0),.int .i64 d] (B s++σ) (fun x σ'=>∃s',abs s'=(step (abs s) i d).1∧x=.bool (step (abs s) i d).2∧σ'=B s'++σ)
abbrev AWorld.mv(W:AWorld):AV:=.iface W.mt (.ptr W.mp 0)
def AWorld.init(W:AWorld)(a:W.A):iF W.A:=⟨a,List.replicate W.L.length 0,W.L.map isNil,0⟩
theorem AWorld.aStep (W : AWorld) (fr : Hp) {s : W.S} {σ : Hp} {K : AV → Hp → Prop} {i r : Nat} {t : TypeId} {g : FuncId} {d : Int} (hMe : Meth Tryz.prog t "Step" g)
  (hG:∀(s:W.S) (d:Int) (σ:Hp),W.free (W.abs s)→ACalls Tryz.prog g [.ptr r 0,.iface W.mt (.ptr W.mp 0),.int .i64 d] (W.B s++σ) (fun x σ'=>∃s',W.abs s'=(W.step (W.abs s) i d).1∧x=.bool (W.step (W.abs s) i d).2∧σ'=W.B s'++σ))
  (hf : W.free (W.abs s)) (k : ∀ s', W.abs s' = (W.step (W.abs s) i d).1 → K (.bool (W.step (W.abs s) i d).2) (fr ++ (W.B s' ++ σ))) : InvAt Tryz.prog t "Step" fun g => CallAt Tryz.prog g K [.ptr r 0, W.mv, .int .i64 d] (fr ++ (W.B s ++ σ)) := by
 refine⟨g,hMe,.perm _ (tC fr (W.B s) σ) (hG s d (fr++σ) hf) ?_⟩
 rintro r σ' ⟨s',h3,rfl,rfl⟩
 exact⟨_,(tC fr (W.B s') σ).symm,k s' h3⟩
def AWorld.run(W:AWorld)(aC:List (Int×Int×Unit))(a:W.A):iF W.A:=mD W.step W.tell W.L.length aC (W.init a)
def Mf(W:AWorld)(aC:List (Int×Int×Unit))(a:W.A)(fr σ:Hp):AV→Hp→Prop:=fun x σ'=>∃s',W.abs s'=(W.run aC a).a∧x=.agg [.ae (.int .i64) (W.run aC a).st,.ae .bool (W.run aC a).dn,.int .i64 (W.run aC a).us]∧σ'=fr++(W.B s'++σ)
theorem nA{b off len es:Nat}{e:Sh}{l:List e.T}{x1 x2 x3 y1 y2 y3:AV}(h1:eO b off len es e l x1 y1)(h2:eO b off len es e l x2 y2)(h3:eO b off len es e l x3 y3)(l1:y1.leaf=true)(l2:y2.leaf=true)(l3:y3.leaf=true):eO b off len es e l (.agg [x1,x2,x3]) (.agg [y1,y2,y3]):=by
 refine .agg _ _ rfl (fun i y hy=>?_) (fun i x y hx hy=>?_)
 ·match i,hy with
  | 0,hy=>cases hy;exact l1
  | 1,hy=>cases hy;exact l2
  | 2,hy=>cases hy;exact l3
  |i+3,hy=>cases hy
 ·match i,hx,hy with
  | 0,hx,hy=>cases hx;cases hy;exact h1
  | 1,hx,hy=>cases hx;cases hy;exact h2
  | 2,hx,hy=>cases hx;cases hy;exact h3
  |i+3,hx,hy=>cases hx
theorem SM:∀(ws:List Int),kJ ws=ws.flatMap (Sh.cells (.int .i64))
 | []=>rfl
 |z::ws=>congrArg (AV.int .i64 z :: ·) (SM ws)
theorem TO:∀(ws:List Bool),jO ws=ws.flatMap (Sh.cells .bool)
 | []=>rfl
 |z::ws=>congrArg (AV.bool z :: ·) (TO ws)
theorem xt{l:List Int}{n:Nat}(h:l.length=n):((kJ l).drop 0).take (n*1)=l.flatMap (Sh.cells (.int .i64)):=by
 rw[gz,← SM]
 exact List.take_of_length_le (by simp[kJ,h])
theorem xD{l:List Bool}{n:Nat}(h:l.length=n):((jO l).drop 0).take (n*1)=l.flatMap (Sh.cells .bool):=by
 rw[gz,← TO]
 exact List.take_of_length_le (by simp[jO,h])
def vW(W:AWorld)(aC:List (Int×Int×Unit))(a0:W.A)(x:W.S×List Int×List Bool×Nat):Prop:=
 x.2.2.2≤aC.length∧x.2.1.length=W.L.length∧x.2.2.1.length=W.L.length∧(∀i (h:i<W.L.length),W.L[i]=.nilif→x.2.2.1[i]?=some true)∧W.free (W.abs x.1)∧mD W.step W.tell W.L.length (aC.drop x.2.2.2) ⟨W.abs x.1,x.2.1,x.2.2.1,x.2.2.2⟩=W.run aC a0
theorem aey{A:Type}{step:A→Nat→Int→A×Bool}{tell:A→Nat→A}{n:Nat}(l:List (Int×Int×Unit)){x:iF A}(h:x.dn.all id=true):mD step tell n l x=x:=by
 cases l with
 |nil=>rfl
 |cons p ps=>rw[mD,ah h]
theorem Ty{A:Type}{step:A→Nat→Int→A×Bool}{tell:A→Nat→A}{n:Nat}(p:Int×Int×Unit)(ps:List (Int×Int×Unit)){x:iF A}(h:x.dn.all id=false):mD step tell n (p::ps) x=mD step tell n ps (jT step tell n x p):=by
 rw[mD,ag (by rw[h];decide)]
theorem xA{W:AWorld}{aC:List (Int×Int×Unit)}{a0:W.A}{s:W.S}{st:List Int}{dn:List Bool}{us:Nat}(h:vW W aC a0 (s,st,dn,us))(he:us=aC.length∨dn.all id=true):W.run aC a0=⟨W.abs s,st,dn,us⟩:=by
 obtain⟨_,_,_,_,_,hg⟩:=h
 rw[← hg]
 rcases he with he | he
 ·show mD _ _ _ (aC.drop us) _=_
  rw[he,List.drop_length];rfl
 ·exact aey _ he
theorem UJ{dn:List Bool}{i:Nat}{b d:Bool}(h:i<dn.length)(hd:dn[i]=b):dn.getD i d=b:=by
 rw[aZ,bh h,hd];rfl
theorem Hk{W:AWorld}{aC:List (Int×Int×Unit)}{a0:W.A}{s:W.S}{st:List Int}{dn:List Bool}{us i:Nat}{pw pd:Int}{pu:Unit}(h:vW W aC a0 (s,st,dn,us))(mh:∀a k,W.tell a k=a)(cQ:dn.all id=false)(ga:us<aC.length)(e9:(pw,pd,pu)=aC[us])(hi:i=jk pw W.L.length)(ej:i<dn.length)(hd:dn[i]=true):vW W aC a0 (s,st,dn,us+1):=by
 obtain⟨h1,h2,h3,h4,h5,hg⟩:=h
 refine⟨ga,h2,h3,h4,h5,?_⟩
 rw[← hg]
 show mD _ _ _ (aC.drop (us+1)) _=mD _ _ _ (aC.drop us) _
 rw[KE ga,← e9,Ty _ _ cQ]
 unfold jT
 dsimp only
 rw[← hi,ah (UJ ej hd),mh]
theorem xo{W:AWorld}{aC:List (Int×Int×Unit)}{a0:W.A}{s s':W.S}{st:List Int}{dn:List Bool}{us i:Nat}{pw pd:Int}{pu:Unit}(h:vW W aC a0 (s,st,dn,us))(mh:∀a k,W.tell a k=a)(cQ:dn.all id=false)(ga:us<aC.length)(e9:(pw,pd,pu)=aC[us])(hi:i=jk pw W.L.length)(ej:i<W.L.length){Xh:i<dn.length}(hd:dn[i]=false)(dS:W.abs s'=(W.step (W.abs s) i pd).1):
  vW W aC a0 (s',st.set i (wr (st.getD i 0+1)),dn.set i (W.step (W.abs s) i pd).2,us+1):=by
 obtain⟨h1,h2,h3,h4,h5,hg⟩:=h
 refine⟨ga,(cR ..).trans h2,(cR ..).trans h3,?_,?_,?_⟩
 ·intro k hk hm
  have:=h4 k hk hm
  show (dn.set i _)[k]?=some true
  rw[fj]
  split
  ·rename_i he
   subst he
   rw[bh Xh,hd]at this
   cases this
  ·exact this
 ·show W.free (W.abs s')
  rw[dS];exact W.keeps _ _ _ h5 ej
 ·rw[← hg]
  show mD _ _ _ (aC.drop (us+1)) _=mD _ _ _ (aC.drop us) _
  rw[KE ga,← e9,Ty _ _ cQ]
  unfold jT
  dsimp only
  rw[← hi,ag (by rw[UJ Xh hd];decide),mh,← dS]
theorem ahF(W:AWorld)(lb:Nat)(aC:List (Int×Int×Unit))(s0:W.S)(σ:Hp)(hn:W.L.length≤100000)(hs:aC.length≤100000)(hf:W.free (W.abs s0))(mh:∀a k,W.tell a k=a):
  ACalls Tryz.prog 140 [W.mv,.af lb 0 W.L.length 1,.ae (.field (.int .i64) (.field (.int .i64) .nil)) aC,.iT] ((lb,W.L)::(W.B s0++σ)) (Mf W aC (W.abs s0) [(lb,W.L)] σ):=by
 obtain⟨a0,lG⟩:∃a0,a0=W.abs s0:=⟨_,rfl⟩
 rw[← lG]
 obtain⟨z,nV⟩:∃z,z=s0:=⟨_,rfl⟩
 subst nV
 refine ar Tryz.func140 ?_
 intro aB
 refine .meet (S:=Nat×Nat×Nat) (fun s=>[(0,W.mv),(1,.af lb 0 W.L.length 1),(2,.ae (.field (.int .i64) (.field (.int .i64) .nil)) aC),(3,.iT),(8,.ptr aB 0),(9,.ptr s.1 0)])
  (fun s=>(s.1,[.af s.2.1 0 W.L.length 1,.af s.2.2 0 W.L.length 1,.int .i64 0])::(s.2.1,cD [.int .i64 0] W.L.length)::(s.2.2,cD [.bool false] W.L.length)::(aB,[.ai,.ai,.int .i64 0])::(lb,W.L)::(W.B z++σ)) (by kernel_rfl) ?_ ?_
 ·repeat' first
   |exact dm.mk (_,_,_) ⟨rfl,rfl,rfl,rfl,rfl,rfl,trivial⟩ (aL rfl)
   |exact dm.mk (_,_,_) ⟨rfl,rfl,rfl,rfl,rfl,rfl,trivial⟩ (.pull [2,2,1] (aL rfl))
   |exact dm.mk (_,_,_) ⟨rfl,rfl,rfl,rfl,rfl,rfl,trivial⟩ (.pull [2,1,2] (aL rfl))
   |exact dm.mk (_,_,_) ⟨rfl,rfl,rfl,rfl,rfl,rfl,trivial⟩ (.pull [2,2,0] (aL rfl))
   |exact dm.mk (_,_,_) ⟨rfl,rfl,rfl,rfl,rfl,rfl,trivial⟩ (.pull [2,1,1] (aL rfl))
   |exact dm.mk (_,_,_) ⟨rfl,rfl,rfl,rfl,rfl,rfl,trivial⟩ (.pull [2,1,0] (aL rfl))
   |refine And.intro ?_ ?_
   |refine bc ?_
   |refine aj 0 ?_
   |refine aj 1 ?_
   |refine aj 2 ?_
   |intro b
 rintro⟨br,ba,bd⟩ g
 refine aw [] (dG _ _ _) ?_
 obtain⟨us,gu⟩:∃us:Nat,us=0:=⟨_,rfl⟩
 obtain⟨st,an⟩:∃st,st=(List.replicate W.L.length 0:List Int):=⟨_,rfl⟩
 refine bQ (S:=Nat) (fun s=>[(0,W.mv),(1,.af lb 0 W.L.length 1),(2,.ae (.field (.int .i64) (.field (.int .i64) .nil)) aC),(3,.iT),(8,.ptr aB 0),(9,.ptr br 0),(23,.af lb 0 W.L.length 1),(24,.int .i64 W.L.length),(25,.int .i64 s)])
  (fun s=>(br,[.af ba 0 W.L.length 1,.af bd 0 W.L.length 1,.int .i64 us])::(ba,kJ st)::(bd,jO (tq W.L s))::(aB,[.ai,.ai,.int .i64 0])::(lb,W.L)::(W.B z++σ)) (fun s=>s≤W.L.length) (fun s=>W.L.length-s) 0 ⟨bA _,⟨rfl,rfl,rfl,rfl,rfl,rfl,rfl,rfl,rfl,trivial⟩,by rw[acG,← adU,an,← adT,gu];rfl⟩ ?_
 intro k g hk
 have hk:k≤W.L.length:=hk
 refine ak (fun ab=>?_) (fun aq=>?_)
 ·have ab:(k:Int)<W.L.length:=ab
  have ab:k<W.L.length:=by omega
  refine aM ?_
  rcases W.mach k ab with hm | ⟨t,r,hm,_⟩
  ·refine eY.mk 4 _ (AV.nilif) rfl (Br ab hm) ?_
   refine .sched [] (upto [] 7 0) (by kernel_rfl) ?_
   refine aa 0 ?_
   refine aM ?_
   refine cT 2 rfl (tJ _ (by rw[Lk _ _ hk];omega)) ?_
   refine aY (k+1) ?_ ab ⟨rfl,rfl,rfl,rfl,rfl,rfl,rfl,rfl,aS (by omega),trivial⟩ (aL ?_)
   ·show W.L.length-(k+1)<W.L.length-k;omega
   ·rw[← UU _ _ ab,hm];rfl
  ·refine eY.mk 4 _ (AV.iface t (.ptr r 0)) rfl (Br ab hm) ?_
   refine .sched [] (upto [] 7 0) (by kernel_rfl) ?_
   refine aa 0 ?_
   refine aM ?_
   refine cT 2 rfl (tJ _ (by rw[Lk _ _ hk];omega)) ?_
   refine aY (k+1) ?_ ab ⟨rfl,rfl,rfl,rfl,rfl,rfl,rfl,rfl,aS (by omega),trivial⟩ (aL ?_)
   ·show W.L.length-(k+1)<W.L.length-k;omega
   ·rw[← UU _ _ ab,hm];rfl
 ·have aq:¬(k:Int)<W.L.length:=aq
  obtain rfl:k=W.L.length:=by omega
  obtain⟨dn,pg⟩:∃dn,dn=tq W.L W.L.length:=⟨_,rfl⟩
  rw[← pg]
  have ey:dn.length=W.L.length:=by rw[pg];exact Lk _ _ (a8 _)
  have df:st.length=W.L.length:=by rw[an,gl]
  have rX:∀i (h:i<W.L.length),W.L[i]=.nilif→dn[i]?=some true:=by
   intro i h hm
   rw[pg,UW,fm,bh h,hm];rfl
  obtain⟨s,eF⟩:∃s,s=z:=⟨_,rfl⟩
  subst eF
  have hI:vW W aC a0 (s,st,dn,us):=by
   exact⟨by show us≤_;omega,df,ey,rX,hf,by rw[gu,pg,UW,an,lG];rfl⟩
  have ⟨gu,df,ey,rX,hf,OT⟩:=hI
  have gu:us≤aC.length:=gu
  have df:st.length=W.L.length:=df
  have ey:dn.length=W.L.length:=ey
  have hF:=fun σ=>IT (.af ba 0 W.L.length 1) us bd dn σ (by omega)
  rw[ey]at hF
  refine aa 0 ?_
  refine ak (fun c1=>?_) (fun c1=>?_)
  ·have c1:(↑us:Int)=(↑aC.length:Int):=c1
   have hE:=xA hI (.inl (by show us=_;omega))
   refine aa 0 ?_
   refine aj 3 ?_
   refine aa 3 ?_
   refine .cJ 1 ba 0 W.L.length 1 _ (.int .i64) st rfl (xt df) ⟨df,rfl,by decide⟩ (nA .here (.refl _) (.refl _) rfl rfl rfl) ?_
   refine .cJ 1 bd 0 W.L.length 1 _ .bool dn rfl (xD ey) ⟨ey,rfl,by decide⟩ (nA (.refl _) .here (.refl _) rfl rfl rfl) ?_
   exact .drop 0 2 (.done ⟨s,by rw[hE],by rw[hE],rfl⟩)
  ·have c1:¬((↑us:Int)=(↑aC.length:Int)):=c1
   refine aa 0 ?_
   refine aw [2] (hF _) ?_
   cases cQ:dn.all id with
   |true=>
    have hE:=xA hI (.inr cQ)
    refine aa 1 ?_
    refine aj 3 ?_
    refine aa 3 ?_
    refine .cJ 2 ba 0 W.L.length 1 _ (.int .i64) st rfl (xt df) ⟨df,rfl,by decide⟩ (nA .here (.refl _) (.refl _) rfl rfl rfl) ?_
    refine .cJ 0 bd 0 W.L.length 1 _ .bool dn rfl (xD ey) ⟨ey,rfl,by decide⟩ (nA (.refl _) .here (.refl _) rfl rfl rfl) ?_
    exact .drop 0 2 (.done ⟨s,by rw[hE],by rw[hE],rfl⟩)
   |false=>
    refine aa 1 ?_
    refine aG.mk rfl ?_
    have ga:us<aC.length:=by omega
    have mq:AV.int .i64 (IntKind.i64.wrap ((us:Int)+1))=AV.int .i64 ((us+1:Nat):Int):=aS (by omega)
    obtain⟨pk,e9⟩:∃pk,pk=aC[us]:=⟨_,rfl⟩
    obtain⟨pw,pd,pu⟩:=pk
    have fI:0<W.L.length:=by
     rcases uK W.L.length with h0 | h0
     ·rw[iE.1 (ey.trans h0)]at cQ;cases cQ
     ·exact h0
    refine bE.mk (pw,pd,pu) (by omega) ((get_some ga).trans (congrArg some e9.symm)) ?_
    obtain⟨i,hi⟩:∃i,i=jk pw W.L.length:=⟨_,rfl⟩
    have ej:i<W.L.length:=by rw[hi];exact Dw fI
    have sM:=fun σ=>IM pw pd W.L.length σ (by omega)
    rw[← hi]at sM
    intro bp
    refine aj 0 ?_
    refine aa 0 ?_
    refine aw [] (sM _) ?_
    refine aa 2 ?_
    refine aM ?_
    cases hd:dn[i] with
    |true=>
     refine bf 1 rfl (tK (by omega) hd) ?_
     refine aa 2 ?_
     refine aj 2 ?_
     refine .loop (S:=W.S×List Int×List Bool×Nat) (fun _=>0) (fun _=>[(0,W.mv),(1,.af lb 0 W.L.length 1),(2,.ae (.field (.int .i64) (.field (.int .i64) .nil)) aC),(3,.iT),(8,.ptr aB 0),(9,.ptr br 0)]) (fun x=>(br,[.af ba 0 W.L.length 1,.af bd 0 W.L.length 1,.int .i64 x.2.2.2])::(ba,kJ x.2.1)::(bd,jO x.2.2.1)::(aB,[.ai,.ai,.int .i64 0])::(lb,W.L)::(W.B x.1++σ)) (vW W aC a0) (fun x=>aC.length-x.2.2.2) (s,st,dn,us+1) ⟨rfl,(Hk hI mh cQ ga e9 hi (by omega) hd),⟨rfl,rfl,rfl,rfl,rfl,rfl,trivial⟩,.drop 0 1 (.pull [2,2,0] (aL ?_))⟩ ?_
     ·show _=(br,[AV.af ba 0 W.L.length 1,AV.af bd 0 W.L.length 1,AV.int .i64 ((us+1:Nat):Int)])::_
      rw[← mq]
      rfl
     rintro⟨s,st,dn,us⟩ g hI
     have ⟨gu,df,ey,rX,hf,OT⟩:=hI
     have gu:us≤aC.length:=gu
     have df:st.length=W.L.length:=df
     have ey:dn.length=W.L.length:=ey
     have hF:=fun σ=>IT (.af ba 0 W.L.length 1) us bd dn σ (by omega)
     rw[ey]at hF
     refine aa 0 ?_
     refine ak (fun c1=>?_) (fun c1=>?_)
     ·have c1:(↑us:Int)=(↑aC.length:Int):=c1
      have hE:=xA hI (.inl (by show us=_;omega))
      refine aa 0 ?_
      refine aj 3 ?_
      refine aa 3 ?_
      refine .cJ 1 ba 0 W.L.length 1 _ (.int .i64) st rfl (xt df) ⟨df,rfl,by decide⟩ (nA .here (.refl _) (.refl _) rfl rfl rfl) ?_
      refine .cJ 1 bd 0 W.L.length 1 _ .bool dn rfl (xD ey) ⟨ey,rfl,by decide⟩ (nA (.refl _) .here (.refl _) rfl rfl rfl) ?_
      exact .drop 0 2 (.done ⟨s,by rw[hE],by rw[hE],rfl⟩)
     ·have c1:¬((↑us:Int)=(↑aC.length:Int)):=c1
      refine aa 0 ?_
      refine aw [2] (hF _) ?_
      cases cQ:dn.all id with
      |true=>
       have hE:=xA hI (.inr cQ)
       refine aa 1 ?_
       refine aj 3 ?_
       refine aa 3 ?_
       refine .cJ 2 ba 0 W.L.length 1 _ (.int .i64) st rfl (xt df) ⟨df,rfl,by decide⟩ (nA .here (.refl _) (.refl _) rfl rfl rfl) ?_
       refine .cJ 0 bd 0 W.L.length 1 _ .bool dn rfl (xD ey) ⟨ey,rfl,by decide⟩ (nA (.refl _) .here (.refl _) rfl rfl rfl) ?_
       exact .drop 0 2 (.done ⟨s,by rw[hE],by rw[hE],rfl⟩)
      |false=>
       refine aa 1 ?_
       refine aG.mk rfl ?_
       have ga:us<aC.length:=by omega
       have mq:AV.int .i64 (IntKind.i64.wrap ((us:Int)+1))=AV.int .i64 ((us+1:Nat):Int):=aS (by omega)
       obtain⟨pk,e9⟩:∃pk,pk=aC[us]:=⟨_,rfl⟩
       obtain⟨pw,pd,pu⟩:=pk
       have fI:0<W.L.length:=by
        rcases uK W.L.length with h0 | h0
        ·rw[iE.1 (ey.trans h0)]at cQ;cases cQ
        ·exact h0
       refine bE.mk (pw,pd,pu) (by omega) ((get_some ga).trans (congrArg some e9.symm)) ?_
       obtain⟨i,hi⟩:∃i,i=jk pw W.L.length:=⟨_,rfl⟩
       have ej:i<W.L.length:=by rw[hi];exact Dw fI
       have sM:=fun σ=>IM pw pd W.L.length σ (by omega)
       rw[← hi]at sM
       intro bp
       refine aj 0 ?_
       refine aa 0 ?_
       refine aw [] (sM _) ?_
       refine aa 2 ?_
       refine aM ?_
       cases hd:dn[i] with
       |true=>
        refine bf 1 rfl (tK (by omega) hd) ?_
        refine aa 2 ?_
        refine aj 2 ?_
        refine .mk (s,st,dn,us+1) rfl (by show aC.length-(us+1)<aC.length-us;omega) (Hk hI mh cQ ga e9 hi (by omega) hd) ⟨rfl,rfl,rfl,rfl,rfl,rfl,trivial⟩ (.drop 0 1 (.pull [2,2,0] (aL ?_)))
        show _=(br,[AV.af ba 0 W.L.length 1,AV.af bd 0 W.L.length 1,AV.int .i64 ((us+1:Nat):Int)])::_
        rw[← mq]
        rfl
       |false=>
        refine bf 1 rfl (tK (by omega) hd) ?_
        rcases W.mach i ej with hm | ⟨t,r,hm,gS,hMe,hG⟩
        ·have:=rX i ej hm
         rw[bh (by show i<dn.length;omega)]at this
         exact absurd (hd.symm.trans (Option.some.inj this)) (by decide)
        refine .sched [] (.one 0 false (.one 2 false (.one 3 false (.one 4 false (.one 5 false (.one 6 false (.one 7 false (.one 8 false (.one 9 false (.alt 1 (.one 10 false (.one 11 false (.one 12 false .stop))) (.one 10 false (.one 1 false (.one 11 false (.one 12 false .stop)))))))))))))) (by kernel_rfl) ?_
        refine aM ?_
        refine eY.mk 5 _ (AV.iface t (.ptr r 0)) rfl (Br ej hm) ?_
        refine aa 0 ?_
        refine And.intro ?_ ?_
        ·refine aa 2 ?_
         refine W.aStep [_,_,_,_,_,_] hMe hG hf fun s' dS=>?_
         refine aM ?_
         refine cT 1 rfl (tJ _ (by omega)) ?_
         refine aa 2 ?_
         refine aM ?_
         refine bf 3 rfl (xr (by omega)) ?_
         refine aM ?_
         refine cT 3 rfl (xq _ (by omega)) ?_
         refine aa 2 ?_
         refine aj 2 ?_
         refine .mk (s',(st.set i (wr (st.getD i 0+1))),(dn.set i (W.step (W.abs s) i pd).2),us+1) rfl (by show aC.length-(us+1)<aC.length-us;omega) (xo hI mh cQ ga e9 hi ej hd dS) ⟨rfl,rfl,rfl,rfl,rfl,rfl,trivial⟩ (.drop 0 1 (.pull [2,2,0] (aL ?_)))
         show _=(br,[AV.af ba 0 W.L.length 1,AV.af bd 0 W.L.length 1,AV.int .i64 ((us+1:Nat):Int)])::_
         rw[← mq]
         rfl
        ·refine W.aStep [_,_,_,_,_,_] hMe hG hf fun s' dS=>?_
         refine aa 2 ?_
         refine aM ?_
         refine cT 1 rfl (tJ _ (by omega)) ?_
         refine aa 2 ?_
         refine aM ?_
         refine bf 3 rfl (xr (by omega)) ?_
         refine aM ?_
         refine cT 3 rfl (xq _ (by omega)) ?_
         refine aa 2 ?_
         refine aj 2 ?_
         refine .mk (s',(st.set i (wr (st.getD i 0+1))),(dn.set i (W.step (W.abs s) i pd).2),us+1) rfl (by show aC.length-(us+1)<aC.length-us;omega) (xo hI mh cQ ga e9 hi ej hd dS) ⟨rfl,rfl,rfl,rfl,rfl,rfl,trivial⟩ (.drop 0 1 (.pull [2,2,0] (aL ?_)))
         show _=(br,[AV.af ba 0 W.L.length 1,AV.af bd 0 W.L.length 1,AV.int .i64 ((us+1:Nat):Int)])::_
         rw[← mq]
         rfl
    |false=>
     refine bf 1 rfl (tK (by omega) hd) ?_
     rcases W.mach i ej with hm | ⟨t,r,hm,gS,hMe,hG⟩
     ·have:=rX i ej hm
      rw[bh (by show i<dn.length;omega)]at this
      exact absurd (hd.symm.trans (Option.some.inj this)) (by decide)
     refine .sched [] (.one 0 false (.one 2 false (.one 3 false (.one 4 false (.one 5 false (.one 6 false (.one 7 false (.one 8 false (.one 9 false (.alt 1 (.one 10 false (.one 11 false (.one 12 false .stop))) (.one 10 false (.one 1 false (.one 11 false (.one 12 false .stop)))))))))))))) (by kernel_rfl) ?_
     refine aM ?_
     refine eY.mk 5 _ (AV.iface t (.ptr r 0)) rfl (Br ej hm) ?_
     refine aa 0 ?_
     refine And.intro ?_ ?_
     ·refine aa 2 ?_
      refine W.aStep [_,_,_,_,_,_] hMe hG hf fun s' dS=>?_
      refine aM ?_
      refine cT 1 rfl (tJ _ (by omega)) ?_
      refine aa 2 ?_
      refine aM ?_
      refine bf 3 rfl (xr (by omega)) ?_
      refine aM ?_
      refine cT 3 rfl (xq _ (by omega)) ?_
      refine aa 2 ?_
      refine aj 2 ?_
      refine .loop (S:=W.S×List Int×List Bool×Nat) (fun _=>0) (fun _=>[(0,W.mv),(1,.af lb 0 W.L.length 1),(2,.ae (.field (.int .i64) (.field (.int .i64) .nil)) aC),(3,.iT),(8,.ptr aB 0),(9,.ptr br 0)]) (fun x=>(br,[.af ba 0 W.L.length 1,.af bd 0 W.L.length 1,.int .i64 x.2.2.2])::(ba,kJ x.2.1)::(bd,jO x.2.2.1)::(aB,[.ai,.ai,.int .i64 0])::(lb,W.L)::(W.B x.1++σ)) (vW W aC a0) (fun x=>aC.length-x.2.2.2) (s',(st.set i (wr (st.getD i 0+1))),(dn.set i (W.step (W.abs s) i pd).2),us+1) ⟨rfl,(xo hI mh cQ ga e9 hi ej hd dS),⟨rfl,rfl,rfl,rfl,rfl,rfl,trivial⟩,.drop 0 1 (.pull [2,2,0] (aL ?_))⟩ ?_
      ·show _=(br,[AV.af ba 0 W.L.length 1,AV.af bd 0 W.L.length 1,AV.int .i64 ((us+1:Nat):Int)])::_
       rw[← mq]
       rfl
      rintro⟨s,st,dn,us⟩ g hI
      have ⟨gu,df,ey,rX,hf,OT⟩:=hI
      have gu:us≤aC.length:=gu
      have df:st.length=W.L.length:=df
      have ey:dn.length=W.L.length:=ey
      have hF:=fun σ=>IT (.af ba 0 W.L.length 1) us bd dn σ (by omega)
      rw[ey]at hF
      refine aa 0 ?_
      refine ak (fun c1=>?_) (fun c1=>?_)
      ·have c1:(↑us:Int)=(↑aC.length:Int):=c1
       have hE:=xA hI (.inl (by show us=_;omega))
       refine aa 0 ?_
       refine aj 3 ?_
       refine aa 3 ?_
       refine .cJ 1 ba 0 W.L.length 1 _ (.int .i64) st rfl (xt df) ⟨df,rfl,by decide⟩ (nA .here (.refl _) (.refl _) rfl rfl rfl) ?_
       refine .cJ 1 bd 0 W.L.length 1 _ .bool dn rfl (xD ey) ⟨ey,rfl,by decide⟩ (nA (.refl _) .here (.refl _) rfl rfl rfl) ?_
       exact .drop 0 2 (.done ⟨s,by rw[hE],by rw[hE],rfl⟩)
      ·have c1:¬((↑us:Int)=(↑aC.length:Int)):=c1
       refine aa 0 ?_
       refine aw [2] (hF _) ?_
       cases cQ:dn.all id with
       |true=>
        have hE:=xA hI (.inr cQ)
        refine aa 1 ?_
        refine aj 3 ?_
        refine aa 3 ?_
        refine .cJ 2 ba 0 W.L.length 1 _ (.int .i64) st rfl (xt df) ⟨df,rfl,by decide⟩ (nA .here (.refl _) (.refl _) rfl rfl rfl) ?_
        refine .cJ 0 bd 0 W.L.length 1 _ .bool dn rfl (xD ey) ⟨ey,rfl,by decide⟩ (nA (.refl _) .here (.refl _) rfl rfl rfl) ?_
        exact .drop 0 2 (.done ⟨s,by rw[hE],by rw[hE],rfl⟩)
       |false=>
        refine aa 1 ?_
        refine aG.mk rfl ?_
        have ga:us<aC.length:=by omega
        have mq:AV.int .i64 (IntKind.i64.wrap ((us:Int)+1))=AV.int .i64 ((us+1:Nat):Int):=aS (by omega)
        obtain⟨pk,e9⟩:∃pk,pk=aC[us]:=⟨_,rfl⟩
        obtain⟨pw,pd,pu⟩:=pk
        have fI:0<W.L.length:=by
         rcases uK W.L.length with h0 | h0
         ·rw[iE.1 (ey.trans h0)]at cQ;cases cQ
         ·exact h0
        refine bE.mk (pw,pd,pu) (by omega) ((get_some ga).trans (congrArg some e9.symm)) ?_
        obtain⟨i,hi⟩:∃i,i=jk pw W.L.length:=⟨_,rfl⟩
        have ej:i<W.L.length:=by rw[hi];exact Dw fI
        have sM:=fun σ=>IM pw pd W.L.length σ (by omega)
        rw[← hi]at sM
        intro bp
        refine aj 0 ?_
        refine aa 0 ?_
        refine aw [] (sM _) ?_
        refine aa 2 ?_
        refine aM ?_
        cases hd:dn[i] with
        |true=>
         refine bf 1 rfl (tK (by omega) hd) ?_
         refine aa 2 ?_
         refine aj 2 ?_
         refine .mk (s,st,dn,us+1) rfl (by show aC.length-(us+1)<aC.length-us;omega) (Hk hI mh cQ ga e9 hi (by omega) hd) ⟨rfl,rfl,rfl,rfl,rfl,rfl,trivial⟩ (.drop 0 1 (.pull [2,2,0] (aL ?_)))
         show _=(br,[AV.af ba 0 W.L.length 1,AV.af bd 0 W.L.length 1,AV.int .i64 ((us+1:Nat):Int)])::_
         rw[← mq]
         rfl
        |false=>
         refine bf 1 rfl (tK (by omega) hd) ?_
         rcases W.mach i ej with hm | ⟨t,r,hm,gS,hMe,hG⟩
         ·have:=rX i ej hm
          rw[bh (by show i<dn.length;omega)]at this
          exact absurd (hd.symm.trans (Option.some.inj this)) (by decide)
         refine .sched [] (.one 0 false (.one 2 false (.one 3 false (.one 4 false (.one 5 false (.one 6 false (.one 7 false (.one 8 false (.one 9 false (.alt 1 (.one 10 false (.one 11 false (.one 12 false .stop))) (.one 10 false (.one 1 false (.one 11 false (.one 12 false .stop)))))))))))))) (by kernel_rfl) ?_
         refine aM ?_
         refine eY.mk 5 _ (AV.iface t (.ptr r 0)) rfl (Br ej hm) ?_
         refine aa 0 ?_
         refine And.intro ?_ ?_
         ·refine aa 2 ?_
          refine W.aStep [_,_,_,_,_,_] hMe hG hf fun s' dS=>?_
          refine aM ?_
          refine cT 1 rfl (tJ _ (by omega)) ?_
          refine aa 2 ?_
          refine aM ?_
          refine bf 3 rfl (xr (by omega)) ?_
          refine aM ?_
          refine cT 3 rfl (xq _ (by omega)) ?_
          refine aa 2 ?_
          refine aj 2 ?_
          refine .mk (s',(st.set i (wr (st.getD i 0+1))),(dn.set i (W.step (W.abs s) i pd).2),us+1) rfl (by show aC.length-(us+1)<aC.length-us;omega) (xo hI mh cQ ga e9 hi ej hd dS) ⟨rfl,rfl,rfl,rfl,rfl,rfl,trivial⟩ (.drop 0 1 (.pull [2,2,0] (aL ?_)))
          show _=(br,[AV.af ba 0 W.L.length 1,AV.af bd 0 W.L.length 1,AV.int .i64 ((us+1:Nat):Int)])::_
          rw[← mq]
          rfl
         ·refine W.aStep [_,_,_,_,_,_] hMe hG hf fun s' dS=>?_
          refine aa 2 ?_
          refine aM ?_
          refine cT 1 rfl (tJ _ (by omega)) ?_
          refine aa 2 ?_
          refine aM ?_
          refine bf 3 rfl (xr (by omega)) ?_
          refine aM ?_
          refine cT 3 rfl (xq _ (by omega)) ?_
          refine aa 2 ?_
          refine aj 2 ?_
          refine .mk (s',(st.set i (wr (st.getD i 0+1))),(dn.set i (W.step (W.abs s) i pd).2),us+1) rfl (by show aC.length-(us+1)<aC.length-us;omega) (xo hI mh cQ ga e9 hi ej hd dS) ⟨rfl,rfl,rfl,rfl,rfl,rfl,trivial⟩ (.drop 0 1 (.pull [2,2,0] (aL ?_)))
          show _=(br,[AV.af ba 0 W.L.length 1,AV.af bd 0 W.L.length 1,AV.int .i64 ((us+1:Nat):Int)])::_
          rw[← mq]
          rfl
     ·refine W.aStep [_,_,_,_,_,_] hMe hG hf fun s' dS=>?_
      refine aa 2 ?_
      refine aM ?_
      refine cT 1 rfl (tJ _ (by omega)) ?_
      refine aa 2 ?_
      refine aM ?_
      refine bf 3 rfl (xr (by omega)) ?_
      refine aM ?_
      refine cT 3 rfl (xq _ (by omega)) ?_
      refine aa 2 ?_
      refine aj 2 ?_
      refine .loop (S:=W.S×List Int×List Bool×Nat) (fun _=>0) (fun _=>[(0,W.mv),(1,.af lb 0 W.L.length 1),(2,.ae (.field (.int .i64) (.field (.int .i64) .nil)) aC),(3,.iT),(8,.ptr aB 0),(9,.ptr br 0)]) (fun x=>(br,[.af ba 0 W.L.length 1,.af bd 0 W.L.length 1,.int .i64 x.2.2.2])::(ba,kJ x.2.1)::(bd,jO x.2.2.1)::(aB,[.ai,.ai,.int .i64 0])::(lb,W.L)::(W.B x.1++σ)) (vW W aC a0) (fun x=>aC.length-x.2.2.2) (s',(st.set i (wr (st.getD i 0+1))),(dn.set i (W.step (W.abs s) i pd).2),us+1) ⟨rfl,(xo hI mh cQ ga e9 hi ej hd dS),⟨rfl,rfl,rfl,rfl,rfl,rfl,trivial⟩,.drop 0 1 (.pull [2,2,0] (aL ?_))⟩ ?_
      ·show _=(br,[AV.af ba 0 W.L.length 1,AV.af bd 0 W.L.length 1,AV.int .i64 ((us+1:Nat):Int)])::_
       rw[← mq]
       rfl
      rintro⟨s,st,dn,us⟩ g hI
      have ⟨gu,df,ey,rX,hf,OT⟩:=hI
      have gu:us≤aC.length:=gu
      have df:st.length=W.L.length:=df
      have ey:dn.length=W.L.length:=ey
      have hF:=fun σ=>IT (.af ba 0 W.L.length 1) us bd dn σ (by omega)
      rw[ey]at hF
      refine aa 0 ?_
      refine ak (fun c1=>?_) (fun c1=>?_)
      ·have c1:(↑us:Int)=(↑aC.length:Int):=c1
       have hE:=xA hI (.inl (by show us=_;omega))
       refine aa 0 ?_
       refine aj 3 ?_
       refine aa 3 ?_
       refine .cJ 1 ba 0 W.L.length 1 _ (.int .i64) st rfl (xt df) ⟨df,rfl,by decide⟩ (nA .here (.refl _) (.refl _) rfl rfl rfl) ?_
       refine .cJ 1 bd 0 W.L.length 1 _ .bool dn rfl (xD ey) ⟨ey,rfl,by decide⟩ (nA (.refl _) .here (.refl _) rfl rfl rfl) ?_
       exact .drop 0 2 (.done ⟨s,by rw[hE],by rw[hE],rfl⟩)
      ·have c1:¬((↑us:Int)=(↑aC.length:Int)):=c1
       refine aa 0 ?_
       refine aw [2] (hF _) ?_
       cases cQ:dn.all id with
       |true=>
        have hE:=xA hI (.inr cQ)
        refine aa 1 ?_
        refine aj 3 ?_
        refine aa 3 ?_
        refine .cJ 2 ba 0 W.L.length 1 _ (.int .i64) st rfl (xt df) ⟨df,rfl,by decide⟩ (nA .here (.refl _) (.refl _) rfl rfl rfl) ?_
        refine .cJ 0 bd 0 W.L.length 1 _ .bool dn rfl (xD ey) ⟨ey,rfl,by decide⟩ (nA (.refl _) .here (.refl _) rfl rfl rfl) ?_
        exact .drop 0 2 (.done ⟨s,by rw[hE],by rw[hE],rfl⟩)
       |false=>
        refine aa 1 ?_
        refine aG.mk rfl ?_
        have ga:us<aC.length:=by omega
        have mq:AV.int .i64 (IntKind.i64.wrap ((us:Int)+1))=AV.int .i64 ((us+1:Nat):Int):=aS (by omega)
        obtain⟨pk,e9⟩:∃pk,pk=aC[us]:=⟨_,rfl⟩
        obtain⟨pw,pd,pu⟩:=pk
        have fI:0<W.L.length:=by
         rcases uK W.L.length with h0 | h0
         ·rw[iE.1 (ey.trans h0)]at cQ;cases cQ
         ·exact h0
        refine bE.mk (pw,pd,pu) (by omega) ((get_some ga).trans (congrArg some e9.symm)) ?_
        obtain⟨i,hi⟩:∃i,i=jk pw W.L.length:=⟨_,rfl⟩
        have ej:i<W.L.length:=by rw[hi];exact Dw fI
        have sM:=fun σ=>IM pw pd W.L.length σ (by omega)
        rw[← hi]at sM
        intro bp
        refine aj 0 ?_
        refine aa 0 ?_
        refine aw [] (sM _) ?_
        refine aa 2 ?_
        refine aM ?_
        cases hd:dn[i] with
        |true=>
         refine bf 1 rfl (tK (by omega) hd) ?_
         refine aa 2 ?_
         refine aj 2 ?_
         refine .mk (s,st,dn,us+1) rfl (by show aC.length-(us+1)<aC.length-us;omega) (Hk hI mh cQ ga e9 hi (by omega) hd) ⟨rfl,rfl,rfl,rfl,rfl,rfl,trivial⟩ (.drop 0 1 (.pull [2,2,0] (aL ?_)))
         show _=(br,[AV.af ba 0 W.L.length 1,AV.af bd 0 W.L.length 1,AV.int .i64 ((us+1:Nat):Int)])::_
         rw[← mq]
         rfl
        |false=>
         refine bf 1 rfl (tK (by omega) hd) ?_
         rcases W.mach i ej with hm | ⟨t,r,hm,gS,hMe,hG⟩
         ·have:=rX i ej hm
          rw[bh (by show i<dn.length;omega)]at this
          exact absurd (hd.symm.trans (Option.some.inj this)) (by decide)
         refine .sched [] (.one 0 false (.one 2 false (.one 3 false (.one 4 false (.one 5 false (.one 6 false (.one 7 false (.one 8 false (.one 9 false (.alt 1 (.one 10 false (.one 11 false (.one 12 false .stop))) (.one 10 false (.one 1 false (.one 11 false (.one 12 false .stop)))))))))))))) (by kernel_rfl) ?_
         refine aM ?_
         refine eY.mk 5 _ (AV.iface t (.ptr r 0)) rfl (Br ej hm) ?_
         refine aa 0 ?_
         refine And.intro ?_ ?_
         ·refine aa 2 ?_
          refine W.aStep [_,_,_,_,_,_] hMe hG hf fun s' dS=>?_
          refine aM ?_
          refine cT 1 rfl (tJ _ (by omega)) ?_
          refine aa 2 ?_
          refine aM ?_
          refine bf 3 rfl (xr (by omega)) ?_
          refine aM ?_
          refine cT 3 rfl (xq _ (by omega)) ?_
          refine aa 2 ?_
          refine aj 2 ?_
          refine .mk (s',(st.set i (wr (st.getD i 0+1))),(dn.set i (W.step (W.abs s) i pd).2),us+1) rfl (by show aC.length-(us+1)<aC.length-us;omega) (xo hI mh cQ ga e9 hi ej hd dS) ⟨rfl,rfl,rfl,rfl,rfl,rfl,trivial⟩ (.drop 0 1 (.pull [2,2,0] (aL ?_)))
          show _=(br,[AV.af ba 0 W.L.length 1,AV.af bd 0 W.L.length 1,AV.int .i64 ((us+1:Nat):Int)])::_
          rw[← mq]
          rfl
         ·refine W.aStep [_,_,_,_,_,_] hMe hG hf fun s' dS=>?_
          refine aa 2 ?_
          refine aM ?_
          refine cT 1 rfl (tJ _ (by omega)) ?_
          refine aa 2 ?_
          refine aM ?_
          refine bf 3 rfl (xr (by omega)) ?_
          refine aM ?_
          refine cT 3 rfl (xq _ (by omega)) ?_
          refine aa 2 ?_
          refine aj 2 ?_
          refine .mk (s',(st.set i (wr (st.getD i 0+1))),(dn.set i (W.step (W.abs s) i pd).2),us+1) rfl (by show aC.length-(us+1)<aC.length-us;omega) (xo hI mh cQ ga e9 hi ej hd dS) ⟨rfl,rfl,rfl,rfl,rfl,rfl,trivial⟩ (.drop 0 1 (.pull [2,2,0] (aL ?_)))
          show _=(br,[AV.af ba 0 W.L.length 1,AV.af bd 0 W.L.length 1,AV.int .i64 ((us+1:Nat):Int)])::_
          rw[← mq]
          rfl
end Go.Proofs.YtnikdflhefijbaaGreat
