import Derived.Test.YtnikdflhefijbaaGreatBn36
import Derived.Test.YtnikdflhefijbaaGreatBn21
import Derived.Test.YtnikdflhefijbaaGreatBn33
namespace Go.Proofs.YtnikdflhefijbaaGreat
open Go.RowKit
set_option maxRecDepth 100000
theorem vZ{a:Int}:∀{P:List (List Int)},P.flatten.Nodup→∀{i j:Nat} {p q:List Int},P[i]?=some p→P[j]?=some q→a∈p→a∈q→i=j
 | [],_,i,_,_,_,h,_,_,_=>by simp at h
 |r::P,hd,i,j,p,q,hi,hj,hp,hq=>by
  rw[Bh]at hd
  obtain⟨_,h2,h3⟩:=oP.1 hd
  cases i with
  |zero=>
   cases j with
   |zero=>rfl
   |succ j=>
    obtain rfl:r=p:=by simpa using hi
    have hj:P[j]?=some q:=by simpa using hj
    exact absurd rfl (h3 a hp a (oN.2 ⟨q,cq hj,hq⟩))
  |succ i=>
   have hi:P[i]?=some p:=by simpa using hi
   cases j with
   |zero=>
    obtain rfl:r=q:=by simpa using hj
    exact absurd rfl (h3 a hq a (oN.2 ⟨p,cq hi,hp⟩))
   |succ j=>
    have hj:P[j]?=some q:=by simpa using hj
    exact congrArg (· + 1) (vZ h2 hi hj hp hq)
theorem qG.le{n:Nat}{nx:Int→List Int}{P:List (List Int)}(h:qG n nx P){x y:Int}(hr:Rx nx x y){i:Nat}{p:List Int}(hi:P[i]?=some p)(hx:x∈p):∃(j:Nat) (q:List Int),j≤i∧P[j]?=some q∧y∈q:=by
 induction hr with
 |refl=>exact⟨i,p,aU _,hi,hx⟩
 |step _ hc ih=>
  obtain⟨j,q,h1,h2,h3⟩:=ih
  obtain⟨k,r,k1,k2,k3⟩:=h.Jm j q h2 _ h3 _ hc
  exact⟨k,r,fD k1 h1,k2,k3⟩
theorem adw{n:Int}{l:List bC}{a b:Int}:xG n l [a] b↔(0≤a∧a<n)∧Rx (au n l) a b:=by
 constructor
 ·intro h
  induction h with
  |root hm h1=>rw[bh.1 hm]at h1 ⊢;exact⟨h1,.refl _⟩
  |step _ hb ih=>exact⟨ih.1,.step ih.2 hb⟩
 ·rintro⟨ha,h⟩
  induction h with
  |refl=>exact .root (bh.2 rfl) ha
  |step _ hc ih=>exact .step ih hc
theorem Gh{n:Nat}{l:List bC}{a b:Int}:AN n l a b=true↔(0≤a∧a<n)∧Rx (au n l) a b:=by
 unfold AN
 rw[Cu,Xz,adw]
theorem Yx(n:Nat)(l:List bC)(a:Int):(qU n l a).Pairwise (· < ·):=by
 unfold qU Lt
 rw[Bi]
 refine List.Pairwise.filter _ ?_
 exact List.pairwise_lt_range.imp fun h=>by omega
theorem K1{n:Nat}{l:List bC}{P:List (List Int)}(h:qG n (au n l) P){p:List Int}{a:Int}(hp:p∈P)(ha:a∈p):qU n l a=p:=by
 obtain⟨i,hi⟩:=EH hp
 have sy:=h.node p hp a ha
 refine La (Yx ..) (h.AO p hp) fun z=>?_
 rw[YL]
 constructor
 ·rintro⟨k,hk,hb,rfl⟩
  rw[bL,Gh,Gh]at hb
  obtain⟨j,q,j1,j2,j3⟩:=h.le hb.1.2 hi ha
  obtain⟨k2,r,k3,k4,k5⟩:=h.le hb.2.2 j2 j3
  have:=vZ h.nd hi k4 ha k5
  have:i=j:=by omega
  subst this
  rw[hi]at j2
  rw[Option.some.inj j2];exact j3
 ·intro hz
  have gP:=h.node p hp z hz
  refine⟨z.toNat,by omega,?_,by omega⟩
  rw[lP gP.1,bL,Gh,Gh]
  exact⟨⟨sy,h.Oz p hp a ha z hz⟩,gP,h.Oz p hp z hz a ha⟩
def kX(i:Int)(p:List Int)(w:List Int):List Int:=p.foldl (fun w a=>w.set a.toNat i) w
def mB(P:List (List Int)):Nat→List Int→List Int
 | 0,w=>w
 |k+1,w=>kX k (P.getD k []) (mB P k w)
def bj(n:Nat)(P:List (List Int)):List Int:=mB P P.length (List.replicate n 0)
theorem Fc(i:Int):∀(p w:List Int),(kX i p w).length=w.length
 | [],_=>rfl
 |a::p,w=>by
  show (kX i p (w.set a.toNat i)).length=_
  rw[Fc i p,cM]
theorem BD(P:List (List Int)):∀(k:Nat) (w:List Int),(mB P k w).length=w.length
 | 0,_=>rfl
 |k+1,w=>by
  show (kX k (P.getD k []) (mB P k w)).length=_
  rw[Fc,BD P k]
theorem Pt(n:Nat)(P:List (List Int)):(bj n P).length=n:=by unfold bj;rw[BD,gb]
theorem Sx(i:Int){a:Int}(ha:0≤a):∀(p w:List Int),(∀z∈p,0≤z)→a.toNat<w.length→(kX i p w).getD a.toNat 0=if a∈p then i else w.getD a.toNat 0
 | [],w,_,_=>by simp[kX]
 |z::p,w,hp,hw=>by
  show (kX i p (w.set z.toNat i)).getD a.toNat 0=_
  have hz:=hp z (cm ..)
  rw[Sx i ha p _ (fun y hy=>hp y (cY _ hy)) (by rw[cM];exact hw),mj]
  by_cases h1:a∈p
  ·rw[ai h1,ai (cY _ h1)]
  ·rw[ah h1]
   by_cases h2:a=z
   ·rw[ai ⟨by omega,hw⟩,ai (by rw[h2];exact cm ..)]
   ·rw[ah (by omega),ah (by rw[eG];exact fun h=>h.elim h2 h1)]
theorem ur{P:List (List Int)}{i:Nat}{p:List Int}(h:P[i]?=some p):P.getD i []=p:=by rw[aW,h];rfl
theorem Sw{n:Nat}{nx:Int→List Int}{P:List (List Int)}(h:qG n nx P){i:Nat}{p:List Int}(hi:P[i]?=some p){a:Int}(ha:a∈p):∀k,k≤P.length→i<k→(mB P k (List.replicate n 0)).getD a.toNat 0=i
 | 0,_,hk=>absurd hk (nE _)
 |k+1,mG,hk=>by
  have sy:=h.node p (cq hi) a ha
  obtain⟨q,hq⟩:∃q,P[k]?=some q:=⟨P[k],bJ (by omega)⟩
  show (kX k (P.getD k []) _).getD a.toNat 0=_
  rw[ur hq,Sx k sy.1 _ _ (fun z hz=>(h.node q (cq hq) z hz).1) (by rw[BD,gb];omega)]
  by_cases hm:a∈q
  ·rw[ai hm,vZ h.nd hi hq ha hm]
  ·rw[ah hm]
   have:i≠k:=fun e=>by subst e;rw[hi]at hq;exact hm (Option.some.inj hq▸ha)
   exact Sw h hi ha k (by omega) (by omega)
theorem abu{n:Nat}{nx:Int→List Int}{P:List (List Int)}(h:qG n nx P){i:Nat}{p:List Int}(hi:P[i]?=some p){a:Int}(ha:a∈p):(bj n P).getD a.toNat 0=i:=
 Sw h hi ha P.length (aU _) (cf.1 hi).1
def mY(l:List bC)(W:List Int)(T:List Bool)(i:Int):Bool:= !T.getD i.toNat false&&!l.any fun x=>decide (W.getD x.2.1.toNat 0=i)&&decide (W.getD x.1.toNat 0≠i)&&!T.getD (W.getD x.1.toNat 0).toNat false
def ik(P:List (List Int))(i:Nat):Int:=(P.getD i []).headD 0
def eY(P:List (List Int))(l:List bC)(W:List Int)(T:List Bool):Nat→Int
 | 0=> -1
 |k+1=>if mY l W T k=true∧(eY P l W T k<0∨ik P k<ik P (eY P l W T k).toNat) then k else eY P l W T k
theorem Fm(P:List (List Int))(l:List bC)(W:List Int)(T:List Bool):∀k:Nat,(eY P l W T k = -1∧∀i:Nat,i<k→mY l W T i=false)∨∃b:Nat,eY P l W T k=b∧b<k∧mY l W T b=true∧∀i:Nat,i<k→mY l W T i=true→ik P b≤ik P i
 | 0=>.inl ⟨rfl,fun _ h=>absurd h (nE _)⟩
 |k+1=>by
  have ih:=Fm P l W T k
  by_cases c:mY l W T k=true∧(eY P l W T k<0∨ik P k<ik P (eY P l W T k).toNat)
  ·have e:eY P l W T (k+1)=k:=ai c
   rw[e]
   refine .inr ⟨k,rfl,by omega,c.1,fun i hi hf=>?_⟩
   by_cases Ef:i=k
   ·subst Ef;exact ke _
   ·rcases ih with ⟨h1,h2⟩ | ⟨b,h1,h2,h3,h4⟩
    ·rw[h2 i (by omega)]at hf;cases hf
    ·have:=h4 i (by omega) hf
     rw[h1,bM]at c
     rcases c.2 with c | c
     ·omega
     ·omega
  ·have e:eY P l W T (k+1)=eY P l W T k:=ah c
   rw[e]
   rcases ih with ⟨h1,h2⟩ | ⟨b,h1,h2,h3,h4⟩
   ·refine .inl ⟨h1,fun i hi=>?_⟩
    by_cases Ef:i=k
    ·subst Ef
     exact Bf.2 fun hf=>c ⟨hf,.inl (by omega)⟩
    ·exact h2 i (by omega)
   ·refine .inr ⟨b,h1,by omega,h3,fun i hi hf=>?_⟩
    by_cases Ef:i=k
    ·subst Ef
     rw[h1,bM]at c
     exact Int.not_lt.1 fun ab=>c ⟨hf,.inr ab⟩
    ·exact h4 i (by omega) hf
def dy(P:List (List Int))(l:List bC)(W:List Int):Nat→List Bool×List (List Int)
 | 0=>(List.replicate P.length false,[])
 |k+1=>((dy P l W k).1.set (eY P l W (dy P l W k).1 P.length).toNat true,(dy P l W k).2++[P.getD (eY P l W (dy P l W k).1 P.length).toNat []])
def Hq(n:Nat)(l:List bC)(told:List Int)(a:Nat):Bool:=decide ((qU n l a).headD 0=(a:Int))&&!sk told a&&Md l (qU n l a) told
def Dj(n:Nat)(l:List bC):Nat→List (List Int)×List Int→List (List Int)×List Int
 | 0,s=>s
 |f+1,s=>if s.2.length<n then (match (List.range n).find? (Hq n l s.2) with | none=>s | some a=>Dj n l f (s.1++[qU n l a],s.2++qU n l a)) else s
def ka(n:Nat)(l:List bC):List (List Int):=(Dj n l (n+1) ([],[])).1
theorem XK{p:Nat→Bool}{n a:Nat}(ha:a<n)(hp:p a=true)(h:∀b,b<a→p b=false):(List.range n).find? p=some a:=by
 rw[List.find?_range_eq_some]
 exact⟨hp,gw.2 ha,fun b hb=>by rw[h b hb];rfl⟩
structure oq(n:Nat)(l:List bC)(P:List (List Int)):Prop where
 ok:qG n (au n l) P
 all:∀x:Int,0≤x→x<n→∃p∈P,x∈p
theorem oq.idx{n:Nat}{l:List bC}{P:List (List Int)}(h:oq n l P){x:Int}(hx:0≤x∧x<n):∃(i:Nat) (p:List Int),P[i]?=some p∧x∈p∧(bj n P).getD x.toNat 0=i:=by
 obtain⟨p,hp,rj⟩:=h.all x hx.1 hx.2
 obtain⟨i,hi⟩:=EH hp
 exact⟨i,p,hi,rj,abu h.ok hi rj⟩
theorem xS{P:List (List Int)}{i:Nat}{p:List Int}(h:P[i]?=some p):i<P.length:=(cf.1 h).1
structure OI(P:List (List Int))(k:Nat)(T:List Bool)(out:List (List Int)):Prop where
 tl:T.length=P.length
 ol:out.length=k
 aG:T.countP id=k
 mem:∀q,q∈out↔∃i:Nat,T.getD i false=true∧P[i]?=some q
 nd:out.flatten.Nodup
theorem QR{n:Nat}{l:List bC}{P:List (List Int)}(h:oq n l P)(hr:∀e∈l,(0≤e.1∧e.1<(n:Int))∧0≤e.2.1∧e.2.1<(n:Int)){k:Nat}{T:List Bool}{out:List (List Int)}(hO:OI P k T out){i:Nat}{p:List Int}(hi:P[i]?=some p):mY l (bj n P) T i=true↔T.getD i false=false∧Md l p out.flatten=true:=by
 unfold mY Md
 rw[bM,bL,lf,lf,Bg,fk]
 refine and_congr_right fun _=>?_
 refine forall_congr' fun e=>?_
 refine forall_congr' fun he=>?_
 obtain⟨q1,q2⟩:=hr e he
 obtain⟨a,pa,ha,Eb,wa⟩:=h.idx q1
 obtain⟨b,pb,hb,qq,wb⟩:=h.idx q2
 rw[wa,wb,bM]
 have dW:∀{j:Nat} {r:List Int} {x:Int},P[j]?=some r→x∈r→(sk p x=true↔j=i):=fun {j r x} hj hx=>by
  rw[Cu]
  exact⟨fun hm=>vZ h.ok.nd hj hi hx hm,fun e=>by subst e;rw[hi]at hj;rw[Option.some.inj hj];exact hx⟩
 have aeM:sk out.flatten e.1=true↔T.getD a false=true:=by
  rw[Cu,oN]
  constructor
  ·rintro⟨q,hq,hm⟩
   obtain⟨j,hj,qw⟩:=(hO.mem q).1 hq
   rw[vZ h.ok.nd ha qw Eb hm];exact hj
  ·intro ht
   exact⟨pa,(hO.mem pa).2 ⟨a,ht,ha⟩,Eb⟩
 have h1:=dW ha Eb
 have h2:=dW hb qq
 rw[bL,bL,decide_eq_true_eq,decide_eq_true_eq,lf,lf,Bool.and_eq_false_iff,Bool.and_eq_false_iff,I4,I4]
 have h3:sk p e.2.1=false↔b≠i:=by rw[← Bool.not_eq_true,h2]
 rw[aeM,h1,h3,← Bool.not_eq_true]
 constructor
 ·intro hn
  by_cases c1:b=i
  ·by_cases c2:a=i
   ·exact .inl (.inr c2)
   ·exact .inr (by
     by_cases c3:T.getD a false=true
     ·exact c3
     ·exact absurd ⟨⟨by omega,by omega⟩,c3⟩ hn)
  ·exact .inl (.inl c1)
 ·rintro ((c | c) | c) ⟨⟨d1,d2⟩,d3⟩
  ·exact c (by omega)
  ·exact d2 (by omega)
  ·exact d3 c
theorem count_set{T:List Bool}{i:Nat}(hi:i<T.length)(h:T.getD i false=false):(T.set i true).countP id=T.countP id+1:=by
 induction T generalizing i with
 |nil=>simp at hi
 |cons t T ih=>
  cases i with
  |zero=>
   have:t=false:=h
   subst this
   simp
  |succ i=>
   have:=ih (i:=i) (by simpa using hi) h
   rw[List.set_cons_succ,IY,IY,this];omega
theorem XS:∀{T:List Bool},T.countP id<T.length→∃i,i<T.length∧T.getD i false=false∧∀j,i<j→j<T.length→T.getD j false=true:=by
 intro T
 induction T with
 |nil=>intro h;simp at h
 |cons t T ih=>
  intro h
  rw[IY,ie]at h
  by_cases c:T.countP id<T.length
  ·obtain⟨i,h1,h2,h3⟩:=ih c
   refine⟨i+1,by rw[ie];omega,h2,fun j hj hl=>?_⟩
   cases j with
   |zero=>omega
   |succ j=>exact h3 j (by omega) (by rw[ie]at hl;omega)
  ·have ht:t=false:=by
    cases t with
    |false=>rfl
    |true=>simp at h;omega
   subst ht
   have cg:T.countP id=T.length:=by have:=List.countP_le_length (p:=id) (l:=T);omega
   refine⟨0,by simp,rfl,fun j hj hl=>?_⟩
   cases j with
   |zero=>omega
   |succ j=>
    have hl:j<T.length:=by rw[ie]at hl;omega
    have:=List.countP_eq_length.1 cg _ (bX hl)
    show T.getD j false=true
    rw[aW,bJ hl];exact this
theorem BR{n:Nat}{nx:Int→List Int}{P:List (List Int)}(h:qG n nx P):P.length≤n∧P.flatten.length≤n:=by
 have h1:P.flatten.length≤n:=BT n _ h.nd fun z hz=>by
  obtain⟨p,hp,hz⟩:=oN.1 hz
  exact h.node p hp z hz
 refine⟨fD ?_ h1,h1⟩
 have:=h.ne
 clear h h1
 induction P with
 |nil=>exact aU _
 |cons p P ih=>
  have h1:=mM.2 (this p (cm ..))
  have h2:=ih fun q hq=>this q (cY _ hq)
  rw[Bh,bQ,ie];omega
theorem Ku{n:Nat}{l:List bC}{P:List (List Int)}(h:oq n l P)(hr:∀e∈l,(0≤e.1∧e.1<(n:Int))∧0≤e.2.1∧e.2.1<(n:Int)){k:Nat}(hk:k<P.length){T:List Bool}{out:List (List Int)}(hO:OI P k T out):
  ∃(b:Nat) (p:List Int),eY P l (bj n P) T P.length=b∧P[b]?=some p∧OI P (k+1) (T.set b true) (out++[p])∧out.flatten.length<n∧∃a:Nat,(List.range n).find? (Hq n l out.flatten)=some a∧qU n l a=p:=by
 obtain⟨i,Ny,su,hi3⟩:=XS (T:=T) (by rw[hO.aG,hO.tl];exact hk)
 rw[hO.tl]at Ny hi3
 obtain⟨pi,hpi⟩:∃p,P[i]?=some p:=⟨P[i],bJ Ny⟩
 have UR:mY l (bj n P) T i=true:=by
  unfold mY
  rw[bM,su,bL]
  refine⟨rfl,?_⟩
  rw[lf]
  refine Bg.2 fun e he=>?_
  obtain⟨q1,q2⟩:=hr e he
  obtain⟨a,pa,ha,Eb,wa⟩:=h.idx q1
  obtain⟨b,pb,hb,qq,wb⟩:=h.idx q2
  rw[wa,wb,bM,bL,bL,decide_eq_true_eq,decide_eq_true_eq,lf]
  rintro⟨⟨d1,d2⟩,d3⟩
  obtain⟨j,q,j1,j2,j3⟩:=h.ok.Jm a pa ha e.1 Eb e.2.1 (lU.2 ⟨q2,q1,e,he,rfl,rfl⟩)
  have:=vZ h.ok.nd hb j2 qq j3
  rw[hi3 a (by omega) (xS ha)]at d3
  cases d3
 rcases Fm P l (bj n P) T P.length with ⟨_,kc⟩ | ⟨b,hb,oI,hbf,sw⟩
 ·rw[kc i Ny]at UR;cases UR
 obtain⟨p,hp⟩:∃p,P[b]?=some p:=⟨P[b],bJ oI⟩
 have fY:=cq hp
 obtain⟨vF,hbF⟩:=(QR h hr hO hp).1 hbf
 have Ea:p ∉ out:=fun hm=>by
  obtain⟨j,hj,qw⟩:=(hO.mem p).1 hm
  obtain⟨z,hz⟩:=List.exists_mem_of_ne_nil _ (h.ok.ne p fY)
  rw[vZ h.ok.nd hp qw hz hz,hj]at vF;cases vF
 have Vz:∀z∈p,z ∉ out.flatten:=fun z hz hm=>by
  obtain⟨q,hq,M9⟩:=oN.1 hm
  obtain⟨j,hj,qw⟩:=(hO.mem q).1 hq
  rw[vZ h.ok.nd hp qw hz M9,hj]at vF;cases vF
 have bZ:(out.flatten++p).Nodup:=oP.2 ⟨hO.nd,(h.ok.AO p fY).imp fun h=>by omega,fun x hx y hy e=>Vz y hy (e▸hx)⟩
 have p8:∀z∈out.flatten++p,0≤z∧z<(n:Int):=fun z hz=>by
  rcases bO.1 hz with hz | hz
  ·obtain⟨q,hq,M9⟩:=oN.1 hz
   obtain⟨j,_,qw⟩:=(hO.mem q).1 hq
   exact h.ok.node q (cq qw) z M9
  ·exact h.ok.node p fY z hz
 have hlen:=BT n _ bZ p8
 rw[bQ]at hlen
 have tG:=mM.2 (h.ok.ne p fY)
 refine⟨b,p,hb,hp,⟨by rw[List.length_set];exact hO.tl,by rw[List.length_append,hO.ol];rfl,by rw[count_set (by rw[hO.tl];exact oI) vF,hO.aG],fun q=>?_,by rw[List.flatten_append];simpa using bZ⟩,by omega,?_⟩
 ·rw[bO,bh,hO.mem]
  constructor
  ·rintro (⟨j,hj,qw⟩ | rfl)
   ·exact⟨j,by rw[JM];split;rfl;exact hj,qw⟩
   ·exact⟨b,by rw[JM,ai ⟨rfl,by rw[hO.tl];exact oI⟩],hp⟩
  ·rintro⟨j,hj,qw⟩
   rw[JM]at hj
   by_cases e:b=j
   ·subst e;rw[hp]at qw;exact .inr (Option.some.inj qw).symm
   ·rw[ah (fun h=>e h.1)]at hj
    exact .inl ⟨j,hj,qw⟩
 have UQ:∀{j:Nat} {q:List Int},P[j]?=some q→ik P j∈q∧ik P j=q.headD 0∧∀z∈q,ik P j≤z:=fun {j q} hj=>by
  have aP:=h.ok.ne q (cq hj)
  have hs:=h.ok.AO q (cq hj)
  unfold ik
  rw[ur hj]
  cases q with
  |nil=>exact absurd rfl aP
  |cons z q=>
   refine⟨cm ..,rfl,fun y hy=>?_⟩
   rcases eG.1 hy with rfl | hy
   ·exact ke _
   ·have:=(Bk.1 hs).1 y hy
    show z≤y
    omega
 obtain⟨m1,m2,_⟩:=UQ hp
 have hhn:=h.ok.node p fY _ m1
 refine⟨(ik P b).toNat,XK (by omega) ?_ fun a' II=>Bf.2 fun hc=>?_,?_⟩
 ·unfold Hq
  rw[lP hhn.1,K1 h.ok fY m1,hbF,IL,bL,decide_eq_true_eq,lf]
  exact⟨m2.symm,Bf.2 fun hm=>Vz _ m1 (Cu.1 hm)⟩
 ·unfold Hq at hc
  rw[bL,bL,decide_eq_true_eq,lf]at hc
  obtain⟨⟨c1,c2⟩,c3⟩:=hc
  obtain⟨j,q,hj,hq,_⟩:=h.idx (x:=(a':Int)) (by omega)
  rw[K1 h.ok (cq hj) hq]at c1 c3
  obtain⟨_,m4,_⟩:=UQ hj
  have hjT:T.getD j false=false:=Bf.2 fun ht=>by
   have:sk out.flatten a'=true:=Cu.2 (oN.2 ⟨q,(hO.mem q).2 ⟨j,ht,hj⟩,hq⟩)
   rw[this]at c2;cases c2
  have:=sw j (xS hj) ((QR h hr hO hj).2 ⟨hjT,c3⟩)
  rw[m4,c1]at this
  omega
 ·rw[lP hhn.1];exact K1 h.ok fY m1
theorem Gp{n:Nat}{l:List bC}{P:List (List Int)}(h:oq n l P)(hr:∀e∈l,(0≤e.1∧e.1<(n:Int))∧0≤e.2.1∧e.2.1<(n:Int)):∀k,k≤P.length→OI P k (dy P l (bj n P) k).1 (dy P l (bj n P) k).2∧(k<P.length→∃b:Nat,eY P l (bj n P) (dy P l (bj n P) k).1 P.length=b∧b<P.length)∧∀f,Dj n l (k+f) ([],[])=Dj n l f ((dy P l (bj n P) k).2,(dy P l (bj n P) k).2.flatten):=by
 intro k
 induction k with
 |zero=>
  intro _
  have kc:∀i,¬((List.replicate P.length false).getD i false=true):=fun i h1=>by
   rw[aW,vN]at h1
   split at h1 <;> cases h1
  have h0:OI P 0 (List.replicate P.length false) []:=⟨List.length_replicate,rfl,(by rw[List.countP_eq_zero];intro x hx;rw[List.eq_of_mem_replicate hx];simp),fun q=>⟨fun h=>absurd h (by simp),fun ⟨i,h1,_⟩=>absurd h1 (kc i)⟩,List.nodup_nil⟩
  refine⟨h0,fun hk=>?_,fun f=>by rw[eF];rfl⟩
  obtain⟨b,p,hb,hp,_⟩:=Ku h hr hk h0
  exact⟨b,hb,xS hp⟩
 |succ k ih=>
  intro hk
  obtain⟨hO,_,hf⟩:=ih (by omega)
  obtain⟨b,p,hb,hp,xv,ab,a,ha,vG⟩:=Ku h hr (by omega) hO
  have e1:(dy P l (bj n P) (k+1)).1=(dy P l (bj n P) k).1.set b true:=by
   show (dy P l (bj n P) k).1.set (eY P l (bj n P) (dy P l (bj n P) k).1 P.length).toNat true=_
   rw[hb,bM]
  have e2:(dy P l (bj n P) (k+1)).2=(dy P l (bj n P) k).2++[p]:=by
   show (dy P l (bj n P) k).2++[P.getD (eY P l (bj n P) (dy P l (bj n P) k).1 P.length).toNat []]=_
   rw[hb,bM,ur hp]
  rw[e1,e2]
  refine⟨xv,fun dF=>?_,fun f=>?_⟩
  ·obtain⟨b2,p2,rz,df,_⟩:=Ku h hr dF xv
   exact⟨b2,rz,xS df⟩
  ·rw[show k+1+f=k+(f+1) by omega,hf]
   show (if _ then _ else _)=_
   rw[ai ab,ha]
   show Dj n l f (_++[qU n l a],_++qU n l a)=_
   rw[vG,List.flatten_append];simp
theorem Lu{n:Nat}{l:List bC}{P:List (List Int)}(h:oq n l P)(hr:∀e∈l,(0≤e.1∧e.1<(n:Int))∧0≤e.2.1∧e.2.1<(n:Int)):(dy P l (bj n P) P.length).2=ka n l:=by
 obtain⟨hO,_,hf⟩:=Gp h hr P.length (aU _)
 have hl:=(BR h.ok).1
 have hf:=hf (n+1-P.length)
 rw[show P.length+(n+1-P.length)=n+1 by omega]at hf
 unfold ka
 rw[hf]
 obtain⟨f,hfe⟩:∃f,n+1-P.length=f+1:=⟨n-P.length,by omega⟩
 rw[hfe]
 show _=(if _ then _ else _:List (List Int)×List Int).1
 have cg:∀i,i<P.length→(dy P l (bj n P) P.length).1.getD i false=true:=fun i hi=>by
  have hc:(dy P l (bj n P) P.length).1.countP id=(dy P l (bj n P) P.length).1.length:=by rw[hO.aG,hO.tl]
  have:=List.countP_eq_length.1 hc _ (bX (n:=i) (by rw[hO.tl];exact hi))
  rw[aW,bJ (by rw[hO.tl];exact hi)];exact this
 have lZ:∀x∈(List.range n).map (fun i:Nat=>(i:Int)),x∈(dy P l (bj n P) P.length).2.flatten:=fun x hx=>by
  obtain⟨i,hi,rfl⟩:=dX.1 hx
  have hi:=gw.1 hi
  obtain⟨j,p,hj,hp,_⟩:=h.idx (x:=(i:Int)) (by omega)
  exact oN.2 ⟨p,(hO.mem p).2 ⟨j,cg j (xS hj),hj⟩,hp⟩
 have ar:=Kn (l:=(List.range n).map (fun i:Nat=>(i:Int))) (by rw[List.nodup_iff_pairwise_ne,Bi];exact List.pairwise_lt_range.imp fun h=>by omega) lZ
 rw[cd,oO]at ar
 rw[ah (by show ¬((dy P l (bj n P) P.length).2.flatten.length<n);omega)]
end Go.Proofs.YtnikdflhefijbaaGreat
