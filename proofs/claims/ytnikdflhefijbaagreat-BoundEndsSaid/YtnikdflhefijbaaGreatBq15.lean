import Derived.Test.YtnikdflhefijbaaGreatBq14
import Derived.Test.YtnikdflhefijbaaGreatBq8
import Derived.Test.YtnikdflhefijbaaGreatBq10
import Derived.Test.YtnikdflhefijbaaGreatBq11
namespace Go.Proofs.YtnikdflhefijbaaGreat
open Go.RowKit
set_option maxRecDepth 100000
theorem nh{w:List Int}{i j:Nat}{x:Int}:(w.set i x).getD j 0=if i=j∧j<w.length then x else w.getD j 0:=by
 simp only[aZ,eA]
 by_cases h:i=j
 ·subst h
  by_cases h2:i<w.length
  ·simp[h2]
  ·simp[h2]
 ·simp[h]
def gI(ix:List Int)(x:Int):Int:=if 0≤x then ix.getD x.toNat 0 else 0
theorem mH{ix:List Int}{x:Int}(h:0≤x):gI ix x=ix.getD x.toNat 0:=af h
theorem BG{ix:List Int}{b v:Int}(h0:0≤b)(h1:b<ix.length):gI (ix.set b.toNat v)=qg (gI ix) b v:=by
 funext y
 show (if 0≤y then (ix.set b.toNat v).getD y.toNat 0 else 0)=if y=b then v else if 0≤y then ix.getD y.toNat 0 else 0
 by_cases hy:0≤y
 ·rw[af hy,aZ,eA]
  by_cases e:y=b
  ·subst e;rw[af rfl,af (by omega),af rfl];rfl
  ·rw[ag (by omega),ag e,af hy,aZ]
 ·rw[ag hy,ag (by omega),ag hy]
theorem afG(n:Nat)(x:Int):gI (List.replicate n 0) x=0:=by
 unfold gI;split
 ·rw[aZ,vK];split <;> rfl
 ·rfl
structure FI(n:Nat)(nx:Int→List Int)(ix lo:List Int)(on:List Bool)(st:List Int)(aH:Nat)(P:List (List Int))(iq:List (Int×Nat)):Prop where
 tj:TJ n nx (gI ix) (gI lo) st aH P (iq.map (·.1))
 w6:Prc nx (gI ix) (gI lo) st iq
 li:ix.length=n
 ll:lo.length=n
 k8:on.length=n
 w8:∀a:Int,0≤a→a<n→on.getD a.toNat false=decide (a∈st)
 tn:∀t∈iq,t.2≤(nx t.1).length
theorem VF{on:List Bool}{b:Int}{x:Bool}(hb:0≤b)(hl:b<on.length){a:Int}(ha:0≤a):(on.set b.toNat x).getD a.toNat false=if a=b then x else on.getD a.toNat false:=by
 rw[aZ,eA,aZ]
 by_cases e:a=b
 ·subst e;rw[af rfl,af (by omega),af rfl];rfl
 ·rw[ag (by omega),ag e]
theorem FI.start(n:Nat)(nx:Int→List Int):FI n nx (List.replicate n 0) (List.replicate n 0) (List.replicate n false) [] 0 [] []:=
 ⟨.start (afG n),fun _ h=>(by cases h),fQ,fQ,fQ,fun a _ _=>by
  rw[List.getD_eq_getElem?_getD,List.getElem?_replicate];split <;> simp,fun _ h=>(by cases h)⟩
variable {n:Nat} {nx:Int→List Int} {ix lo:List Int} {on:List Bool} {st:List Int} {aH:Nat} {P:List (List Int)}
theorem FI.enter{iq way2:List (Int×Nat)}{b:Int}(h:FI n nx ix lo on st aH P iq)(hb:0≤b∧b<n)(hf:ix.getD b.toNat 0=0)(hW:∀v∈iq.map (·.1),Rx nx v b)(vd:way2.map (·.1)=iq.map (·.1))(hp:∀t∈way2,∀y∈(nx t.1).take t.2,y=b∨(gI ix y≠0∧(y∈st→gI lo t.1≤gI ix y)))(ht:∀t∈way2,t.2≤(nx t.1).length):
  FI n nx (ix.set b.toNat ((aH+1:Nat):Int)) (lo.set b.toNat ((aH+1:Nat):Int)) (on.set b.toNat true) (st++[b]) (aH+1) P (way2++[(b,0)]):=by
 have hf:gI ix b=0:=by rw[mH hb.1];exact hf
 have eX:b ∉ st:=fun hm=>by have:=h.tj.tq b hm;omega
 have h1:=h.tj.enter hb hf hW;refine⟨?_,?_,by rw[cz];exact h.li,by rw[cz];exact h.ll,by rw[cz];exact h.k8,fun a h0 hn=>?_,fun t pC=>?_⟩
 ·rw[BG hb.1 (by rw[h.li];exact hb.2),BG hb.1 (by rw[h.ll];exact hb.2),cF,vd];exact h1
 ·rw[BG hb.1 (by rw[h.li];exact hb.2),BG hb.1 (by rw[h.ll];exact hb.2)];intro t pC y hy
  rcases bY.1 pC with pC | pC
  ·have htW:t.1∈iq.map (·.1):=vd▸Qd pC;have hts:t.1∈st:=h.tj.sub.subset htW;have htb:t.1≠b:=fun e=>eX (e▸hts);rw[qM (f:=gI lo) htb];have hle:=(h.tj.low t.1 htW).1;have Au:=(h.tj.tq t.1 hts).2
   by_cases e:y=b
   ·subst e;rw[qN];exact⟨by omega,fun _=>by omega⟩
   ·rw[qM e];obtain⟨h2,h3⟩:=(hp t pC y hy).resolve_left e;exact⟨h2,fun hm=>h3 ((bY.1 hm).resolve_right fun hm=>e (bD.1 hm))⟩
  ·rw[bD.1 pC]at hy;simp at hy
 ·rw[VF hb.1 (by rw[h.k8];exact hb.2) h0]
  by_cases e:a=b
  ·subst e;rw[if_pos rfl];simp
  ·rw[if_neg e,h.w8 a h0 hn];simp[e]
 ·rcases bY.1 pC with pC | pC
  ·exact ht t pC
  ·rw[bD.1 pC];exact bC _
theorem LO{l:List Int}{k:Nat}(h:k<l.length){b:Int}(hb:l[k]=b):l.take (k+1)=l.take k++[b]:=by rw[ft h,hb]
theorem Mu{w:List (Int×Nat)}{a:Int}{k j:Nat}:(w++[(a,k)]).map (·.1)=(w++[(a,j)]).map (·.1):=by rw[cF,cF];rfl
theorem FI.new{w:List (Int×Nat)}{a b:Int}{k:Nat}(h:FI n nx ix lo on st aH P (w++[(a,k)]))(hk:k<(nx a).length)(hb:(nx a)[k]=b)(dV:0≤b∧b<n)(hf:ix.getD b.toNat 0=0):
  FI n nx (ix.set b.toNat ((aH+1:Nat):Int)) (lo.set b.toNat ((aH+1:Nat):Int)) (on.set b.toNat true) (st++[b]) (aH+1) P ((w++[(a,k+1)])++[(b,0)]):=by
 have PJ:b∈nx a:=hb▸cq hk;have PM:a∈(w++[(a,k)]).map (·.1):=cX.2 ⟨(a,k),jP _ (bD.2 rfl),rfl⟩;have mL:=h.tj.sub
 have mc:∀v∈w.map (·.1),gI ix v<gI ix a:=by
  refine DU h.tj.inc ?_;rw[cF]at mL;exact mL
 refine h.enter dV hf (fun v hv=>?_) Mu (fun t ht y hy=>?_) fun t ht=>?_
 ·refine (h.tj.Ap v hv a (mL.subset PM) ?_).trans (.one PJ);rw[cF]at hv
  rcases bY.1 hv with hv | hv
  ·have:=mc v hv;omega
  ·rw[bD.1 hv];exact kl _
 ·rcases bY.1 ht with ht | ht
  ·exact .inr (h.w6 t (ia _ ht) y hy)
  ·rw[bD.1 ht]at hy ⊢;rw[LO hk hb]at hy
   rcases bY.1 hy with hy | hy
   ·exact .inr (h.w6 (a,k) (jP _ (bD.2 rfl)) y hy)
   ·exact .inl (bD.1 hy)
 ·rcases bY.1 ht with ht | ht
  ·exact h.tn t (ia _ ht)
  ·rw[bD.1 ht];exact hk
theorem FI.off{w:List (Int×Nat)}{a b:Int}{k:Nat}(h:FI n nx ix lo on st aH P (w++[(a,k)]))(hk:k<(nx a).length)(hb:(nx a)[k]=b)(dV:0≤b)(hf:ix.getD b.toNat 0≠0)(hs:b ∉ st):FI n nx ix lo on st aH P (w++[(a,k+1)]):=by
 refine⟨by rw[Mu (j:=k)];exact h.tj,fun t ht y hy=>?_,h.li,h.ll,h.k8,h.w8,fun t ht=>?_⟩
 ·rcases bY.1 ht with ht | ht
  ·exact h.w6 t (ia _ ht) y hy
  ·rw[bD.1 ht]at hy ⊢;rw[LO hk hb]at hy
   rcases bY.1 hy with hy | hy
   ·exact h.w6 (a,k) (jP _ (bD.2 rfl)) y hy
   ·rw[bD.1 hy,mH dV];exact⟨hf,fun hm=>absurd hm hs⟩
 ·rcases bY.1 ht with ht | ht
  ·exact h.tn t (ia _ ht)
  ·rw[bD.1 ht];exact hk
theorem FI.Jz{w:List (Int×Nat)}{a b:Int}{k:Nat}(h:FI n nx ix lo on st aH P (w++[(a,k)]))(hk:k<(nx a).length)(hb:(nx a)[k]=b)(hs:b∈st):FI n nx ix (lo.set a.toNat (min (lo.getD a.toNat 0) (ix.getD b.toNat 0))) on st aH P (w++[(a,k+1)]):=by
 have PJ:b∈nx a:=hb▸cq hk;have dV:=h.tj.node b hs;have PM:a∈(w++[(a,k)]).map (·.1):=cX.2 ⟨(a,k),jP _ (bD.2 rfl),rfl⟩;have mL:=h.tj.sub;have tK:=h.tj.node a (mL.subset PM);have cg:((w++[(a,k)]).map (·.1)).Nodup:=(vO h.tj.inc).sublist mL
 have haw:∀t∈w,t.1≠a:=fun t ht e=>by
  rw[cF]at cg;exact (pM.1 cg).2.2 t.1 (Qd ht) a (bD.2 rfl) e
 have iX:=h.tj;rw[cF]at iX;have h1:=iX.lower (z:=b) hs (.one PJ);have FZ:gI (lo.set a.toNat (min (lo.getD a.toNat 0) (ix.getD b.toNat 0)))=qg (gI lo) a (min (gI lo a) (gI ix b)):=by rw[BG tK.1 (by rw[h.ll];exact tK.2),mH tK.1,mH dV.1]
 refine⟨by rw[FZ,Mu (j:=k),cF];exact h1,fun t ht y hy=>?_,h.li,by rw[cz];exact h.ll,h.k8,h.w8,fun t ht=>?_⟩
 ·rw[FZ]
  rcases bY.1 ht with ht | ht
  ·rw[qM (haw t ht)];exact h.w6 t (ia _ ht) y hy
  ·rw[bD.1 ht]at hy ⊢;rw[LO hk hb]at hy;rw[qN]
   rcases bY.1 hy with hy | hy
   ·obtain⟨h2,h3⟩:=h.w6 (a,k) (jP _ (bD.2 rfl)) y hy;have h3:y∈st→gI lo a≤gI ix y:=h3;exact⟨h2,fun hm=>by have:=h3 hm;omega⟩
   ·rw[bD.1 hy];have:=h.tj.tq b hs;exact⟨by omega,fun _=>by omega⟩
 ·rcases bY.1 ht with ht | ht
  ·exact h.tn t (ia _ ht)
  ·rw[bD.1 ht];exact hk
theorem FI.all{w:List (Int×Nat)}{a:Int}{k:Nat}(h:FI n nx ix lo on st aH P (w++[(a,k)]))(hk:(nx a).length≤k):∀y∈nx a,gI ix y≠0∧(y∈st→gI lo a≤gI ix y):=fun y hy=>
 h.w6 (a,k) (jP _ (bD.2 rfl)) y (by rw[eR hk];exact hy)
theorem acG{l:List Int}{i:Nat}:l.set i (l.getD i 0)=l:=by
 refine AK fun j=>?_;rw[eA]
 by_cases e:i=j
 ·subst e
  by_cases hl:i<l.length
  ·rw[af rfl,af hl,aZ,bB hl];rfl
  ·rw[af rfl,ag hl,vJ (by omega)]
 ·rw[ag e]
theorem FI.up{w:List (Int×Nat)}{u v:Int}{i k:Nat}(h:FI n nx ix lo on st aH P ((w++[(u,i)])++[(v,k)]))(hk:(nx v).length≤k)(aS:lo.getD v.toNat 0≠ix.getD v.toNat 0):FI n nx ix (lo.set u.toNat (min (lo.getD u.toNat 0) (lo.getD v.toNat 0))) on st aH P (w++[(u,i)]):=by
 have iX:=h.tj;rw[cF,cF]at iX;have Kk:u∈(w.map (·.1)++[u]++[v]):=by simp
 have Kg:v∈(w.map (·.1)++[u]++[v]):=by simp
 have fh:=iX.node u (iX.sub.subset Kk);have dv:=iX.node v (iX.sub.subset Kg);have cg:(w.map (·.1)++[u]++[v]).Nodup:=(vO iX.inc).sublist iX.sub;have huw:∀t∈w,t.1≠u:=fun t ht e=>(pM.1 (pM.1 cg).1).2.2 t.1 (Qd ht) u (bD.2 rfl) e;have fB:=(iX.low v Kg).1
 have ab:gI lo v<gI ix v:=by
  rw[mH dv.1,mH dv.1]at fB ⊢;omega
 have h1:=iX.up (u:=u) (v:=v) (w:=w.map (·.1)) ab (h.all hk);have FZ:gI (lo.set u.toNat (min (lo.getD u.toNat 0) (lo.getD v.toNat 0)))=qg (gI lo) u (min (gI lo u) (gI lo v)):=by rw[BG fh.1 (by rw[h.ll];exact fh.2),mH fh.1,mH dv.1]
 refine⟨by rw[FZ,cF];exact h1,fun t ht y hy=>?_,h.li,by rw[cz];exact h.ll,h.k8,h.w8,fun t ht=>h.tn t (ia _ ht)⟩;rw[FZ];obtain⟨h2,h3⟩:=h.w6 t (ia _ ht) y hy;refine⟨h2,fun hm=>?_⟩;have:=h3 hm
 by_cases e:t.1=u
 ·rw[e]at this ⊢;rw[qN];omega
 ·rw[qM e];exact this
def fo(part:List Int)(on:List Bool):List Bool:=part.foldl (fun on b=>on.set b.toNat false) on
theorem G7:∀(part:List Int) (on:List Bool),(fo part on).length=on.length
 | [],_=>rfl
 |b::part,on=>by
  show (fo part (on.set b.toNat false)).length=_;rw[G7 part,cz]
theorem Ui{a:Int}(ha:0≤a):∀(part:List Int) (on:List Bool),(∀b∈part,0≤b∧b<on.length)→(fo part on).getD a.toNat false=if a∈part then false else on.getD a.toNat false
 | [],_,_=>by simp[fo]
 |b::part,on,h=>by
  have hb:=h b (b9 ..);show (fo part (on.set b.toNat false)).getD a.toNat false=_;rw[Ui ha part _ fun c hc=>by rw[cz];exact h c (cQ _ hc),VF hb.1 hb.2 ha]
  by_cases h1:a∈part
  ·rw[af h1,af (cQ _ h1)]
  ·rw[ag h1]
   by_cases h2:a=b
   ·rw[af h2,af (by rw[h2];exact b9 ..)]
   ·rw[ag h2,ag (by rw[dm];exact fun h=>h.elim h2 h1)]
theorem FI.tell{w:List (Int×Nat)}{v:Int}{k:Nat}{A B part:List Int}(h:FI n nx ix lo on st aH P (w++[(v,k)]))(hk:(nx v).length≤k)(aq:st=A++v::B)(heq:lo.getD v.toNat 0=ix.getD v.toNat 0)(cP:∀x y,y∈nx x→0≤y∧y<n)(hp:part.Perm (v::B))(hs:part.Pairwise (· < ·)):FI n nx ix lo (fo (v::B) on) A aH (P++[part]) w:=by
 have iX:=h.tj;rw[cF]at iX;have dv:=iX.node v (by rw[aq];simp);have h1:=iX.tell (w:=w.map (·.1)) (part:=part) aq (by rw[mH dv.1,mH dv.1];exact heq) (h.all hk) cP hp hs;have vu:∀x∈A,x∈st:=fun x hx=>by rw[aq];exact ia _ hx
 refine⟨h1,fun t ht y hy=>?_,h.li,h.ll,by rw[G7];exact h.k8,fun a h0 hn=>?_,fun t ht=>h.tn t (ia _ ht)⟩
 ·obtain⟨h2,h3⟩:=h.w6 t (ia _ ht) y hy;exact⟨h2,fun hm=>h3 (vu y hm)⟩
 ·rw[Ui h0 _ _ fun b hb=>by rw[h.k8];exact iX.node b (by rw[aq];exact jP _ hb),h.w8 a h0 hn];have cg:=vO iX.inc;rw[aq]at cg
  by_cases hm:a∈v::B
  ·rw[af hm];exact (cf fun hA=>(pM.1 cg).2.2 a hA a hm rfl).symm
  ·rw[ag hm];refine Bool.eq_iff_iff.2 ?_;rw[decide_eq_true_eq,decide_eq_true_eq,aq,bY];exact⟨fun h=>h.resolve_right hm,.inl⟩
theorem FI.same{w:List (Int×Nat)}{u v:Int}{i k:Nat}(h:FI n nx ix lo on st aH P ((w++[(u,i)])++[(v,k)]))(heq:lo.getD v.toNat 0=ix.getD v.toNat 0):lo.set u.toNat (min (lo.getD u.toNat 0) (lo.getD v.toNat 0))=lo:=by
 have iX:=h.tj;rw[cF,cF]at iX;have Kk:u∈(w.map (·.1)++[u]++[v]):=by simp
 have Kg:v∈(w.map (·.1)++[u]++[v]):=by simp
 have fh:=iX.node u (iX.sub.subset Kk);have dv:=iX.node v (iX.sub.subset Kg);have h1:=(iX.low u Kk).1;have h2:=DU iX.inc iX.sub u (by simp);rw[mH fh.1,mH fh.1]at h1;rw[mH fh.1,mH dv.1]at h2;rw[show min (lo.getD u.toNat 0) (lo.getD v.toNat 0)=lo.getD u.toNat 0 by omega];exact acG
theorem FI.Wb(h:FI n nx ix lo on st aH P []):st=[]:=h.tj.empty
theorem FI.one{v:Int}{k:Nat}(h:FI n nx ix lo on st aH P [(v,k)]):lo.getD v.toNat 0=ix.getD v.toNat 0:=by
 have dv:=h.tj.node v (h.tj.sub.subset (by simp));have:=h.tj.first;rw[mH dv.1,mH dv.1]at this;exact this
theorem FI.mem{w:List (Int×Nat)}{v:Int}{k:Nat}(h:FI n nx ix lo on st aH P (w++[(v,k)])):v∈st:=h.tj.sub.subset (by simp)
theorem FI.BJ{iq:List (Int×Nat)}(h:FI n nx ix lo on st aH P iq):aH≤n∧st.length≤n∧P.flatten.length≤n:=by
 have cg:(P.flatten++st).Nodup:=pM.2 ⟨h.tj.prt.nd,vO h.tj.inc,fun x hx y hy e=>by
  subst e;obtain⟨p,hp,su⟩:=pL.1 hx
  exact h.tj.AW p hp x su hy⟩
 have hn:∀z∈P.flatten++st,0≤z∧z<(n:Int):=fun z hz=>by
  rcases bY.1 hz with hz | hz
  ·obtain⟨p,hp,hz⟩:=pL.1 hz;exact h.tj.prt.node p hp z hz
  ·exact h.tj.node z hz
 have mL:=Mi cg (m:=(List.range n).map fun i:Nat=>(i:Int)) fun z hz=>cX.2 ⟨z.toNat,fF.2 (by have:=hn z hz;omega),by have:=hn z hz;omega⟩;rw[bQ,bX,oL]at mL;have:=h.tj.len;omega
def jD(nx:Int→List Int)(iq:List (Int×Nat)):Nat:=(iq.map fun t=>(nx t.1).length+1-t.2).sum
def iR(nx:Int→List Int)(ix:List Int)(n:Nat):Nat:=((List.range n).map fun a:Nat=>if ix.getD a 0=0 then (nx a).length+2 else 0).sum
theorem mB(nx:Int→List Int)(w:List (Int×Nat))(a:Int)(k:Nat):jD nx (w++[(a,k)])=jD nx w+((nx a).length+1-k):=by unfold jD;simp
theorem SE(nx:Int→List Int)(ix:List Int)(n:Nat):iR nx ix (n+1)=iR nx ix n+if ix.getD n 0=0 then (nx n).length+2 else 0:=by unfold iR;rw[List.range_succ];simp
theorem Mn{nx:Int→List Int}{ix:List Int}{b:Nat}{v:Int}(hv:v≠0)(hf:ix.getD b 0=0)(hb:b<ix.length):∀n,iR nx (ix.set b v) n+(if b<n then (nx b).length+2 else 0)=iR nx ix n
 | 0=>rfl
 |n+1=>by
  have ih:=Mn (nx:=nx) hv hf hb n;rw[SE,SE]
  have hg:(ix.set b v).getD n 0=if b=n then v else ix.getD n 0:=by
   rw[aZ,eA]
   by_cases e:b=n
   ·subst e;rw[af rfl,af hb,af rfl];rfl
   ·rw[ag e,ag e,aZ]
  rw[hg]
  by_cases e:b=n
  ·subst e;rw[af rfl,ag hv,af hf,af (by omega)];rw[ag (by omega)]at ih;omega
  ·rw[ag e]
   by_cases c:b<n
   ·have e2:(if b<n+1 then (nx b).length+2 else 0)=(nx b).length+2:=af (by omega);rw[af c]at ih;rw[e2];omega
   ·have e2:(if b<n+1 then (nx b).length+2 else 0)=0:=ag (by omega);rw[ag c]at ih;rw[e2];omega
theorem adt(l:List Int)(i:Nat)(x:Int):(ai l).set i (.int .i64 x)=ai (l.set i x):=by unfold ai;rw[oI]
theorem adv(l:List Int){i:Nat}(h:i<l.length):(ai l)[i]?=some (.int .i64 (l.getD i 0)):=by
 unfold ai;rw[fk,bB h,aZ,bB h];rfl
theorem xN{l:List Int}{z:Int}{k:Nat}(hz:z=k)(h:k<l.length):ei ⟨.int .i64,1,8,[.int .i64 0]⟩ (ai l) (0+z.toNat*1)=some (.int .i64 (l.getD k 0)):=by
 subst hz;rw[dI,dS,bG];exact jz rfl (adv l h)
theorem Z6{i:TI}(hs:i.size=1){l:List Int}(x:Int){z:Int}{k:Nat}(hz:z=k)(h:k<l.length):kO i (ai l) (0+z.toNat*1) (.int .i64 x)=some (ai (l.set k x)):=by
 subst hz;rw[dI,dS,bG,ug hs rfl (by rw[ju];omega),adt]
theorem Acc.yK{e k:Nat}{v:AV}{acc:Hp}{cs:List AV}(h:Acc e k v acc cs):Acc e k (bR v) acc cs:=by
 cases h with
 |nil=>exact .nil
 |ae b k cs h=>exact .ae b k cs h
theorem acF{α:Type}(l:List α)(x y:α){k:Nat}(h:k=l.length):(l++[x]).set k y=l++[y]:=by subst h;simp
theorem adA{α:Type}(l:List α)(x:α){k:Nat}(h:k=l.length):(l++[x])[k]?=some x:=by subst h;simp
theorem ub{k:Nat}{v:AV}{acc:Hp}{cs:List AV}(h0:0<k)(h:Acc 1 k v acc cs):∃b,v=.ae b 0 k 1∧acc=[(b,cs)]:=by
 cases h with
 |nil=>omega
 |ae b k cs h=>exact⟨b,rfl,rfl⟩
theorem vR(P:List (List Int)):(cE P).length=P.length:=bX _
theorem adw{l:List Int}{J:List AV}{k:Nat}(h:k<l.length):(ai l++J)[k]?=some (.int .i64 (l.getD k 0)):=by
 rw[j6 (by rw[M8];exact h)];unfold ai;rw[fk,aZ,bB h];rfl
theorem V0(b k:Nat)(A B:List Int)(J:List AV)(x:Int)(σ:Hp)(hk:(A++x::B).length=k)(hx:x ∉ A)(hl:k≤1000000):ACalls Tryz.prog 287 [.ae b 0 k 1,.int .i64 x] ((b,ai (A++x::B)++J)::σ) (aC (.int .i64 A.length) ((b,ai (A++x::B)++J)::σ)):=by
 have hkA:A.length<k:=by rw[← hk,bQ,gj];omega
 refine ay Tryz.func287 ?_;refine ca (S:=Nat) (fun s=>[(0,.ae b 0 k 1),(1,.int .i64 x),(7,.int .i64 k),(8,.int .i64 s)]) (fun _=>(b,ai (A++x::B)++J)::σ) (fun s=>s≤A.length) (fun s=>A.length-s) 0 ⟨bC _,⟨rfl,rfl,rfl,rfl,trivial⟩,rfl⟩ ?_;rintro i t fE;have hi:i≤A.length:=fE;clear fE;refine ao (p:=(i:Int)<k) (fun ab=>?_) (fun au=>?_)
 ·have hg:=adw (l:=A++x::B) (J:=J) (k:=i) (by omega);obtain⟨y,hy⟩:∃y,(A++x::B).getD i 0=y:=⟨_,rfl⟩
  rw[hy]at hg;refine aO ?_;refine aW 0 rfl (jz rfl (by rw[dI,dS,bG];exact hg)) ?_;refine ao (fun c=>?_) (fun c=>?_)
  ·have c:x=y:=c;refine .done ⟨?_,rfl⟩
   by_cases e:i=A.length
   ·subst e;rfl
   ·have:y∈A:=by
     rw[← hy,aZ,j6 (by omega),bB (by omega)];exact cq _
    exact absurd (c▸this) hx
  ·have c:¬x=y:=c
   have aS:i≠A.length:=fun e=>by
    subst e;refine c ?_;rw[← hy,aZ,jq (aQ _),qB];rfl
   exact a8 (i+1) (by show A.length-(i+1)<A.length-i;omega) (by show i+1≤A.length;omega) ⟨rfl,rfl,rfl,aX (by omega),trivial⟩ (.refl _)
 ·omega
theorem V2(b off k:Nat)(C cs:List AV)(σ:Hp)(h:(C.drop off).take (k*1)=cs)(h2:off+k*1≤C.length)(hl:k≤1000000):ACalls Tryz.prog 220 [.ae b off k 1] ((b,C)::σ) (fun x σ'=>∃b',x=.ae b' 0 k 1∧σ'=(b',cs)::(b,C)::σ):=by
 refine ay Tryz.func220 ?_;intro b2;refine AppendAt.more 0 b2 0 k [] ((C.drop off).take (k*1)) rfl rfl (cy rfl) (.mem (cQ _ (b9 ..)) h2) (by omega) (by decide) (by decide) (fun b'=>?_);refine .done ⟨b',by rw[dI];rfl,?_⟩;rw[h];rfl
theorem U0(w bi bl bo n:Nat)(N:List (List Int))(ix lo:List Int)(on:List Bool)(aH:Nat)(vs vp:AV)(a:Int)(σ:Hp)(h0:0≤a)(hn:a<n)(hi:ix.length=n)(hl:lo.length=n)(aS:lo.getD a.toNat 0≠ix.getD a.toNat 0):
  ACalls Tryz.prog 315 [.ptr w 0,.int .i64 a] ((w,dw N bi bl bo n vs aH vp)::(bi,ai ix)::(bl,ai lo)::(bo,bN on)::σ) (aC (.tup []) ((w,dw N bi bl bo n vs aH vp)::(bi,ai ix)::(bl,ai lo)::(bo,bN on)::σ)):=by
 refine ay Tryz.func315 ?_;refine .quiet (by kernel_rfl) ?_;refine aa 0 ?_;refine aO ?_;refine aW 2 rfl (fy rfl h0 (by omega)) ?_;refine aa 0 ?_;refine aO ?_;refine aW 1 rfl (fy rfl h0 (by omega)) ?_;refine dX (fun c=>?_) (fun c=>?_)
 ·exact .done ⟨rfl,rfl⟩
 ·exact absurd (by simpa using c) aS
theorem Se(w bi bl bo n:Nat)(N:List (List Int))(ix lo A B:List Int)(on:List Bool)(P:List (List Int))(aH:Nat)(vs vp:AV)(mf e8:Hp)(a:Int)(σ:Hp)(h0:0≤a)(hn:a<n)(hi:ix.length=n)(hl:lo.length=n)(ho:on.length=n)(he:lo.getD a.toNat 0=ix.getD a.toNat 0)(PN:a ∉ A)(hB:∀x∈a::B,0≤x∧x<n)(cT:(A++a::B).length≤10000)(tG:P.length≤10000)
  (hs:iT 1 (A++a::B).length vs mf (ai (A++a::B))) (hp:Acc 1 P.length vp e8 (cE P)) :
  ACalls Tryz.prog 315 [.ptr w 0,.int .i64 a] ((w,dw N bi bl bo n vs aH vp)::(bi,ai ix)::(bl,ai lo)::(bo,bN on)::(mf++(e8++σ)))
   (fun r σ'=>r=.tup []∧∃eW jB gO gM,iT 1 A.length eW jB (ai A)∧Acc 1 (P++[fU (a::B)]).length gO gM (cE (P++[fU (a::B)]))∧σ'=(w,dw N bi bl bo n eW aH gO)::(bi,ai ix)::(bl,ai lo)::(bo,bN (fo (a::B) on))::(jB++(gM++σ))):=by
 obtain⟨K,hK⟩:∃K,(A++a::B).length=K:=⟨_,rfl⟩
 obtain⟨L,hL⟩:∃L:List Int,a::B=L:=⟨_,rfl⟩
 obtain⟨q,hq⟩:∃q,L.length=q:=⟨_,rfl⟩
 have hKA:K=A.length+q:=by rw[← hK,bQ,hL,hq]
 have hq0:0<q:=by rw[← hq,← hL,gj];omega
 rw[hK]at hs cT;obtain⟨bs,J,rfl,rfl,P3⟩:=hs.pos (by omega)
 have jh:((ai (A++a::B)++J).drop A.length).take (q*1)=ai L:=by
  rw[hL];unfold ai;rw[cF,dW,La (by rw[bX];exact aQ _),C5 (by rw[bX];exact aQ _),vD,Lf (by rw[bX];omega),eR (by rw[bX];omega)]
 have eQ:A.length+q*1≤(ai (A++a::B)++J).length:=by rw[bQ,P3];omega
 refine ay Tryz.func315 ?_;refine .quiet (by kernel_rfl) ?_;refine aa 0 ?_;refine aO ?_;refine aW 2 rfl (fy rfl h0 (by omega)) ?_;refine aa 0 ?_;refine aO ?_;refine aW 1 rfl (fy rfl h0 (by omega)) ?_;refine dX (fun c=>?_) (fun c=>?_)
 ·exact absurd he (by simpa using c)
 clear c;refine aa 0 ?_;refine ax [4] (V0 bs K A B J a _ hK PN (by omega)) ?_;refine aa 1 ?_;refine aJ.mk ⟨by omega,by omega,by omega,rfl⟩ ?_
 have hC:∀σ,ACalls Tryz.prog 220 [.ae bs (0+((A.length:Nat):Int).toNat*1) (((K:Nat):Int).toNat-((A.length:Nat):Int).toNat) 1] ((bs,ai (A++a::B)++J)::σ) (fun x σ'=>∃b',x=.ae b' 0 q 1∧σ'=(b',ai L)::(bs,ai (A++a::B)++J)::σ):=fun σ=>by
  rw[show 0+((A.length:Nat):Int).toNat*1=A.length by omega,show ((K:Nat):Int).toNat-((A.length:Nat):Int).toNat=q by omega];exact V2 bs A.length q _ _ σ jh eQ (by omega)
 refine .mk [0] _ (hC _) ?_;rintro _ _ ⟨bp,rfl,rfl⟩;refine aa 2 ?_;refine aJ.mk ⟨by omega,by omega,by omega,by omega,rfl⟩ ?_;refine aj 2 ?_;refine ca (S:=Nat) (fun i=>[(0,.ptr w 0),(5,.ae bp 0 q 1),(46,.ae bp 0 q 1),(47,.int .i64 q),(48,.int .i64 i)]) (fun i=>(bp,ai L)::(bs,ai (A++a::B)++J)::(w,dw N bi bl bo n (.ae bs 0 A.length 1) aH vp)::(bi,ai ix)::(bl,ai lo)::(bo,bN (fo (L.take i) on))::(e8++σ)) (fun i=>i≤q) (fun i=>q-i) 0 ⟨bC _,⟨rfl,rfl,rfl,rfl,rfl,trivial⟩,rfl⟩ ?_;rintro i g fE;have hiq:i≤q:=fE;clear fE;refine ao (p:=(i:Int)<q) (fun ab=>?_) (fun au=>?_)
 ·have ab:i<L.length:=by omega
  obtain⟨x,hx⟩:∃x,L[i]=x:=⟨_,rfl⟩
  have FT:=hB x (by rw[hL,← hx];exact cq ab);have oE:=G7 (L.take i) on;have OC:(fo (L.take i) on).set x.toNat false=fo (L.take (i+1)) on:=by unfold fo;rw[ft ab,hx,sK];rfl
  have oy:ei ⟨.int .i64,1,8,[.int .i64 0]⟩ (ai L) (0+((i:Nat):Int).toNat*1)=some (.int .i64 x):=by
   rw[fy rfl (by omega) (by omega),bG,aZ,bB ab,hx];rfl
  refine aO ?_;refine aW 0 rfl oy ?_;refine aa 2 ?_;refine aO ?_;refine cU 5 rfl (zr rfl false FT.1 (by omega)) ?_;exact a8 (i+1) (by show q-(i+1)<q-i;omega) (by show i+1≤q;omega) ⟨rfl,rfl,rfl,rfl,aX (by omega),trivial⟩ (aL (by rw[OC];rfl))
 ·have au:i=q:=by omega
  subst au;refine ax [0] (NI bp L i _ hq (by omega)) ?_;refine aa 2 ?_;intro dJ;refine A5 [_,_,_,_,_,_,_] hp.yK (.ae 0 dJ 0 1 _ rfl (cy rfl)) rfl (by omega) (by decide) (by decide) (fun v' aY h'=>?_);obtain⟨b5,rfl,rfl⟩:=ub (by omega) h';refine aj 3 ?_;have hgs:=adA (cE P) (AV.ae bp 0 i 1) (k:=P.length) (vR P).symm;have hss:=acF (cE P) (AV.ae bp 0 i 1) (.ah (.int .i64) (fU L)) (k:=P.length) (vR P).symm;refine .kV 1 bp 0 i 1 _ (.int .i64) (fU L) rfl (by rw[gR,eR (by rw[ju,A2,dS];omega)];exact vW _) ⟨(A2 L).trans hq,rfl,by decide⟩ 6 P.length b5 _ rfl hgs ?_;refine .drop 0 1 (.perm (fS [_,_,_,_] [_] _).symm (.done ⟨rfl,.ae bs 0 A.length 1,[(bs,ai A++(ai L++J))],.ae b5 0 (P.length+1) 1,[(b5,cE (P++[fU L]))],.ae bs A.length (ai A) (ai L++J) (by rw[ju,dS]),?_,?_⟩))
  ·subst hL;rw[bQ];exact .ae b5 (P.length+1) (cE (P++[fU (a::B)])) ((vR _).trans (by rw[bQ,dS];rfl))
  ·rw[eR (y5 hq)];subst hL;have e1:ai (A++a::B)++J=ai A++(ai (a::B)++J):=by unfold ai;rw[cF,dW]
   have e2:cE (P++[fU (a::B)])=cE P++[.ah (.int .i64) (fU (a::B))]:=cF;rw[e1,e2,← hss];rfl
def bL(l:List (Int×Nat)):List AV:=l.flatMap fun t=>[.int .i64 t.1,.int .i64 t.2]
theorem ng:∀l:List (Int×Nat),(bL l).length=l.length*2
 | []=>rfl
 |t::l=>by
  show ([AV.int .i64 t.1,.int .i64 t.2]++bL l).length=_;rw[bQ,ng l,gj];show 2+l.length*2=(l.length+1)*2;omega
theorem pQ(l m:List (Int×Nat)):bL (l++m)=bL l++bL m:=xC
theorem sQ{w:List (Int×Nat)}{v:Int}{k:Nat}{J:List AV}{m:Nat}(hm:m=w.length):(bL (w++[(v,k)])++J)[m*2]?=some (.int .i64 v):=by
 subst hm;rw[pQ,dW,jq (by rw[ng];omega),ng,qB];rfl
theorem Du{w:List (Int×Nat)}{v:Int}{k:Nat}{J:List AV}{m:Nat}(hm:m=w.length):(bL (w++[(v,k)])++J)[m*2+1]?=some (.int .i64 k):=by
 subst hm;rw[pQ,dW,jq (by rw[ng];omega),ng,K4];rfl
theorem DO{w:List (Int×Nat)}{v:Int}{k:Nat}{J:List AV}{m:Nat}(hm:m=w.length):(bL (w++[(v,k)])++J).set (m*2+1) (.int .i64 ((k+1:Nat):Int))=bL (w++[(v,k+1)])++J:=by
 subst hm;rw[pQ,pQ,dW,dW,Le _ _ (by rw[ng];omega),ng,K4];rfl
def cd(n:Nat)(l:List bE):List (List Int):=(List.range n).map fun a:Nat=>aw n l a
theorem pZ{n:Nat}{l:List bE}{a:Int}(h:0≤a∧a<n):(cd n l)[a.toNat]?=some (aw n l a):=by
 unfold cd;rw[fk,vH (by omega)];show some (aw n l (a.toNat:Int))=_;rw[lW h.1]
theorem Dd(zs:List Int):(fU zs).Perm zs:=List.mergeSort_perm _ _
theorem G3{zs:List Int}(h:zs.Nodup):(fU zs).Pairwise (· < ·):=((QT zs).and ((Dd zs).nodup_iff.2 h)).imp fun h=>by omega
theorem He{n:Nat}{nx:Int→List Int}{P:List (List Int)}(h:rN n nx P):P.length≤P.flatten.length:=by
 have:=h.ne;clear h
 induction P with
 |nil=>exact aQ _
 |cons p P ih=>
  have h1:=mX.2 (this p (b9 ..));have h2:=ih fun q hq=>this q (cQ _ hq);rw[C0,bQ,gj];omega
theorem Vj{i:TI}(hw:i.wide=true){cs v:List AV}{off:Nat}(h:off+i.size≤cs.length)(hv:(cs.drop off).take i.size=v):ei i cs off=some (.agg v):=by
 unfold ei;rw[hw];show (match Nat.ble (off+i.size) cs.length with | true=>some (AV.agg ((cs.drop off).take i.size)) | false=>none)=_;rw[Lh h,hv]
theorem Ru{w:List (Int×Nat)}{v:Int}{k:Nat}{J:List AV}{m:Nat}(hm:m=w.length):((bL (w++[(v,k)])++J).drop (m*2)).take 2=[.int .i64 v,.int .i64 k]:=by
 subst hm;rw[pQ,dW,La (by rw[ng];exact aQ _),C5 (by rw[ng];exact aQ _)];rfl
theorem xJ(X a σ:Hp)(x y:Nat×List AV):(X++(a++(x::y::σ))).Perm (x::(X++(y::(a++σ)))):=by
 have h1:(a++(x::y::σ)).Perm (x::y::(a++σ)):=oK.trans (List.Perm.cons _ oK);exact (List.Perm.append_left X h1).trans oK
def ED(rec:Go.Code→Tm→Hp→(Ex→Tm→Hp→Prop)→Prop)(c:Go.Code){S:Type}(gu:S→Nat)(L:S→List (Nat×AV))(H:S→Hp)(p:S→Prop)(μ:S→Nat)(Q:Ex→Tm→Hp→Prop):Prop:=
 ∀s g,p s→(match findLabel c (gu s) with | some r=>rec r (dF g (L s)) (H s) (fun e t' σ'=>match e with | .goto l'=>sf gu L H p μ s l' t' σ' | e=>Q e t' σ') | none=>False)
theorem Rs{P:Program}{TT:TypeId→Option TI}{fn:Go.Func}{c:Go.Code}{xs:List AV}{σ:Hp}{R:AV→Hp→Prop}{S:Type}(hb:fn.body=some (.scope c))(gu:S→Nat)(L:S→List (Nat×AV))(H:S→Hp)(p:S→Prop)(μ:S→Nat)
  (hr:ED (nq P TT 999) c gu L H p μ (wI TT fn.results.toList R))
  (h:ED (nq P TT 999) c gu L H p μ (wI TT fn.results.toList R)→codeF P TT (nq P TT 999) (.scope c) (t0 xs) σ (wI TT fn.results.toList R)):wJ P TT fn xs σ R:=by
 have h1:nq P TT 1000 (.scope c) (t0 xs) σ (wI TT fn.results.toList R):=h hr;unfold wJ;rw[hb];exact h1
theorem xM{rec:Go.Code→Tm→Hp→(Ex→Tm→Hp→Prop)→Prop}{c:Go.Code}{S:Type}{gu:S→Nat}{L:S→List (Nat×AV)}{H:S→Hp}{p:S→Prop}{μ:S→Nat}{Q:Ex→Tm→Hp→Prop}{t:Tm}{σ:Hp}{l:Nat}(hr:ED rec c gu L H p μ Q)(s0:S)(h0:l=gu s0∧p s0∧agree t (L s0)∧jI σ (H s0)):
  sg (fun l t σ Q=>match findLabel c l with | some r=>rec r t σ Q | none=>False) l Q t σ:=.loop gu L H p μ s0 h0 hr
abbrev FrS:=(List Int×List Int×List Bool×List Int×Nat×List (List Int))×(Nat×List AV×AV×Hp)×(List (Int×Nat)×Int×Nat)×(Nat×List AV)
theorem aiN(n w bi bl bo:Nat)(l:List bE)(mh xc:List Int)(w9:List Bool)(dQ:Nat)(P0:List (List Int))(uX gr:AV)(wK iQ:Hp)(a:Int)(σ:Hp)(hn:n≤1000)(h:FI n (aw n l) mh xc w9 [] dQ P0 [])(ha:0≤a∧a<n)(hf:mh.getD a.toNat 0=0)(hs:iT 1 0 uX wK [])(hp:Acc 1 P0.length gr iQ (cE P0)):
  ACalls Tryz.prog 290 [.ptr w 0,.int .i64 a] ((w,dw (cd n l) bi bl bo n uX dQ gr)::(bi,ai mh)::(bl,ai xc)::(bo,bN w9)::(wK++(iQ++σ)))
   (fun r σ'=>r=.tup []∧∃ix lo on aH P vs mf vp e8,FI n (aw n l) ix lo on [] aH P []∧iT 1 0 vs mf []∧Acc 1 P.length vp e8 (cE P)∧ix.getD a.toNat 0≠0∧(∀b:Nat,mh.getD b 0≠0→ix.getD b 0≠0)∧σ'=(w,dw (cd n l) bi bl bo n vs aH vp)::(bi,ai ix)::(bl,ai lo)::(bo,bN on)::(mf++(e8++σ))):=by
 have hle:=h.BJ;refine ay Tryz.func290 ?_
 refine Rs (S:=FrS) rfl (fun _=>0)
  (fun x=>[(0,.ptr w 0),(4,.ae x.2.2.2.1 0 (x.2.2.1.1.length+1) 2)])
  (fun x=>(w,dw (cd n l) bi bl bo n (.ae x.2.1.1 0 x.1.2.2.2.1.length 1) x.1.2.2.2.2.1 x.2.1.2.2.1)::(bi,ai x.1.1)::(bl,ai x.1.2.1)::(bo,bN x.1.2.2.1)::(x.2.1.1,ai x.1.2.2.2.1++x.2.1.2.1)::(x.2.2.2.1,bL (x.2.2.1.1++[(x.2.2.1.2.1,x.2.2.1.2.2)])++x.2.2.2.2)::(x.2.1.2.2.2++σ))
  (fun x=>(FI n (aw n l) x.1.1 x.1.2.1 x.1.2.2.1 x.1.2.2.2.1 x.1.2.2.2.2.1 x.1.2.2.2.2.2 (x.2.2.1.1++[(x.2.2.1.2.1,x.2.2.1.2.2)])∧Acc 1 x.1.2.2.2.2.2.length x.2.1.2.2.1 x.2.1.2.2.2 (cE x.1.2.2.2.2.2))∧x.1.1.getD a.toNat 0≠0∧∀b:Nat,mh.getD b 0≠0→x.1.1.getD b 0≠0)
  (fun x=>jD (aw n l) (x.2.2.1.1++[(x.2.2.1.2.1,x.2.2.1.2.2)])+iR (aw n l) x.1.1 n) ?_ ?_
 ·rintro⟨⟨ix,lo,on,st,aH,P⟩,⟨bs,Js,vp,e8⟩,⟨wy,v,k⟩,⟨bw,J⟩⟩ g ⟨⟨pG,vt⟩,mu,yZ⟩;have hF:FI n (aw n l) ix lo on st aH P (wy++[(v,k)]):=pG;have hP:Acc 1 P.length vp e8 (cE P):=vt;have hA:ix.getD a.toNat 0≠0:=mu;have hM:∀b:Nat,mh.getD b 0≠0→ix.getD b 0≠0:=yZ;clear pG vt mu yZ;have hle:=hF.BJ;have bP:=hF.mem;have dv:=hF.tj.node v bP;have CC:k≤(aw n l v).length:=hF.tn (v,k) (jP _ (bD.2 rfl));have mR:=zj n l v
  have pA:wy.length+1≤st.length:=by
   have:=hF.tj.sub.length_le;rw[bX,bQ]at this;exact this
  have oe:IntKind.i64.wrap (((wy.length+1:Nat):Int)-1)=((wy.length:Nat):Int):=by rw[cC (by omega)];omega
  have hX:0+(IntKind.i64.wrap (((wy.length+1:Nat):Int)-1)).toNat*2=wy.length*2:=by rw[oe];omega
  have nD:ei ⟨.int .i64,1,8,[.int .i64 0]⟩ (bL (wy++[(v,k)])++J) (0+(IntKind.i64.wrap (((wy.length+1:Nat):Int)-1)).toNat*2+0)=some (.int .i64 v):=jz rfl (by rw[hX];exact sQ rfl);have ml:ei ⟨.int .i64,1,8,[.int .i64 0]⟩ (bL (wy++[(v,k)])++J) (0+(IntKind.i64.wrap (((wy.length+1:Nat):Int)-1)).toNat*2+1)=some (.int .i64 k):=jz rfl (by rw[hX];exact Du rfl);have eQ:(bL (wy++[(v,k)])++J).length=wy.length*2+2+J.length:=by rw[bQ,ng,bQ];show (wy.length+1)*2+_=_;omega
  have mr:IntKind.i64.wrap ((k:Int)+1)=((k+1:Nat):Int):=by rw[cC (by omega)];omega
  have xf:kO ⟨.int .i64,1,8,[.int .i64 0]⟩ (bL (wy++[(v,k)])++J) (0+(IntKind.i64.wrap (((wy.length+1:Nat):Int)-1)).toNat*2+1) (.int .i64 (IntKind.i64.wrap ((k:Int)+1)))=some (bL (wy++[(v,k+1)])++J):=by
   rw[ug rfl rfl (by rw[hX,eQ];omega),hX,mr,DO rfl]
  have wE:2=2∧0≤IntKind.i64.wrap (((wy.length+1:Nat):Int)-1)∧IntKind.i64.wrap (((wy.length+1:Nat):Int)-1)<((wy.length+1:Nat):Int):=⟨rfl,by omega,by omega⟩
  refine aJ.mk wE ?_;refine .quiet (by kernel_rfl) ?_;refine aW 5 rfl ml ?_;refine aa 0 ?_;refine aW 5 rfl nD ?_;refine aJ.mk rfl ?_;refine bO.mk (aw n l v) (by omega) (pZ dv) ?_;refine ao (p:=(k:Int)<(aw n l v).length) (fun ab=>?_) (fun au=>?_)
  ·have ab:k<(aw n l v).length:=by omega
   obtain⟨b,hb⟩:∃b,(aw n l v)[k]=b:=⟨_,rfl⟩
   have tI:b∈aw n l v:=hb▸cq ab;have dV:=(lZ.1 tI).1;refine .quiet (by kernel_rfl) ?_;refine aa 0 ?_;refine aW 5 rfl nD ?_;refine aJ.mk rfl ?_;refine bO.mk (aw n l v) (by omega) (pZ dv) ?_;refine aW 5 rfl ml ?_;refine aJ.mk rfl ?_;refine bO.mk b (by omega) ((get_some ab).trans (congrArg some hb)) ?_;refine aW 5 rfl ml ?_;refine cU 5 rfl xf ?_;refine aa 0 ?_;refine aO ?_;refine aW 1 rfl (fy rfl dV.1 (by rw[hF.li];omega)) ?_;refine ao (p:=ix.getD b.toNat 0=0) (fun c1=>?_) (fun c1=>?_)
   ·have hN:=hF.new ab hb dV c1;have eE:(ai st).length=st.length*1:=by rw[ju,dS]
    refine .mk [] _ (BK w bi bl bo n (cd n l) ix lo st on aH _ vp _ b ((bw,bL (wy++[(v,k+1)])++J)::(e8++σ)) dV.1 dV.2 hF.li hF.ll hF.k8 (.ae bs st.length (ai st) Js eE) (by omega) (by omega)) ?_;rintro _ _ ⟨rfl,Cn,E3,fD,rfl⟩;obtain⟨mA,pO,rfl,rfl,_⟩:=fD.pos (by rw[bQ];show 0<_+1;omega);intro aF;have JD:(bL (wy++[(v,k+1)])).length=(wy.length+1)*2:=by rw[ng,bQ];rfl
    refine zh (k:=wy.length+1) (n:=1) [_,_,_,_,_,_] (.ae bw (wy.length+1) (bL (wy++[(v,k+1)])) J JD) (.ae 0 aF 0 1 _ rfl (cy rfl)) rfl (by omega) (by decide) (by decide) (fun v' aY h'=>?_);obtain⟨pN,J2,rfl,rfl,_⟩:=h'.pos (by omega);have Pw:(wy++[(v,k+1)]).length+1=wy.length+1+1:=by rw[bQ];rfl
    have xm:(b.toNat:Int)=b:=lW dV.1;have tE:=Mn (nx:=aw n l) (ix:=ix) (b:=b.toNat) (v:=((aH+1:Nat):Int)) (by omega) c1 (by rw[hF.li];omega) n;rw[af (by omega),xm]at tE;refine .mk ((ix.set b.toNat ((aH+1:Nat):Int),lo.set b.toNat ((aH+1:Nat):Int),on.set b.toNat true,st++[b],aH+1,P),(mA,pO,vp,e8),(wy++[(v,k+1)],b,0),(pN,J2)) rfl ?_ ⟨⟨hN,hP⟩,?_,?_⟩ ⟨rfl,by rw[Pw];rfl,trivial⟩ (.drop 0 1 (aL (by rw[pQ (wy++[(v,k+1)])];rfl)))
    ·show jD (aw n l) ((wy++[(v,k+1)])++[(b,0)])+iR (aw n l) (ix.set b.toNat ((aH+1:Nat):Int)) n<jD (aw n l) (wy++[(v,k)])+iR (aw n l) ix n;rw[mB,mB,mB];omega
    ·show (ix.set b.toNat ((aH+1:Nat):Int)).getD a.toNat 0≠0;rw[nh];split
     ·omega
     ·exact hA
    ·intro z hz;show (ix.set b.toNat ((aH+1:Nat):Int)).getD z 0≠0;rw[nh];split
     ·omega
     ·exact hM z hz
   ·have c1:¬(ix.getD b.toNat 0=0):=c1;refine aa 0 ?_;refine aO ?_;have mn:=hF.w8 b dV.1 dV.2;have Fk:ei ⟨.int .i64,1,8,[.int .i64 0]⟩ (bL (wy++[(v,k+1)])++J) (0+(IntKind.i64.wrap (((wy.length+1:Nat):Int)-1)).toNat*2+0)=some (.int .i64 v):=jz rfl (by rw[hX];exact sQ rfl);refine fg.kZ 3 _ _ rfl (ua rfl dV.1 (by rw[hF.k8];omega)) (fun c2=>?_) (fun c2=>?_)
    ·rw[mn]at c2;have hO:=hF.Jz ab hb (fP c2);refine .sched [] (upto [] 28 0) (by kernel_rfl) ?_;refine aa 0 ?_;refine aW 5 rfl Fk ?_;refine aa 0 ?_;refine aW 5 rfl Fk ?_;refine aO ?_;refine aW 2 rfl (fy rfl dv.1 (by rw[hF.ll];omega)) ?_;refine aa 0 ?_;refine aO ?_;refine aW 1 rfl (fy rfl dV.1 (by rw[hF.li];omega)) ?_;refine aO ?_;refine cU 2 rfl (nU rfl _ dv.1 (by rw[hF.ll];omega)) ?_;have jg:(if ix.getD b.toNat 0<lo.getD v.toNat 0 then ix.getD b.toNat 0 else lo.getD v.toNat 0)=min (lo.getD v.toNat 0) (ix.getD b.toNat 0):=by split <;> omega
     refine .mk ((ix,lo.set v.toNat (min (lo.getD v.toNat 0) (ix.getD b.toNat 0)),on,st,aH,P),(bs,Js,vp,e8),(wy,v,k+1),(bw,J)) rfl ?_ ⟨⟨hO,hP⟩,hA,hM⟩ ⟨rfl,rfl,trivial⟩ (aL (by rw[← jg];rfl));show jD (aw n l) (wy++[(v,k+1)])+iR (aw n l) ix n<jD (aw n l) (wy++[(v,k)])+iR (aw n l) ix n;rw[mB,mB];omega
    ·rw[mn]at c2;have hO:=hF.off ab hb dV.1 c1 (qE c2);refine .mk ((ix,lo,on,st,aH,P),(bs,Js,vp,e8),(wy,v,k+1),(bw,J)) rfl ?_ ⟨⟨hO,hP⟩,hA,hM⟩ ⟨rfl,rfl,trivial⟩ (.refl _);show jD (aw n l) (wy++[(v,k+1)])+iR (aw n l) ix n<jD (aw n l) (wy++[(v,k)])+iR (aw n l) ix n;rw[mB,mB];omega
  ·have au:k=(aw n l v).length:=by omega
   have nA:ei ⟨.bA [(0,3),(1,3)],2,16,[.int .i64 0,.int .i64 0]⟩ (bL (wy++[(v,k)])++J) (0+(IntKind.i64.wrap (((wy.length+1:Nat):Int)-1)).toNat*2)=some (.agg [.int .i64 v,.int .i64 k]):=Vj rfl (by rw[hX,eQ];show wy.length*2+2≤_;omega) (by rw[hX];exact Ru rfl);refine aW 5 rfl nA ?_;intro bt;refine aj 0 ?_;refine aa 0 ?_;have qZ:(IntKind.i64.wrap (((wy.length+1:Nat):Int)-1)).toNat-Int.toNat 0=wy.length:=by rw[oe];omega
   have cT:0≤(0:Int)∧(0:Int)≤IntKind.i64.wrap (((wy.length+1:Nat):Int)-1)∧IntKind.i64.wrap (((wy.length+1:Nat):Int)-1)≤((wy.length+1:Nat):Int)∧2=2:=⟨by omega,by omega,by omega,rfl⟩
   by_cases he:lo.getD v.toNat 0=ix.getD v.toNat 0
   ·obtain⟨A,B,aq,Gw,hB1⟩:=S4 hF.tj.inc bP;have Pp:v ∉ A:=fun hm=>by have:=Gw v hm;omega
    have Po:∀x∈v::B,0≤x∧x<(n:Int):=fun x hx=>hF.tj.node x (by rw[aq];exact jP _ hx);have cg:=vO hF.tj.inc;rw[aq]at cg;have hT:=hF.tell (by omega) aq he (fun x y hy=>(lZ.1 hy).1) (Dd (v::B)) (G3 (pM.1 cg).2.1);have Gr:=He hF.tj.prt;subst aq;have eE:(ai (A++v::B)).length=(A++v::B).length*1:=by rw[ju,dS]
    refine .perm _ (xJ [_,_,_,_,_] e8 σ _ _) (Se w bi bl bo n (cd n l) ix lo A B on P aH _ vp _ e8 v _ dv.1 dv.2 hF.li hF.ll hF.k8 he Pp Po (by omega) (by omega) (.ae bs (A++v::B).length (ai (A++v::B)) Js eE) hP) ?_;rintro _ _ ⟨rfl,eW,jB,gO,gM,eg,oz,rfl⟩
    have fN:((bt,[AV.int .i64 v,.int .i64 k])::(w,dw (cd n l) bi bl bo n eW aH gO)::(bi,ai ix)::(bl,ai lo)::(bo,bN (fo (v::B) on))::(bw,bL (wy++[(v,k)])++J)::(jB++(gM++σ))).Perm ((w,dw (cd n l) bi bl bo n eW aH gO)::(bi,ai ix)::(bl,ai lo)::(bo,bN (fo (v::B) on))::(jB++(gM++((bt,[AV.int .i64 v,.int .i64 k])::(bw,bL (wy++[(v,k)])++J)::σ)))):=by
     have h1:=(xJ [(w,dw (cd n l) bi bl bo n eW aH gO),(bi,ai ix),(bl,ai lo),(bo,bN (fo (v::B) on))] (jB++gM) σ (bt,[AV.int .i64 v,.int .i64 k]) (bw,bL (wy++[(v,k)])++J)).symm;rw[dW,dW]at h1;exact h1
    refine⟨_,fN,?_⟩;refine aJ.mk cT ?_
    rcases GM wy with eu | ⟨w',⟨u,i⟩,eu⟩
    ·have rf:wy.length=0:=by rw[eu];rfl
     rw[eu]at hT;obtain rfl:A=[]:=hT.Wb;refine ao (p:=(0:Int)<(((IntKind.i64.wrap (((wy.length+1:Nat):Int)-1)).toNat-Int.toNat 0:Nat):Int)) (fun c3=>?_) (fun c3=>?_)
     ·rw[qZ,rf]at c3;exact absurd c3 (by decide)
     ·refine .drop 0 1 (.drop 4 1 (.done ⟨rfl,ix,lo,fo (v::B) on,aH,P++[fU (v::B)],eW,jB,gO,gM,hT,eg,oz,hA,hM,rfl⟩))
    ·have eu:wy=w'++[(u,i)]:=by simpa using eu
     have rf:wy.length=w'.length+1:=by rw[eu,bQ];rfl
     have jE:(IntKind.i64.wrap (((wy.length+1:Nat):Int)-1)).toNat-Int.toNat 0=w'.length+1:=qZ.trans rf;have o0:IntKind.i64.wrap ((((IntKind.i64.wrap (((wy.length+1:Nat):Int)-1)).toNat-Int.toNat 0:Nat):Int)-1)=((w'.length:Nat):Int):=by rw[jE,cC (by omega)];omega
     have AG:(0+Int.toNat 0*2)+(IntKind.i64.wrap ((((IntKind.i64.wrap (((wy.length+1:Nat):Int)-1)).toNat-Int.toNat 0:Nat):Int)-1)).toNat*2+0=w'.length*2:=by rw[o0,bG];show 0+0*2+_+0=_;omega
     have pg:bL (wy++[(v,k)])++J=bL (w'++[(u,i)])++([.int .i64 v,.int .i64 k]++J):=by rw[eu,pQ,dW];rfl
     have tE:ei ⟨.int .i64,1,8,[.int .i64 0]⟩ (bL (wy++[(v,k)])++J) ((0+Int.toNat 0*2)+(IntKind.i64.wrap ((((IntKind.i64.wrap (((wy.length+1:Nat):Int)-1)).toNat-Int.toNat 0:Nat):Int)-1)).toNat*2+0)=some (.int .i64 u):=jz rfl (by rw[AG,pg];exact sQ rfl);have fh:0≤u∧u<(n:Int):=hF.tj.node u (hF.tj.sub.subset (by rw[eu];simp));have jh:AV.ae bw (0+Int.toNat 0*2) ((IntKind.i64.wrap (((wy.length+1:Nat):Int)-1)).toNat-Int.toNat 0) 2=.ae bw 0 (w'.length+1) 2:=by rw[jE];rfl
     have N9:AV.ae bw 0 (w'.length+1) 2=AV.ae bw (0+Int.toNat 0*2) ((IntKind.i64.wrap (((wy.length+1:Nat):Int)-1)).toNat-Int.toNat 0) 2:=jh.symm;refine ao (p:=(0:Int)<(((IntKind.i64.wrap (((wy.length+1:Nat):Int)-1)).toNat-Int.toNat 0:Nat):Int)) (fun c3=>?_) (fun c3=>?_);rotate_left
     ·rw[jE]at c3;omega
     have zL:2=2∧0≤IntKind.i64.wrap ((((IntKind.i64.wrap (((wy.length+1:Nat):Int)-1)).toNat-Int.toNat 0:Nat):Int)-1)∧IntKind.i64.wrap ((((IntKind.i64.wrap (((wy.length+1:Nat):Int)-1)).toNat-Int.toNat 0:Nat):Int)-1)<(((IntKind.i64.wrap (((wy.length+1:Nat):Int)-1)).toNat-Int.toNat 0:Nat):Int):=⟨rfl,by rw[o0];omega,by rw[o0,jE];omega⟩
     refine aJ.mk zL ?_;refine aW 5 rfl tE ?_;refine .sched [] (upto [] 23 0) (by kernel_rfl) ?_;refine aa 1 ?_;refine aa 1 ?_;refine aO ?_;refine aW 3 rfl (fy rfl fh.1 (by rw[hF.ll];omega)) ?_;refine aa 1 ?_;refine aa 0 ?_;refine aO ?_;refine aW 3 rfl (fy rfl dv.1 (by rw[hF.ll];omega)) ?_;refine aO ?_;refine cU 3 rfl (nU rfl _ fh.1 (by rw[hF.ll];omega)) ?_;have jg:(if lo.getD v.toNat 0<lo.getD u.toNat 0 then lo.getD v.toNat 0 else lo.getD u.toNat 0)=min (lo.getD u.toNat 0) (lo.getD v.toNat 0):=by split <;> omega
     have P8:0<A.length:=List.length_pos_of_mem (a:=u) (hT.tj.sub.subset (by rw[eu];simp));obtain⟨mA,pO,rfl,rfl,_⟩:=eg.pos P8;have N5:=FI.same (eu▸hF) he;rw[eu]at hT;have hE:(w,dw (cd n l) bi bl bo n (.ae mA 0 A.length 1) aH gO)::(bi,ai ix)::(bl,ai (lo.set u.toNat (if lo.getD v.toNat 0<lo.getD u.toNat 0 then lo.getD v.toNat 0 else lo.getD u.toNat 0)))::(bo,bN (fo (v::B) on))::(mA,ai A++pO)::(bw,bL (wy++[(v,k)])++J)::(gM++σ)=(w,dw (cd n l) bi bl bo n (.ae mA 0 A.length 1) aH gO)::(bi,ai ix)::(bl,ai (lo))::(bo,bN (fo (v::B) on))::(mA,ai A++pO)::(bw,bL (w'++[(u,i)])++([.int .i64 v,.int .i64 k]++J))::(gM++σ):=by rw[jg,N5,pg]
     refine .mk ((ix,lo,fo (v::B) on,A,aH,P++[fU (v::B)]),(mA,pO,gO,gM),(w',u,i),(bw,[AV.int .i64 v,.int .i64 k]++J)) rfl ?_ ⟨⟨hT,oz⟩,hA,hM⟩ ⟨rfl,jh,trivial⟩ (.drop 0 1 (.pull [4,4,4,4,5] (aL hE)));show jD (aw n l) (w'++[(u,i)])+iR (aw n l) ix n<jD (aw n l) (wy++[(v,k)])+iR (aw n l) ix n;rw[eu,mB (aw n l) (w'++[(u,i)])];omega
   ·have PY:=fun ρ=>U0 w bi bl bo n (cd n l) ix lo on aH (.ae bs 0 st.length 1) vp v ρ dv.1 dv.2 hF.li hF.ll he;refine ax [4,4,4,4] (PY _) ?_;refine aJ.mk cT ?_
    rcases GM wy with eu | ⟨w',⟨u,i⟩,eu⟩
    ·have rf:wy.length=0:=by rw[eu];rfl
     rw[eu]at hF;exact absurd hF.one he
    ·have eu:wy=w'++[(u,i)]:=by simpa using eu
     have rf:wy.length=w'.length+1:=by rw[eu,bQ];rfl
     have jE:(IntKind.i64.wrap (((wy.length+1:Nat):Int)-1)).toNat-Int.toNat 0=w'.length+1:=qZ.trans rf;have o0:IntKind.i64.wrap ((((IntKind.i64.wrap (((wy.length+1:Nat):Int)-1)).toNat-Int.toNat 0:Nat):Int)-1)=((w'.length:Nat):Int):=by rw[jE,cC (by omega)];omega
     have AG:(0+Int.toNat 0*2)+(IntKind.i64.wrap ((((IntKind.i64.wrap (((wy.length+1:Nat):Int)-1)).toNat-Int.toNat 0:Nat):Int)-1)).toNat*2+0=w'.length*2:=by rw[o0,bG];show 0+0*2+_+0=_;omega
     have pg:bL (wy++[(v,k)])++J=bL (w'++[(u,i)])++([.int .i64 v,.int .i64 k]++J):=by rw[eu,pQ,dW];rfl
     have tE:ei ⟨.int .i64,1,8,[.int .i64 0]⟩ (bL (wy++[(v,k)])++J) ((0+Int.toNat 0*2)+(IntKind.i64.wrap ((((IntKind.i64.wrap (((wy.length+1:Nat):Int)-1)).toNat-Int.toNat 0:Nat):Int)-1)).toNat*2+0)=some (.int .i64 u):=jz rfl (by rw[AG,pg];exact sQ rfl);have fh:0≤u∧u<(n:Int):=hF.tj.node u (hF.tj.sub.subset (by rw[eu];simp));have jh:AV.ae bw (0+Int.toNat 0*2) ((IntKind.i64.wrap (((wy.length+1:Nat):Int)-1)).toNat-Int.toNat 0) 2=.ae bw 0 (w'.length+1) 2:=by rw[jE];rfl
     have N9:AV.ae bw 0 (w'.length+1) 2=AV.ae bw (0+Int.toNat 0*2) ((IntKind.i64.wrap (((wy.length+1:Nat):Int)-1)).toNat-Int.toNat 0) 2:=jh.symm;refine ao (p:=(0:Int)<(((IntKind.i64.wrap (((wy.length+1:Nat):Int)-1)).toNat-Int.toNat 0:Nat):Int)) (fun c3=>?_) (fun c3=>?_);rotate_left
     ·rw[jE]at c3;omega
     have zL:2=2∧0≤IntKind.i64.wrap ((((IntKind.i64.wrap (((wy.length+1:Nat):Int)-1)).toNat-Int.toNat 0:Nat):Int)-1)∧IntKind.i64.wrap ((((IntKind.i64.wrap (((wy.length+1:Nat):Int)-1)).toNat-Int.toNat 0:Nat):Int)-1)<(((IntKind.i64.wrap (((wy.length+1:Nat):Int)-1)).toNat-Int.toNat 0:Nat):Int):=⟨rfl,by rw[o0];omega,by rw[o0,jE];omega⟩
     refine aJ.mk zL ?_;refine aW 6 rfl tE ?_;refine .sched [] (upto [] 23 0) (by kernel_rfl) ?_;refine aa 0 ?_;refine aa 0 ?_;refine aO ?_;refine aW 2 rfl (fy rfl fh.1 (by rw[hF.ll];omega)) ?_;refine aa 0 ?_;refine aa 4 ?_;refine aO ?_;refine aW 2 rfl (fy rfl dv.1 (by rw[hF.ll];omega)) ?_;refine aO ?_;refine cU 2 rfl (nU rfl _ fh.1 (by rw[hF.ll];omega)) ?_;have jg:(if lo.getD v.toNat 0<lo.getD u.toNat 0 then lo.getD v.toNat 0 else lo.getD u.toNat 0)=min (lo.getD u.toNat 0) (lo.getD v.toNat 0):=by split <;> omega
     have hU:=FI.up (eu▸hF) (by omega) he;have hE:(w,dw (cd n l) bi bl bo n (.ae bs 0 st.length 1) aH vp)::(bi,ai ix)::(bl,ai (lo.set u.toNat (if lo.getD v.toNat 0<lo.getD u.toNat 0 then lo.getD v.toNat 0 else lo.getD u.toNat 0)))::(bo,bN (on))::(bs,ai st++Js)::(bw,bL (wy++[(v,k)])++J)::(e8++σ)=(w,dw (cd n l) bi bl bo n (.ae bs 0 st.length 1) aH vp)::(bi,ai ix)::(bl,ai (lo.set u.toNat (min (lo.getD u.toNat 0) (lo.getD v.toNat 0))))::(bo,bN (on))::(bs,ai st++Js)::(bw,bL (w'++[(u,i)])++([.int .i64 v,.int .i64 k]++J))::(e8++σ):=by rw[jg,pg]
     refine .mk ((ix,lo.set u.toNat (min (lo.getD u.toNat 0) (lo.getD v.toNat 0)),on,st,aH,P),(bs,Js,vp,e8),(w',u,i),(bw,[AV.int .i64 v,.int .i64 k]++J)) rfl ?_ ⟨⟨hU,hP⟩,hA,hM⟩ ⟨rfl,jh,trivial⟩ (.drop 4 1 (aL hE));show jD (aw n l) (w'++[(u,i)])+iR (aw n l) ix n<jD (aw n l) (wy++[(v,k)])+iR (aw n l) ix n;rw[eu,mB (aw n l) (w'++[(u,i)])];omega
 ·intro hr
  obtain⟨ix,lo,on,hF,hA,hM,heq,P7⟩:∃ix lo on,FI n (aw n l) ix lo on [a] (dQ+1) P0 [(a,0)]∧ix.getD a.toNat 0≠0∧(∀b:Nat,mh.getD b 0≠0→ix.getD b 0≠0)∧lo.getD a.toNat 0=ix.getD a.toNat 0∧∀ρ,ACalls Tryz.prog 314 [.ptr w 0,.int .i64 a] ((w,dw (cd n l) bi bl bo n uX dQ gr)::(bi,ai mh)::(bl,ai xc)::(bo,bN w9)::(wK++ρ))
    (fun r σ'=>r=.agg [.int .i64 a,.int .i64 0]∧∃bs Js,σ'=(w,dw (cd n l) bi bl bo n (.ae bs 0 [a].length 1) (dQ+1) gr)::(bi,ai ix)::(bl,ai lo)::(bo,bN on)::(bs,ai [a]++Js)::ρ):=by
   have h1:=h.enter (way2:=[]) ha hf (fun v hv=>by cases hv) rfl (fun t ht=>by cases ht) (fun t ht=>by cases ht);refine⟨_,_,_,h1,?_,?_,?_,fun ρ=>(BK w bi bl bo n (cd n l) mh xc [] w9 dQ uX gr wK a ρ ha.1 ha.2 h.li h.ll h.k8 hs (bC _) (by omega)).mono ?_⟩
   ·rw[nh,af ⟨rfl,by rw[h.li];omega⟩];omega
   ·intro z hz;rw[nh];split
    ·omega
    ·exact hz
   ·rw[nh,nh,af ⟨rfl,by rw[h.ll];omega⟩,af ⟨rfl,by rw[h.li];omega⟩]
   ·rintro _ _ ⟨rfl,Cn,E3,fD,rfl⟩;obtain⟨bs,Js,rfl,rfl,_⟩:=fD.pos (by show 0<1;decide);exact⟨rfl,bs,Js,rfl⟩
  clear hf hs h;have hle:=hF.BJ;have CC:=zj n l a;refine .mk [] _ (P7 (iQ++σ)) ?_;rintro _ _ ⟨rfl,bs,Js,rfl⟩;intro bw;refine aJ.mk ⟨rfl,by decide,by decide⟩ ?_;refine .quiet (by kernel_rfl) ?_;refine aa 0 ?_;refine aa 1 ?_;refine aa 0 ?_;refine aJ.mk rfl ?_;refine bO.mk (aw n l a) (by omega) (pZ ha) ?_;refine ao (p:=(0:Int)<(aw n l a).length) (fun ab=>?_) (fun au=>?_)
  ·have ab:0<(aw n l a).length:=by omega
   obtain⟨b,hb⟩:∃b,(aw n l a)[0]=b:=⟨_,rfl⟩
   have tI:b∈aw n l a:=hb▸cq ab;have dV:=(lZ.1 tI).1;refine .quiet (by kernel_rfl) ?_;refine aa 1 ?_;refine aa 0 ?_;refine aJ.mk rfl ?_;refine bO.mk (aw n l a) (by omega) (pZ ha) ?_;refine aa 0 ?_;refine aJ.mk rfl ?_;refine bO.mk b (by decide) ((get_some ab).trans (congrArg some hb)) ?_;refine aa 0 ?_;refine aj 0 ?_;refine aa 1 ?_;refine aO ?_;refine aW 2 rfl (fy rfl dV.1 (by rw[hF.li];omega)) ?_;refine ao (p:=ix.getD b.toNat 0=0) (fun c1=>?_) (fun c1=>?_)
   ·have hN:=FI.new (w:=[]) hF ab hb dV c1;refine .mk [5,5,5,5,5] _ (BK w bi bl bo n (cd n l) ix lo [a] on (dQ+1) _ gr _ b ((bw,[.int .i64 a,.int .i64 1])::(iQ++σ)) dV.1 dV.2 hF.li hF.ll hF.k8 (.ae bs 1 (ai [a]) Js rfl) (by show 1≤10000;decide) (by omega)) ?_;rintro _ _ ⟨rfl,Cn,E3,fD,rfl⟩;obtain⟨mA,pO,rfl,rfl,_⟩:=fD.pos (by show 0<2;decide);intro aF;refine zh (k:=1) (n:=1) [_,_,_,_,_,_] (.ae bw 1 (bL [(a,1)]) [] rfl) (.ae 0 aF 0 1 _ rfl (cy rfl)) rfl (by decide) (by decide) (by decide) (fun v' aY h'=>?_);obtain⟨pN,J2,rfl,rfl,_⟩:=h'.pos (by decide);refine xM hr ((ix.set b.toNat ((dQ+1+1:Nat):Int),lo.set b.toNat ((dQ+1+1:Nat):Int),on.set b.toNat true,[a]++[b],dQ+1+1,P0),(mA,pO,gr,iQ),([(a,1)],b,0),(pN,J2)) ⟨rfl,⟨⟨hN,hp⟩,?_,?_⟩,⟨rfl,rfl,trivial⟩,.drop 0 1 (aL rfl)⟩
    ·show (ix.set b.toNat ((dQ+1+1:Nat):Int)).getD a.toNat 0≠0;rw[nh];split
     ·omega
     ·exact hA
    ·intro z hz;show (ix.set b.toNat ((dQ+1+1:Nat):Int)).getD z 0≠0;rw[nh];split
     ·omega
     ·exact hM z hz
   ·have c1:¬(ix.getD b.toNat 0=0):=c1;have mn:=hF.w8 b dV.1 dV.2;refine aa 1 ?_;refine aO ?_;refine fg.kZ 4 _ _ rfl (ua rfl dV.1 (by rw[hF.k8];omega)) (fun c2=>?_) (fun c2=>?_)
    ·rw[mn]at c2;have hO:=FI.Jz (w:=[]) hF ab hb (fP c2);refine .sched [] (upto [] 28 0) (by kernel_rfl) ?_;refine aa 1 ?_;refine aa 0 ?_;refine aa 1 ?_;refine aa 0 ?_;refine aO ?_;refine aW 3 rfl (fy rfl ha.1 (by rw[hF.ll];omega)) ?_;refine aa 1 ?_;refine aO ?_;refine aW 2 rfl (fy rfl dV.1 (by rw[hF.li];omega)) ?_;refine aO ?_;refine cU 3 rfl (nU rfl _ ha.1 (by rw[hF.ll];omega)) ?_;have jg:(if ix.getD b.toNat 0<lo.getD a.toNat 0 then ix.getD b.toNat 0 else lo.getD a.toNat 0)=min (lo.getD a.toNat 0) (ix.getD b.toNat 0):=by split <;> omega
     have hE:(w,dw (cd n l) bi bl bo n (.ae bs 0 [a].length 1) (dQ+1) gr)::(bi,ai ix)::(bl,ai (lo.set a.toNat (if ix.getD b.toNat 0<lo.getD a.toNat 0 then ix.getD b.toNat 0 else lo.getD a.toNat 0)))::(bo,bN on)::(bs,ai [a]++Js)::(bw,bL [(a,1)]++[])::(iQ++σ)=(w,dw (cd n l) bi bl bo n (.ae bs 0 [a].length 1) (dQ+1) gr)::(bi,ai ix)::(bl,ai (lo.set a.toNat (min (lo.getD a.toNat 0) (ix.getD b.toNat 0))))::(bo,bN on)::(bs,ai [a]++Js)::(bw,bL [(a,1)]++[])::(iQ++σ):=by rw[jg]
     exact xM hr ((ix,lo.set a.toNat (min (lo.getD a.toNat 0) (ix.getD b.toNat 0)),on,[a],dQ+1,P0),(bs,Js,gr,iQ),([],a,1),(bw,[])) ⟨rfl,⟨⟨hO,hp⟩,hA,hM⟩,⟨rfl,rfl,trivial⟩,.pull [5,5,5,5,5] (aL hE)⟩
    ·rw[mn]at c2;have hO:=FI.off (w:=[]) hF ab hb dV.1 c1 (qE c2);exact xM hr ((ix,lo,on,[a],dQ+1,P0),(bs,Js,gr,iQ),([],a,1),(bw,[])) ⟨rfl,⟨⟨hO,hp⟩,hA,hM⟩,⟨rfl,rfl,trivial⟩,.pull [5,5,5,5,5] (aL rfl)⟩
  ·have au:(aw n l a).length=0:=by omega
   refine aa 0 ?_;intro aF;refine aj 0 ?_;refine aa 0 ?_;have hT:=FI.tell (w:=[]) (A:=[]) (B:=[]) (part:=fU [a]) hF (by omega) rfl heq (fun x y hy=>(lZ.1 hy).1) (Dd [a]) (G3 (by simp));have Gr:=He hF.tj.prt
   have OB:((w,dw (cd n l) bi bl bo n (.ae bs 0 [a].length 1) (dQ+1) gr)::(bi,ai ix)::(bl,ai lo)::(bo,bN on)::(bs,ai [a]++Js)::(iQ++((aF,[AV.int .i64 a,.int .i64 0])::(bw,[AV.int .i64 a,.int .i64 0])::σ))).Perm ((aF,[AV.int .i64 a,.int .i64 0])::(bw,[AV.int .i64 a,.int .i64 0])::(w,dw (cd n l) bi bl bo n (.ae bs 0 [a].length 1) (dQ+1) gr)::(bi,ai ix)::(bl,ai lo)::(bo,bN on)::(bs,ai [a]++Js)::(iQ++σ)):=by
    have h1:=xJ [(w,dw (cd n l) bi bl bo n (.ae bs 0 [a].length 1) (dQ+1) gr),(bi,ai ix),(bl,ai lo),(bo,bN on),(bs,ai [a]++Js)] iQ σ (aF,[AV.int .i64 a,.int .i64 0]) (bw,[AV.int .i64 a,.int .i64 0]);exact h1.trans (List.Perm.cons _ (oK (l₁:=[(w,dw (cd n l) bi bl bo n (.ae bs 0 [a].length 1) (dQ+1) gr),(bi,ai ix),(bl,ai lo),(bo,bN on),(bs,ai [a]++Js)])))
   refine .perm _ OB (Se w bi bl bo n (cd n l) ix lo [] [] on P0 (dQ+1) _ gr _ iQ a _ ha.1 ha.2 hF.li hF.ll hF.k8 heq (by simp) (fun x hx=>by rw[List.mem_singleton.1 hx];exact ha) (by show 1≤10000;decide) (by omega) (.ae bs 1 (ai [a]) Js rfl) hp) ?_;rintro _ _ ⟨rfl,eW,jB,gO,gM,eg,oz,rfl⟩
   have fN:((aF,[AV.int .i64 a,.int .i64 0])::(w,dw (cd n l) bi bl bo n eW (dQ+1) gO)::(bi,ai ix)::(bl,ai lo)::(bo,bN (fo [a] on))::(bw,[AV.int .i64 a,.int .i64 0])::(jB++(gM++σ))).Perm ((w,dw (cd n l) bi bl bo n eW (dQ+1) gO)::(bi,ai ix)::(bl,ai lo)::(bo,bN (fo [a] on))::(jB++(gM++((aF,[AV.int .i64 a,.int .i64 0])::(bw,[AV.int .i64 a,.int .i64 0])::σ)))):=by
    have h1:=(xJ [(w,dw (cd n l) bi bl bo n eW (dQ+1) gO),(bi,ai ix),(bl,ai lo),(bo,bN (fo [a] on))] (jB++gM) σ (aF,[AV.int .i64 a,.int .i64 0]) (bw,[AV.int .i64 a,.int .i64 0])).symm;rw[dW,dW]at h1;exact h1
   refine⟨_,fN,?_⟩;refine aJ.mk (by decide) ?_;exact .drop 0 1 (.drop 4 1 (.done ⟨rfl,ix,lo,fo [a] on,dQ+1,P0++[fU [a]],eW,jB,gO,gM,hT,eg,oz,hA,hM,rfl⟩))
end Go.Proofs.YtnikdflhefijbaaGreat
