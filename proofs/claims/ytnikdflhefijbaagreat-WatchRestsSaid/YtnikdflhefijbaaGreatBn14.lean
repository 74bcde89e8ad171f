import Derived.Test.YtnikdflhefijbaaGreatBn13
import Derived.Test.YtnikdflhefijbaaGreatBn5
import Derived.Test.YtnikdflhefijbaaGreatBn9
import Derived.Test.YtnikdflhefijbaaGreatBn10
namespace Go.Proofs.YtnikdflhefijbaaGreat
open Go.RowKit
set_option maxRecDepth 100000
theorem mK{w:List Int}{i j:Nat}{x:Int}:(w.set i x).getD j 0=if i=j∧j<w.length then x else w.getD j 0:=by
 simp only[aZ,fj]
 by_cases h:i=j
 ·subst h
  by_cases h2:i<w.length
  ·simp[h2]
  ·simp[h2]
 ·simp[h]
def gI(ix:List Int)(x:Int):Int:=if 0≤x then ix.getD x.toNat 0 else 0
theorem mi{ix:List Int}{x:Int}(h:0≤x):gI ix x=ix.getD x.toNat 0:=ah h
theorem Bg{ix:List Int}{b v:Int}(h0:0≤b)(h1:b<ix.length):gI (ix.set b.toNat v)=pO (gI ix) b v:=by
 funext y
 show (if 0≤y then (ix.set b.toNat v).getD y.toNat 0 else 0)=if y=b then v else if 0≤y then ix.getD y.toNat 0 else 0
 by_cases hy:0≤y
 ·rw[ah hy,aZ,fj]
  by_cases e:y=b
  ·subst e;rw[ah rfl,ah (by omega),ah rfl];rfl
  ·rw[ag (by omega),ag e,ah hy,aZ]
 ·rw[ag hy,ag (by omega),ag hy]
theorem aeA(n:Nat)(x:Int):gI (List.replicate n 0) x=0:=by
 unfold gI
 split
 ·rw[aZ,wV];split <;> rfl
 ·rfl
structure FI(n:Nat)(nx:Int→List Int)(ix lo:List Int)(on:List Bool)(st:List Int)(aH:Nat)(P:List (List Int))(ie:List (Int×Nat)):Prop where
 tj:TJ n nx (gI ix) (gI lo) st aH P (ie.map (·.1))
 v8:Prc nx (gI ix) (gI lo) st ie
 li:ix.length=n
 ll:lo.length=n
 kM:on.length=n
 wg:∀a:Int,0≤a→a<n→on.getD a.toNat false=decide (a∈st)
 tn:∀t∈ie,t.2≤(nx t.1).length
theorem UI{on:List Bool}{b:Int}{x:Bool}(hb:0≤b)(hl:b<on.length){a:Int}(ha:0≤a):(on.set b.toNat x).getD a.toNat false=if a=b then x else on.getD a.toNat false:=by
 rw[aZ,fj,aZ]
 by_cases e:a=b
 ·subst e;rw[ah rfl,ah (by omega),ah rfl];rfl
 ·rw[ag (by omega),ag e]
theorem FI.start(n:Nat)(nx:Int→List Int):FI n nx (List.replicate n 0) (List.replicate n 0) (List.replicate n false) [] 0 [] []:=
 ⟨.start (aeA n),fun _ h=>(by cases h),gl,gl,gl,fun a _ _=>by
  rw[List.getD_eq_getElem?_getD,List.getElem?_replicate];split <;> simp,fun _ h=>(by cases h)⟩
variable {n:Nat} {nx:Int→List Int} {ix lo:List Int} {on:List Bool} {st:List Int} {aH:Nat} {P:List (List Int)}
theorem FI.enter{ie way2:List (Int×Nat)}{b:Int}(h:FI n nx ix lo on st aH P ie)(hb:0≤b∧b<n)(hf:ix.getD b.toNat 0=0)(hW:∀v∈ie.map (·.1),Rx nx v b)(wC:way2.map (·.1)=ie.map (·.1))(hp:∀t∈way2,∀y∈(nx t.1).take t.2,y=b∨(gI ix y≠0∧(y∈st→gI lo t.1≤gI ix y)))(ht:∀t∈way2,t.2≤(nx t.1).length):
  FI n nx (ix.set b.toNat ((aH+1:Nat):Int)) (lo.set b.toNat ((aH+1:Nat):Int)) (on.set b.toNat true) (st++[b]) (aH+1) P (way2++[(b,0)]):=by
 have hf:gI ix b=0:=by rw[mi hb.1];exact hf
 have eM:b ∉ st:=fun hm=>by have:=h.tj.sR b hm;omega
 have h1:=h.tj.enter hb hf hW
 refine⟨?_,?_,by rw[cR];exact h.li,by rw[cR];exact h.ll,by rw[cR];exact h.kM,fun a h0 hn=>?_,fun t o8=>?_⟩
 ·rw[Bg hb.1 (by rw[h.li];exact hb.2),Bg hb.1 (by rw[h.ll];exact hb.2),cW,wC]
  exact h1
 ·rw[Bg hb.1 (by rw[h.li];exact hb.2),Bg hb.1 (by rw[h.ll];exact hb.2)]
  intro t o8 y hy
  rcases bV.1 o8 with o8 | o8
  ·have htW:t.1∈ie.map (·.1):=wC▸Pw o8
   have hts:t.1∈st:=h.tj.sub.subset htW
   have htb:t.1≠b:=fun e=>eM (e▸hts)
   rw[qp (f:=gI lo) htb]
   have hle:=(h.tj.low t.1 htW).1
   have OH:=(h.tj.sR t.1 hts).2
   by_cases e:y=b
   ·subst e
    rw[qq]
    exact⟨by omega,fun _=>by omega⟩
   ·rw[qp e]
    obtain⟨h2,h3⟩:=(hp t o8 y hy).resolve_left e
    exact⟨h2,fun hm=>h3 ((bV.1 hm).resolve_right fun hm=>e (bB.1 hm))⟩
  ·rw[bB.1 o8]at hy
   simp at hy
 ·rw[UI hb.1 (by rw[h.kM];exact hb.2) h0]
  by_cases e:a=b
  ·subst e;rw[if_pos rfl];simp
  ·rw[if_neg e,h.wg a h0 hn];simp[e]
 ·rcases bV.1 o8 with o8 | o8
  ·exact ht t o8
  ·rw[bB.1 o8];exact bA _
theorem Lp{l:List Int}{k:Nat}(h:k<l.length){b:Int}(hb:l[k]=b):l.take (k+1)=l.take k++[b]:=by rw[ff h,hb]
theorem L0{w:List (Int×Nat)}{a:Int}{k j:Nat}:(w++[(a,k)]).map (·.1)=(w++[(a,j)]).map (·.1):=by rw[cW,cW];rfl
theorem FI.new{w:List (Int×Nat)}{a b:Int}{k:Nat}(h:FI n nx ix lo on st aH P (w++[(a,k)]))(hk:k<(nx a).length)(hb:(nx a)[k]=b)(dM:0≤b∧b<n)(hf:ix.getD b.toNat 0=0):
  FI n nx (ix.set b.toNat ((aH+1:Nat):Int)) (lo.set b.toNat ((aH+1:Nat):Int)) (on.set b.toNat true) (st++[b]) (aH+1) P ((w++[(a,k+1)])++[(b,0)]):=by
 have O4:b∈nx a:=hb▸bP hk
 have O7:a∈(w++[(a,k)]).map (·.1):=dT.2 ⟨(a,k),jM _ (bB.2 rfl),rfl⟩
 have mn:=h.tj.sub
 have lU:∀v∈w.map (·.1),gI ix v<gI ix a:=by
  refine Dl h.tj.inc ?_
  rw[cW]at mn;exact mn
 refine h.enter dM hf (fun v hv=>?_) L0 (fun t ht y hy=>?_) fun t ht=>?_
 ·refine (h.tj.z6 v hv a (mn.subset O7) ?_).trans (.one O4)
  rw[cW]at hv
  rcases bV.1 hv with hv | hv
  ·have:=lU v hv;omega
  ·rw[bB.1 hv];exact jL _
 ·rcases bV.1 ht with ht | ht
  ·exact .inr (h.v8 t (gY _ ht) y hy)
  ·rw[bB.1 ht]at hy ⊢
   rw[Lp hk hb]at hy
   rcases bV.1 hy with hy | hy
   ·exact .inr (h.v8 (a,k) (jM _ (bB.2 rfl)) y hy)
   ·exact .inl (bB.1 hy)
 ·rcases bV.1 ht with ht | ht
  ·exact h.tn t (gY _ ht)
  ·rw[bB.1 ht];exact hk
theorem FI.off{w:List (Int×Nat)}{a b:Int}{k:Nat}(h:FI n nx ix lo on st aH P (w++[(a,k)]))(hk:k<(nx a).length)(hb:(nx a)[k]=b)(dM:0≤b)(hf:ix.getD b.toNat 0≠0)(hs:b ∉ st):FI n nx ix lo on st aH P (w++[(a,k+1)]):=by
 refine⟨by rw[L0 (j:=k)];exact h.tj,fun t ht y hy=>?_,h.li,h.ll,h.kM,h.wg,fun t ht=>?_⟩
 ·rcases bV.1 ht with ht | ht
  ·exact h.v8 t (gY _ ht) y hy
  ·rw[bB.1 ht]at hy ⊢
   rw[Lp hk hb]at hy
   rcases bV.1 hy with hy | hy
   ·exact h.v8 (a,k) (jM _ (bB.2 rfl)) y hy
   ·rw[bB.1 hy,mi dM]
    exact⟨hf,fun hm=>absurd hm hs⟩
 ·rcases bV.1 ht with ht | ht
  ·exact h.tn t (gY _ ht)
  ·rw[bB.1 ht];exact hk
theorem FI.I1{w:List (Int×Nat)}{a b:Int}{k:Nat}(h:FI n nx ix lo on st aH P (w++[(a,k)]))(hk:k<(nx a).length)(hb:(nx a)[k]=b)(hs:b∈st):FI n nx ix (lo.set a.toNat (min (lo.getD a.toNat 0) (ix.getD b.toNat 0))) on st aH P (w++[(a,k+1)]):=by
 have O4:b∈nx a:=hb▸bP hk
 have dM:=h.tj.node b hs
 have O7:a∈(w++[(a,k)]).map (·.1):=dT.2 ⟨(a,k),jM _ (bB.2 rfl),rfl⟩
 have mn:=h.tj.sub
 have tc:=h.tj.node a (mn.subset O7)
 have cf:((w++[(a,k)]).map (·.1)).Nodup:=(uS h.tj.inc).sublist mn
 have haw:∀t∈w,t.1≠a:=fun t ht e=>by
  rw[cW]at cf
  exact (pt.1 cf).2.2 t.1 (Pw ht) a (bB.2 rfl) e
 have iQ:=h.tj
 rw[cW]at iQ
 have h1:=iQ.lower (z:=b) hs (.one O4)
 have Fk:gI (lo.set a.toNat (min (lo.getD a.toNat 0) (ix.getD b.toNat 0)))=pO (gI lo) a (min (gI lo a) (gI ix b)):=by rw[Bg tc.1 (by rw[h.ll];exact tc.2),mi tc.1,mi dM.1]
 refine⟨by rw[Fk,L0 (j:=k),cW];exact h1,fun t ht y hy=>?_,h.li,by rw[cR];exact h.ll,h.kM,h.wg,fun t ht=>?_⟩
 ·rw[Fk]
  rcases bV.1 ht with ht | ht
  ·rw[qp (haw t ht)]
   exact h.v8 t (gY _ ht) y hy
  ·rw[bB.1 ht]at hy ⊢
   rw[Lp hk hb]at hy
   rw[qq]
   rcases bV.1 hy with hy | hy
   ·obtain⟨h2,h3⟩:=h.v8 (a,k) (jM _ (bB.2 rfl)) y hy
    have h3:y∈st→gI lo a≤gI ix y:=h3
    exact⟨h2,fun hm=>by have:=h3 hm;omega⟩
   ·rw[bB.1 hy]
    have:=h.tj.sR b hs
    exact⟨by omega,fun _=>by omega⟩
 ·rcases bV.1 ht with ht | ht
  ·exact h.tn t (gY _ ht)
  ·rw[bB.1 ht];exact hk
theorem FI.all{w:List (Int×Nat)}{a:Int}{k:Nat}(h:FI n nx ix lo on st aH P (w++[(a,k)]))(hk:(nx a).length≤k):∀y∈nx a,gI ix y≠0∧(y∈st→gI lo a≤gI ix y):=fun y hy=>
 h.v8 (a,k) (jM _ (bB.2 rfl)) y (by rw[ek hk];exact hy)
theorem aby{l:List Int}{i:Nat}:l.set i (l.getD i 0)=l:=by
 refine Am fun j=>?_
 rw[fj]
 by_cases e:i=j
 ·subst e
  by_cases hl:i<l.length
  ·rw[ah rfl,ah hl,aZ,bh hl];rfl
  ·rw[ah rfl,ag hl,uN (by omega)]
 ·rw[ag e]
theorem FI.up{w:List (Int×Nat)}{u v:Int}{i k:Nat}(h:FI n nx ix lo on st aH P ((w++[(u,i)])++[(v,k)]))(hk:(nx v).length≤k)(aX:lo.getD v.toNat 0≠ix.getD v.toNat 0):FI n nx ix (lo.set u.toNat (min (lo.getD u.toNat 0) (lo.getD v.toNat 0))) on st aH P (w++[(u,i)]):=by
 have iQ:=h.tj
 rw[cW,cW]at iQ
 have JQ:u∈(w.map (·.1)++[u]++[v]):=by simp
 have JM:v∈(w.map (·.1)++[u]++[v]):=by simp
 have fD:=iQ.node u (iQ.sub.subset JQ)
 have dy:=iQ.node v (iQ.sub.subset JM)
 have cf:(w.map (·.1)++[u]++[v]).Nodup:=(uS iQ.inc).sublist iQ.sub
 have huw:∀t∈w,t.1≠u:=fun t ht e=>(pt.1 (pt.1 cf).1).2.2 t.1 (Pw ht) u (bB.2 rfl) e
 have fv:=(iQ.low v JM).1
 have ab:gI lo v<gI ix v:=by
  rw[mi dy.1,mi dy.1]at fv ⊢;omega
 have h1:=iQ.up (u:=u) (v:=v) (w:=w.map (·.1)) ab (h.all hk)
 have Fk:gI (lo.set u.toNat (min (lo.getD u.toNat 0) (lo.getD v.toNat 0)))=pO (gI lo) u (min (gI lo u) (gI lo v)):=by rw[Bg fD.1 (by rw[h.ll];exact fD.2),mi fD.1,mi dy.1]
 refine⟨by rw[Fk,cW];exact h1,fun t ht y hy=>?_,h.li,by rw[cR];exact h.ll,h.kM,h.wg,fun t ht=>h.tn t (gY _ ht)⟩
 rw[Fk]
 obtain⟨h2,h3⟩:=h.v8 t (gY _ ht) y hy
 refine⟨h2,fun hm=>?_⟩
 have:=h3 hm
 by_cases e:t.1=u
 ·rw[e]at this ⊢;rw[qq];omega
 ·rw[qp e];exact this
def e8(part:List Int)(on:List Bool):List Bool:=part.foldl (fun on b=>on.set b.toNat false) on
theorem Gx:∀(part:List Int) (on:List Bool),(e8 part on).length=on.length
 | [],_=>rfl
 |b::part,on=>by
  show (e8 part (on.set b.toNat false)).length=_
  rw[Gx part,cR]
theorem Ta{a:Int}(ha:0≤a):∀(part:List Int) (on:List Bool),(∀b∈part,0≤b∧b<on.length)→(e8 part on).getD a.toNat false=if a∈part then false else on.getD a.toNat false
 | [],_,_=>by simp[e8]
 |b::part,on,h=>by
  have hb:=h b (cj ..)
  show (e8 part (on.set b.toNat false)).getD a.toNat false=_
  rw[Ta ha part _ fun c hc=>by rw[cR];exact h c (dp _ hc),UI hb.1 hb.2 ha]
  by_cases h1:a∈part
  ·rw[ah h1,ah (dp _ h1)]
  ·rw[ag h1]
   by_cases h2:a=b
   ·rw[ah h2,ah (by rw[h2];exact cj ..)]
   ·rw[ag h2,ag (by rw[eB];exact fun h=>h.elim h2 h1)]
theorem FI.tell{w:List (Int×Nat)}{v:Int}{k:Nat}{A B part:List Int}(h:FI n nx ix lo on st aH P (w++[(v,k)]))(hk:(nx v).length≤k)(an:st=A++v::B)(heq:lo.getD v.toNat 0=ix.getD v.toNat 0)(cU:∀x y,y∈nx x→0≤y∧y<n)(hp:part.Perm (v::B))(hs:part.Pairwise (· < ·)):FI n nx ix lo (e8 (v::B) on) A aH (P++[part]) w:=by
 have iQ:=h.tj
 rw[cW]at iQ
 have dy:=iQ.node v (by rw[an];simp)
 have h1:=iQ.tell (w:=w.map (·.1)) (part:=part) an (by rw[mi dy.1,mi dy.1];exact heq) (h.all hk) cU hp hs
 have uE:∀x∈A,x∈st:=fun x hx=>by rw[an];exact gY _ hx
 refine⟨h1,fun t ht y hy=>?_,h.li,h.ll,by rw[Gx];exact h.kM,fun a h0 hn=>?_,fun t ht=>h.tn t (gY _ ht)⟩
 ·obtain⟨h2,h3⟩:=h.v8 t (gY _ ht) y hy
  exact⟨h2,fun hm=>h3 (uE y hm)⟩
 ·rw[Ta h0 _ _ fun b hb=>by rw[h.kM];exact iQ.node b (by rw[an];exact jM _ hb),h.wg a h0 hn]
  have cf:=uS iQ.inc
  rw[an]at cf
  by_cases hm:a∈v::B
  ·rw[ah hm]
   exact (bS fun hA=>(pt.1 cf).2.2 a hA a hm rfl).symm
  ·rw[ag hm]
   refine Bool.eq_iff_iff.2 ?_
   rw[decide_eq_true_eq,decide_eq_true_eq,an,bV]
   exact⟨fun h=>h.resolve_right hm,.inl⟩
theorem FI.same{w:List (Int×Nat)}{u v:Int}{i k:Nat}(h:FI n nx ix lo on st aH P ((w++[(u,i)])++[(v,k)]))(heq:lo.getD v.toNat 0=ix.getD v.toNat 0):lo.set u.toNat (min (lo.getD u.toNat 0) (lo.getD v.toNat 0))=lo:=by
 have iQ:=h.tj
 rw[cW,cW]at iQ
 have JQ:u∈(w.map (·.1)++[u]++[v]):=by simp
 have JM:v∈(w.map (·.1)++[u]++[v]):=by simp
 have fD:=iQ.node u (iQ.sub.subset JQ)
 have dy:=iQ.node v (iQ.sub.subset JM)
 have h1:=(iQ.low u JQ).1
 have h2:=Dl iQ.inc iQ.sub u (by simp)
 rw[mi fD.1,mi fD.1]at h1
 rw[mi fD.1,mi dy.1]at h2
 rw[show min (lo.getD u.toNat 0) (lo.getD v.toNat 0)=lo.getD u.toNat 0 by omega]
 exact aby
theorem FI.Vi(h:FI n nx ix lo on st aH P []):st=[]:=h.tj.empty
theorem FI.one{v:Int}{k:Nat}(h:FI n nx ix lo on st aH P [(v,k)]):lo.getD v.toNat 0=ix.getD v.toNat 0:=by
 have dy:=h.tj.node v (h.tj.sub.subset (by simp))
 have:=h.tj.first
 rw[mi dy.1,mi dy.1]at this
 exact this
theorem FI.mem{w:List (Int×Nat)}{v:Int}{k:Nat}(h:FI n nx ix lo on st aH P (w++[(v,k)])):v∈st:=h.tj.sub.subset (by simp)
theorem FI.Bj{ie:List (Int×Nat)}(h:FI n nx ix lo on st aH P ie):aH≤n∧st.length≤n∧P.flatten.length≤n:=by
 have cf:(P.flatten++st).Nodup:=pt.2 ⟨h.tj.prt.nd,uS h.tj.inc,fun x hx y hy e=>by
  subst e
  obtain⟨p,hp,r9⟩:=pr.1 hx
  exact h.tj.Av p hp x r9 hy⟩
 have hn:∀z∈P.flatten++st,0≤z∧z<(n:Int):=fun z hz=>by
  rcases bV.1 hz with hz | hz
  ·obtain⟨p,hp,hz⟩:=pr.1 hz
   exact h.tj.prt.node p hp z hz
  ·exact h.tj.node z hz
 have mn:=LN cf (m:=(List.range n).map fun i:Nat=>(i:Int)) fun z hz=>dT.2 ⟨z.toNat,gy.2 (by have:=hn z hz;omega),by have:=hn z hz;omega⟩
 rw[bZ,cg,kS]at mn
 have:=h.tj.len
 omega
def jm(nx:Int→List Int)(ie:List (Int×Nat)):Nat:=(ie.map fun t=>(nx t.1).length+1-t.2).sum
def iM(nx:Int→List Int)(ix:List Int)(n:Nat):Nat:=((List.range n).map fun a:Nat=>if ix.getD a 0=0 then (nx a).length+2 else 0).sum
theorem mf(nx:Int→List Int)(w:List (Int×Nat))(a:Int)(k:Nat):jm nx (w++[(a,k)])=jm nx w+((nx a).length+1-k):=by unfold jm;simp
theorem RK(nx:Int→List Int)(ix:List Int)(n:Nat):iM nx ix (n+1)=iM nx ix n+if ix.getD n 0=0 then (nx n).length+2 else 0:=by unfold iM;rw[List.range_succ];simp
theorem LR{nx:Int→List Int}{ix:List Int}{b:Nat}{v:Int}(hv:v≠0)(hf:ix.getD b 0=0)(hb:b<ix.length):∀n,iM nx (ix.set b v) n+(if b<n then (nx b).length+2 else 0)=iM nx ix n
 | 0=>rfl
 |n+1=>by
  have ih:=LR (nx:=nx) hv hf hb n
  rw[RK,RK]
  have hg:(ix.set b v).getD n 0=if b=n then v else ix.getD n 0:=by
   rw[aZ,fj]
   by_cases e:b=n
   ·subst e;rw[ah rfl,ah hb,ah rfl];rfl
   ·rw[ag e,ag e,aZ]
  rw[hg]
  by_cases e:b=n
  ·subst e
   rw[ah rfl,ag hv,ah hf,ah (by omega)]
   rw[ag (by omega)]at ih
   omega
  ·rw[ag e]
   by_cases c:b<n
   ·have e2:(if b<n+1 then (nx b).length+2 else 0)=(nx b).length+2:=ah (by omega)
    rw[ah c]at ih;rw[e2];omega
   ·have e2:(if b<n+1 then (nx b).length+2 else 0)=0:=ag (by omega)
    rw[ag c]at ih;rw[e2];omega
theorem Acc.x9{e k:Nat}{v:AV}{acc:Hp}{cs:List AV}(h:Acc e k v acc cs):Acc e k (bU v) acc cs:=by
 cases h with
 |nil=>exact .nil
 |af b k cs h=>exact .af b k cs h
theorem abx{α:Type}(l:List α)(x y:α){k:Nat}(h:k=l.length):(l++[x]).set k y=l++[y]:=by subst h;simp
theorem ack{α:Type}(l:List α)(x:α){k:Nat}(h:k=l.length):(l++[x])[k]?=some x:=by subst h;simp
theorem tF{k:Nat}{v:AV}{acc:Hp}{cs:List AV}(h0:0<k)(h:Acc 1 k v acc cs):∃b,v=.af b 0 k 1∧acc=[(b,cs)]:=by
 cases h with
 |nil=>omega
 |af b k cs h=>exact⟨b,rfl,rfl⟩
theorem uT(P:List (List Int)):(cH P).length=P.length:=cg _
theorem ach{l:List Int}{J:List AV}{k:Nat}(h:k<l.length):(ao l++J)[k]?=some (.int .i64 (l.getD k 0)):=by
 rw[ky (by rw[MD];exact h)]
 unfold ao
 rw[fm,aZ,bh h];rfl
theorem U6(b k:Nat)(A B:List Int)(J:List AV)(x:Int)(σ:Hp)(hk:(A++x::B).length=k)(hx:x ∉ A)(hl:k≤1000000):ACalls Tryz.prog 287 [.af b 0 k 1,.int .i64 x] ((b,ao (A++x::B)++J)::σ) (ay (.int .i64 A.length) ((b,ao (A++x::B)++J)::σ)):=by
 have hkA:A.length<k:=by rw[← hk,bZ,ik];omega
 refine ar Tryz.func287 ?_
 refine bQ (S:=Nat) (fun s=>[(0,.af b 0 k 1),(1,.int .i64 x),(7,.int .i64 k),(8,.int .i64 s)]) (fun _=>(b,ao (A++x::B)++J)::σ) (fun s=>s≤A.length) (fun s=>A.length-s) 0 ⟨bA _,⟨rfl,rfl,rfl,rfl,trivial⟩,rfl⟩ ?_
 rintro i t dZ
 have hi:i≤A.length:=dZ
 clear dZ
 refine ak (p:=(i:Int)<k) (fun ab=>?_) (fun aq=>?_)
 ·have hg:=ach (l:=A++x::B) (J:=J) (k:=i) (by omega)
  obtain⟨y,hy⟩:∃y,(A++x::B).getD i 0=y:=⟨_,rfl⟩
  rw[hy]at hg
  refine aM ?_
  refine bf 0 rfl (jf rfl (by rw[dR,eA,bC];exact hg)) ?_
  refine ak (fun c=>?_) (fun c=>?_)
  ·have c:x=y:=c
   refine .done ⟨?_,rfl⟩
   by_cases e:i=A.length
   ·subst e;rfl
   ·have:y∈A:=by
     rw[← hy,aZ,ky (by omega),bh (by omega)]
     exact bP _
    exact absurd (c▸this) hx
  ·have c:¬x=y:=c
   have aX:i≠A.length:=fun e=>by
    subst e
    refine c ?_
    rw[← hy,aZ,jb (a8 _),qd];rfl
   exact aY (i+1) (by show A.length-(i+1)<A.length-i;omega) (by show i+1≤A.length;omega) ⟨rfl,rfl,rfl,aS (by omega),trivial⟩ (.refl _)
 ·omega
theorem U9(b off k:Nat)(C cs:List AV)(σ:Hp)(h:(C.drop off).take (k*1)=cs)(h2:off+k*1≤C.length)(hl:k≤1000000):ACalls Tryz.prog 220 [.af b off k 1] ((b,C)::σ) (fun x σ'=>∃b',x=.af b' 0 k 1∧σ'=(b',cs)::(b,C)::σ):=by
 refine ar Tryz.func220 ?_
 intro b2
 refine AppendAt.more 0 b2 0 k [] ((C.drop off).take (k*1)) rfl rfl (cI rfl) (.mem (dp _ (cj ..)) h2) (by omega) (by decide) (by decide) (fun b'=>?_)
 refine .done ⟨b',by rw[dR];rfl,?_⟩
 rw[h];rfl
theorem TY(w bi bl bo n:Nat)(N:List (List Int))(ix lo:List Int)(on:List Bool)(aH:Nat)(vs vp:AV)(a:Int)(σ:Hp)(h0:0≤a)(hn:a<n)(hi:ix.length=n)(hl:lo.length=n)(aX:lo.getD a.toNat 0≠ix.getD a.toNat 0):
  ACalls Tryz.prog 315 [.ptr w 0,.int .i64 a] ((w,dr N bi bl bo n vs aH vp)::(bi,ao ix)::(bl,ao lo)::(bo,bN on)::σ) (ay (.tup []) ((w,dr N bi bl bo n vs aH vp)::(bi,ao ix)::(bl,ao lo)::(bo,bN on)::σ)):=by
 refine ar Tryz.func315 ?_
 refine .quiet (by kernel_rfl) ?_
 refine aa 0 ?_
 refine aM ?_
 refine bf 2 rfl (fq rfl h0 (by omega)) ?_
 refine aa 0 ?_
 refine aM ?_
 refine bf 1 rfl (fq rfl h0 (by omega)) ?_
 refine cX (fun c=>?_) (fun c=>?_)
 ·exact .done ⟨rfl,rfl⟩
 ·exact absurd (by simpa using c) aX
theorem Rq(w bi bl bo n:Nat)(N:List (List Int))(ix lo A B:List Int)(on:List Bool)(P:List (List Int))(aH:Nat)(vs vp:AV)(lW eS:Hp)(a:Int)(σ:Hp)(h0:0≤a)(hn:a<n)(hi:ix.length=n)(hl:lo.length=n)(ho:on.length=n)(he:lo.getD a.toNat 0=ix.getD a.toNat 0)(O8:a ∉ A)(hB:∀x∈a::B,0≤x∧x<n)(df:(A++a::B).length≤10000)(s7:P.length≤10000)
  (hs:iN 1 (A++a::B).length vs lW (ao (A++a::B))) (hp:Acc 1 P.length vp eS (cH P)) :
  ACalls Tryz.prog 315 [.ptr w 0,.int .i64 a] ((w,dr N bi bl bo n vs aH vp)::(bi,ao ix)::(bl,ao lo)::(bo,bN on)::(lW++(eS++σ)))
   (fun r σ'=>r=.tup []∧∃eL jh gM gG,iN 1 A.length eL jh (ao A)∧Acc 1 (P++[fN (a::B)]).length gM gG (cH (P++[fN (a::B)]))∧σ'=(w,dr N bi bl bo n eL aH gM)::(bi,ao ix)::(bl,ao lo)::(bo,bN (e8 (a::B) on))::(jh++(gG++σ))):=by
 obtain⟨K,hK⟩:∃K,(A++a::B).length=K:=⟨_,rfl⟩
 obtain⟨L,hL⟩:∃L:List Int,a::B=L:=⟨_,rfl⟩
 obtain⟨q,hq⟩:∃q,L.length=q:=⟨_,rfl⟩
 have hKA:K=A.length+q:=by rw[← hK,bZ,hL,hq]
 have hq0:0<q:=by rw[← hq,← hL,ik];omega
 rw[hK]at hs df
 obtain⟨bs,J,rfl,rfl,Po⟩:=hs.pos (by omega)
 have iX:((ao (A++a::B)++J).drop A.length).take (q*1)=ao L:=by
  rw[hL]
  unfold ao
  rw[cW,dU,PJ (by rw[cg];exact a8 _),Ge (by rw[cg];exact a8 _),uH,KH (by rw[cg];omega),ek (by rw[cg];omega)]
 have eG:A.length+q*1≤(ao (A++a::B)++J).length:=by rw[bZ,Po];omega
 refine ar Tryz.func315 ?_
 refine .quiet (by kernel_rfl) ?_
 refine aa 0 ?_
 refine aM ?_
 refine bf 2 rfl (fq rfl h0 (by omega)) ?_
 refine aa 0 ?_
 refine aM ?_
 refine bf 1 rfl (fq rfl h0 (by omega)) ?_
 refine cX (fun c=>?_) (fun c=>?_)
 ·exact absurd he (by simpa using c)
 clear c
 refine aa 0 ?_
 refine aw [4] (U6 bs K A B J a _ hK O8 (by omega)) ?_
 refine aa 1 ?_
 refine aG.mk ⟨by omega,by omega,by omega,rfl⟩ ?_
 have hC:∀σ,ACalls Tryz.prog 220 [.af bs (0+((A.length:Nat):Int).toNat*1) (((K:Nat):Int).toNat-((A.length:Nat):Int).toNat) 1] ((bs,ao (A++a::B)++J)::σ) (fun x σ'=>∃b',x=.af b' 0 q 1∧σ'=(b',ao L)::(bs,ao (A++a::B)++J)::σ):=fun σ=>by
  rw[show 0+((A.length:Nat):Int).toNat*1=A.length by omega,show ((K:Nat):Int).toNat-((A.length:Nat):Int).toNat=q by omega]
  exact U9 bs A.length q _ _ σ iX eG (by omega)
 refine .mk [0] _ (hC _) ?_
 rintro _ _ ⟨bp,rfl,rfl⟩
 refine aa 2 ?_
 refine aG.mk ⟨by omega,by omega,by omega,by omega,rfl⟩ ?_
 refine aj 2 ?_
 refine bQ (S:=Nat) (fun i=>[(0,.ptr w 0),(5,.af bp 0 q 1),(46,.af bp 0 q 1),(47,.int .i64 q),(48,.int .i64 i)]) (fun i=>(bp,ao L)::(bs,ao (A++a::B)++J)::(w,dr N bi bl bo n (.af bs 0 A.length 1) aH vp)::(bi,ao ix)::(bl,ao lo)::(bo,bN (e8 (L.take i) on))::(eS++σ)) (fun i=>i≤q) (fun i=>q-i) 0 ⟨bA _,⟨rfl,rfl,rfl,rfl,rfl,trivial⟩,rfl⟩ ?_
 rintro i g dZ
 have hiq:i≤q:=dZ
 clear dZ
 refine ak (p:=(i:Int)<q) (fun ab=>?_) (fun aq=>?_)
 ·have ab:i<L.length:=by omega
  obtain⟨x,hx⟩:∃x,L[i]=x:=⟨_,rfl⟩
  have Fh:=hB x (by rw[hL,← hx];exact bP ab)
  have nZ:=Gx (L.take i) on
  have NU:(e8 (L.take i) on).set x.toNat false=e8 (L.take (i+1)) on:=by unfold e8;rw[ff ab,hx,uJ];rfl
  have nX:ep ⟨.int .i64,1,8,[.int .i64 0]⟩ (ao L) (0+((i:Nat):Int).toNat*1)=some (.int .i64 x):=by
   rw[fq rfl (by omega) (by omega),bC,aZ,bh ab,hx];rfl
  refine aM ?_
  refine bf 0 rfl nX ?_
  refine aa 2 ?_
  refine aM ?_
  refine cT 5 rfl (yU rfl false Fh.1 (by omega)) ?_
  exact aY (i+1) (by show q-(i+1)<q-i;omega) (by show i+1≤q;omega) ⟨rfl,rfl,rfl,rfl,aS (by omega),trivial⟩ (aL (by rw[NU];rfl))
 ·have aq:i=q:=by omega
  subst aq
  refine aw [0] (M5 bp L i _ hq (by omega)) ?_
  refine aa 2 ?_
  intro dc
  refine AE [_,_,_,_,_,_,_] hp.x9 (.af 0 dc 0 1 _ rfl (cI rfl)) rfl (by omega) (by decide) (by decide) (fun v' bD h'=>?_)
  obtain⟨b5,rfl,rfl⟩:=tF (by omega) h'
  refine aj 3 ?_
  have hgs:=ack (cH P) (AV.af bp 0 i 1) (k:=P.length) (uT P).symm
  have hss:=abx (cH P) (AV.af bp 0 i 1) (.ae (.int .i64) (fN L)) (k:=P.length) (uT P).symm
  refine .kl 1 bp 0 i 1 _ (.int .i64) (fN L) rfl (by rw[gz,ek (by rw[nq,AB,eA];omega)];exact uY _) ⟨(AB L).trans hq,rfl,by decide⟩ 6 P.length b5 _ rfl hgs ?_
  refine .drop 0 1 (.perm (eX [_,_,_,_] [_] _).symm (.done ⟨rfl,.af bs 0 A.length 1,[(bs,ao A++(ao L++J))],.af b5 0 (P.length+1) 1,[(b5,cH (P++[fN L]))],.af bs A.length (ao A) (ao L++J) (by rw[nq,eA]),?_,?_⟩))
  ·subst hL
   rw[bZ]
   exact .af b5 (P.length+1) (cH (P++[fN (a::B)])) ((uT _).trans (by rw[bZ,eA];rfl))
  ·rw[ek (wP hq)]
   subst hL
   have e1:ao (A++a::B)++J=ao A++(ao (a::B)++J):=by unfold ao;rw[cW,dU]
   have e2:cH (P++[fN (a::B)])=cH P++[.ae (.int .i64) (fN (a::B))]:=cW
   rw[e1,e2,← hss]
   rfl
def bL(l:List (Int×Nat)):List AV:=l.flatMap fun t=>[.int .i64 t.1,.int .i64 t.2]
theorem mJ:∀l:List (Int×Nat),(bL l).length=l.length*2
 | []=>rfl
 |t::l=>by
  show ([AV.int .i64 t.1,.int .i64 t.2]++bL l).length=_
  rw[bZ,mJ l,ik]
  show 2+l.length*2=(l.length+1)*2
  omega
theorem pz(l m:List (Int×Nat)):bL (l++m)=bL l++bL m:=yz
theorem so{w:List (Int×Nat)}{v:Int}{k:Nat}{J:List AV}{m:Nat}(hm:m=w.length):(bL (w++[(v,k)])++J)[m*2]?=some (.int .i64 v):=by
 subst hm
 rw[pz,dU,jb (by rw[mJ];omega),mJ,qd];rfl
theorem CW{w:List (Int×Nat)}{v:Int}{k:Nat}{J:List AV}{m:Nat}(hm:m=w.length):(bL (w++[(v,k)])++J)[m*2+1]?=some (.int .i64 k):=by
 subst hm
 rw[pz,dU,jb (by rw[mJ];omega),mJ,KC];rfl
theorem Df{w:List (Int×Nat)}{v:Int}{k:Nat}{J:List AV}{m:Nat}(hm:m=w.length):(bL (w++[(v,k)])++J).set (m*2+1) (.int .i64 ((k+1:Nat):Int))=bL (w++[(v,k+1)])++J:=by
 subst hm
 rw[pz,pz,dU,dU,KL _ _ (by rw[mJ];omega),mJ,KC];rfl
def ca(n:Nat)(l:List bK):List (List Int):=(List.range n).map fun a:Nat=>au n l a
theorem pG{n:Nat}{l:List bK}{a:Int}(h:0≤a∧a<n):(ca n l)[a.toNat]?=some (au n l a):=by
 unfold ca
 rw[fm,tf (by omega)]
 show some (au n l (a.toNat:Int))=_
 rw[ma h.1]
theorem CH(zs:List Int):(fN zs).Perm zs:=List.mergeSort_perm _ _
theorem Gu{zs:List Int}(h:zs.Nodup):(fN zs).Pairwise (· < ·):=((Qe zs).and ((CH zs).nodup_iff.2 h)).imp fun h=>by omega
theorem GH{n:Nat}{nx:Int→List Int}{P:List (List Int)}(h:rj n nx P):P.length≤P.flatten.length:=by
 have:=h.ne
 clear h
 induction P with
 |nil=>exact a8 _
 |cons p P ih=>
  have h1:=mG.2 (this p (cj ..))
  have h2:=ih fun q hq=>this q (dp _ hq)
  rw[go2,bZ,ik];omega
theorem Uo{i:TI}(hw:i.wide=true){cs v:List AV}{off:Nat}(h:off+i.size≤cs.length)(hv:(cs.drop off).take i.size=v):ep i cs off=some (.agg v):=by
 unfold ep
 rw[hw]
 show (match Nat.ble (off+i.size) cs.length with | true=>some (AV.agg ((cs.drop off).take i.size)) | false=>none)=_
 rw[KO h,hv]
theorem QM{w:List (Int×Nat)}{v:Int}{k:Nat}{J:List AV}{m:Nat}(hm:m=w.length):((bL (w++[(v,k)])++J).drop (m*2)).take 2=[.int .i64 v,.int .i64 k]:=by
 subst hm
 rw[pz,dU,PJ (by rw[mJ];exact a8 _),Ge (by rw[mJ];exact a8 _)];rfl
theorem xa(X a σ:Hp)(x y:Nat×List AV):(X++(a++(x::y::σ))).Perm (x::(X++(y::(a++σ)))):=by
 have h1:(a++(x::y::σ)).Perm (x::y::(a++σ)):=oh.trans (List.Perm.cons _ oh)
 exact (List.Perm.append_left X h1).trans oh
def D2(rec:Go.Code→Tm→Hp→(Ex→Tm→Hp→Prop)→Prop)(c:Go.Code){S:Type}(gk:S→Nat)(L:S→List (Nat×AV))(H:S→Hp)(p:S→Prop)(μ:S→Nat)(Q:Ex→Tm→Hp→Prop):Prop:=
 ∀s g,p s→(match findLabel c (gk s) with | some r=>rec r (eT g (L s)) (H s) (fun e t' σ'=>match e with | .goto l'=>rS gk L H p μ s l' t' σ' | e=>Q e t' σ') | none=>False)
theorem QK{P:Program}{TT:TypeId→Option TI}{fn:Go.Func}{c:Go.Code}{xs:List AV}{σ:Hp}{R:AV→Hp→Prop}{S:Type}(hb:fn.body=some (.scope c))(gk:S→Nat)(L:S→List (Nat×AV))(H:S→Hp)(p:S→Prop)(μ:S→Nat)
  (hr:D2 (mQ P TT 999) c gk L H p μ (vH TT fn.results.toList R))
  (h:D2 (mQ P TT 999) c gk L H p μ (vH TT fn.results.toList R)→codeF P TT (mQ P TT 999) (.scope c) (t0 xs) σ (vH TT fn.results.toList R)):vJ P TT fn xs σ R:=by
 have h1:mQ P TT 1000 (.scope c) (t0 xs) σ (vH TT fn.results.toList R):=h hr
 unfold vJ
 rw[hb]
 exact h1
theorem xe{rec:Go.Code→Tm→Hp→(Ex→Tm→Hp→Prop)→Prop}{c:Go.Code}{S:Type}{gk:S→Nat}{L:S→List (Nat×AV)}{H:S→Hp}{p:S→Prop}{μ:S→Nat}{Q:Ex→Tm→Hp→Prop}{t:Tm}{σ:Hp}{l:Nat}(hr:D2 rec c gk L H p μ Q)(s0:S)(h0:l=gk s0∧p s0∧agree t (L s0)∧jv σ (H s0)):
  rT (fun l t σ Q=>match findLabel c l with | some r=>rec r t σ Q | none=>False) l Q t σ:=.loop gk L H p μ s0 h0 hr
abbrev FrS:=(List Int×List Int×List Bool×List Int×Nat×List (List Int))×(Nat×List AV×AV×Hp)×(List (Int×Nat)×Int×Nat)×(Nat×List AV)
theorem ahE(n w bi bl bo:Nat)(l:List bK)(lY wm:List Int)(wh:List Bool)(dJ:Nat)(P0:List (List Int))(um gj:AV)(vK iL:Hp)(a:Int)(σ:Hp)(hn:n≤1000)(h:FI n (au n l) lY wm wh [] dJ P0 [])(ha:0≤a∧a<n)(hf:lY.getD a.toNat 0=0)(hs:iN 1 0 um vK [])(hp:Acc 1 P0.length gj iL (cH P0)):
  ACalls Tryz.prog 290 [.ptr w 0,.int .i64 a] ((w,dr (ca n l) bi bl bo n um dJ gj)::(bi,ao lY)::(bl,ao wm)::(bo,bN wh)::(vK++(iL++σ)))
   (fun r σ'=>r=.tup []∧∃ix lo on aH P vs lW vp eS,FI n (au n l) ix lo on [] aH P []∧iN 1 0 vs lW []∧Acc 1 P.length vp eS (cH P)∧ix.getD a.toNat 0≠0∧(∀b:Nat,lY.getD b 0≠0→ix.getD b 0≠0)∧σ'=(w,dr (ca n l) bi bl bo n vs aH vp)::(bi,ao ix)::(bl,ao lo)::(bo,bN on)::(lW++(eS++σ))):=by
 have hle:=h.Bj
 refine ar Tryz.func290 ?_
 refine QK (S:=FrS) rfl (fun _=>0)
  (fun x=>[(0,.ptr w 0),(4,.af x.2.2.2.1 0 (x.2.2.1.1.length+1) 2)])
  (fun x=>(w,dr (ca n l) bi bl bo n (.af x.2.1.1 0 x.1.2.2.2.1.length 1) x.1.2.2.2.2.1 x.2.1.2.2.1)::(bi,ao x.1.1)::(bl,ao x.1.2.1)::(bo,bN x.1.2.2.1)::(x.2.1.1,ao x.1.2.2.2.1++x.2.1.2.1)::(x.2.2.2.1,bL (x.2.2.1.1++[(x.2.2.1.2.1,x.2.2.1.2.2)])++x.2.2.2.2)::(x.2.1.2.2.2++σ))
  (fun x=>(FI n (au n l) x.1.1 x.1.2.1 x.1.2.2.1 x.1.2.2.2.1 x.1.2.2.2.2.1 x.1.2.2.2.2.2 (x.2.2.1.1++[(x.2.2.1.2.1,x.2.2.1.2.2)])∧Acc 1 x.1.2.2.2.2.2.length x.2.1.2.2.1 x.2.1.2.2.2 (cH x.1.2.2.2.2.2))∧x.1.1.getD a.toNat 0≠0∧∀b:Nat,lY.getD b 0≠0→x.1.1.getD b 0≠0)
  (fun x=>jm (au n l) (x.2.2.1.1++[(x.2.2.1.2.1,x.2.2.1.2.2)])+iM (au n l) x.1.1 n) ?_ ?_
 ·rintro⟨⟨ix,lo,on,st,aH,P⟩,⟨bs,Js,vp,eS⟩,⟨wy,v,k⟩,⟨bw,J⟩⟩ g ⟨⟨qb,uD⟩,q9,yr⟩
  have hF:FI n (au n l) ix lo on st aH P (wy++[(v,k)]):=qb
  have hP:Acc 1 P.length vp eS (cH P):=uD
  have hA:ix.getD a.toNat 0≠0:=q9
  have hM:∀b:Nat,lY.getD b 0≠0→ix.getD b 0≠0:=yr
  clear qb uD q9 yr
  have hle:=hF.Bj
  have bR:=hF.mem
  have dy:=hF.tj.node v bR
  have B6:k≤(au n l v).length:=hF.tn (v,k) (jM _ (bB.2 rfl))
  have mz:=yM n l v
  have wz:wy.length+1≤st.length:=by
   have:=hF.tj.sub.length_le
   rw[cg,bZ]at this
   exact this
  have nM:IntKind.i64.wrap (((wy.length+1:Nat):Int)-1)=((wy.length:Nat):Int):=by rw[cE (by omega)];omega
  have hX:0+(IntKind.i64.wrap (((wy.length+1:Nat):Int)-1)).toNat*2=wy.length*2:=by rw[nM];omega
  have nf:ep ⟨.int .i64,1,8,[.int .i64 0]⟩ (bL (wy++[(v,k)])++J) (0+(IntKind.i64.wrap (((wy.length+1:Nat):Int)-1)).toNat*2+0)=some (.int .i64 v):=jf rfl (by rw[hX];exact so rfl)
  have l0:ep ⟨.int .i64,1,8,[.int .i64 0]⟩ (bL (wy++[(v,k)])++J) (0+(IntKind.i64.wrap (((wy.length+1:Nat):Int)-1)).toNat*2+1)=some (.int .i64 k):=jf rfl (by rw[hX];exact CW rfl)
  have eG:(bL (wy++[(v,k)])++J).length=wy.length*2+2+J.length:=by rw[bZ,mJ,bZ];show (wy.length+1)*2+_=_;omega
  have n0:IntKind.i64.wrap ((k:Int)+1)=((k+1:Nat):Int):=by rw[cE (by omega)];omega
  have wA:kX ⟨.int .i64,1,8,[.int .i64 0]⟩ (bL (wy++[(v,k)])++J) (0+(IntKind.i64.wrap (((wy.length+1:Nat):Int)-1)).toNat*2+1) (.int .i64 (IntKind.i64.wrap ((k:Int)+1)))=some (bL (wy++[(v,k+1)])++J):=by
   rw[rH rfl rfl (by rw[hX,eG];omega),hX,n0,Df rfl]
  have vE:2=2∧0≤IntKind.i64.wrap (((wy.length+1:Nat):Int)-1)∧IntKind.i64.wrap (((wy.length+1:Nat):Int)-1)<((wy.length+1:Nat):Int):=⟨rfl,by omega,by omega⟩
  refine aG.mk vE ?_
  refine .quiet (by kernel_rfl) ?_
  refine bf 5 rfl l0 ?_
  refine aa 0 ?_
  refine bf 5 rfl nf ?_
  refine aG.mk rfl ?_
  refine bE.mk (au n l v) (by omega) (pG dy) ?_
  refine ak (p:=(k:Int)<(au n l v).length) (fun ab=>?_) (fun aq=>?_)
  ·have ab:k<(au n l v).length:=by omega
   obtain⟨b,hb⟩:∃b,(au n l v)[k]=b:=⟨_,rfl⟩
   have ta:b∈au n l v:=hb▸bP ab
   have dM:=(lL.1 ta).1
   refine .quiet (by kernel_rfl) ?_
   refine aa 0 ?_
   refine bf 5 rfl nf ?_
   refine aG.mk rfl ?_
   refine bE.mk (au n l v) (by omega) (pG dy) ?_
   refine bf 5 rfl l0 ?_
   refine aG.mk rfl ?_
   refine bE.mk b (by omega) ((get_some ab).trans (congrArg some hb)) ?_
   refine bf 5 rfl l0 ?_
   refine cT 5 rfl wA ?_
   refine aa 0 ?_
   refine aM ?_
   refine bf 1 rfl (fq rfl dM.1 (by rw[hF.li];omega)) ?_
   refine ak (p:=ix.getD b.toNat 0=0) (fun c1=>?_) (fun c1=>?_)
   ·have hN:=hF.new ab hb dM c1
    have ej:(ao st).length=st.length*1:=by rw[nq,eA]
    refine .mk [] _ (Bk w bi bl bo n (ca n l) ix lo st on aH _ vp _ b ((bw,bL (wy++[(v,k+1)])++J)::(eS++σ)) dM.1 dM.2 hF.li hF.ll hF.kM (.af bs st.length (ao st) Js ej) (by omega) (by omega)) ?_
    rintro _ _ ⟨rfl,BS,Es,fy,rfl⟩
    obtain⟨mc,px,rfl,rfl,_⟩:=fy.pos (by rw[bZ];show 0<_+1;omega)
    intro aB
    have I5:(bL (wy++[(v,k+1)])).length=(wy.length+1)*2:=by rw[mJ,bZ];rfl
    refine yI (k:=wy.length+1) (n:=1) [_,_,_,_,_,_] (.af bw (wy.length+1) (bL (wy++[(v,k+1)])) J I5) (.af 0 aB 0 1 _ rfl (cI rfl)) rfl (by omega) (by decide) (by decide) (fun v' bD h'=>?_)
    obtain⟨pv,J2,rfl,rfl,_⟩:=h'.pos (by omega)
    have OO:(wy++[(v,k+1)]).length+1=wy.length+1+1:=by rw[bZ];rfl
    have wJ:(b.toNat:Int)=b:=ma dM.1
    have s5:=LR (nx:=au n l) (ix:=ix) (b:=b.toNat) (v:=((aH+1:Nat):Int)) (by omega) c1 (by rw[hF.li];omega) n
    rw[ah (by omega),wJ]at s5
    refine .mk ((ix.set b.toNat ((aH+1:Nat):Int),lo.set b.toNat ((aH+1:Nat):Int),on.set b.toNat true,st++[b],aH+1,P),(mc,px,vp,eS),(wy++[(v,k+1)],b,0),(pv,J2)) rfl ?_ ⟨⟨hN,hP⟩,?_,?_⟩ ⟨rfl,by rw[OO];rfl,trivial⟩ (.drop 0 1 (aL (by rw[pz (wy++[(v,k+1)])];rfl)))
    ·show jm (au n l) ((wy++[(v,k+1)])++[(b,0)])+iM (au n l) (ix.set b.toNat ((aH+1:Nat):Int)) n<jm (au n l) (wy++[(v,k)])+iM (au n l) ix n
     rw[mf,mf,mf];omega
    ·show (ix.set b.toNat ((aH+1:Nat):Int)).getD a.toNat 0≠0
     rw[mK];split
     ·omega
     ·exact hA
    ·intro z hz
     show (ix.set b.toNat ((aH+1:Nat):Int)).getD z 0≠0
     rw[mK];split
     ·omega
     ·exact hM z hz
   ·have c1:¬(ix.getD b.toNat 0=0):=c1
    refine aa 0 ?_
    refine aM ?_
    have l5:=hF.wg b dM.1 dM.2
    have EL:ep ⟨.int .i64,1,8,[.int .i64 0]⟩ (bL (wy++[(v,k+1)])++J) (0+(IntKind.i64.wrap (((wy.length+1:Nat):Int)-1)).toNat*2+0)=some (.int .i64 v):=jf rfl (by rw[hX];exact so rfl)
    refine eY.kL 3 _ _ rfl (tE rfl dM.1 (by rw[hF.kM];omega)) (fun c2=>?_) (fun c2=>?_)
    ·rw[l5]at c2
     have hO:=hF.I1 ab hb (fk c2)
     refine .sched [] (upto [] 28 0) (by kernel_rfl) ?_
     refine aa 0 ?_
     refine bf 5 rfl EL ?_
     refine aa 0 ?_
     refine bf 5 rfl EL ?_
     refine aM ?_
     refine bf 2 rfl (fq rfl dy.1 (by rw[hF.ll];omega)) ?_
     refine aa 0 ?_
     refine aM ?_
     refine bf 1 rfl (fq rfl dM.1 (by rw[hF.li];omega)) ?_
     refine aM ?_
     refine cT 2 rfl (nu rfl _ dy.1 (by rw[hF.ll];omega)) ?_
     have jH:(if ix.getD b.toNat 0<lo.getD v.toNat 0 then ix.getD b.toNat 0 else lo.getD v.toNat 0)=min (lo.getD v.toNat 0) (ix.getD b.toNat 0):=by split <;> omega
     refine .mk ((ix,lo.set v.toNat (min (lo.getD v.toNat 0) (ix.getD b.toNat 0)),on,st,aH,P),(bs,Js,vp,eS),(wy,v,k+1),(bw,J)) rfl ?_ ⟨⟨hO,hP⟩,hA,hM⟩ ⟨rfl,rfl,trivial⟩ (aL (by rw[← jH];rfl))
     show jm (au n l) (wy++[(v,k+1)])+iM (au n l) ix n<jm (au n l) (wy++[(v,k)])+iM (au n l) ix n
     rw[mf,mf];omega
    ·rw[l5]at c2
     have hO:=hF.off ab hb dM.1 c1 (nj c2)
     refine .mk ((ix,lo,on,st,aH,P),(bs,Js,vp,eS),(wy,v,k+1),(bw,J)) rfl ?_ ⟨⟨hO,hP⟩,hA,hM⟩ ⟨rfl,rfl,trivial⟩ (.refl _)
     show jm (au n l) (wy++[(v,k+1)])+iM (au n l) ix n<jm (au n l) (wy++[(v,k)])+iM (au n l) ix n
     rw[mf,mf];omega
  ·have aq:k=(au n l v).length:=by omega
   have mZ:ep ⟨.bj [(0,3),(1,3)],2,16,[.int .i64 0,.int .i64 0]⟩ (bL (wy++[(v,k)])++J) (0+(IntKind.i64.wrap (((wy.length+1:Nat):Int)-1)).toNat*2)=some (.agg [.int .i64 v,.int .i64 k]):=Uo rfl (by rw[hX,eG];show wy.length*2+2≤_;omega) (by rw[hX];exact QM rfl)
   refine bf 5 rfl mZ ?_
   intro bt
   refine aj 0 ?_
   refine aa 0 ?_
   have qE:(IntKind.i64.wrap (((wy.length+1:Nat):Int)-1)).toNat-Int.toNat 0=wy.length:=by rw[nM];omega
   have df:0≤(0:Int)∧(0:Int)≤IntKind.i64.wrap (((wy.length+1:Nat):Int)-1)∧IntKind.i64.wrap (((wy.length+1:Nat):Int)-1)≤((wy.length+1:Nat):Int)∧2=2:=⟨by omega,by omega,by omega,rfl⟩
   by_cases he:lo.getD v.toNat 0=ix.getD v.toNat 0
   ·obtain⟨A,B,an,FO,hB1⟩:=R5 hF.tj.inc bR
    have OF:v ∉ A:=fun hm=>by have:=FO v hm;omega
    have OE:∀x∈v::B,0≤x∧x<(n:Int):=fun x hx=>hF.tj.node x (by rw[an];exact jM _ hx)
    have cf:=uS hF.tj.inc
    rw[an]at cf
    have hT:=hF.tell (by omega) an he (fun x y hy=>(lL.1 hy).1) (CH (v::B)) (Gu (pt.1 cf).2.1)
    have FM:=GH hF.tj.prt
    subst an
    have ej:(ao (A++v::B)).length=(A++v::B).length*1:=by rw[nq,eA]
    refine .perm _ (xa [_,_,_,_,_] eS σ _ _) (Rq w bi bl bo n (ca n l) ix lo A B on P aH _ vp _ eS v _ dy.1 dy.2 hF.li hF.ll hF.kM he OF OE (by omega) (by omega) (.af bs (A++v::B).length (ao (A++v::B)) Js ej) hP) ?_
    rintro _ _ ⟨rfl,eL,jh,gM,gG,dS,nY,rfl⟩
    have gv:((bt,[AV.int .i64 v,.int .i64 k])::(w,dr (ca n l) bi bl bo n eL aH gM)::(bi,ao ix)::(bl,ao lo)::(bo,bN (e8 (v::B) on))::(bw,bL (wy++[(v,k)])++J)::(jh++(gG++σ))).Perm ((w,dr (ca n l) bi bl bo n eL aH gM)::(bi,ao ix)::(bl,ao lo)::(bo,bN (e8 (v::B) on))::(jh++(gG++((bt,[AV.int .i64 v,.int .i64 k])::(bw,bL (wy++[(v,k)])++J)::σ)))):=by
     have h1:=(xa [(w,dr (ca n l) bi bl bo n eL aH gM),(bi,ao ix),(bl,ao lo),(bo,bN (e8 (v::B) on))] (jh++gG) σ (bt,[AV.int .i64 v,.int .i64 k]) (bw,bL (wy++[(v,k)])++J)).symm
     rw[dU,dU]at h1
     exact h1
    refine⟨_,gv,?_⟩
    refine aG.mk df ?_
    rcases Gc wy with dX | ⟨w',⟨u,i⟩,dX⟩
    ·have qI:wy.length=0:=by rw[dX];rfl
     rw[dX]at hT
     obtain rfl:A=[]:=hT.Vi
     refine ak (p:=(0:Int)<(((IntKind.i64.wrap (((wy.length+1:Nat):Int)-1)).toNat-Int.toNat 0:Nat):Int)) (fun c3=>?_) (fun c3=>?_)
     ·rw[qE,qI]at c3;exact absurd c3 (by decide)
     ·refine .drop 0 1 (.drop 4 1 (.done ⟨rfl,ix,lo,e8 (v::B) on,aH,P++[fN (v::B)],eL,jh,gM,gG,hT,dS,nY,hA,hM,rfl⟩))
    ·have dX:wy=w'++[(u,i)]:=by simpa using dX
     have qI:wy.length=w'.length+1:=by rw[dX,bZ];rfl
     have jq:(IntKind.i64.wrap (((wy.length+1:Nat):Int)-1)).toNat-Int.toNat 0=w'.length+1:=qE.trans qI
     have oI:IntKind.i64.wrap ((((IntKind.i64.wrap (((wy.length+1:Nat):Int)-1)).toNat-Int.toNat 0:Nat):Int)-1)=((w'.length:Nat):Int):=by rw[jq,cE (by omega)];omega
     have Ai:(0+Int.toNat 0*2)+(IntKind.i64.wrap ((((IntKind.i64.wrap (((wy.length+1:Nat):Int)-1)).toNat-Int.toNat 0:Nat):Int)-1)).toNat*2+0=w'.length*2:=by rw[oI,bC];show 0+0*2+_+0=_;omega
     have oR:bL (wy++[(v,k)])++J=bL (w'++[(u,i)])++([.int .i64 v,.int .i64 k]++J):=by rw[dX,pz,dU];rfl
     have s5:ep ⟨.int .i64,1,8,[.int .i64 0]⟩ (bL (wy++[(v,k)])++J) ((0+Int.toNat 0*2)+(IntKind.i64.wrap ((((IntKind.i64.wrap (((wy.length+1:Nat):Int)-1)).toNat-Int.toNat 0:Nat):Int)-1)).toNat*2+0)=some (.int .i64 u):=jf rfl (by rw[Ai,oR];exact so rfl)
     have fD:0≤u∧u<(n:Int):=hF.tj.node u (hF.tj.sub.subset (by rw[dX];simp))
     have iX:AV.af bw (0+Int.toNat 0*2) ((IntKind.i64.wrap (((wy.length+1:Nat):Int)-1)).toNat-Int.toNat 0) 2=.af bw 0 (w'.length+1) 2:=by rw[jq];rfl
     have Ns:AV.af bw 0 (w'.length+1) 2=AV.af bw (0+Int.toNat 0*2) ((IntKind.i64.wrap (((wy.length+1:Nat):Int)-1)).toNat-Int.toNat 0) 2:=iX.symm
     refine ak (p:=(0:Int)<(((IntKind.i64.wrap (((wy.length+1:Nat):Int)-1)).toNat-Int.toNat 0:Nat):Int)) (fun c3=>?_) (fun c3=>?_)
     rotate_left
     ·rw[jq]at c3;omega
     have zi:2=2∧0≤IntKind.i64.wrap ((((IntKind.i64.wrap (((wy.length+1:Nat):Int)-1)).toNat-Int.toNat 0:Nat):Int)-1)∧IntKind.i64.wrap ((((IntKind.i64.wrap (((wy.length+1:Nat):Int)-1)).toNat-Int.toNat 0:Nat):Int)-1)<(((IntKind.i64.wrap (((wy.length+1:Nat):Int)-1)).toNat-Int.toNat 0:Nat):Int):=⟨rfl,by rw[oI];omega,by rw[oI,jq];omega⟩
     refine aG.mk zi ?_
     refine bf 5 rfl s5 ?_
     refine .sched [] (upto [] 23 0) (by kernel_rfl) ?_
     refine aa 1 ?_
     refine aa 1 ?_
     refine aM ?_
     refine bf 3 rfl (fq rfl fD.1 (by rw[hF.ll];omega)) ?_
     refine aa 1 ?_
     refine aa 0 ?_
     refine aM ?_
     refine bf 3 rfl (fq rfl dy.1 (by rw[hF.ll];omega)) ?_
     refine aM ?_
     refine cT 3 rfl (nu rfl _ fD.1 (by rw[hF.ll];omega)) ?_
     have jH:(if lo.getD v.toNat 0<lo.getD u.toNat 0 then lo.getD v.toNat 0 else lo.getD u.toNat 0)=min (lo.getD u.toNat 0) (lo.getD v.toNat 0):=by split <;> omega
     have Pr:0<A.length:=List.length_pos_of_mem (a:=u) (hT.tj.sub.subset (by rw[dX];simp))
     obtain⟨mc,px,rfl,rfl,_⟩:=dS.pos Pr
     have No:=FI.same (dX▸hF) he
     rw[dX]at hT
     have hE:(w,dr (ca n l) bi bl bo n (.af mc 0 A.length 1) aH gM)::(bi,ao ix)::(bl,ao (lo.set u.toNat (if lo.getD v.toNat 0<lo.getD u.toNat 0 then lo.getD v.toNat 0 else lo.getD u.toNat 0)))::(bo,bN (e8 (v::B) on))::(mc,ao A++px)::(bw,bL (wy++[(v,k)])++J)::(gG++σ)=(w,dr (ca n l) bi bl bo n (.af mc 0 A.length 1) aH gM)::(bi,ao ix)::(bl,ao (lo))::(bo,bN (e8 (v::B) on))::(mc,ao A++px)::(bw,bL (w'++[(u,i)])++([.int .i64 v,.int .i64 k]++J))::(gG++σ):=by rw[jH,No,oR]
     refine .mk ((ix,lo,e8 (v::B) on,A,aH,P++[fN (v::B)]),(mc,px,gM,gG),(w',u,i),(bw,[AV.int .i64 v,.int .i64 k]++J)) rfl ?_ ⟨⟨hT,nY⟩,hA,hM⟩ ⟨rfl,iX,trivial⟩ (.drop 0 1 (.pull [4,4,4,4,5] (aL hE)))
     show jm (au n l) (w'++[(u,i)])+iM (au n l) ix n<jm (au n l) (wy++[(v,k)])+iM (au n l) ix n
     rw[dX,mf (au n l) (w'++[(u,i)])];omega
   ·have Pk:=fun ρ=>TY w bi bl bo n (ca n l) ix lo on aH (.af bs 0 st.length 1) vp v ρ dy.1 dy.2 hF.li hF.ll he
    refine aw [4,4,4,4] (Pk _) ?_
    refine aG.mk df ?_
    rcases Gc wy with dX | ⟨w',⟨u,i⟩,dX⟩
    ·have qI:wy.length=0:=by rw[dX];rfl
     rw[dX]at hF
     exact absurd hF.one he
    ·have dX:wy=w'++[(u,i)]:=by simpa using dX
     have qI:wy.length=w'.length+1:=by rw[dX,bZ];rfl
     have jq:(IntKind.i64.wrap (((wy.length+1:Nat):Int)-1)).toNat-Int.toNat 0=w'.length+1:=qE.trans qI
     have oI:IntKind.i64.wrap ((((IntKind.i64.wrap (((wy.length+1:Nat):Int)-1)).toNat-Int.toNat 0:Nat):Int)-1)=((w'.length:Nat):Int):=by rw[jq,cE (by omega)];omega
     have Ai:(0+Int.toNat 0*2)+(IntKind.i64.wrap ((((IntKind.i64.wrap (((wy.length+1:Nat):Int)-1)).toNat-Int.toNat 0:Nat):Int)-1)).toNat*2+0=w'.length*2:=by rw[oI,bC];show 0+0*2+_+0=_;omega
     have oR:bL (wy++[(v,k)])++J=bL (w'++[(u,i)])++([.int .i64 v,.int .i64 k]++J):=by rw[dX,pz,dU];rfl
     have s5:ep ⟨.int .i64,1,8,[.int .i64 0]⟩ (bL (wy++[(v,k)])++J) ((0+Int.toNat 0*2)+(IntKind.i64.wrap ((((IntKind.i64.wrap (((wy.length+1:Nat):Int)-1)).toNat-Int.toNat 0:Nat):Int)-1)).toNat*2+0)=some (.int .i64 u):=jf rfl (by rw[Ai,oR];exact so rfl)
     have fD:0≤u∧u<(n:Int):=hF.tj.node u (hF.tj.sub.subset (by rw[dX];simp))
     have iX:AV.af bw (0+Int.toNat 0*2) ((IntKind.i64.wrap (((wy.length+1:Nat):Int)-1)).toNat-Int.toNat 0) 2=.af bw 0 (w'.length+1) 2:=by rw[jq];rfl
     have Ns:AV.af bw 0 (w'.length+1) 2=AV.af bw (0+Int.toNat 0*2) ((IntKind.i64.wrap (((wy.length+1:Nat):Int)-1)).toNat-Int.toNat 0) 2:=iX.symm
     refine ak (p:=(0:Int)<(((IntKind.i64.wrap (((wy.length+1:Nat):Int)-1)).toNat-Int.toNat 0:Nat):Int)) (fun c3=>?_) (fun c3=>?_)
     rotate_left
     ·rw[jq]at c3;omega
     have zi:2=2∧0≤IntKind.i64.wrap ((((IntKind.i64.wrap (((wy.length+1:Nat):Int)-1)).toNat-Int.toNat 0:Nat):Int)-1)∧IntKind.i64.wrap ((((IntKind.i64.wrap (((wy.length+1:Nat):Int)-1)).toNat-Int.toNat 0:Nat):Int)-1)<(((IntKind.i64.wrap (((wy.length+1:Nat):Int)-1)).toNat-Int.toNat 0:Nat):Int):=⟨rfl,by rw[oI];omega,by rw[oI,jq];omega⟩
     refine aG.mk zi ?_
     refine bf 6 rfl s5 ?_
     refine .sched [] (upto [] 23 0) (by kernel_rfl) ?_
     refine aa 0 ?_
     refine aa 0 ?_
     refine aM ?_
     refine bf 2 rfl (fq rfl fD.1 (by rw[hF.ll];omega)) ?_
     refine aa 0 ?_
     refine aa 4 ?_
     refine aM ?_
     refine bf 2 rfl (fq rfl dy.1 (by rw[hF.ll];omega)) ?_
     refine aM ?_
     refine cT 2 rfl (nu rfl _ fD.1 (by rw[hF.ll];omega)) ?_
     have jH:(if lo.getD v.toNat 0<lo.getD u.toNat 0 then lo.getD v.toNat 0 else lo.getD u.toNat 0)=min (lo.getD u.toNat 0) (lo.getD v.toNat 0):=by split <;> omega
     have hU:=FI.up (dX▸hF) (by omega) he
     have hE:(w,dr (ca n l) bi bl bo n (.af bs 0 st.length 1) aH vp)::(bi,ao ix)::(bl,ao (lo.set u.toNat (if lo.getD v.toNat 0<lo.getD u.toNat 0 then lo.getD v.toNat 0 else lo.getD u.toNat 0)))::(bo,bN (on))::(bs,ao st++Js)::(bw,bL (wy++[(v,k)])++J)::(eS++σ)=(w,dr (ca n l) bi bl bo n (.af bs 0 st.length 1) aH vp)::(bi,ao ix)::(bl,ao (lo.set u.toNat (min (lo.getD u.toNat 0) (lo.getD v.toNat 0))))::(bo,bN (on))::(bs,ao st++Js)::(bw,bL (w'++[(u,i)])++([.int .i64 v,.int .i64 k]++J))::(eS++σ):=by rw[jH,oR]
     refine .mk ((ix,lo.set u.toNat (min (lo.getD u.toNat 0) (lo.getD v.toNat 0)),on,st,aH,P),(bs,Js,vp,eS),(w',u,i),(bw,[AV.int .i64 v,.int .i64 k]++J)) rfl ?_ ⟨⟨hU,hP⟩,hA,hM⟩ ⟨rfl,iX,trivial⟩ (.drop 4 1 (aL hE))
     show jm (au n l) (w'++[(u,i)])+iM (au n l) ix n<jm (au n l) (wy++[(v,k)])+iM (au n l) ix n
     rw[dX,mf (au n l) (w'++[(u,i)])];omega
 ·intro hr
  obtain⟨ix,lo,on,hF,hA,hM,heq,Cm⟩:∃ix lo on,FI n (au n l) ix lo on [a] (dJ+1) P0 [(a,0)]∧ix.getD a.toNat 0≠0∧(∀b:Nat,lY.getD b 0≠0→ix.getD b 0≠0)∧lo.getD a.toNat 0=ix.getD a.toNat 0∧∀ρ,ACalls Tryz.prog 314 [.ptr w 0,.int .i64 a] ((w,dr (ca n l) bi bl bo n um dJ gj)::(bi,ao lY)::(bl,ao wm)::(bo,bN wh)::(vK++ρ))
    (fun r σ'=>r=.agg [.int .i64 a,.int .i64 0]∧∃bs Js,σ'=(w,dr (ca n l) bi bl bo n (.af bs 0 [a].length 1) (dJ+1) gj)::(bi,ao ix)::(bl,ao lo)::(bo,bN on)::(bs,ao [a]++Js)::ρ):=by
   have h1:=h.enter (way2:=[]) ha hf (fun v hv=>by cases hv) rfl (fun t ht=>by cases ht) (fun t ht=>by cases ht)
   refine⟨_,_,_,h1,?_,?_,?_,fun ρ=>(Bk w bi bl bo n (ca n l) lY wm [] wh dJ um gj vK a ρ ha.1 ha.2 h.li h.ll h.kM hs (bA _) (by omega)).mono ?_⟩
   ·rw[mK,ah ⟨rfl,by rw[h.li];omega⟩];omega
   ·intro z hz
    rw[mK];split
    ·omega
    ·exact hz
   ·rw[mK,mK,ah ⟨rfl,by rw[h.ll];omega⟩,ah ⟨rfl,by rw[h.li];omega⟩]
   ·rintro _ _ ⟨rfl,BS,Es,fy,rfl⟩
    obtain⟨bs,Js,rfl,rfl,_⟩:=fy.pos (by show 0<1;decide)
    exact⟨rfl,bs,Js,rfl⟩
  clear hf hs h
  have hle:=hF.Bj
  have B6:=yM n l a
  refine .mk [] _ (Cm (iL++σ)) ?_
  rintro _ _ ⟨rfl,bs,Js,rfl⟩
  intro bw
  refine aG.mk ⟨rfl,by decide,by decide⟩ ?_
  refine .quiet (by kernel_rfl) ?_
  refine aa 0 ?_
  refine aa 1 ?_
  refine aa 0 ?_
  refine aG.mk rfl ?_
  refine bE.mk (au n l a) (by omega) (pG ha) ?_
  refine ak (p:=(0:Int)<(au n l a).length) (fun ab=>?_) (fun aq=>?_)
  ·have ab:0<(au n l a).length:=by omega
   obtain⟨b,hb⟩:∃b,(au n l a)[0]=b:=⟨_,rfl⟩
   have ta:b∈au n l a:=hb▸bP ab
   have dM:=(lL.1 ta).1
   refine .quiet (by kernel_rfl) ?_
   refine aa 1 ?_
   refine aa 0 ?_
   refine aG.mk rfl ?_
   refine bE.mk (au n l a) (by omega) (pG ha) ?_
   refine aa 0 ?_
   refine aG.mk rfl ?_
   refine bE.mk b (by decide) ((get_some ab).trans (congrArg some hb)) ?_
   refine aa 0 ?_
   refine aj 0 ?_
   refine aa 1 ?_
   refine aM ?_
   refine bf 2 rfl (fq rfl dM.1 (by rw[hF.li];omega)) ?_
   refine ak (p:=ix.getD b.toNat 0=0) (fun c1=>?_) (fun c1=>?_)
   ·have hN:=FI.new (w:=[]) hF ab hb dM c1
    refine .mk [5,5,5,5,5] _ (Bk w bi bl bo n (ca n l) ix lo [a] on (dJ+1) _ gj _ b ((bw,[.int .i64 a,.int .i64 1])::(iL++σ)) dM.1 dM.2 hF.li hF.ll hF.kM (.af bs 1 (ao [a]) Js rfl) (by show 1≤10000;decide) (by omega)) ?_
    rintro _ _ ⟨rfl,BS,Es,fy,rfl⟩
    obtain⟨mc,px,rfl,rfl,_⟩:=fy.pos (by show 0<2;decide)
    intro aB
    refine yI (k:=1) (n:=1) [_,_,_,_,_,_] (.af bw 1 (bL [(a,1)]) [] rfl) (.af 0 aB 0 1 _ rfl (cI rfl)) rfl (by decide) (by decide) (by decide) (fun v' bD h'=>?_)
    obtain⟨pv,J2,rfl,rfl,_⟩:=h'.pos (by decide)
    refine xe hr ((ix.set b.toNat ((dJ+1+1:Nat):Int),lo.set b.toNat ((dJ+1+1:Nat):Int),on.set b.toNat true,[a]++[b],dJ+1+1,P0),(mc,px,gj,iL),([(a,1)],b,0),(pv,J2)) ⟨rfl,⟨⟨hN,hp⟩,?_,?_⟩,⟨rfl,rfl,trivial⟩,.drop 0 1 (aL rfl)⟩
    ·show (ix.set b.toNat ((dJ+1+1:Nat):Int)).getD a.toNat 0≠0
     rw[mK];split
     ·omega
     ·exact hA
    ·intro z hz
     show (ix.set b.toNat ((dJ+1+1:Nat):Int)).getD z 0≠0
     rw[mK];split
     ·omega
     ·exact hM z hz
   ·have c1:¬(ix.getD b.toNat 0=0):=c1
    have l5:=hF.wg b dM.1 dM.2
    refine aa 1 ?_
    refine aM ?_
    refine eY.kL 4 _ _ rfl (tE rfl dM.1 (by rw[hF.kM];omega)) (fun c2=>?_) (fun c2=>?_)
    ·rw[l5]at c2
     have hO:=FI.I1 (w:=[]) hF ab hb (fk c2)
     refine .sched [] (upto [] 28 0) (by kernel_rfl) ?_
     refine aa 1 ?_
     refine aa 0 ?_
     refine aa 1 ?_
     refine aa 0 ?_
     refine aM ?_
     refine bf 3 rfl (fq rfl ha.1 (by rw[hF.ll];omega)) ?_
     refine aa 1 ?_
     refine aM ?_
     refine bf 2 rfl (fq rfl dM.1 (by rw[hF.li];omega)) ?_
     refine aM ?_
     refine cT 3 rfl (nu rfl _ ha.1 (by rw[hF.ll];omega)) ?_
     have jH:(if ix.getD b.toNat 0<lo.getD a.toNat 0 then ix.getD b.toNat 0 else lo.getD a.toNat 0)=min (lo.getD a.toNat 0) (ix.getD b.toNat 0):=by split <;> omega
     have hE:(w,dr (ca n l) bi bl bo n (.af bs 0 [a].length 1) (dJ+1) gj)::(bi,ao ix)::(bl,ao (lo.set a.toNat (if ix.getD b.toNat 0<lo.getD a.toNat 0 then ix.getD b.toNat 0 else lo.getD a.toNat 0)))::(bo,bN on)::(bs,ao [a]++Js)::(bw,bL [(a,1)]++[])::(iL++σ)=(w,dr (ca n l) bi bl bo n (.af bs 0 [a].length 1) (dJ+1) gj)::(bi,ao ix)::(bl,ao (lo.set a.toNat (min (lo.getD a.toNat 0) (ix.getD b.toNat 0))))::(bo,bN on)::(bs,ao [a]++Js)::(bw,bL [(a,1)]++[])::(iL++σ):=by rw[jH]
     exact xe hr ((ix,lo.set a.toNat (min (lo.getD a.toNat 0) (ix.getD b.toNat 0)),on,[a],dJ+1,P0),(bs,Js,gj,iL),([],a,1),(bw,[])) ⟨rfl,⟨⟨hO,hp⟩,hA,hM⟩,⟨rfl,rfl,trivial⟩,.pull [5,5,5,5,5] (aL hE)⟩
    ·rw[l5]at c2
     have hO:=FI.off (w:=[]) hF ab hb dM.1 c1 (nj c2)
     exact xe hr ((ix,lo,on,[a],dJ+1,P0),(bs,Js,gj,iL),([],a,1),(bw,[])) ⟨rfl,⟨⟨hO,hp⟩,hA,hM⟩,⟨rfl,rfl,trivial⟩,.pull [5,5,5,5,5] (aL rfl)⟩
  ·have aq:(au n l a).length=0:=by omega
   refine aa 0 ?_
   intro aB
   refine aj 0 ?_
   refine aa 0 ?_
   have hT:=FI.tell (w:=[]) (A:=[]) (B:=[]) (part:=fN [a]) hF (by omega) rfl heq (fun x y hy=>(lL.1 hy).1) (CH [a]) (Gu (by simp))
   have FM:=GH hF.tj.prt
   have NT:((w,dr (ca n l) bi bl bo n (.af bs 0 [a].length 1) (dJ+1) gj)::(bi,ao ix)::(bl,ao lo)::(bo,bN on)::(bs,ao [a]++Js)::(iL++((aB,[AV.int .i64 a,.int .i64 0])::(bw,[AV.int .i64 a,.int .i64 0])::σ))).Perm ((aB,[AV.int .i64 a,.int .i64 0])::(bw,[AV.int .i64 a,.int .i64 0])::(w,dr (ca n l) bi bl bo n (.af bs 0 [a].length 1) (dJ+1) gj)::(bi,ao ix)::(bl,ao lo)::(bo,bN on)::(bs,ao [a]++Js)::(iL++σ)):=by
    have h1:=xa [(w,dr (ca n l) bi bl bo n (.af bs 0 [a].length 1) (dJ+1) gj),(bi,ao ix),(bl,ao lo),(bo,bN on),(bs,ao [a]++Js)] iL σ (aB,[AV.int .i64 a,.int .i64 0]) (bw,[AV.int .i64 a,.int .i64 0])
    exact h1.trans (List.Perm.cons _ (oh (l₁:=[(w,dr (ca n l) bi bl bo n (.af bs 0 [a].length 1) (dJ+1) gj),(bi,ao ix),(bl,ao lo),(bo,bN on),(bs,ao [a]++Js)])))
   refine .perm _ NT (Rq w bi bl bo n (ca n l) ix lo [] [] on P0 (dJ+1) _ gj _ iL a _ ha.1 ha.2 hF.li hF.ll hF.kM heq (by simp) (fun x hx=>by rw[List.mem_singleton.1 hx];exact ha) (by show 1≤10000;decide) (by omega) (.af bs 1 (ao [a]) Js rfl) hp) ?_
   rintro _ _ ⟨rfl,eL,jh,gM,gG,dS,nY,rfl⟩
   have gv:((aB,[AV.int .i64 a,.int .i64 0])::(w,dr (ca n l) bi bl bo n eL (dJ+1) gM)::(bi,ao ix)::(bl,ao lo)::(bo,bN (e8 [a] on))::(bw,[AV.int .i64 a,.int .i64 0])::(jh++(gG++σ))).Perm ((w,dr (ca n l) bi bl bo n eL (dJ+1) gM)::(bi,ao ix)::(bl,ao lo)::(bo,bN (e8 [a] on))::(jh++(gG++((aB,[AV.int .i64 a,.int .i64 0])::(bw,[AV.int .i64 a,.int .i64 0])::σ)))):=by
    have h1:=(xa [(w,dr (ca n l) bi bl bo n eL (dJ+1) gM),(bi,ao ix),(bl,ao lo),(bo,bN (e8 [a] on))] (jh++gG) σ (aB,[AV.int .i64 a,.int .i64 0]) (bw,[AV.int .i64 a,.int .i64 0])).symm
    rw[dU,dU]at h1
    exact h1
   refine⟨_,gv,?_⟩
   refine aG.mk (by decide) ?_
   exact .drop 0 1 (.drop 4 1 (.done ⟨rfl,ix,lo,e8 [a] on,dJ+1,P0++[fN [a]],eL,jh,gM,gG,hT,dS,nY,hA,hM,rfl⟩))
end Go.Proofs.YtnikdflhefijbaaGreat
