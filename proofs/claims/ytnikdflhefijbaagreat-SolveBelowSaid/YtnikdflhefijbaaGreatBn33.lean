import Derived.Test.YtnikdflhefijbaaGreatBn31
import Derived.Test.YtnikdflhefijbaaGreatBn11
import Derived.Test.YtnikdflhefijbaaGreatBn21
import Derived.Test.YtnikdflhefijbaaGreatBn22
import Derived.Test.YtnikdflhefijbaaGreatBn32
namespace Go.Proofs.YtnikdflhefijbaaGreat
open Go.RowKit
set_option maxRecDepth 100000
theorem mj{w:List Int}{i j:Nat}{x:Int}:(w.set i x).getD j 0=if i=j∧j<w.length then x else w.getD j 0:=by
 simp only[aW,eR]
 by_cases h:i=j
 ·subst h
  by_cases h2:i<w.length
  ·simp[h2]
  ·simp[h2]
 ·simp[h]
def gI(ix:List Int)(x:Int):Int:=if 0≤x then ix.getD x.toNat 0 else 0
theorem lX{ix:List Int}{x:Int}(h:0≤x):gI ix x=ix.getD x.toNat 0:=ai h
theorem z7{ix:List Int}{b v:Int}(h0:0≤b)(h1:b<ix.length):gI (ix.set b.toNat v)=pj (gI ix) b v:=by
 funext y
 show (if 0≤y then (ix.set b.toNat v).getD y.toNat 0 else 0)=if y=b then v else if 0≤y then ix.getD y.toNat 0 else 0
 by_cases hy:0≤y
 ·rw[ai hy,aW,eR]
  by_cases e:y=b
  ·subst e;rw[ai rfl,ai (by omega),ai rfl];rfl
  ·rw[ah (by omega),ah e,ai hy,aW]
 ·rw[ah hy,ah (by omega),ah hy]
theorem acw(n:Nat)(x:Int):gI (List.replicate n 0) x=0:=by
 unfold gI
 split
 ·rw[aW,vN];split <;> rfl
 ·rfl
structure FI(n:Nat)(nx:Int→List Int)(ix lo:List Int)(on:List Bool)(st:List Int)(aG:Nat)(P:List (List Int))(gN:List (Int×Nat)):Prop where
 tj:TJ n nx (gI ix) (gI lo) st aG P (gN.map (·.1))
 vh:Prc nx (gI ix) (gI lo) st gN
 li:ix.length=n
 ll:lo.length=n
 kx:on.length=n
 vm:∀a:Int,0≤a→a<n→on.getD a.toNat false=decide (a∈st)
 tn:∀t∈gN,t.2≤(nx t.1).length
theorem S4{on:List Bool}{b:Int}{x:Bool}(hb:0≤b)(hl:b<on.length){a:Int}(ha:0≤a):(on.set b.toNat x).getD a.toNat false=if a=b then x else on.getD a.toNat false:=by
 rw[aW,eR,aW]
 by_cases e:a=b
 ·subst e;rw[ai rfl,ai (by omega),ai rfl];rfl
 ·rw[ah (by omega),ah e]
theorem FI.start(n:Nat)(nx:Int→List Int):FI n nx (List.replicate n 0) (List.replicate n 0) (List.replicate n false) [] 0 [] []:=
 ⟨.start (acw n),fun _ h=>(by cases h),gb,gb,gb,fun a _ _=>by
  rw[List.getD_eq_getElem?_getD,List.getElem?_replicate];split <;> simp,fun _ h=>(by cases h)⟩
variable {n:Nat} {nx:Int→List Int} {ix lo:List Int} {on:List Bool} {st:List Int} {aG:Nat} {P:List (List Int)}
theorem FI.enter{gN way2:List (Int×Nat)}{b:Int}(h:FI n nx ix lo on st aG P gN)(hb:0≤b∧b<n)(hf:ix.getD b.toNat 0=0)(hW:∀v∈gN.map (·.1),Rx nx v b)(Il:way2.map (·.1)=gN.map (·.1))(hp:∀t∈way2,∀y∈(nx t.1).take t.2,y=b∨(gI ix y≠0∧(y∈st→gI lo t.1≤gI ix y)))(ht:∀t∈way2,t.2≤(nx t.1).length):
  FI n nx (ix.set b.toNat ((aG+1:Nat):Int)) (lo.set b.toNat ((aG+1:Nat):Int)) (on.set b.toNat true) (st++[b]) (aG+1) P (way2++[(b,0)]):=by
 have hf:gI ix b=0:=by rw[lX hb.1];exact hf
 have er:b ∉ st:=fun hm=>by have:=h.tj.sd b hm;omega
 have h1:=h.tj.enter hb hf hW
 refine⟨?_,?_,by rw[cM];exact h.li,by rw[cM];exact h.ll,by rw[cM];exact h.kx,fun a h0 hn=>?_,fun t oy=>?_⟩
 ·rw[z7 hb.1 (by rw[h.li];exact hb.2),z7 hb.1 (by rw[h.ll];exact hb.2),cS,Il]
  exact h1
 ·rw[z7 hb.1 (by rw[h.li];exact hb.2),z7 hb.1 (by rw[h.ll];exact hb.2)]
  intro t oy y hy
  rcases bO.1 oy with oy | oy
  ·have htW:t.1∈gN.map (·.1):=Il▸Oc oy
   have hts:t.1∈st:=h.tj.sub.subset htW
   have htb:t.1≠b:=fun e=>er (e▸hts)
   rw[pM (f:=gI lo) htb]
   have hle:=(h.tj.low t.1 htW).1
   have No:=(h.tj.sd t.1 hts).2
   by_cases e:y=b
   ·subst e
    rw[pN]
    exact⟨by omega,fun _=>by omega⟩
   ·rw[pM e]
    obtain⟨h2,h3⟩:=(hp t oy y hy).resolve_left e
    exact⟨h2,fun hm=>h3 ((bO.1 hm).resolve_right fun hm=>e (bh.1 hm))⟩
  ·rw[bh.1 oy]at hy
   simp at hy
 ·rw[S4 hb.1 (by rw[h.kx];exact hb.2) h0]
  by_cases e:a=b
  ·subst e;rw[if_pos rfl];simp
  ·rw[if_neg e,h.vm a h0 hn];simp[e]
 ·rcases bO.1 oy with oy | oy
  ·exact ht t oy
  ·rw[bh.1 oy];exact bA _
theorem JT{l:List Int}{k:Nat}(h:k<l.length){b:Int}(hb:l[k]=b):l.take (k+1)=l.take k++[b]:=by rw[fp h,hb]
theorem Kx{w:List (Int×Nat)}{a:Int}{k j:Nat}:(w++[(a,k)]).map (·.1)=(w++[(a,j)]).map (·.1):=by rw[cS,cS];rfl
theorem FI.new{w:List (Int×Nat)}{a b:Int}{k:Nat}(h:FI n nx ix lo on st aG P (w++[(a,k)]))(hk:k<(nx a).length)(hb:(nx a)[k]=b)(dG:0≤b∧b<n)(hf:ix.getD b.toNat 0=0):
  FI n nx (ix.set b.toNat ((aG+1:Nat):Int)) (lo.set b.toNat ((aG+1:Nat):Int)) (on.set b.toNat true) (st++[b]) (aG+1) P ((w++[(a,k+1)])++[(b,0)]):=by
 have NJ:b∈nx a:=hb▸bX hk
 have NM:a∈(w++[(a,k)]).map (·.1):=dX.2 ⟨(a,k),jv _ (bh.2 rfl),rfl⟩
 have lZ:=h.tj.sub
 have lE:∀v∈w.map (·.1),gI ix v<gI ix a:=by
  refine B7 h.tj.inc ?_
  rw[cS]at lZ;exact lZ
 refine h.enter dG hf (fun v hv=>?_) Kx (fun t ht y hy=>?_) fun t ht=>?_
 ·refine (h.tj.yZ v hv a (lZ.subset NM) ?_).trans (.one NJ)
  rw[cS]at hv
  rcases bO.1 hv with hv | hv
  ·have:=lE v hv;omega
  ·rw[bh.1 hv];exact ke _
 ·rcases bO.1 ht with ht | ht
  ·exact .inr (h.vh t (gD _ ht) y hy)
  ·rw[bh.1 ht]at hy ⊢
   rw[JT hk hb]at hy
   rcases bO.1 hy with hy | hy
   ·exact .inr (h.vh (a,k) (jv _ (bh.2 rfl)) y hy)
   ·exact .inl (bh.1 hy)
 ·rcases bO.1 ht with ht | ht
  ·exact h.tn t (gD _ ht)
  ·rw[bh.1 ht];exact hk
theorem FI.off{w:List (Int×Nat)}{a b:Int}{k:Nat}(h:FI n nx ix lo on st aG P (w++[(a,k)]))(hk:k<(nx a).length)(hb:(nx a)[k]=b)(dG:0≤b)(hf:ix.getD b.toNat 0≠0)(hs:b ∉ st):FI n nx ix lo on st aG P (w++[(a,k+1)]):=by
 refine⟨by rw[Kx (j:=k)];exact h.tj,fun t ht y hy=>?_,h.li,h.ll,h.kx,h.vm,fun t ht=>?_⟩
 ·rcases bO.1 ht with ht | ht
  ·exact h.vh t (gD _ ht) y hy
  ·rw[bh.1 ht]at hy ⊢
   rw[JT hk hb]at hy
   rcases bO.1 hy with hy | hy
   ·exact h.vh (a,k) (jv _ (bh.2 rfl)) y hy
   ·rw[bh.1 hy,lX dG]
    exact⟨hf,fun hm=>absurd hm hs⟩
 ·rcases bO.1 ht with ht | ht
  ·exact h.tn t (gD _ ht)
  ·rw[bh.1 ht];exact hk
theorem FI.HD{w:List (Int×Nat)}{a b:Int}{k:Nat}(h:FI n nx ix lo on st aG P (w++[(a,k)]))(hk:k<(nx a).length)(hb:(nx a)[k]=b)(hs:b∈st):FI n nx ix (lo.set a.toNat (min (lo.getD a.toNat 0) (ix.getD b.toNat 0))) on st aG P (w++[(a,k+1)]):=by
 have NJ:b∈nx a:=hb▸bX hk
 have dG:=h.tj.node b hs
 have NM:a∈(w++[(a,k)]).map (·.1):=dX.2 ⟨(a,k),jv _ (bh.2 rfl),rfl⟩
 have lZ:=h.tj.sub
 have sy:=h.tj.node a (lZ.subset NM)
 have bZ:((w++[(a,k)]).map (·.1)).Nodup:=(ub h.tj.inc).sublist lZ
 have haw:∀t∈w,t.1≠a:=fun t ht e=>by
  rw[cS]at bZ
  exact (oP.1 bZ).2.2 t.1 (Oc ht) a (bh.2 rfl) e
 have iy:=h.tj
 rw[cS]at iy
 have h1:=iy.lower (z:=b) hs (.one NJ)
 have D6:gI (lo.set a.toNat (min (lo.getD a.toNat 0) (ix.getD b.toNat 0)))=pj (gI lo) a (min (gI lo a) (gI ix b)):=by rw[z7 sy.1 (by rw[h.ll];exact sy.2),lX sy.1,lX dG.1]
 refine⟨by rw[D6,Kx (j:=k),cS];exact h1,fun t ht y hy=>?_,h.li,by rw[cM];exact h.ll,h.kx,h.vm,fun t ht=>?_⟩
 ·rw[D6]
  rcases bO.1 ht with ht | ht
  ·rw[pM (haw t ht)]
   exact h.vh t (gD _ ht) y hy
  ·rw[bh.1 ht]at hy ⊢
   rw[JT hk hb]at hy
   rw[pN]
   rcases bO.1 hy with hy | hy
   ·obtain⟨h2,h3⟩:=h.vh (a,k) (jv _ (bh.2 rfl)) y hy
    have h3:y∈st→gI lo a≤gI ix y:=h3
    exact⟨h2,fun hm=>by have:=h3 hm;omega⟩
   ·rw[bh.1 hy]
    have:=h.tj.sd b hs
    exact⟨by omega,fun _=>by omega⟩
 ·rcases bO.1 ht with ht | ht
  ·exact h.tn t (gD _ ht)
  ·rw[bh.1 ht];exact hk
theorem FI.all{w:List (Int×Nat)}{a:Int}{k:Nat}(h:FI n nx ix lo on st aG P (w++[(a,k)]))(hk:(nx a).length≤k):∀y∈nx a,gI ix y≠0∧(y∈st→gI lo a≤gI ix y):=fun y hy=>
 h.vh (a,k) (jv _ (bh.2 rfl)) y (by rw[eI hk];exact hy)
theorem ZZ{l:List Int}{i:Nat}:l.set i (l.getD i 0)=l:=by
 refine zg fun j=>?_
 rw[eR]
 by_cases e:i=j
 ·subst e
  by_cases hl:i<l.length
  ·rw[ai rfl,ai hl,aW,bJ hl];rfl
  ·rw[ai rfl,ah hl,tY (by omega)]
 ·rw[ah e]
theorem FI.up{w:List (Int×Nat)}{u v:Int}{i k:Nat}(h:FI n nx ix lo on st aG P ((w++[(u,i)])++[(v,k)]))(hk:(nx v).length≤k)(aP:lo.getD v.toNat 0≠ix.getD v.toNat 0):FI n nx ix (lo.set u.toNat (min (lo.getD u.toNat 0) (lo.getD v.toNat 0))) on st aG P (w++[(u,i)]):=by
 have iy:=h.tj
 rw[cS,cS]at iy
 have Iu:u∈(w.map (·.1)++[u]++[v]):=by simp
 have Iq:v∈(w.map (·.1)++[u]++[v]):=by simp
 have e8:=iy.node u (iy.sub.subset Iu)
 have dm:=iy.node v (iy.sub.subset Iq)
 have bZ:(w.map (·.1)++[u]++[v]).Nodup:=(ub iy.inc).sublist iy.sub
 have huw:∀t∈w,t.1≠u:=fun t ht e=>(oP.1 (oP.1 bZ).1).2.2 t.1 (Oc ht) u (bh.2 rfl) e
 have fx:=(iy.low v Iq).1
 have ab:gI lo v<gI ix v:=by
  rw[lX dm.1,lX dm.1]at fx ⊢;omega
 have h1:=iy.up (u:=u) (v:=v) (w:=w.map (·.1)) ab (h.all hk)
 have D6:gI (lo.set u.toNat (min (lo.getD u.toNat 0) (lo.getD v.toNat 0)))=pj (gI lo) u (min (gI lo u) (gI lo v)):=by rw[z7 e8.1 (by rw[h.ll];exact e8.2),lX e8.1,lX dm.1]
 refine⟨by rw[D6,cS];exact h1,fun t ht y hy=>?_,h.li,by rw[cM];exact h.ll,h.kx,h.vm,fun t ht=>h.tn t (gD _ ht)⟩
 rw[D6]
 obtain⟨h2,h3⟩:=h.vh t (gD _ ht) y hy
 refine⟨h2,fun hm=>?_⟩
 have:=h3 hm
 by_cases e:t.1=u
 ·rw[e]at this ⊢;rw[pN];omega
 ·rw[pM e];exact this
def eL(part:List Int)(on:List Bool):List Bool:=part.foldl (fun on b=>on.set b.toNat false) on
theorem E8:∀(part:List Int) (on:List Bool),(eL part on).length=on.length
 | [],_=>rfl
 |b::part,on=>by
  show (eL part (on.set b.toNat false)).length=_
  rw[E8 part,cM]
theorem RH{a:Int}(ha:0≤a):∀(part:List Int) (on:List Bool),(∀b∈part,0≤b∧b<on.length)→(eL part on).getD a.toNat false=if a∈part then false else on.getD a.toNat false
 | [],_,_=>by simp[eL]
 |b::part,on,h=>by
  have hb:=h b (cm ..)
  show (eL part (on.set b.toNat false)).getD a.toNat false=_
  rw[RH ha part _ fun c hc=>by rw[cM];exact h c (cY _ hc),S4 hb.1 hb.2 ha]
  by_cases h1:a∈part
  ·rw[ai h1,ai (cY _ h1)]
  ·rw[ah h1]
   by_cases h2:a=b
   ·rw[ai h2,ai (by rw[h2];exact cm ..)]
   ·rw[ah h2,ah (by rw[eG];exact fun h=>h.elim h2 h1)]
theorem FI.tell{w:List (Int×Nat)}{v:Int}{k:Nat}{A B part:List Int}(h:FI n nx ix lo on st aG P (w++[(v,k)]))(hk:(nx v).length≤k)(aq:st=A++v::B)(heq:lo.getD v.toNat 0=ix.getD v.toNat 0)(cU:∀x y,y∈nx x→0≤y∧y<n)(hp:part.Perm (v::B))(hs:part.Pairwise (· < ·)):FI n nx ix lo (eL (v::B) on) A aG (P++[part]) w:=by
 have iy:=h.tj
 rw[cS]at iy
 have dm:=iy.node v (by rw[aq];simp)
 have h1:=iy.tell (w:=w.map (·.1)) (part:=part) aq (by rw[lX dm.1,lX dm.1];exact heq) (h.all hk) cU hp hs
 have tM:∀x∈A,x∈st:=fun x hx=>by rw[aq];exact gD _ hx
 refine⟨h1,fun t ht y hy=>?_,h.li,h.ll,by rw[E8];exact h.kx,fun a h0 hn=>?_,fun t ht=>h.tn t (gD _ ht)⟩
 ·obtain⟨h2,h3⟩:=h.vh t (gD _ ht) y hy
  exact⟨h2,fun hm=>h3 (tM y hm)⟩
 ·rw[RH h0 _ _ fun b hb=>by rw[h.kx];exact iy.node b (by rw[aq];exact jv _ hb),h.vm a h0 hn]
  have bZ:=ub iy.inc
  rw[aq]at bZ
  by_cases hm:a∈v::B
  ·rw[ai hm]
   exact (bR fun hA=>(oP.1 bZ).2.2 a hA a hm rfl).symm
  ·rw[ah hm]
   refine Bool.eq_iff_iff.2 ?_
   rw[decide_eq_true_eq,decide_eq_true_eq,aq,bO]
   exact⟨fun h=>h.resolve_right hm,.inl⟩
theorem FI.same{w:List (Int×Nat)}{u v:Int}{i k:Nat}(h:FI n nx ix lo on st aG P ((w++[(u,i)])++[(v,k)]))(heq:lo.getD v.toNat 0=ix.getD v.toNat 0):lo.set u.toNat (min (lo.getD u.toNat 0) (lo.getD v.toNat 0))=lo:=by
 have iy:=h.tj
 rw[cS,cS]at iy
 have Iu:u∈(w.map (·.1)++[u]++[v]):=by simp
 have Iq:v∈(w.map (·.1)++[u]++[v]):=by simp
 have e8:=iy.node u (iy.sub.subset Iu)
 have dm:=iy.node v (iy.sub.subset Iq)
 have h1:=(iy.low u Iu).1
 have h2:=B7 iy.inc iy.sub u (by simp)
 rw[lX e8.1,lX e8.1]at h1
 rw[lX e8.1,lX dm.1]at h2
 rw[show min (lo.getD u.toNat 0) (lo.getD v.toNat 0)=lo.getD u.toNat 0 by omega]
 exact ZZ
theorem FI.TF(h:FI n nx ix lo on st aG P []):st=[]:=h.tj.empty
theorem FI.one{v:Int}{k:Nat}(h:FI n nx ix lo on st aG P [(v,k)]):lo.getD v.toNat 0=ix.getD v.toNat 0:=by
 have dm:=h.tj.node v (h.tj.sub.subset (by simp))
 have:=h.tj.first
 rw[lX dm.1,lX dm.1]at this
 exact this
theorem FI.mem{w:List (Int×Nat)}{v:Int}{k:Nat}(h:FI n nx ix lo on st aG P (w++[(v,k)])):v∈st:=h.tj.sub.subset (by simp)
theorem FI.Ab{gN:List (Int×Nat)}(h:FI n nx ix lo on st aG P gN):aG≤n∧st.length≤n∧P.flatten.length≤n:=by
 have bZ:(P.flatten++st).Nodup:=oP.2 ⟨h.tj.prt.nd,ub h.tj.inc,fun x hx y hy e=>by
  subst e
  obtain⟨p,hp,rj⟩:=oN.1 hx
  exact h.tj.zn p hp x rj hy⟩
 have hn:∀z∈P.flatten++st,0≤z∧z<(n:Int):=fun z hz=>by
  rcases bO.1 hz with hz | hz
  ·obtain⟨p,hp,hz⟩:=oN.1 hz
   exact h.tj.prt.node p hp z hz
  ·exact h.tj.node z hz
 have lZ:=Kn bZ (m:=(List.range n).map fun i:Nat=>(i:Int)) fun z hz=>dX.2 ⟨z.toNat,gw.2 (by have:=hn z hz;omega),by have:=hn z hz;omega⟩
 rw[bQ,cd,oO]at lZ
 have:=h.tj.len
 omega
def iS(nx:Int→List Int)(gN:List (Int×Nat)):Nat:=(gN.map fun t=>(nx t.1).length+1-t.2).sum
def iq(nx:Int→List Int)(ix:List Int)(n:Nat):Nat:=((List.range n).map fun a:Nat=>if ix.getD a 0=0 then (nx a).length+2 else 0).sum
theorem lT(nx:Int→List Int)(w:List (Int×Nat))(a:Int)(k:Nat):iS nx (w++[(a,k)])=iS nx w+((nx a).length+1-k):=by unfold iS;simp
theorem Qs(nx:Int→List Int)(ix:List Int)(n:Nat):iq nx ix (n+1)=iq nx ix n+if ix.getD n 0=0 then (nx n).length+2 else 0:=by unfold iq;rw[List.range_succ];simp
theorem Kq{nx:Int→List Int}{ix:List Int}{b:Nat}{v:Int}(hv:v≠0)(hf:ix.getD b 0=0)(hb:b<ix.length):∀n,iq nx (ix.set b v) n+(if b<n then (nx b).length+2 else 0)=iq nx ix n
 | 0=>rfl
 |n+1=>by
  have ih:=Kq (nx:=nx) hv hf hb n
  rw[Qs,Qs]
  have hg:(ix.set b v).getD n 0=if b=n then v else ix.getD n 0:=by
   rw[aW,eR]
   by_cases e:b=n
   ·subst e;rw[ai rfl,ai hb,ai rfl];rfl
   ·rw[ah e,ah e,aW]
  rw[hg]
  by_cases e:b=n
  ·subst e
   rw[ai rfl,ah hv,ai hf,ai (by omega)]
   rw[ah (by omega)]at ih
   omega
  ·rw[ah e]
   by_cases c:b<n
   ·have e2:(if b<n+1 then (nx b).length+2 else 0)=(nx b).length+2:=ai (by omega)
    rw[ai c]at ih;rw[e2];omega
   ·have e2:(if b<n+1 then (nx b).length+2 else 0)=0:=ah (by omega)
    rw[ah c]at ih;rw[e2];omega
theorem Acc.xe{e k:Nat}{v:AV}{acc:Hp}{cs:List AV}(h:Acc e k v acc cs):Acc e k (bN v) acc cs:=by
 cases h with
 |nil=>exact .nil
 |ae b k cs h=>exact .ae b k cs h
theorem ZY{α:Type}(l:List α)(x y:α){k:Nat}(h:k=l.length):(l++[x]).set k y=l++[y]:=by subst h;simp
theorem aau{α:Type}(l:List α)(x:α){k:Nat}(h:k=l.length):(l++[x])[k]?=some x:=by subst h;simp
theorem sR{k:Nat}{v:AV}{acc:Hp}{cs:List AV}(h0:0<k)(h:Acc 1 k v acc cs):∃b,v=.ae b 0 k 1∧acc=[(b,cs)]:=by
 cases h with
 |nil=>omega
 |ae b k cs h=>exact⟨b,rfl,rfl⟩
theorem uc(P:List (List Int)):(cy P).length=P.length:=cd _
theorem aar{l:List Int}{J:List AV}{k:Nat}(h:k<l.length):(ao l++J)[k]?=some (.int .i64 (l.getD k 0)):=by
 rw[kf (by rw[Lb];exact h)]
 unfold ao
 rw[fo,aW,bJ h];rfl
theorem Tt(b k:Nat)(A B:List Int)(J:List AV)(x:Int)(σ:Hp)(hk:(A++x::B).length=k)(hx:x ∉ A)(hl:k≤1000000):ACalls Tryz.prog 287 [.ae b 0 k 1,.int .i64 x] ((b,ao (A++x::B)++J)::σ) (aE (.int .i64 A.length) ((b,ao (A++x::B)++J)::σ)):=by
 have hkA:A.length<k:=by rw[← hk,bQ,ie];omega
 refine ay Tryz.func287 ?_
 refine bV (S:=Nat) (fun s=>[(0,.ae b 0 k 1),(1,.int .i64 x),(7,.int .i64 k),(8,.int .i64 s)]) (fun _=>(b,ao (A++x::B)++J)::σ) (fun s=>s≤A.length) (fun s=>A.length-s) 0 ⟨bA _,⟨rfl,rfl,rfl,rfl,trivial⟩,rfl⟩ ?_
 rintro i t fC
 have hi:i≤A.length:=fC
 clear fC
 refine an (p:=(i:Int)<k) (fun ab=>?_) (fun ar=>?_)
 ·have hg:=aar (l:=A++x::B) (J:=J) (k:=i) (by omega)
  obtain⟨y,hy⟩:∃y,(A++x::B).getD i 0=y:=⟨_,rfl⟩
  rw[hy]at hg
  refine ag.mk ⟨rfl,by omega,by omega⟩ ?_
  refine aT 0 rfl (je rfl (by rw[eF,eH,bM];exact hg)) ?_
  refine an (fun c=>?_) (fun c=>?_)
  ·have c:x=y:=c
   refine .done ⟨?_,rfl⟩
   by_cases e:i=A.length
   ·subst e;rfl
   ·have:y∈A:=by
     rw[← hy,aW,kf (by omega),bJ (by omega)]
     exact bX _
    exact absurd (c▸this) hx
  ·have c:¬x=y:=c
   have aP:i≠A.length:=fun e=>by
    subst e
    refine c ?_
    rw[← hy,aW,iJ (aU _),pG];rfl
   exact a8 (i+1) (by show A.length-(i+1)<A.length-i;omega) (by show i+1≤A.length;omega) ⟨rfl,rfl,rfl,aX (by omega),trivial⟩ (.refl _)
 ·omega
theorem Tw(b off k:Nat)(C cs:List AV)(σ:Hp)(h:(C.drop off).take (k*1)=cs)(h2:off+k*1≤C.length)(hl:k≤1000000):ACalls Tryz.prog 220 [.ae b off k 1] ((b,C)::σ) (fun x σ'=>∃b',x=.ae b' 0 k 1∧σ'=(b',cs)::(b,C)::σ):=by
 refine ay Tryz.func220 ?_
 intro b2
 refine AppendAt.more 0 b2 0 k [] ((C.drop off).take (k*1)) rfl rfl (cH rfl) (.mem (cY _ (cm ..)) h2) (by omega) (by decide) (by decide) (fun b'=>?_)
 refine .done ⟨b',by rw[eF];rfl,?_⟩
 rw[h];rfl
theorem Sn(w bi bl bo n:Nat)(N:List (List Int))(ix lo:List Int)(on:List Bool)(aG:Nat)(vs vp:AV)(a:Int)(σ:Hp)(h0:0≤a)(hn:a<n)(hi:ix.length=n)(hl:lo.length=n)(aP:lo.getD a.toNat 0≠ix.getD a.toNat 0):
  ACalls Tryz.prog 315 [.ptr w 0,.int .i64 a] ((w,dc N bi bl bo n vs aG vp)::(bi,ao ix)::(bl,ao lo)::(bo,bK on)::σ) (aE (.tup []) ((w,dc N bi bl bo n vs aG vp)::(bi,ao ix)::(bl,ao lo)::(bo,bK on)::σ)):=by
 refine ay Tryz.func315 ?_
 refine .quiet (by kernel_rfl) ?_
 refine aa 0 ?_
 refine ag.mk ⟨rfl,by omega,by omega⟩ ?_
 refine aT 2 rfl (eT rfl h0 (by omega)) ?_
 refine aa 0 ?_
 refine ag.mk ⟨rfl,by omega,by omega⟩ ?_
 refine aT 1 rfl (eT rfl h0 (by omega)) ?_
 refine dB (fun c=>?_) (fun c=>?_)
 ·exact .done ⟨rfl,rfl⟩
 ·exact absurd (by simpa using c) aP
theorem P9(w bi bl bo n:Nat)(N:List (List Int))(ix lo A B:List Int)(on:List Bool)(P:List (List Int))(aG:Nat)(vs vp:AV)(lG eB:Hp)(a:Int)(σ:Hp)(h0:0≤a)(hn:a<n)(hi:ix.length=n)(hl:lo.length=n)(ho:on.length=n)(he:lo.getD a.toNat 0=ix.getD a.toNat 0)(NN:a ∉ A)(hB:∀x∈a::B,0≤x∧x<n)(de:(A++a::B).length≤10000)(oE:P.length≤10000)
  (hs:ir 1 (A++a::B).length vs lG (ao (A++a::B))) (hp:Acc 1 P.length vp eB (cy P)) :
  ACalls Tryz.prog 315 [.ptr w 0,.int .i64 a] ((w,dc N bi bl bo n vs aG vp)::(bi,ao ix)::(bl,ao lo)::(bo,bK on)::(lG++(eB++σ)))
   (fun r σ'=>r=.tup []∧∃ep iP gr gm,ir 1 A.length ep iP (ao A)∧Acc 1 (P++[fv (a::B)]).length gr gm (cy (P++[fv (a::B)]))∧σ'=(w,dc N bi bl bo n ep aG gr)::(bi,ao ix)::(bl,ao lo)::(bo,bK (eL (a::B) on))::(iP++(gm++σ))):=by
 obtain⟨K,hK⟩:∃K,(A++a::B).length=K:=⟨_,rfl⟩
 obtain⟨L,hL⟩:∃L:List Int,a::B=L:=⟨_,rfl⟩
 obtain⟨q,hq⟩:∃q,L.length=q:=⟨_,rfl⟩
 have hKA:K=A.length+q:=by rw[← hK,bQ,hL,hq]
 have hq0:0<q:=by rw[← hq,← hL,ie];omega
 rw[hK]at hs de
 obtain⟨bs,J,rfl,rfl,N2⟩:=hs.pos (by omega)
 have iE:((ao (A++a::B)++J).drop A.length).take (q*1)=ao L:=by
  rw[hL]
  unfold ao
  rw[cS,dM,Oq (by rw[cd];exact aU _),Jb (by rw[cd];exact aU _),vL,Jg (by rw[cd];omega),eI (by rw[cd];omega)]
 have ej:A.length+q*1≤(ao (A++a::B)++J).length:=by rw[bQ,N2];omega
 refine ay Tryz.func315 ?_
 refine .quiet (by kernel_rfl) ?_
 refine aa 0 ?_
 refine ag.mk ⟨rfl,by omega,by omega⟩ ?_
 refine aT 2 rfl (eT rfl h0 (by omega)) ?_
 refine aa 0 ?_
 refine ag.mk ⟨rfl,by omega,by omega⟩ ?_
 refine aT 1 rfl (eT rfl h0 (by omega)) ?_
 refine dB (fun c=>?_) (fun c=>?_)
 ·exact absurd he (by simpa using c)
 clear c
 refine aa 0 ?_
 refine az [4] (Tt bs K A B J a _ hK NN (by omega)) ?_
 refine aa 1 ?_
 refine ag.mk ⟨by omega,by omega,by omega,rfl⟩ ?_
 have hC:∀σ,ACalls Tryz.prog 220 [.ae bs (0+((A.length:Nat):Int).toNat*1) (((K:Nat):Int).toNat-((A.length:Nat):Int).toNat) 1] ((bs,ao (A++a::B)++J)::σ) (fun x σ'=>∃b',x=.ae b' 0 q 1∧σ'=(b',ao L)::(bs,ao (A++a::B)++J)::σ):=fun σ=>by
  rw[show 0+((A.length:Nat):Int).toNat*1=A.length by omega,show ((K:Nat):Int).toNat-((A.length:Nat):Int).toNat=q by omega]
  exact Tw bs A.length q _ _ σ iE ej (by omega)
 refine .mk [0] _ (hC _) ?_
 rintro _ _ ⟨bp,rfl,rfl⟩
 refine aa 2 ?_
 refine ag.mk ⟨by omega,by omega,by omega,by omega,rfl⟩ ?_
 refine ak 2 ?_
 refine bV (S:=Nat) (fun i=>[(0,.ptr w 0),(5,.ae bp 0 q 1),(46,.ae bp 0 q 1),(47,.int .i64 q),(48,.int .i64 i)]) (fun i=>(bp,ao L)::(bs,ao (A++a::B)++J)::(w,dc N bi bl bo n (.ae bs 0 A.length 1) aG vp)::(bi,ao ix)::(bl,ao lo)::(bo,bK (eL (L.take i) on))::(eB++σ)) (fun i=>i≤q) (fun i=>q-i) 0 ⟨bA _,⟨rfl,rfl,rfl,rfl,rfl,trivial⟩,rfl⟩ ?_
 rintro i g fC
 have hiq:i≤q:=fC
 clear fC
 refine an (p:=(i:Int)<q) (fun ab=>?_) (fun ar=>?_)
 ·have ab:i<L.length:=by omega
  obtain⟨x,hx⟩:∃x,L[i]=x:=⟨_,rfl⟩
  have D3:=hB x (by rw[hL,← hx];exact bX ab)
  have ny:=E8 (L.take i) on
  have Mz:(eL (L.take i) on).set x.toNat false=eL (L.take (i+1)) on:=by unfold eL;rw[fp ab,hx,tS];rfl
  have nu:eu ⟨.int .i64,1,8,[.int .i64 0]⟩ (ao L) (0+((i:Nat):Int).toNat*1)=some (.int .i64 x):=by
   rw[eT rfl (by omega) (by omega),bM,aW,bJ ab,hx];rfl
  refine ag.mk ⟨rfl,by omega,by omega⟩ ?_
  refine aT 0 rfl nu ?_
  refine aa 2 ?_
  refine ag.mk ⟨rfl,by omega,by omega⟩ ?_
  refine cX 5 rfl (xX rfl false D3.1 (by omega)) ?_
  exact a8 (i+1) (by show q-(i+1)<q-i;omega) (by show i+1≤q;omega) ⟨rfl,rfl,rfl,rfl,aX (by omega),trivial⟩ (aJ (by rw[Mz];rfl))
 ·have ar:i=q:=by omega
  subst ar
  refine az [0] (LI bp L i _ hq (by omega)) ?_
  refine aa 2 ?_
  intro dH
  refine zy [_,_,_,_,_,_,_] hp.xe (.ae 0 dH 0 1 _ rfl (cH rfl)) rfl (by omega) (by decide) (by decide) (fun v' bu h'=>?_)
  obtain⟨b5,rfl,rfl⟩:=sR (by omega) h'
  refine ak 3 ?_
  have hgs:=aau (cy P) (AV.ae bp 0 i 1) (k:=P.length) (uc P).symm
  have hss:=ZY (cy P) (AV.ae bp 0 i 1) (.af (.int .i64) (fv L)) (k:=P.length) (uc P).symm
  refine .kp 1 bp 0 i 1 _ (.int .i64) (fv L) rfl (by rw[gR,eI (by rw[mQ,zw,eH];omega)];exact ug _) ⟨(zw L).trans hq,rfl,by decide⟩ 6 P.length b5 _ rfl hgs ?_
  refine .drop 0 1 (.perm (eO [_,_,_,_] [_] _).symm (.done ⟨rfl,.ae bs 0 A.length 1,[(bs,ao A++(ao L++J))],.ae b5 0 (P.length+1) 1,[(b5,cy (P++[fv L]))],.ae bs A.length (ao A) (ao L++J) (by rw[mQ,eH]),?_,?_⟩))
  ·subst hL
   rw[bQ]
   exact .ae b5 (P.length+1) (cy (P++[fv (a::B)])) ((uc _).trans (by rw[bQ,eH];rfl))
  ·rw[eI (Ba hq)]
   subst hL
   have e1:ao (A++a::B)++J=ao A++(ao (a::B)++J):=by unfold ao;rw[cS,dM]
   have e2:cy (P++[fv (a::B)])=cy P++[.af (.int .i64) (fv (a::B))]:=cS
   rw[e1,e2,← hss]
   rfl
end Go.Proofs.YtnikdflhefijbaaGreat
