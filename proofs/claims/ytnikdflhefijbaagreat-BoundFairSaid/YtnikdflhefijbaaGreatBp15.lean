import Derived.Test.YtnikdflhefijbaaGreatBp14
import Derived.Test.YtnikdflhefijbaaGreatBp8
import Derived.Test.YtnikdflhefijbaaGreatBp9
import Derived.Test.YtnikdflhefijbaaGreatBp10
namespace Go.Proofs.YtnikdflhefijbaaGreat
open Go.RowKit
set_option maxRecDepth 100000
theorem mz{w:List Int}{i j:Nat}{x:Int}:(w.set i x).getD j 0=if i=j∧j<w.length then x else w.getD j 0:=by
 simp only[aR,dY]
 by_cases h:i=j
 ·subst h
  by_cases h2:i<w.length
  ·simp[h2]
  ·simp[h2]
 ·simp[h]
def gI(ix:List Int)(x:Int):Int:=if 0≤x then ix.getD x.toNat 0 else 0
theorem l4{ix:List Int}{x:Int}(h:0≤x):gI ix x=ix.getD x.toNat 0:=ag h
theorem A0{ix:List Int}{b v:Int}(h0:0≤b)(h1:b<ix.length):gI (ix.set b.toNat v)=pD (gI ix) b v:=by
 funext y
 show (if 0≤y then (ix.set b.toNat v).getD y.toNat 0 else 0)=if y=b then v else if 0≤y then ix.getD y.toNat 0 else 0
 by_cases hy:0≤y
 ·rw[ag hy,aR,dY]
  by_cases e:y=b
  ·subst e;rw[ag rfl,ag (by omega),ag rfl];rfl
  ·rw[ah (by omega),ah e,ag hy,aR]
 ·rw[ah hy,ah (by omega),ah hy]
theorem aef(n:Nat)(x:Int):gI (List.replicate n 0) x=0:=by
 unfold gI
 split
 ·rw[aR,uT];split <;> rfl
 ·rfl
structure FI(n:Nat)(nx:Int→List Int)(ix lo:List Int)(on:List Bool)(st:List Int)(aD:Nat)(P:List (List Int))(gQ:List (Int×Nat)):Prop where
 tj:TJ n nx (gI ix) (gI lo) st aD P (gQ.map (·.1))
 wk:Prc nx (gI ix) (gI lo) st gQ
 li:ix.length=n
 ll:lo.length=n
 kA:on.length=n
 wo:∀a:Int,0≤a→a<n→on.getD a.toNat false=decide (a∈st)
 tn:∀t∈gQ,t.2≤(nx t.1).length
theorem Uz{on:List Bool}{b:Int}{x:Bool}(hb:0≤b)(hl:b<on.length){a:Int}(ha:0≤a):(on.set b.toNat x).getD a.toNat false=if a=b then x else on.getD a.toNat false:=by
 rw[aR,dY,aR]
 by_cases e:a=b
 ·subst e;rw[ag rfl,ag (by omega),ag rfl];rfl
 ·rw[ah (by omega),ah e]
theorem FI.start(n:Nat)(nx:Int→List Int):FI n nx (List.replicate n 0) (List.replicate n 0) (List.replicate n false) [] 0 [] []:=
 ⟨.start (aef n),fun _ h=>(by cases h),fZ,fZ,fZ,fun a _ _=>by
  rw[List.getD_eq_getElem?_getD,List.getElem?_replicate];split <;> simp,fun _ h=>(by cases h)⟩
variable {n:Nat} {nx:Int→List Int} {ix lo:List Int} {on:List Bool} {st:List Int} {aD:Nat} {P:List (List Int)}
theorem FI.enter{gQ way2:List (Int×Nat)}{b:Int}(h:FI n nx ix lo on st aD P gQ)(hb:0≤b∧b<n)(hf:ix.getD b.toNat 0=0)(hW:∀v∈gQ.map (·.1),Rx nx v b)(uz:way2.map (·.1)=gQ.map (·.1))(hp:∀t∈way2,∀y∈(nx t.1).take t.2,y=b∨(gI ix y≠0∧(y∈st→gI lo t.1≤gI ix y)))(ht:∀t∈way2,t.2≤(nx t.1).length):
  FI n nx (ix.set b.toNat ((aD+1:Nat):Int)) (lo.set b.toNat ((aD+1:Nat):Int)) (on.set b.toNat true) (st++[b]) (aD+1) P (way2++[(b,0)]):=by
 have hf:gI ix b=0:=by rw[l4 hb.1];exact hf
 have eE:b ∉ st:=fun hm=>by have:=h.tj.sK b hm;omega
 have h1:=h.tj.enter hb hf hW
 refine⟨?_,?_,by rw[ck];exact h.li,by rw[ck];exact h.ll,by rw[ck];exact h.kA,fun a h0 hn=>?_,fun t oR=>?_⟩
 ·rw[A0 hb.1 (by rw[h.li];exact hb.2),A0 hb.1 (by rw[h.ll];exact hb.2),cM,uz]
  exact h1
 ·rw[A0 hb.1 (by rw[h.li];exact hb.2),A0 hb.1 (by rw[h.ll];exact hb.2)]
  intro t oR y hy
  rcases bP.1 oR with oR | oR
  ·have htW:t.1∈gQ.map (·.1):=uz▸O9 oR
   have hts:t.1∈st:=h.tj.sub.subset htW
   have htb:t.1≠b:=fun e=>eE (e▸hts)
   rw[qe (f:=gI lo) htb]
   have hle:=(h.tj.low t.1 htW).1
   have zS:=(h.tj.sK t.1 hts).2
   by_cases e:y=b
   ·subst e
    rw[qf]
    exact⟨by omega,fun _=>by omega⟩
   ·rw[qe e]
    obtain⟨h2,h3⟩:=(hp t oR y hy).resolve_left e
    exact⟨h2,fun hm=>h3 ((bP.1 hm).resolve_right fun hm=>e (a8.1 hm))⟩
  ·rw[a8.1 oR]at hy
   simp at hy
 ·rw[Uz hb.1 (by rw[h.kA];exact hb.2) h0]
  by_cases e:a=b
  ·subst e;rw[if_pos rfl];simp
  ·rw[if_neg e,h.wo a h0 hn];simp[e]
 ·rcases bP.1 oR with oR | oR
  ·exact ht t oR
  ·rw[a8.1 oR];exact bK _
theorem KS{l:List Int}{k:Nat}(h:k<l.length){b:Int}(hb:l[k]=b):l.take (k+1)=l.take k++[b]:=by rw[fQ h,hb]
theorem Ly{w:List (Int×Nat)}{a:Int}{k j:Nat}:(w++[(a,k)]).map (·.1)=(w++[(a,j)]).map (·.1):=by rw[cM,cM];rfl
theorem FI.new{w:List (Int×Nat)}{a b:Int}{k:Nat}(h:FI n nx ix lo on st aD P (w++[(a,k)]))(hk:k<(nx a).length)(hb:(nx a)[k]=b)(dJ:0≤b∧b<n)(hf:ix.getD b.toNat 0=0):
  FI n nx (ix.set b.toNat ((aD+1:Nat):Int)) (lo.set b.toNat ((aD+1:Nat):Int)) (on.set b.toNat true) (st++[b]) (aD+1) P ((w++[(a,k+1)])++[(b,0)]):=by
 have OM:b∈nx a:=hb▸cD hk
 have OO:a∈(w++[(a,k)]).map (·.1):=cY.2 ⟨(a,k),jF _ (a8.2 rfl),rfl⟩
 have l9:=h.tj.sub
 have sE:∀v∈w.map (·.1),gI ix v<gI ix a:=by
  refine C3 h.tj.inc ?_
  rw[cM]at l9;exact l9
 refine h.enter dJ hf (fun v hv=>?_) Ly (fun t ht y hy=>?_) fun t ht=>?_
 ·refine (h.tj.zM v hv a (l9.subset OO) ?_).trans (.one OM)
  rw[cM]at hv
  rcases bP.1 hv with hv | hv
  ·have:=sE v hv;omega
  ·rw[a8.1 hv];exact lf _
 ·rcases bP.1 ht with ht | ht
  ·exact .inr (h.wk t (gJ _ ht) y hy)
  ·rw[a8.1 ht]at hy ⊢
   rw[KS hk hb]at hy
   rcases bP.1 hy with hy | hy
   ·exact .inr (h.wk (a,k) (jF _ (a8.2 rfl)) y hy)
   ·exact .inl (a8.1 hy)
 ·rcases bP.1 ht with ht | ht
  ·exact h.tn t (gJ _ ht)
  ·rw[a8.1 ht];exact hk
theorem FI.off{w:List (Int×Nat)}{a b:Int}{k:Nat}(h:FI n nx ix lo on st aD P (w++[(a,k)]))(hk:k<(nx a).length)(hb:(nx a)[k]=b)(dJ:0≤b)(hf:ix.getD b.toNat 0≠0)(hs:b ∉ st):FI n nx ix lo on st aD P (w++[(a,k+1)]):=by
 refine⟨by rw[Ly (j:=k)];exact h.tj,fun t ht y hy=>?_,h.li,h.ll,h.kA,h.wo,fun t ht=>?_⟩
 ·rcases bP.1 ht with ht | ht
  ·exact h.wk t (gJ _ ht) y hy
  ·rw[a8.1 ht]at hy ⊢
   rw[KS hk hb]at hy
   rcases bP.1 hy with hy | hy
   ·exact h.wk (a,k) (jF _ (a8.2 rfl)) y hy
   ·rw[a8.1 hy,l4 dJ]
    exact⟨hf,fun hm=>absurd hm hs⟩
 ·rcases bP.1 ht with ht | ht
  ·exact h.tn t (gJ _ ht)
  ·rw[a8.1 ht];exact hk
theorem FI.Iw{w:List (Int×Nat)}{a b:Int}{k:Nat}(h:FI n nx ix lo on st aD P (w++[(a,k)]))(hk:k<(nx a).length)(hb:(nx a)[k]=b)(hs:b∈st):FI n nx ix (lo.set a.toNat (min (lo.getD a.toNat 0) (ix.getD b.toNat 0))) on st aD P (w++[(a,k+1)]):=by
 have OM:b∈nx a:=hb▸cD hk
 have dJ:=h.tj.node b hs
 have OO:a∈(w++[(a,k)]).map (·.1):=cY.2 ⟨(a,k),jF _ (a8.2 rfl),rfl⟩
 have l9:=h.tj.sub
 have s5:=h.tj.node a (l9.subset OO)
 have bZ:((w++[(a,k)]).map (·.1)).Nodup:=(uY h.tj.inc).sublist l9
 have haw:∀t∈w,t.1≠a:=fun t ht e=>by
  rw[cM]at bZ
  exact (oZ.1 bZ).2.2 t.1 (O9 ht) a (a8.2 rfl) e
 have iA:=h.tj
 rw[cM]at iA
 have h1:=iA.lower (z:=b) hs (.one OM)
 have E3:gI (lo.set a.toNat (min (lo.getD a.toNat 0) (ix.getD b.toNat 0)))=pD (gI lo) a (min (gI lo a) (gI ix b)):=by rw[A0 s5.1 (by rw[h.ll];exact s5.2),l4 s5.1,l4 dJ.1]
 refine⟨by rw[E3,Ly (j:=k),cM];exact h1,fun t ht y hy=>?_,h.li,by rw[ck];exact h.ll,h.kA,h.wo,fun t ht=>?_⟩
 ·rw[E3]
  rcases bP.1 ht with ht | ht
  ·rw[qe (haw t ht)]
   exact h.wk t (gJ _ ht) y hy
  ·rw[a8.1 ht]at hy ⊢
   rw[KS hk hb]at hy
   rw[qf]
   rcases bP.1 hy with hy | hy
   ·obtain⟨h2,h3⟩:=h.wk (a,k) (jF _ (a8.2 rfl)) y hy
    have h3:y∈st→gI lo a≤gI ix y:=h3
    exact⟨h2,fun hm=>by have:=h3 hm;omega⟩
   ·rw[a8.1 hy]
    have:=h.tj.sK b hs
    exact⟨by omega,fun _=>by omega⟩
 ·rcases bP.1 ht with ht | ht
  ·exact h.tn t (gJ _ ht)
  ·rw[a8.1 ht];exact hk
theorem FI.all{w:List (Int×Nat)}{a:Int}{k:Nat}(h:FI n nx ix lo on st aD P (w++[(a,k)]))(hk:(nx a).length≤k):∀y∈nx a,gI ix y≠0∧(y∈st→gI lo a≤gI ix y):=fun y hy=>
 h.wk (a,k) (jF _ (a8.2 rfl)) y (by rw[eZ hk];exact hy)
theorem abh{l:List Int}{i:Nat}:l.set i (l.getD i 0)=l:=by
 refine Aa fun j=>?_
 rw[dY]
 by_cases e:i=j
 ·subst e
  by_cases hl:i<l.length
  ·rw[ag rfl,ag hl,aR,bc hl];rfl
  ·rw[ag rfl,ah hl,uS (by omega)]
 ·rw[ah e]
theorem FI.up{w:List (Int×Nat)}{u v:Int}{i k:Nat}(h:FI n nx ix lo on st aD P ((w++[(u,i)])++[(v,k)]))(hk:(nx v).length≤k)(aO:lo.getD v.toNat 0≠ix.getD v.toNat 0):FI n nx ix (lo.set u.toNat (min (lo.getD u.toNat 0) (lo.getD v.toNat 0))) on st aD P (w++[(u,i)]):=by
 have iA:=h.tj
 rw[cM,cM]at iA
 have Jl:u∈(w.map (·.1)++[u]++[v]):=by simp
 have Jh:v∈(w.map (·.1)++[u]++[v]):=by simp
 have eP:=iA.node u (iA.sub.subset Jl)
 have cX:=iA.node v (iA.sub.subset Jh)
 have bZ:(w.map (·.1)++[u]++[v]).Nodup:=(uY iA.inc).sublist iA.sub
 have huw:∀t∈w,t.1≠u:=fun t ht e=>(oZ.1 (oZ.1 bZ).1).2.2 t.1 (O9 ht) u (a8.2 rfl) e
 have ff:=(iA.low v Jh).1
 have ab:gI lo v<gI ix v:=by
  rw[l4 cX.1,l4 cX.1]at ff ⊢;omega
 have h1:=iA.up (u:=u) (v:=v) (w:=w.map (·.1)) ab (h.all hk)
 have E3:gI (lo.set u.toNat (min (lo.getD u.toNat 0) (lo.getD v.toNat 0)))=pD (gI lo) u (min (gI lo u) (gI lo v)):=by rw[A0 eP.1 (by rw[h.ll];exact eP.2),l4 eP.1,l4 cX.1]
 refine⟨by rw[E3,cM];exact h1,fun t ht y hy=>?_,h.li,by rw[ck];exact h.ll,h.kA,h.wo,fun t ht=>h.tn t (gJ _ ht)⟩
 rw[E3]
 obtain⟨h2,h3⟩:=h.wk t (gJ _ ht) y hy
 refine⟨h2,fun hm=>?_⟩
 have:=h3 hm
 by_cases e:t.1=u
 ·rw[e]at this ⊢;rw[qf];omega
 ·rw[qe e];exact this
def eR(part:List Int)(on:List Bool):List Bool:=part.foldl (fun on b=>on.set b.toNat false) on
theorem Gj:∀(part:List Int) (on:List Bool),(eR part on).length=on.length
 | [],_=>rfl
 |b::part,on=>by
  show (eR part (on.set b.toNat false)).length=_
  rw[Gj part,ck]
theorem SO{a:Int}(ha:0≤a):∀(part:List Int) (on:List Bool),(∀b∈part,0≤b∧b<on.length)→(eR part on).getD a.toNat false=if a∈part then false else on.getD a.toNat false
 | [],_,_=>by simp[eR]
 |b::part,on,h=>by
  have hb:=h b (bV ..)
  show (eR part (on.set b.toNat false)).getD a.toNat false=_
  rw[SO ha part _ fun c hc=>by rw[ck];exact h c (cE _ hc),Uz hb.1 hb.2 ha]
  by_cases h1:a∈part
  ·rw[ag h1,ag (cE _ h1)]
  ·rw[ah h1]
   by_cases h2:a=b
   ·rw[ag h2,ag (by rw[h2];exact bV ..)]
   ·rw[ah h2,ah (by rw[da];exact fun h=>h.elim h2 h1)]
theorem FI.tell{w:List (Int×Nat)}{v:Int}{k:Nat}{A B part:List Int}(h:FI n nx ix lo on st aD P (w++[(v,k)]))(hk:(nx v).length≤k)(ao:st=A++v::B)(heq:lo.getD v.toNat 0=ix.getD v.toNat 0)(cy:∀x y,y∈nx x→0≤y∧y<n)(hp:part.Perm (v::B))(hs:part.Pairwise (· < ·)):FI n nx ix lo (eR (v::B) on) A aD (P++[part]) w:=by
 have iA:=h.tj
 rw[cM]at iA
 have cX:=iA.node v (by rw[ao];simp)
 have h1:=iA.tell (w:=w.map (·.1)) (part:=part) ao (by rw[l4 cX.1,l4 cX.1];exact heq) (h.all hk) cy hp hs
 have uL:∀x∈A,x∈st:=fun x hx=>by rw[ao];exact gJ _ hx
 refine⟨h1,fun t ht y hy=>?_,h.li,h.ll,by rw[Gj];exact h.kA,fun a h0 hn=>?_,fun t ht=>h.tn t (gJ _ ht)⟩
 ·obtain⟨h2,h3⟩:=h.wk t (gJ _ ht) y hy
  exact⟨h2,fun hm=>h3 (uL y hm)⟩
 ·rw[SO h0 _ _ fun b hb=>by rw[h.kA];exact iA.node b (by rw[ao];exact jF _ hb),h.wo a h0 hn]
  have bZ:=uY iA.inc
  rw[ao]at bZ
  by_cases hm:a∈v::B
  ·rw[ag hm]
   exact (b9 fun hA=>(oZ.1 bZ).2.2 a hA a hm rfl).symm
  ·rw[ah hm]
   refine Bool.eq_iff_iff.2 ?_
   rw[decide_eq_true_eq,decide_eq_true_eq,ao,bP]
   exact⟨fun h=>h.resolve_right hm,.inl⟩
theorem FI.same{w:List (Int×Nat)}{u v:Int}{i k:Nat}(h:FI n nx ix lo on st aD P ((w++[(u,i)])++[(v,k)]))(heq:lo.getD v.toNat 0=ix.getD v.toNat 0):lo.set u.toNat (min (lo.getD u.toNat 0) (lo.getD v.toNat 0))=lo:=by
 have iA:=h.tj
 rw[cM,cM]at iA
 have Jl:u∈(w.map (·.1)++[u]++[v]):=by simp
 have Jh:v∈(w.map (·.1)++[u]++[v]):=by simp
 have eP:=iA.node u (iA.sub.subset Jl)
 have cX:=iA.node v (iA.sub.subset Jh)
 have h1:=(iA.low u Jl).1
 have h2:=C3 iA.inc iA.sub u (by simp)
 rw[l4 eP.1,l4 eP.1]at h1
 rw[l4 eP.1,l4 cX.1]at h2
 rw[show min (lo.getD u.toNat 0) (lo.getD v.toNat 0)=lo.getD u.toNat 0 by omega]
 exact abh
theorem FI.U3(h:FI n nx ix lo on st aD P []):st=[]:=h.tj.empty
theorem FI.one{v:Int}{k:Nat}(h:FI n nx ix lo on st aD P [(v,k)]):lo.getD v.toNat 0=ix.getD v.toNat 0:=by
 have cX:=h.tj.node v (h.tj.sub.subset (by simp))
 have:=h.tj.first
 rw[l4 cX.1,l4 cX.1]at this
 exact this
theorem FI.mem{w:List (Int×Nat)}{v:Int}{k:Nat}(h:FI n nx ix lo on st aD P (w++[(v,k)])):v∈st:=h.tj.sub.subset (by simp)
theorem FI.A3{gQ:List (Int×Nat)}(h:FI n nx ix lo on st aD P gQ):aD≤n∧st.length≤n∧P.flatten.length≤n:=by
 have bZ:(P.flatten++st).Nodup:=oZ.2 ⟨h.tj.prt.nd,uY h.tj.inc,fun x hx y hy e=>by
  subst e
  obtain⟨p,hp,rO⟩:=oX.1 hx
  exact h.tj.Ag p hp x rO hy⟩
 have hn:∀z∈P.flatten++st,0≤z∧z<(n:Int):=fun z hz=>by
  rcases bP.1 hz with hz | hz
  ·obtain⟨p,hp,hz⟩:=oX.1 hz
   exact h.tj.prt.node p hp z hz
  ·exact h.tj.node z hz
 have l9:=Ln bZ (m:=(List.range n).map fun i:Nat=>(i:Int)) fun z hz=>cY.2 ⟨z.toNat,fA.2 (by have:=hn z hz;omega),by have:=hn z hz;omega⟩
 rw[bG,cb,oY]at l9
 have:=h.tj.len
 omega
def jc(nx:Int→List Int)(gQ:List (Int×Nat)):Nat:=(gQ.map fun t=>(nx t.1).length+1-t.2).sum
def iv(nx:Int→List Int)(ix:List Int)(n:Nat):Nat:=((List.range n).map fun a:Nat=>if ix.getD a 0=0 then (nx a).length+2 else 0).sum
theorem lW(nx:Int→List Int)(w:List (Int×Nat))(a:Int)(k:Nat):jc nx (w++[(a,k)])=jc nx w+((nx a).length+1-k):=by unfold jc;simp
theorem Rr(nx:Int→List Int)(ix:List Int)(n:Nat):iv nx ix (n+1)=iv nx ix n+if ix.getD n 0=0 then (nx n).length+2 else 0:=by unfold iv;rw[List.range_succ];simp
theorem Ls{nx:Int→List Int}{ix:List Int}{b:Nat}{v:Int}(hv:v≠0)(hf:ix.getD b 0=0)(hb:b<ix.length):∀n,iv nx (ix.set b v) n+(if b<n then (nx b).length+2 else 0)=iv nx ix n
 | 0=>rfl
 |n+1=>by
  have ih:=Ls (nx:=nx) hv hf hb n
  rw[Rr,Rr]
  have hg:(ix.set b v).getD n 0=if b=n then v else ix.getD n 0:=by
   rw[aR,dY]
   by_cases e:b=n
   ·subst e;rw[ag rfl,ag hb,ag rfl];rfl
   ·rw[ah e,ah e,aR]
  rw[hg]
  by_cases e:b=n
  ·subst e
   rw[ag rfl,ah hv,ag hf,ag (by omega)]
   rw[ah (by omega)]at ih
   omega
  ·rw[ah e]
   by_cases c:b<n
   ·have e2:(if b<n+1 then (nx b).length+2 else 0)=(nx b).length+2:=ag (by omega)
    rw[ag c]at ih;rw[e2];omega
   ·have e2:(if b<n+1 then (nx b).length+2 else 0)=0:=ah (by omega)
    rw[ah c]at ih;rw[e2];omega
theorem ac5(l:List Int)(i:Nat)(x:Int):(ak l).set i (.int .i64 x)=ak (l.set i x):=by unfold ak;rw[nS]
theorem ac7(l:List Int){i:Nat}(h:i<l.length):(ak l)[i]?=some (.int .i64 (l.getD i 0)):=by
 unfold ak;rw[eU,bc h,aR,bc h];rfl
theorem RO{l:List Int}{z:Int}{k:Nat}(hz:z=k)(h:k<l.length):dP ⟨.int .i64,1,8,[.int .i64 0]⟩ (ak l) (0+z.toNat*1)=some (.int .i64 (l.getD k 0)):=by
 subst hz
 rw[dK,eo,bU]
 exact iY rfl (ac7 l h)
theorem YX{i:TI}(hs:i.size=1){l:List Int}(x:Int){z:Int}{k:Nat}(hz:z=k)(h:k<l.length):kn i (ak l) (0+z.toNat*1) (.int .i64 x)=some (ak (l.set k x)):=by
 subst hz
 rw[dK,eo,bU,tD hs rfl (by rw[mw];omega),ac5]
theorem Acc.yb{e k:Nat}{v:AV}{acc:Hp}{cs:List AV}(h:Acc e k v acc cs):Acc e k (bJ v) acc cs:=by
 cases h with
 |nil=>exact .nil
 |ae b k cs h=>exact .ae b k cs h
theorem abg{α:Type}(l:List α)(x y:α){k:Nat}(h:k=l.length):(l++[x]).set k y=l++[y]:=by subst h;simp
theorem acd{α:Type}(l:List α)(x:α){k:Nat}(h:k=l.length):(l++[x])[k]?=some x:=by subst h;simp
theorem ai5{t t':Tm}{b off len es:Nat}{e:Sh}{l:List e.T}(k:Nat)(h:t k=.via (.ae b off len es))(h':t'=dm t [(k,.ai e l)])(i:Nat):eI b off len es e l (t i) (t' i):=by
 subst h'
 show eI b off len es e l (t i) (match Nat.beq i k with | true=>.ai e l | false=>t i)
 cases hb:Nat.beq i k with
 |true=>rw[jr hb,h];exact .via .here
 |false=>exact .refl _
theorem tz{k:Nat}{v:AV}{acc:Hp}{cs:List AV}(h0:0<k)(h:Acc 1 k v acc cs):∃b,v=.ae b 0 k 1∧acc=[(b,cs)]:=by
 cases h with
 |nil=>omega
 |ae b k cs h=>exact⟨b,rfl,rfl⟩
theorem vd(P:List (List Int)):(cq P).length=P.length:=cb _
theorem ac8{l:List Int}{J:List AV}{k:Nat}(h:k<l.length):(ak l++J)[k]?=some (.int .i64 (l.getD k 0)):=by
 rw[jG (by rw[Mg];exact h)]
 unfold ak
 rw[eU,aR,bc h];rfl
theorem UR(b k:Nat)(A B:List Int)(J:List AV)(x:Int)(σ:Hp)(hk:(A++x::B).length=k)(hx:x ∉ A)(hl:k≤1000000):ACalls Tryz.prog 287 [.ae b 0 k 1,.int .i64 x] ((b,ak (A++x::B)++J)::σ) (aE (.int .i64 A.length) ((b,ak (A++x::B)++J)::σ)):=by
 have hkA:A.length<k:=by rw[← hk,bG,fO];omega
 refine aA Tryz.func287 ?_
 refine cj (S:=Nat) (fun s=>[(0,.ae b 0 k 1),(1,.int .i64 x),(7,.int .i64 k),(8,.int .i64 s)]) (fun _=>(b,ak (A++x::B)++J)::σ) (fun s=>s≤A.length) (fun s=>A.length-s) 0 ⟨bK _,⟨rfl,rfl,rfl,rfl,trivial⟩,rfl⟩ ?_
 rintro i t fi
 have hi:i≤A.length:=fi
 clear fi
 refine aq (p:=(i:Int)<k) (fun ab=>?_) (fun ay=>?_)
 ·have hg:=ac8 (l:=A++x::B) (J:=J) (k:=i) (by omega)
  obtain⟨y,hy⟩:∃y,(A++x::B).getD i 0=y:=⟨_,rfl⟩
  rw[hy]at hg
  refine aK ?_
  refine aT 0 rfl (iY rfl (by rw[dK,eo,bU];exact hg)) ?_
  refine aq (fun c=>?_) (fun c=>?_)
  ·have c:x=y:=c
   refine .done ⟨?_,rfl⟩
   by_cases e:i=A.length
   ·subst e;rfl
   ·have:y∈A:=by
     rw[← hy,aR,jG (by omega),bc (by omega)]
     exact cD _
    exact absurd (c▸this) hx
  ·have c:¬x=y:=c
   have aO:i≠A.length:=fun e=>by
    subst e
    refine c ?_
    rw[← hy,aR,ij (aM _),qT];rfl
   exact aZ (i+1) (by show A.length-(i+1)<A.length-i;omega) (by show i+1≤A.length;omega) ⟨rfl,rfl,rfl,bu (by omega),trivial⟩ (.refl _)
 ·omega
theorem UT(b off k:Nat)(C cs:List AV)(σ:Hp)(h:(C.drop off).take (k*1)=cs)(h2:off+k*1≤C.length)(hl:k≤1000000):ACalls Tryz.prog 220 [.ae b off k 1] ((b,C)::σ) (fun x σ'=>∃b',x=.ae b' 0 k 1∧σ'=(b',cs)::(b,C)::σ):=by
 refine aA Tryz.func220 ?_
 intro b2
 refine AppendAt.more 0 b2 0 k [] ((C.drop off).take (k*1)) rfl rfl (cT rfl) (.mem (cE _ (bV ..)) h2) (by omega) (by decide) (by decide) (fun b'=>?_)
 refine .done ⟨b',by rw[dK];rfl,?_⟩
 rw[h];rfl
theorem TC(w bi bl bo n:Nat)(N:List (List Int))(ix lo:List Int)(on:List Bool)(aD:Nat)(vs vp:AV)(a:Int)(σ:Hp)(h0:0≤a)(hn:a<n)(hi:ix.length=n)(hl:lo.length=n)(aO:lo.getD a.toNat 0≠ix.getD a.toNat 0):
  ACalls Tryz.prog 315 [.ptr w 0,.int .i64 a] ((w,dc N bi bl bo n vs aD vp)::(bi,ak ix)::(bl,ak lo)::(bo,bE on)::σ) (aE (.tup []) ((w,dc N bi bl bo n vs aD vp)::(bi,ak ix)::(bl,ak lo)::(bo,bE on)::σ)):=by
 refine aA Tryz.func315 ?_
 refine .quiet (by kernel_rfl) ?_
 refine aa 0 ?_
 refine aK ?_
 refine aT 2 rfl (e9 rfl h0 (by omega)) ?_
 refine aa 0 ?_
 refine aK ?_
 refine aT 1 rfl (e9 rfl h0 (by omega)) ?_
 refine eG (fun c=>?_) (fun c=>?_)
 ·exact .done ⟨rfl,rfl⟩
 ·exact absurd (by simpa using c) aO
theorem Q7(w bi bl bo n:Nat)(N:List (List Int))(ix lo A B:List Int)(on:List Bool)(P:List (List Int))(aD:Nat)(vs vp:AV)(lI eK:Hp)(a:Int)(σ:Hp)(h0:0≤a)(hn:a<n)(hi:ix.length=n)(hl:lo.length=n)(ho:on.length=n)(he:lo.getD a.toNat 0=ix.getD a.toNat 0)(OP:a ∉ A)(hB:∀x∈a::B,0≤x∧x<n)(cH:(A++a::B).length≤10000)(sW:P.length≤10000)
  (hs:iw 1 (A++a::B).length vs lI (ak (A++a::B))) (hp:Acc 1 P.length vp eK (cq P)) :
  ACalls Tryz.prog 315 [.ptr w 0,.int .i64 a] ((w,dc N bi bl bo n vs aD vp)::(bi,ak ix)::(bl,ak lo)::(bo,bE on)::(lI++(eK++σ)))
   (fun r σ'=>r=.tup []∧∃eC ja gw gr,iw 1 A.length eC ja (ak A)∧Acc 1 (P++[fD (a::B)]).length gw gr (cq (P++[fD (a::B)]))∧σ'=(w,dc N bi bl bo n eC aD gw)::(bi,ak ix)::(bl,ak lo)::(bo,bE (eR (a::B) on))::(ja++(gr++σ))):=by
 obtain⟨K,hK⟩:∃K,(A++a::B).length=K:=⟨_,rfl⟩
 obtain⟨L,hL⟩:∃L:List Int,a::B=L:=⟨_,rfl⟩
 obtain⟨q,hq⟩:∃q,L.length=q:=⟨_,rfl⟩
 have hKA:K=A.length+q:=by rw[← hK,bG,hL,hq]
 have hq0:0<q:=by rw[← hq,← hL,fO];omega
 rw[hK]at hs cH
 obtain⟨bs,J,rfl,rfl,Fv⟩:=hs.pos (by omega)
 have kr:((ak (A++a::B)++J).drop A.length).take (q*1)=ak L:=by
  rw[hL]
  unfold ak
  rw[cM,dN,Pn (by rw[cb];exact aM _),FV (by rw[cb];exact aM _),yy,Kj (by rw[cb];omega),eZ (by rw[cb];omega)]
 have ey:A.length+q*1≤(ak (A++a::B)++J).length:=by rw[bG,Fv];omega
 refine aA Tryz.func315 ?_
 refine .quiet (by kernel_rfl) ?_
 refine aa 0 ?_
 refine aK ?_
 refine aT 2 rfl (e9 rfl h0 (by omega)) ?_
 refine aa 0 ?_
 refine aK ?_
 refine aT 1 rfl (e9 rfl h0 (by omega)) ?_
 refine eG (fun c=>?_) (fun c=>?_)
 ·exact absurd he (by simpa using c)
 clear c
 refine aa 0 ?_
 refine aB [4] (UR bs K A B J a _ hK OP (by omega)) ?_
 refine aa 1 ?_
 refine aH.mk ⟨by omega,by omega,by omega,rfl⟩ ?_
 have hC:∀σ,ACalls Tryz.prog 220 [.ae bs (0+((A.length:Nat):Int).toNat*1) (((K:Nat):Int).toNat-((A.length:Nat):Int).toNat) 1] ((bs,ak (A++a::B)++J)::σ) (fun x σ'=>∃b',x=.ae b' 0 q 1∧σ'=(b',ak L)::(bs,ak (A++a::B)++J)::σ):=fun σ=>by
  rw[show 0+((A.length:Nat):Int).toNat*1=A.length by omega,show ((K:Nat):Int).toNat-((A.length:Nat):Int).toNat=q by omega]
  exact UT bs A.length q _ _ σ kr ey (by omega)
 refine .mk [0] _ (hC _) ?_
 rintro _ _ ⟨bp,rfl,rfl⟩
 refine aa 2 ?_
 refine aH.mk ⟨by omega,by omega,by omega,by omega,rfl⟩ ?_
 refine an 2 ?_
 refine cj (S:=Nat) (fun i=>[(0,.ptr w 0),(5,.ae bp 0 q 1),(46,.ae bp 0 q 1),(47,.int .i64 q),(48,.int .i64 i)]) (fun i=>(bp,ak L)::(bs,ak (A++a::B)++J)::(w,dc N bi bl bo n (.ae bs 0 A.length 1) aD vp)::(bi,ak ix)::(bl,ak lo)::(bo,bE (eR (L.take i) on))::(eK++σ)) (fun i=>i≤q) (fun i=>q-i) 0 ⟨bK _,⟨rfl,rfl,rfl,rfl,rfl,trivial⟩,rfl⟩ ?_
 rintro i g fi
 have hiq:i≤q:=fi
 clear fi
 refine aq (p:=(i:Int)<q) (fun ab=>?_) (fun ay=>?_)
 ·have ab:i<L.length:=by omega
  obtain⟨x,hx⟩:∃x,L[i]=x:=⟨_,rfl⟩
  have EY:=hB x (by rw[hL,← hx];exact cD ab)
  have nP:=Gj (L.take i) on
  have NJ:(eR (L.take i) on).set x.toNat false=eR (L.take (i+1)) on:=by unfold eR;rw[fQ ab,hx,sa];rfl
  have nM:dP ⟨.int .i64,1,8,[.int .i64 0]⟩ (ak L) (0+((i:Nat):Int).toNat*1)=some (.int .i64 x):=by
   rw[e9 rfl (by omega) (by omega),bU,aR,bc ab,hx];rfl
  refine aK ?_
  refine aT 0 rfl nM ?_
  refine aa 2 ?_
  refine aK ?_
  refine cU 5 rfl (yV rfl false EY.1 (by omega)) ?_
  exact aZ (i+1) (by show q-(i+1)<q-i;omega) (by show i+1≤q;omega) ⟨rfl,rfl,rfl,rfl,bu (by omega),trivial⟩ (aJ (by rw[NJ];rfl))
 ·have ay:i=q:=by omega
  subst ay
  refine aB [0] (MO bp L i _ hq (by omega)) ?_
  refine aa 2 ?_
  intro eV
  refine Ao [_,_,_,_,_,_,_] hp.yb (.ae 0 eV 0 1 _ rfl (cT rfl)) rfl (by omega) (by decide) (by decide) (fun v' bN h'=>?_)
  obtain⟨b5,rfl,rfl⟩:=tz (by omega) h'
  refine an 3 ?_
  have hgs:=acd (cq P) (AV.ae bp 0 i 1) (k:=P.length) (vd P).symm
  have hss:=abg (cq P) (AV.ae bp 0 i 1) (.ai (.int .i64) (fD L)) (k:=P.length) (vd P).symm
  refine .ku 1 bp 0 i 1 _ (.int .i64) (fD L) rfl (by rw[iB,eZ (by rw[mw,Am,eo];omega)];exact xn _) ⟨(Am L).trans hq,rfl,by decide⟩ 6 P.length b5 _ rfl hgs ?_
  refine .drop 0 1 (.perm (fB [_,_,_,_] [_] _).symm (.done ⟨rfl,.ae bs 0 A.length 1,[(bs,ak A++(ak L++J))],.ae b5 0 (P.length+1) 1,[(b5,cq (P++[fD L]))],.ae bs A.length (ak A) (ak L++J) (by rw[mw,eo]),?_,?_⟩))
  ·subst hL
   rw[bG]
   exact .ae b5 (P.length+1) (cq (P++[fD (a::B)])) ((vd _).trans (by rw[bG,eo];rfl))
  ·rw[eZ (z7 hq)]
   subst hL
   have e1:ak (A++a::B)++J=ak A++(ak (a::B)++J):=by unfold ak;rw[cM,dN]
   have e2:cq (P++[fD (a::B)])=cq P++[.ai (.int .i64) (fD (a::B))]:=cM
   rw[e1,e2,← hss]
   rfl
def bC(l:List (Int×Nat)):List AV:=l.flatMap fun t=>[.int .i64 t.1,.int .i64 t.2]
theorem mu:∀l:List (Int×Nat),(bC l).length=l.length*2
 | []=>rfl
 |t::l=>by
  show ([AV.int .i64 t.1,.int .i64 t.2]++bC l).length=_
  rw[bG,mu l,fO]
  show 2+l.length*2=(l.length+1)*2
  omega
theorem o8(l m:List (Int×Nat)):bC (l++m)=bC l++bC m:=tc
theorem sj{w:List (Int×Nat)}{v:Int}{k:Nat}{J:List AV}{m:Nat}(hm:m=w.length):(bC (w++[(v,k)])++J)[m*2]?=some (.int .i64 v):=by
 subst hm
 rw[o8,dN,ij (by rw[mu];omega),mu,qT];rfl
theorem CJ{w:List (Int×Nat)}{v:Int}{k:Nat}{J:List AV}{m:Nat}(hm:m=w.length):(bC (w++[(v,k)])++J)[m*2+1]?=some (.int .i64 k):=by
 subst hm
 rw[o8,dN,ij (by rw[mu];omega),mu,FY];rfl
theorem CX{w:List (Int×Nat)}{v:Int}{k:Nat}{J:List AV}{m:Nat}(hm:m=w.length):(bC (w++[(v,k)])++J).set (m*2+1) (.int .i64 ((k+1:Nat):Int))=bC (w++[(v,k+1)])++J:=by
 subst hm
 rw[o8,o8,dN,dN,Ki _ _ (by rw[mu];omega),mu,FY];rfl
def bY(n:Nat)(l:List bg):List (List Int):=(List.range n).map fun a:Nat=>ar n l a
theorem pq{n:Nat}{l:List bg}{a:Int}(h:0≤a∧a<n):(bY n l)[a.toNat]?=some (ar n l a):=by
 unfold bY
 rw[eU,wS (by omega)]
 show some (ar n l (a.toNat:Int))=_
 rw[lT h.1]
theorem Ct(zs:List Int):(fD zs).Perm zs:=List.mergeSort_perm _ _
theorem Gf{zs:List Int}(h:zs.Nodup):(fD zs).Pairwise (· < ·):=((PQ zs).and ((Ct zs).nodup_iff.2 h)).imp fun h=>by omega
theorem Gq{n:Nat}{nx:Int→List Int}{P:List (List Int)}(h:qX n nx P):P.length≤P.flatten.length:=by
 have:=h.ne
 clear h
 induction P with
 |nil=>exact aM _
 |cons p P ih=>
  have h1:=mm.2 (this p (bV ..))
  have h2:=ih fun q hq=>this q (cE _ hq)
  rw[Cf,bG,fO];omega
theorem T9{i:TI}(hw:i.wide=true){cs v:List AV}{off:Nat}(h:off+i.size≤cs.length)(hv:(cs.drop off).take i.size=v):dP i cs off=some (.agg v):=by
 unfold dP
 rw[hw]
 show (match Nat.ble (off+i.size) cs.length with | true=>some (AV.agg ((cs.drop off).take i.size)) | false=>none)=_
 rw[Kl h,hv]
theorem Qt{w:List (Int×Nat)}{v:Int}{k:Nat}{J:List AV}{m:Nat}(hm:m=w.length):((bC (w++[(v,k)])++J).drop (m*2)).take 2=[.int .i64 v,.int .i64 k]:=by
 subst hm
 rw[o8,dN,Pn (by rw[mu];exact aM _),FV (by rw[mu];exact aM _)];rfl
theorem xa(X a σ:Hp)(x y:Nat×List AV):(X++(a++(x::y::σ))).Perm (x::(X++(y::(a++σ)))):=by
 have h1:(a++(x::y::σ)).Perm (x::y::(a++σ)):=nU.trans (List.Perm.cons _ nU)
 exact (List.Perm.append_left X h1).trans nU
def DL(rec:Go.Code→Tm→Hp→(Ex→Tm→Hp→Prop)→Prop)(c:Go.Code){S:Type}(fX:S→Nat)(L:S→List (Nat×AV))(H:S→Hp)(p:S→Prop)(μ:S→Nat)(Q:Ex→Tm→Hp→Prop):Prop:=
 ∀s g,p s→(match findLabel c (fX s) with | some r=>rec r (dm g (L s)) (H s) (fun e t' σ'=>match e with | .goto l'=>rE fX L H p μ s l' t' σ' | e=>Q e t' σ') | none=>False)
theorem Qq{P:Program}{TT:TypeId→Option TI}{fn:Go.Func}{c:Go.Code}{xs:List AV}{σ:Hp}{R:AV→Hp→Prop}{S:Type}(hb:fn.body=some (.scope c))(fX:S→Nat)(L:S→List (Nat×AV))(H:S→Hp)(p:S→Prop)(μ:S→Nat)
  (hr:DL (mG P TT 999) c fX L H p μ (vO TT fn.results.toList R))
  (h:DL (mG P TT 999) c fX L H p μ (vO TT fn.results.toList R)→codeF P TT (mG P TT 999) (.scope c) (t0 xs) σ (vO TT fn.results.toList R)):vP P TT fn xs σ R:=by
 have h1:mG P TT 1000 (.scope c) (t0 xs) σ (vO TT fn.results.toList R):=h hr
 unfold vP
 rw[hb]
 exact h1
theorem xf{rec:Go.Code→Tm→Hp→(Ex→Tm→Hp→Prop)→Prop}{c:Go.Code}{S:Type}{fX:S→Nat}{L:S→List (Nat×AV)}{H:S→Hp}{p:S→Prop}{μ:S→Nat}{Q:Ex→Tm→Hp→Prop}{t:Tm}{σ:Hp}{l:Nat}(hr:DL rec c fX L H p μ Q)(s0:S)(h0:l=fX s0∧p s0∧agree t (L s0)∧jg σ (H s0)):
  rF (fun l t σ Q=>match findLabel c l with | some r=>rec r t σ Q | none=>False) l Q t σ:=.loop fX L H p μ s0 h0 hr
abbrev FrS:=(List Int×List Int×List Bool×List Int×Nat×List (List Int))×(Nat×List AV×AV×Hp)×(List (Int×Nat)×Int×Nat)×(Nat×List AV)
theorem ahh(n w bi bl bo:Nat)(l:List bg)(lK wB:List Int)(wx:List Bool)(dF:Nat)(P0:List (List Int))(uq fW:AV)(vQ iu:Hp)(a:Int)(σ:Hp)(hn:n≤1000)(h:FI n (ar n l) lK wB wx [] dF P0 [])(ha:0≤a∧a<n)(hf:lK.getD a.toNat 0=0)(hs:iw 1 0 uq vQ [])(hp:Acc 1 P0.length fW iu (cq P0)):
  ACalls Tryz.prog 290 [.ptr w 0,.int .i64 a] ((w,dc (bY n l) bi bl bo n uq dF fW)::(bi,ak lK)::(bl,ak wB)::(bo,bE wx)::(vQ++(iu++σ)))
   (fun r σ'=>r=.tup []∧∃ix lo on aD P vs lI vp eK,FI n (ar n l) ix lo on [] aD P []∧iw 1 0 vs lI []∧Acc 1 P.length vp eK (cq P)∧ix.getD a.toNat 0≠0∧(∀b:Nat,lK.getD b 0≠0→ix.getD b 0≠0)∧σ'=(w,dc (bY n l) bi bl bo n vs aD vp)::(bi,ak ix)::(bl,ak lo)::(bo,bE on)::(lI++(eK++σ))):=by
 have hle:=h.A3
 refine aA Tryz.func290 ?_
 refine Qq (S:=FrS) rfl (fun _=>0)
  (fun x=>[(0,.ptr w 0),(4,.ae x.2.2.2.1 0 (x.2.2.1.1.length+1) 2)])
  (fun x=>(w,dc (bY n l) bi bl bo n (.ae x.2.1.1 0 x.1.2.2.2.1.length 1) x.1.2.2.2.2.1 x.2.1.2.2.1)::(bi,ak x.1.1)::(bl,ak x.1.2.1)::(bo,bE x.1.2.2.1)::(x.2.1.1,ak x.1.2.2.2.1++x.2.1.2.1)::(x.2.2.2.1,bC (x.2.2.1.1++[(x.2.2.1.2.1,x.2.2.1.2.2)])++x.2.2.2.2)::(x.2.1.2.2.2++σ))
  (fun x=>(FI n (ar n l) x.1.1 x.1.2.1 x.1.2.2.1 x.1.2.2.2.1 x.1.2.2.2.2.1 x.1.2.2.2.2.2 (x.2.2.1.1++[(x.2.2.1.2.1,x.2.2.1.2.2)])∧Acc 1 x.1.2.2.2.2.2.length x.2.1.2.2.1 x.2.1.2.2.2 (cq x.1.2.2.2.2.2))∧x.1.1.getD a.toNat 0≠0∧∀b:Nat,lK.getD b 0≠0→x.1.1.getD b 0≠0)
  (fun x=>jc (ar n l) (x.2.2.1.1++[(x.2.2.1.2.1,x.2.2.1.2.2)])+iv (ar n l) x.1.1 n) ?_ ?_
 ·rintro⟨⟨ix,lo,on,st,aD,P⟩,⟨bs,Js,vp,eK⟩,⟨wy,v,k⟩,⟨bw,J⟩⟩ g ⟨⟨oT,uJ⟩,qQ,yv⟩
  have hF:FI n (ar n l) ix lo on st aD P (wy++[(v,k)]):=oT
  have hP:Acc 1 P.length vp eK (cq P):=uJ
  have hA:ix.getD a.toNat 0≠0:=qQ
  have hM:∀b:Nat,lK.getD b 0≠0→ix.getD b 0≠0:=yv
  clear oT uJ qQ yv
  have hle:=hF.A3
  have bX:=hF.mem
  have cX:=hF.tj.node v bX
  have BT:k≤(ar n l v).length:=hF.tn (v,k) (jF _ (a8.2 rfl))
  have mi:=yO n l v
  have sR:wy.length+1≤st.length:=by
   have:=hF.tj.sub.length_le
   rw[cb,bG]at this
   exact this
  have nB:IntKind.i64.wrap (((wy.length+1:Nat):Int)-1)=((wy.length:Nat):Int):=by rw[dh (by omega)];omega
  have hX:0+(IntKind.i64.wrap (((wy.length+1:Nat):Int)-1)).toNat*2=wy.length*2:=by rw[nB];omega
  have mP:dP ⟨.int .i64,1,8,[.int .i64 0]⟩ (bC (wy++[(v,k)])++J) (0+(IntKind.i64.wrap (((wy.length+1:Nat):Int)-1)).toNat*2+0)=some (.int .i64 v):=iY rfl (by rw[hX];exact sj rfl)
  have lO:dP ⟨.int .i64,1,8,[.int .i64 0]⟩ (bC (wy++[(v,k)])++J) (0+(IntKind.i64.wrap (((wy.length+1:Nat):Int)-1)).toNat*2+1)=some (.int .i64 k):=iY rfl (by rw[hX];exact CJ rfl)
  have ey:(bC (wy++[(v,k)])++J).length=wy.length*2+2+J.length:=by rw[bG,mu,bG];show (wy.length+1)*2+_=_;omega
  have kF:IntKind.i64.wrap ((k:Int)+1)=((k+1:Nat):Int):=by rw[dh (by omega)];omega
  have wE:kn ⟨.int .i64,1,8,[.int .i64 0]⟩ (bC (wy++[(v,k)])++J) (0+(IntKind.i64.wrap (((wy.length+1:Nat):Int)-1)).toNat*2+1) (.int .i64 (IntKind.i64.wrap ((k:Int)+1)))=some (bC (wy++[(v,k+1)])++J):=by
   rw[tD rfl rfl (by rw[hX,ey];omega),hX,kF,CX rfl]
  have vK:2=2∧0≤IntKind.i64.wrap (((wy.length+1:Nat):Int)-1)∧IntKind.i64.wrap (((wy.length+1:Nat):Int)-1)<((wy.length+1:Nat):Int):=⟨rfl,by omega,by omega⟩
  refine aH.mk vK ?_
  refine .quiet (by kernel_rfl) ?_
  refine aT 5 rfl lO ?_
  refine aa 0 ?_
  refine aT 5 rfl mP ?_
  refine aH.mk rfl ?_
  refine cg.mk (ar n l v) (by omega) (pq cX) ?_
  refine aq (p:=(k:Int)<(ar n l v).length) (fun ab=>?_) (fun ay=>?_)
  ·have ab:k<(ar n l v).length:=by omega
   obtain⟨b,hb⟩:∃b,(ar n l v)[k]=b:=⟨_,rfl⟩
   have sZ:b∈ar n l v:=hb▸cD ab
   have dJ:=(lu.1 sZ).1
   refine .quiet (by kernel_rfl) ?_
   refine aa 0 ?_
   refine aT 5 rfl mP ?_
   refine aH.mk rfl ?_
   refine cg.mk (ar n l v) (by omega) (pq cX) ?_
   refine aT 5 rfl lO ?_
   refine aH.mk rfl ?_
   refine cg.mk b (by omega) ((get_some ab).trans (congrArg some hb)) ?_
   refine aT 5 rfl lO ?_
   refine cU 5 rfl wE ?_
   refine aa 0 ?_
   refine aK ?_
   refine aT 1 rfl (e9 rfl dJ.1 (by rw[hF.li];omega)) ?_
   refine aq (p:=ix.getD b.toNat 0=0) (fun c1=>?_) (fun c1=>?_)
   ·have hN:=hF.new ab hb dJ c1
    have eg:(ak st).length=st.length*1:=by rw[mw,eo]
    refine .mk [] _ (A4 w bi bl bo n (bY n l) ix lo st on aD _ vp _ b ((bw,bC (wy++[(v,k+1)])++J)::(eK++σ)) dJ.1 dJ.2 hF.li hF.ll hF.kA (.ae bs st.length (ak st) Js eg) (by omega) (by omega)) ?_
    rintro _ _ ⟨rfl,BF,Eb,fh,rfl⟩
    obtain⟨lV,o6,rfl,rfl,_⟩:=fh.pos (by rw[bG];show 0<_+1;omega)
    intro aG
    have IB:(bC (wy++[(v,k+1)])).length=(wy.length+1)*2:=by rw[mu,bG];rfl
    refine yM (k:=wy.length+1) (n:=1) [_,_,_,_,_,_] (.ae bw (wy.length+1) (bC (wy++[(v,k+1)])) J IB) (.ae 0 aG 0 1 _ rfl (cT rfl)) rfl (by omega) (by decide) (by decide) (fun v' bN h'=>?_)
    obtain⟨o0,J2,rfl,rfl,_⟩:=h'.pos (by omega)
    have Ox:(wy++[(v,k+1)]).length+1=wy.length+1+1:=by rw[bG];rfl
    have wK:(b.toNat:Int)=b:=lT dJ.1
    have sU:=Ls (nx:=ar n l) (ix:=ix) (b:=b.toNat) (v:=((aD+1:Nat):Int)) (by omega) c1 (by rw[hF.li];omega) n
    rw[ag (by omega),wK]at sU
    refine .mk ((ix.set b.toNat ((aD+1:Nat):Int),lo.set b.toNat ((aD+1:Nat):Int),on.set b.toNat true,st++[b],aD+1,P),(lV,o6,vp,eK),(wy++[(v,k+1)],b,0),(o0,J2)) rfl ?_ ⟨⟨hN,hP⟩,?_,?_⟩ ⟨rfl,by rw[Ox];rfl,trivial⟩ (.drop 0 1 (aJ (by rw[o8 (wy++[(v,k+1)])];rfl)))
    ·show jc (ar n l) ((wy++[(v,k+1)])++[(b,0)])+iv (ar n l) (ix.set b.toNat ((aD+1:Nat):Int)) n<jc (ar n l) (wy++[(v,k)])+iv (ar n l) ix n
     rw[lW,lW,lW];omega
    ·show (ix.set b.toNat ((aD+1:Nat):Int)).getD a.toNat 0≠0
     rw[mz];split
     ·omega
     ·exact hA
    ·intro z hz
     show (ix.set b.toNat ((aD+1:Nat):Int)).getD z 0≠0
     rw[mz];split
     ·omega
     ·exact hM z hz
   ·have c1:¬(ix.getD b.toNat 0=0):=c1
    refine aa 0 ?_
    refine aK ?_
    have lQ:=hF.wo b dJ.1 dJ.2
    have Et:dP ⟨.int .i64,1,8,[.int .i64 0]⟩ (bC (wy++[(v,k+1)])++J) (0+(IntKind.i64.wrap (((wy.length+1:Nat):Int)-1)).toNat*2+0)=some (.int .i64 v):=iY rfl (by rw[hX];exact sj rfl)
    refine eO.kz 3 _ _ rfl (tw rfl dJ.1 (by rw[hF.kA];omega)) (fun c2=>?_) (fun c2=>?_)
    ·rw[lQ]at c2
     have hO:=hF.Iw ab hb (fP c2)
     refine .sched [] (upto [] 28 0) (by kernel_rfl) ?_
     refine aa 0 ?_
     refine aT 5 rfl Et ?_
     refine aa 0 ?_
     refine aT 5 rfl Et ?_
     refine aK ?_
     refine aT 2 rfl (e9 rfl cX.1 (by rw[hF.ll];omega)) ?_
     refine aa 0 ?_
     refine aK ?_
     refine aT 1 rfl (e9 rfl dJ.1 (by rw[hF.li];omega)) ?_
     refine aK ?_
     refine cU 2 rfl (nk rfl _ cX.1 (by rw[hF.ll];omega)) ?_
     have iL:(if ix.getD b.toNat 0<lo.getD v.toNat 0 then ix.getD b.toNat 0 else lo.getD v.toNat 0)=min (lo.getD v.toNat 0) (ix.getD b.toNat 0):=by split <;> omega
     refine .mk ((ix,lo.set v.toNat (min (lo.getD v.toNat 0) (ix.getD b.toNat 0)),on,st,aD,P),(bs,Js,vp,eK),(wy,v,k+1),(bw,J)) rfl ?_ ⟨⟨hO,hP⟩,hA,hM⟩ ⟨rfl,rfl,trivial⟩ (aJ (by rw[← iL];rfl))
     show jc (ar n l) (wy++[(v,k+1)])+iv (ar n l) ix n<jc (ar n l) (wy++[(v,k)])+iv (ar n l) ix n
     rw[lW,lW];omega
    ·rw[lQ]at c2
     have hO:=hF.off ab hb dJ.1 c1 (sd c2)
     refine .mk ((ix,lo,on,st,aD,P),(bs,Js,vp,eK),(wy,v,k+1),(bw,J)) rfl ?_ ⟨⟨hO,hP⟩,hA,hM⟩ ⟨rfl,rfl,trivial⟩ (.refl _)
     show jc (ar n l) (wy++[(v,k+1)])+iv (ar n l) ix n<jc (ar n l) (wy++[(v,k)])+iv (ar n l) ix n
     rw[lW,lW];omega
  ·have ay:k=(ar n l v).length:=by omega
   have mO:dP ⟨.aV [(0,3),(1,3)],2,16,[.int .i64 0,.int .i64 0]⟩ (bC (wy++[(v,k)])++J) (0+(IntKind.i64.wrap (((wy.length+1:Nat):Int)-1)).toNat*2)=some (.agg [.int .i64 v,.int .i64 k]):=T9 rfl (by rw[hX,ey];show wy.length*2+2≤_;omega) (by rw[hX];exact Qt rfl)
   refine aT 5 rfl mO ?_
   intro bt
   refine an 0 ?_
   refine aa 0 ?_
   have qq:(IntKind.i64.wrap (((wy.length+1:Nat):Int)-1)).toNat-Int.toNat 0=wy.length:=by rw[nB];omega
   have cH:0≤(0:Int)∧(0:Int)≤IntKind.i64.wrap (((wy.length+1:Nat):Int)-1)∧IntKind.i64.wrap (((wy.length+1:Nat):Int)-1)≤((wy.length+1:Nat):Int)∧2=2:=⟨by omega,by omega,by omega,rfl⟩
   by_cases he:lo.getD v.toNat 0=ix.getD v.toNat 0
   ·obtain⟨A,B,ao,FA,hB1⟩:=RN hF.tj.inc bX
    have Oq:v ∉ A:=fun hm=>by have:=FA v hm;omega
    have Oo:∀x∈v::B,0≤x∧x<(n:Int):=fun x hx=>hF.tj.node x (by rw[ao];exact jF _ hx)
    have bZ:=uY hF.tj.inc
    rw[ao]at bZ
    have hT:=hF.tell (by omega) ao he (fun x y hy=>(lu.1 hy).1) (Ct (v::B)) (Gf (oZ.1 bZ).2.1)
    have Fs:=Gq hF.tj.prt
    subst ao
    have eg:(ak (A++v::B)).length=(A++v::B).length*1:=by rw[mw,eo]
    refine .perm _ (xa [_,_,_,_,_] eK σ _ _) (Q7 w bi bl bo n (bY n l) ix lo A B on P aD _ vp _ eK v _ cX.1 cX.2 hF.li hF.ll hF.kA he Oq Oo (by omega) (by omega) (.ae bs (A++v::B).length (ak (A++v::B)) Js eg) hP) ?_
    rintro _ _ ⟨rfl,eC,ja,gw,gr,dV,nO,rfl⟩
    have fw:((bt,[AV.int .i64 v,.int .i64 k])::(w,dc (bY n l) bi bl bo n eC aD gw)::(bi,ak ix)::(bl,ak lo)::(bo,bE (eR (v::B) on))::(bw,bC (wy++[(v,k)])++J)::(ja++(gr++σ))).Perm ((w,dc (bY n l) bi bl bo n eC aD gw)::(bi,ak ix)::(bl,ak lo)::(bo,bE (eR (v::B) on))::(ja++(gr++((bt,[AV.int .i64 v,.int .i64 k])::(bw,bC (wy++[(v,k)])++J)::σ)))):=by
     have h1:=(xa [(w,dc (bY n l) bi bl bo n eC aD gw),(bi,ak ix),(bl,ak lo),(bo,bE (eR (v::B) on))] (ja++gr) σ (bt,[AV.int .i64 v,.int .i64 k]) (bw,bC (wy++[(v,k)])++J)).symm
     rw[dN,dN]at h1
     exact h1
    refine⟨_,fw,?_⟩
    refine aH.mk cH ?_
    rcases FT wy with dU | ⟨w',⟨u,i⟩,dU⟩
    ·have qz:wy.length=0:=by rw[dU];rfl
     rw[dU]at hT
     obtain rfl:A=[]:=hT.U3
     refine aq (p:=(0:Int)<(((IntKind.i64.wrap (((wy.length+1:Nat):Int)-1)).toNat-Int.toNat 0:Nat):Int)) (fun c3=>?_) (fun c3=>?_)
     ·rw[qq,qz]at c3;exact absurd c3 (by decide)
     ·refine .drop 0 1 (.drop 4 1 (.done ⟨rfl,ix,lo,eR (v::B) on,aD,P++[fD (v::B)],eC,ja,gw,gr,hT,dV,nO,hA,hM,rfl⟩))
    ·have dU:wy=w'++[(u,i)]:=by simpa using dU
     have qz:wy.length=w'.length+1:=by rw[dU,bG];rfl
     have jd:(IntKind.i64.wrap (((wy.length+1:Nat):Int)-1)).toNat-Int.toNat 0=w'.length+1:=qq.trans qz
     have ot:IntKind.i64.wrap ((((IntKind.i64.wrap (((wy.length+1:Nat):Int)-1)).toNat-Int.toNat 0:Nat):Int)-1)=((w'.length:Nat):Int):=by rw[jd,dh (by omega)];omega
     have z6:(0+Int.toNat 0*2)+(IntKind.i64.wrap ((((IntKind.i64.wrap (((wy.length+1:Nat):Int)-1)).toNat-Int.toNat 0:Nat):Int)-1)).toNat*2+0=w'.length*2:=by rw[ot,bU];show 0+0*2+_+0=_;omega
     have oF:bC (wy++[(v,k)])++J=bC (w'++[(u,i)])++([.int .i64 v,.int .i64 k]++J):=by rw[dU,o8,dN];rfl
     have sU:dP ⟨.int .i64,1,8,[.int .i64 0]⟩ (bC (wy++[(v,k)])++J) ((0+Int.toNat 0*2)+(IntKind.i64.wrap ((((IntKind.i64.wrap (((wy.length+1:Nat):Int)-1)).toNat-Int.toNat 0:Nat):Int)-1)).toNat*2+0)=some (.int .i64 u):=iY rfl (by rw[z6,oF];exact sj rfl)
     have eP:0≤u∧u<(n:Int):=hF.tj.node u (hF.tj.sub.subset (by rw[dU];simp))
     have kr:AV.ae bw (0+Int.toNat 0*2) ((IntKind.i64.wrap (((wy.length+1:Nat):Int)-1)).toNat-Int.toNat 0) 2=.ae bw 0 (w'.length+1) 2:=by rw[jd];rfl
     have Ng:AV.ae bw 0 (w'.length+1) 2=AV.ae bw (0+Int.toNat 0*2) ((IntKind.i64.wrap (((wy.length+1:Nat):Int)-1)).toNat-Int.toNat 0) 2:=kr.symm
     refine aq (p:=(0:Int)<(((IntKind.i64.wrap (((wy.length+1:Nat):Int)-1)).toNat-Int.toNat 0:Nat):Int)) (fun c3=>?_) (fun c3=>?_)
     rotate_left
     ·rw[jd]at c3;omega
     have ze:2=2∧0≤IntKind.i64.wrap ((((IntKind.i64.wrap (((wy.length+1:Nat):Int)-1)).toNat-Int.toNat 0:Nat):Int)-1)∧IntKind.i64.wrap ((((IntKind.i64.wrap (((wy.length+1:Nat):Int)-1)).toNat-Int.toNat 0:Nat):Int)-1)<(((IntKind.i64.wrap (((wy.length+1:Nat):Int)-1)).toNat-Int.toNat 0:Nat):Int):=⟨rfl,by rw[ot];omega,by rw[ot,jd];omega⟩
     refine aH.mk ze ?_
     refine aT 5 rfl sU ?_
     refine .sched [] (upto [] 23 0) (by kernel_rfl) ?_
     refine aa 1 ?_
     refine aa 1 ?_
     refine aK ?_
     refine aT 3 rfl (e9 rfl eP.1 (by rw[hF.ll];omega)) ?_
     refine aa 1 ?_
     refine aa 0 ?_
     refine aK ?_
     refine aT 3 rfl (e9 rfl cX.1 (by rw[hF.ll];omega)) ?_
     refine aK ?_
     refine cU 3 rfl (nk rfl _ eP.1 (by rw[hF.ll];omega)) ?_
     have iL:(if lo.getD v.toNat 0<lo.getD u.toNat 0 then lo.getD v.toNat 0 else lo.getD u.toNat 0)=min (lo.getD u.toNat 0) (lo.getD v.toNat 0):=by split <;> omega
     have O5:0<A.length:=List.length_pos_of_mem (a:=u) (hT.tj.sub.subset (by rw[dU];simp))
     obtain⟨lV,o6,rfl,rfl,_⟩:=dV.pos O5
     have Nb:=FI.same (dU▸hF) he
     rw[dU]at hT
     have hE:(w,dc (bY n l) bi bl bo n (.ae lV 0 A.length 1) aD gw)::(bi,ak ix)::(bl,ak (lo.set u.toNat (if lo.getD v.toNat 0<lo.getD u.toNat 0 then lo.getD v.toNat 0 else lo.getD u.toNat 0)))::(bo,bE (eR (v::B) on))::(lV,ak A++o6)::(bw,bC (wy++[(v,k)])++J)::(gr++σ)=(w,dc (bY n l) bi bl bo n (.ae lV 0 A.length 1) aD gw)::(bi,ak ix)::(bl,ak (lo))::(bo,bE (eR (v::B) on))::(lV,ak A++o6)::(bw,bC (w'++[(u,i)])++([.int .i64 v,.int .i64 k]++J))::(gr++σ):=by rw[iL,Nb,oF]
     refine .mk ((ix,lo,eR (v::B) on,A,aD,P++[fD (v::B)]),(lV,o6,gw,gr),(w',u,i),(bw,[AV.int .i64 v,.int .i64 k]++J)) rfl ?_ ⟨⟨hT,nO⟩,hA,hM⟩ ⟨rfl,kr,trivial⟩ (.drop 0 1 (.pull [4,4,4,4,5] (aJ hE)))
     show jc (ar n l) (w'++[(u,i)])+iv (ar n l) ix n<jc (ar n l) (wy++[(v,k)])+iv (ar n l) ix n
     rw[dU,lW (ar n l) (w'++[(u,i)])];omega
   ·have OY:=fun ρ=>TC w bi bl bo n (bY n l) ix lo on aD (.ae bs 0 st.length 1) vp v ρ cX.1 cX.2 hF.li hF.ll he
    refine aB [4,4,4,4] (OY _) ?_
    refine aH.mk cH ?_
    rcases FT wy with dU | ⟨w',⟨u,i⟩,dU⟩
    ·have qz:wy.length=0:=by rw[dU];rfl
     rw[dU]at hF
     exact absurd hF.one he
    ·have dU:wy=w'++[(u,i)]:=by simpa using dU
     have qz:wy.length=w'.length+1:=by rw[dU,bG];rfl
     have jd:(IntKind.i64.wrap (((wy.length+1:Nat):Int)-1)).toNat-Int.toNat 0=w'.length+1:=qq.trans qz
     have ot:IntKind.i64.wrap ((((IntKind.i64.wrap (((wy.length+1:Nat):Int)-1)).toNat-Int.toNat 0:Nat):Int)-1)=((w'.length:Nat):Int):=by rw[jd,dh (by omega)];omega
     have z6:(0+Int.toNat 0*2)+(IntKind.i64.wrap ((((IntKind.i64.wrap (((wy.length+1:Nat):Int)-1)).toNat-Int.toNat 0:Nat):Int)-1)).toNat*2+0=w'.length*2:=by rw[ot,bU];show 0+0*2+_+0=_;omega
     have oF:bC (wy++[(v,k)])++J=bC (w'++[(u,i)])++([.int .i64 v,.int .i64 k]++J):=by rw[dU,o8,dN];rfl
     have sU:dP ⟨.int .i64,1,8,[.int .i64 0]⟩ (bC (wy++[(v,k)])++J) ((0+Int.toNat 0*2)+(IntKind.i64.wrap ((((IntKind.i64.wrap (((wy.length+1:Nat):Int)-1)).toNat-Int.toNat 0:Nat):Int)-1)).toNat*2+0)=some (.int .i64 u):=iY rfl (by rw[z6,oF];exact sj rfl)
     have eP:0≤u∧u<(n:Int):=hF.tj.node u (hF.tj.sub.subset (by rw[dU];simp))
     have kr:AV.ae bw (0+Int.toNat 0*2) ((IntKind.i64.wrap (((wy.length+1:Nat):Int)-1)).toNat-Int.toNat 0) 2=.ae bw 0 (w'.length+1) 2:=by rw[jd];rfl
     have Ng:AV.ae bw 0 (w'.length+1) 2=AV.ae bw (0+Int.toNat 0*2) ((IntKind.i64.wrap (((wy.length+1:Nat):Int)-1)).toNat-Int.toNat 0) 2:=kr.symm
     refine aq (p:=(0:Int)<(((IntKind.i64.wrap (((wy.length+1:Nat):Int)-1)).toNat-Int.toNat 0:Nat):Int)) (fun c3=>?_) (fun c3=>?_)
     rotate_left
     ·rw[jd]at c3;omega
     have ze:2=2∧0≤IntKind.i64.wrap ((((IntKind.i64.wrap (((wy.length+1:Nat):Int)-1)).toNat-Int.toNat 0:Nat):Int)-1)∧IntKind.i64.wrap ((((IntKind.i64.wrap (((wy.length+1:Nat):Int)-1)).toNat-Int.toNat 0:Nat):Int)-1)<(((IntKind.i64.wrap (((wy.length+1:Nat):Int)-1)).toNat-Int.toNat 0:Nat):Int):=⟨rfl,by rw[ot];omega,by rw[ot,jd];omega⟩
     refine aH.mk ze ?_
     refine aT 6 rfl sU ?_
     refine .sched [] (upto [] 23 0) (by kernel_rfl) ?_
     refine aa 0 ?_
     refine aa 0 ?_
     refine aK ?_
     refine aT 2 rfl (e9 rfl eP.1 (by rw[hF.ll];omega)) ?_
     refine aa 0 ?_
     refine aa 4 ?_
     refine aK ?_
     refine aT 2 rfl (e9 rfl cX.1 (by rw[hF.ll];omega)) ?_
     refine aK ?_
     refine cU 2 rfl (nk rfl _ eP.1 (by rw[hF.ll];omega)) ?_
     have iL:(if lo.getD v.toNat 0<lo.getD u.toNat 0 then lo.getD v.toNat 0 else lo.getD u.toNat 0)=min (lo.getD u.toNat 0) (lo.getD v.toNat 0):=by split <;> omega
     have hU:=FI.up (dU▸hF) (by omega) he
     have hE:(w,dc (bY n l) bi bl bo n (.ae bs 0 st.length 1) aD vp)::(bi,ak ix)::(bl,ak (lo.set u.toNat (if lo.getD v.toNat 0<lo.getD u.toNat 0 then lo.getD v.toNat 0 else lo.getD u.toNat 0)))::(bo,bE (on))::(bs,ak st++Js)::(bw,bC (wy++[(v,k)])++J)::(eK++σ)=(w,dc (bY n l) bi bl bo n (.ae bs 0 st.length 1) aD vp)::(bi,ak ix)::(bl,ak (lo.set u.toNat (min (lo.getD u.toNat 0) (lo.getD v.toNat 0))))::(bo,bE (on))::(bs,ak st++Js)::(bw,bC (w'++[(u,i)])++([.int .i64 v,.int .i64 k]++J))::(eK++σ):=by rw[iL,oF]
     refine .mk ((ix,lo.set u.toNat (min (lo.getD u.toNat 0) (lo.getD v.toNat 0)),on,st,aD,P),(bs,Js,vp,eK),(w',u,i),(bw,[AV.int .i64 v,.int .i64 k]++J)) rfl ?_ ⟨⟨hU,hP⟩,hA,hM⟩ ⟨rfl,kr,trivial⟩ (.drop 4 1 (aJ hE))
     show jc (ar n l) (w'++[(u,i)])+iv (ar n l) ix n<jc (ar n l) (wy++[(v,k)])+iv (ar n l) ix n
     rw[dU,lW (ar n l) (w'++[(u,i)])];omega
 ·intro hr
  obtain⟨ix,lo,on,hF,hA,hM,heq,O4⟩:∃ix lo on,FI n (ar n l) ix lo on [a] (dF+1) P0 [(a,0)]∧ix.getD a.toNat 0≠0∧(∀b:Nat,lK.getD b 0≠0→ix.getD b 0≠0)∧lo.getD a.toNat 0=ix.getD a.toNat 0∧∀ρ,ACalls Tryz.prog 314 [.ptr w 0,.int .i64 a] ((w,dc (bY n l) bi bl bo n uq dF fW)::(bi,ak lK)::(bl,ak wB)::(bo,bE wx)::(vQ++ρ))
    (fun r σ'=>r=.agg [.int .i64 a,.int .i64 0]∧∃bs Js,σ'=(w,dc (bY n l) bi bl bo n (.ae bs 0 [a].length 1) (dF+1) fW)::(bi,ak ix)::(bl,ak lo)::(bo,bE on)::(bs,ak [a]++Js)::ρ):=by
   have h1:=h.enter (way2:=[]) ha hf (fun v hv=>by cases hv) rfl (fun t ht=>by cases ht) (fun t ht=>by cases ht)
   refine⟨_,_,_,h1,?_,?_,?_,fun ρ=>(A4 w bi bl bo n (bY n l) lK wB [] wx dF uq fW vQ a ρ ha.1 ha.2 h.li h.ll h.kA hs (bK _) (by omega)).mono ?_⟩
   ·rw[mz,ag ⟨rfl,by rw[h.li];omega⟩];omega
   ·intro z hz
    rw[mz];split
    ·omega
    ·exact hz
   ·rw[mz,mz,ag ⟨rfl,by rw[h.ll];omega⟩,ag ⟨rfl,by rw[h.li];omega⟩]
   ·rintro _ _ ⟨rfl,BF,Eb,fh,rfl⟩
    obtain⟨bs,Js,rfl,rfl,_⟩:=fh.pos (by show 0<1;decide)
    exact⟨rfl,bs,Js,rfl⟩
  clear hf hs h
  have hle:=hF.A3
  have BT:=yO n l a
  refine .mk [] _ (O4 (iu++σ)) ?_
  rintro _ _ ⟨rfl,bs,Js,rfl⟩
  intro bw
  refine aH.mk ⟨rfl,by decide,by decide⟩ ?_
  refine .quiet (by kernel_rfl) ?_
  refine aa 0 ?_
  refine aa 1 ?_
  refine aa 0 ?_
  refine aH.mk rfl ?_
  refine cg.mk (ar n l a) (by omega) (pq ha) ?_
  refine aq (p:=(0:Int)<(ar n l a).length) (fun ab=>?_) (fun ay=>?_)
  ·have ab:0<(ar n l a).length:=by omega
   obtain⟨b,hb⟩:∃b,(ar n l a)[0]=b:=⟨_,rfl⟩
   have sZ:b∈ar n l a:=hb▸cD ab
   have dJ:=(lu.1 sZ).1
   refine .quiet (by kernel_rfl) ?_
   refine aa 1 ?_
   refine aa 0 ?_
   refine aH.mk rfl ?_
   refine cg.mk (ar n l a) (by omega) (pq ha) ?_
   refine aa 0 ?_
   refine aH.mk rfl ?_
   refine cg.mk b (by decide) ((get_some ab).trans (congrArg some hb)) ?_
   refine aa 0 ?_
   refine an 0 ?_
   refine aa 1 ?_
   refine aK ?_
   refine aT 2 rfl (e9 rfl dJ.1 (by rw[hF.li];omega)) ?_
   refine aq (p:=ix.getD b.toNat 0=0) (fun c1=>?_) (fun c1=>?_)
   ·have hN:=FI.new (w:=[]) hF ab hb dJ c1
    refine .mk [5,5,5,5,5] _ (A4 w bi bl bo n (bY n l) ix lo [a] on (dF+1) _ fW _ b ((bw,[.int .i64 a,.int .i64 1])::(iu++σ)) dJ.1 dJ.2 hF.li hF.ll hF.kA (.ae bs 1 (ak [a]) Js rfl) (by show 1≤10000;decide) (by omega)) ?_
    rintro _ _ ⟨rfl,BF,Eb,fh,rfl⟩
    obtain⟨lV,o6,rfl,rfl,_⟩:=fh.pos (by show 0<2;decide)
    intro aG
    refine yM (k:=1) (n:=1) [_,_,_,_,_,_] (.ae bw 1 (bC [(a,1)]) [] rfl) (.ae 0 aG 0 1 _ rfl (cT rfl)) rfl (by decide) (by decide) (by decide) (fun v' bN h'=>?_)
    obtain⟨o0,J2,rfl,rfl,_⟩:=h'.pos (by decide)
    refine xf hr ((ix.set b.toNat ((dF+1+1:Nat):Int),lo.set b.toNat ((dF+1+1:Nat):Int),on.set b.toNat true,[a]++[b],dF+1+1,P0),(lV,o6,fW,iu),([(a,1)],b,0),(o0,J2)) ⟨rfl,⟨⟨hN,hp⟩,?_,?_⟩,⟨rfl,rfl,trivial⟩,.drop 0 1 (aJ rfl)⟩
    ·show (ix.set b.toNat ((dF+1+1:Nat):Int)).getD a.toNat 0≠0
     rw[mz];split
     ·omega
     ·exact hA
    ·intro z hz
     show (ix.set b.toNat ((dF+1+1:Nat):Int)).getD z 0≠0
     rw[mz];split
     ·omega
     ·exact hM z hz
   ·have c1:¬(ix.getD b.toNat 0=0):=c1
    have lQ:=hF.wo b dJ.1 dJ.2
    refine aa 1 ?_
    refine aK ?_
    refine eO.kz 4 _ _ rfl (tw rfl dJ.1 (by rw[hF.kA];omega)) (fun c2=>?_) (fun c2=>?_)
    ·rw[lQ]at c2
     have hO:=FI.Iw (w:=[]) hF ab hb (fP c2)
     refine .sched [] (upto [] 28 0) (by kernel_rfl) ?_
     refine aa 1 ?_
     refine aa 0 ?_
     refine aa 1 ?_
     refine aa 0 ?_
     refine aK ?_
     refine aT 3 rfl (e9 rfl ha.1 (by rw[hF.ll];omega)) ?_
     refine aa 1 ?_
     refine aK ?_
     refine aT 2 rfl (e9 rfl dJ.1 (by rw[hF.li];omega)) ?_
     refine aK ?_
     refine cU 3 rfl (nk rfl _ ha.1 (by rw[hF.ll];omega)) ?_
     have iL:(if ix.getD b.toNat 0<lo.getD a.toNat 0 then ix.getD b.toNat 0 else lo.getD a.toNat 0)=min (lo.getD a.toNat 0) (ix.getD b.toNat 0):=by split <;> omega
     have hE:(w,dc (bY n l) bi bl bo n (.ae bs 0 [a].length 1) (dF+1) fW)::(bi,ak ix)::(bl,ak (lo.set a.toNat (if ix.getD b.toNat 0<lo.getD a.toNat 0 then ix.getD b.toNat 0 else lo.getD a.toNat 0)))::(bo,bE on)::(bs,ak [a]++Js)::(bw,bC [(a,1)]++[])::(iu++σ)=(w,dc (bY n l) bi bl bo n (.ae bs 0 [a].length 1) (dF+1) fW)::(bi,ak ix)::(bl,ak (lo.set a.toNat (min (lo.getD a.toNat 0) (ix.getD b.toNat 0))))::(bo,bE on)::(bs,ak [a]++Js)::(bw,bC [(a,1)]++[])::(iu++σ):=by rw[iL]
     exact xf hr ((ix,lo.set a.toNat (min (lo.getD a.toNat 0) (ix.getD b.toNat 0)),on,[a],dF+1,P0),(bs,Js,fW,iu),([],a,1),(bw,[])) ⟨rfl,⟨⟨hO,hp⟩,hA,hM⟩,⟨rfl,rfl,trivial⟩,.pull [5,5,5,5,5] (aJ hE)⟩
    ·rw[lQ]at c2
     have hO:=FI.off (w:=[]) hF ab hb dJ.1 c1 (sd c2)
     exact xf hr ((ix,lo,on,[a],dF+1,P0),(bs,Js,fW,iu),([],a,1),(bw,[])) ⟨rfl,⟨⟨hO,hp⟩,hA,hM⟩,⟨rfl,rfl,trivial⟩,.pull [5,5,5,5,5] (aJ rfl)⟩
  ·have ay:(ar n l a).length=0:=by omega
   refine aa 0 ?_
   intro aG
   refine an 0 ?_
   refine aa 0 ?_
   have hT:=FI.tell (w:=[]) (A:=[]) (B:=[]) (part:=fD [a]) hF (by omega) rfl heq (fun x y hy=>(lu.1 hy).1) (Ct [a]) (Gf (by simp))
   have Fs:=Gq hF.tj.prt
   have NI:((w,dc (bY n l) bi bl bo n (.ae bs 0 [a].length 1) (dF+1) fW)::(bi,ak ix)::(bl,ak lo)::(bo,bE on)::(bs,ak [a]++Js)::(iu++((aG,[AV.int .i64 a,.int .i64 0])::(bw,[AV.int .i64 a,.int .i64 0])::σ))).Perm ((aG,[AV.int .i64 a,.int .i64 0])::(bw,[AV.int .i64 a,.int .i64 0])::(w,dc (bY n l) bi bl bo n (.ae bs 0 [a].length 1) (dF+1) fW)::(bi,ak ix)::(bl,ak lo)::(bo,bE on)::(bs,ak [a]++Js)::(iu++σ)):=by
    have h1:=xa [(w,dc (bY n l) bi bl bo n (.ae bs 0 [a].length 1) (dF+1) fW),(bi,ak ix),(bl,ak lo),(bo,bE on),(bs,ak [a]++Js)] iu σ (aG,[AV.int .i64 a,.int .i64 0]) (bw,[AV.int .i64 a,.int .i64 0])
    exact h1.trans (List.Perm.cons _ (nU (l₁:=[(w,dc (bY n l) bi bl bo n (.ae bs 0 [a].length 1) (dF+1) fW),(bi,ak ix),(bl,ak lo),(bo,bE on),(bs,ak [a]++Js)])))
   refine .perm _ NI (Q7 w bi bl bo n (bY n l) ix lo [] [] on P0 (dF+1) _ fW _ iu a _ ha.1 ha.2 hF.li hF.ll hF.kA heq (by simp) (fun x hx=>by rw[List.mem_singleton.1 hx];exact ha) (by show 1≤10000;decide) (by omega) (.ae bs 1 (ak [a]) Js rfl) hp) ?_
   rintro _ _ ⟨rfl,eC,ja,gw,gr,dV,nO,rfl⟩
   have fw:((aG,[AV.int .i64 a,.int .i64 0])::(w,dc (bY n l) bi bl bo n eC (dF+1) gw)::(bi,ak ix)::(bl,ak lo)::(bo,bE (eR [a] on))::(bw,[AV.int .i64 a,.int .i64 0])::(ja++(gr++σ))).Perm ((w,dc (bY n l) bi bl bo n eC (dF+1) gw)::(bi,ak ix)::(bl,ak lo)::(bo,bE (eR [a] on))::(ja++(gr++((aG,[AV.int .i64 a,.int .i64 0])::(bw,[AV.int .i64 a,.int .i64 0])::σ)))):=by
    have h1:=(xa [(w,dc (bY n l) bi bl bo n eC (dF+1) gw),(bi,ak ix),(bl,ak lo),(bo,bE (eR [a] on))] (ja++gr) σ (aG,[AV.int .i64 a,.int .i64 0]) (bw,[AV.int .i64 a,.int .i64 0])).symm
    rw[dN,dN]at h1
    exact h1
   refine⟨_,fw,?_⟩
   refine aH.mk (by decide) ?_
   exact .drop 0 1 (.drop 4 1 (.done ⟨rfl,ix,lo,eR [a] on,dF+1,P0++[fD [a]],eC,ja,gw,gr,hT,dV,nO,hA,hM,rfl⟩))
end Go.Proofs.YtnikdflhefijbaaGreat
