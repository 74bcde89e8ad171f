import Derived.Test.YtnikdflhefijbaaGreatBn12
import Derived.Test.YtnikdflhefijbaaGreatBn5
import Derived.Test.YtnikdflhefijbaaGreatBn9
namespace Go.Proofs.YtnikdflhefijbaaGreat
open Go.RowKit
set_option maxRecDepth 100000
theorem mE{w:List Int}{i j:Nat}{x:Int}:(w.set i x).getD j 0=if i=j∧j<w.length then x else w.getD j 0:=by
 simp only[aW,e9]
 by_cases h:i=j
 ·subst h
  by_cases h2:i<w.length
  ·simp[h2]
  ·simp[h2]
 ·simp[h]
def gI(ix:List Int)(x:Int):Int:=if 0≤x then ix.getD x.toNat 0 else 0
theorem mh{ix:List Int}{x:Int}(h:0≤x):gI ix x=ix.getD x.toNat 0:=ah h
theorem A3{ix:List Int}{b v:Int}(h0:0≤b)(h1:b<ix.length):gI (ix.set b.toNat v)=pJ (gI ix) b v:=by
 funext y
 show (if 0≤y then (ix.set b.toNat v).getD y.toNat 0 else 0)=if y=b then v else if 0≤y then ix.getD y.toNat 0 else 0
 by_cases hy:0≤y
 ·rw[ah hy,aW,e9]
  by_cases e:y=b
  ·subst e;rw[ah rfl,ah (by omega),ah rfl];rfl
  ·rw[ag (by omega),ag e,ah hy,aW]
 ·rw[ag hy,ag (by omega),ag hy]
theorem aet(n:Nat)(x:Int):gI (List.replicate n 0) x=0:=by
 unfold gI
 split
 ·rw[aW,wM];split <;> rfl
 ·rfl
structure FI(n:Nat)(nx:Int→List Int)(ix lo:List Int)(on:List Bool)(st:List Int)(aF:Nat)(P:List (List Int))(gT:List (Int×Nat)):Prop where
 tj:TJ n nx (gI ix) (gI lo) st aF P (gT.map (·.1))
 vS:Prc nx (gI ix) (gI lo) st gT
 li:ix.length=n
 ll:lo.length=n
 kD:on.length=n
 vU:∀a:Int,0≤a→a<n→on.getD a.toNat false=decide (a∈st)
 tn:∀t∈gT,t.2≤(nx t.1).length
theorem Ut{on:List Bool}{b:Int}{x:Bool}(hb:0≤b)(hl:b<on.length){a:Int}(ha:0≤a):(on.set b.toNat x).getD a.toNat false=if a=b then x else on.getD a.toNat false:=by
 rw[aW,e9,aW]
 by_cases e:a=b
 ·subst e;rw[ah rfl,ah (by omega),ah rfl];rfl
 ·rw[ag (by omega),ag e]
theorem FI.start(n:Nat)(nx:Int→List Int):FI n nx (List.replicate n 0) (List.replicate n 0) (List.replicate n false) [] 0 [] []:=
 ⟨.start (aet n),fun _ h=>(by cases h),gG,gG,gG,fun a _ _=>by
  rw[List.getD_eq_getElem?_getD,List.getElem?_replicate];split <;> simp,fun _ h=>(by cases h)⟩
variable {n:Nat} {nx:Int→List Int} {ix lo:List Int} {on:List Bool} {st:List Int} {aF:Nat} {P:List (List Int)}
theorem FI.enter{gT way2:List (Int×Nat)}{b:Int}(h:FI n nx ix lo on st aF P gT)(hb:0≤b∧b<n)(hf:ix.getD b.toNat 0=0)(hW:∀v∈gT.map (·.1),Rx nx v b)(we:way2.map (·.1)=gT.map (·.1))(hp:∀t∈way2,∀y∈(nx t.1).take t.2,y=b∨(gI ix y≠0∧(y∈st→gI lo t.1≤gI ix y)))(ht:∀t∈way2,t.2≤(nx t.1).length):
  FI n nx (ix.set b.toNat ((aF+1:Nat):Int)) (lo.set b.toNat ((aF+1:Nat):Int)) (on.set b.toNat true) (st++[b]) (aF+1) P (way2++[(b,0)]):=by
 have hf:gI ix b=0:=by rw[mh hb.1];exact hf
 have eG:b ∉ st:=fun hm=>by have:=h.tj.sN b hm;omega
 have h1:=h.tj.enter hb hf hW
 refine⟨?_,?_,by rw[cM];exact h.li,by rw[cM];exact h.ll,by rw[cM];exact h.kD,fun a h0 hn=>?_,fun t oT=>?_⟩
 ·rw[A3 hb.1 (by rw[h.li];exact hb.2),A3 hb.1 (by rw[h.ll];exact hb.2),dr,we]
  exact h1
 ·rw[A3 hb.1 (by rw[h.li];exact hb.2),A3 hb.1 (by rw[h.ll];exact hb.2)]
  intro t oT y hy
  rcases bR.1 oT with oT | oT
  ·have htW:t.1∈gT.map (·.1):=we▸Pk oT
   have hts:t.1∈st:=h.tj.sub.subset htW
   have htb:t.1≠b:=fun e=>eG (e▸hts)
   rw[ql (f:=gI lo) htb]
   have hle:=(h.tj.low t.1 htW).1
   have Ow:=(h.tj.sN t.1 hts).2
   by_cases e:y=b
   ·subst e
    rw[qm]
    exact⟨by omega,fun _=>by omega⟩
   ·rw[ql e]
    obtain⟨h2,h3⟩:=(hp t oT y hy).resolve_left e
    exact⟨h2,fun hm=>h3 ((bR.1 hm).resolve_right fun hm=>e (bh.1 hm))⟩
  ·rw[bh.1 oT]at hy
   simp at hy
 ·rw[Ut hb.1 (by rw[h.kD];exact hb.2) h0]
  by_cases e:a=b
  ·subst e;rw[if_pos rfl];simp
  ·rw[if_neg e,h.vU a h0 hn];simp[e]
 ·rcases bR.1 oT with oT | oT
  ·exact ht t oT
  ·rw[bh.1 oT];exact bE _
theorem K1{l:List Int}{k:Nat}(h:k<l.length){b:Int}(hb:l[k]=b):l.take (k+1)=l.take k++[b]:=by rw[fw h,hb]
theorem LK{w:List (Int×Nat)}{a:Int}{k j:Nat}:(w++[(a,k)]).map (·.1)=(w++[(a,j)]).map (·.1):=by rw[dr,dr];rfl
theorem FI.new{w:List (Int×Nat)}{a b:Int}{k:Nat}(h:FI n nx ix lo on st aF P (w++[(a,k)]))(hk:k<(nx a).length)(hb:(nx a)[k]=b)(dK:0≤b∧b<n)(hf:ix.getD b.toNat 0=0):
  FI n nx (ix.set b.toNat ((aF+1:Nat):Int)) (lo.set b.toNat ((aF+1:Nat):Int)) (on.set b.toNat true) (st++[b]) (aF+1) P ((w++[(a,k+1)])++[(b,0)]):=by
 have OS:b∈nx a:=hb▸bX hk
 have OU:a∈(w++[(a,k)]).map (·.1):=dL.2 ⟨(a,k),jE _ (bh.2 rfl),rfl⟩
 have mn:=h.tj.sub
 have sG:∀v∈w.map (·.1),gI ix v<gI ix a:=by
  refine C7 h.tj.inc ?_
  rw[dr]at mn;exact mn
 refine h.enter dK hf (fun v hv=>?_) LK (fun t ht y hy=>?_) fun t ht=>?_
 ·refine (h.tj.zH v hv a (mn.subset OU) ?_).trans (.one OS)
  rw[dr]at hv
  rcases bR.1 hv with hv | hv
  ·have:=sG v hv;omega
  ·rw[bh.1 hv];exact jD _
 ·rcases bR.1 ht with ht | ht
  ·exact .inr (h.vS t (gN _ ht) y hy)
  ·rw[bh.1 ht]at hy ⊢
   rw[K1 hk hb]at hy
   rcases bR.1 hy with hy | hy
   ·exact .inr (h.vS (a,k) (jE _ (bh.2 rfl)) y hy)
   ·exact .inl (bh.1 hy)
 ·rcases bR.1 ht with ht | ht
  ·exact h.tn t (gN _ ht)
  ·rw[bh.1 ht];exact hk
theorem FI.off{w:List (Int×Nat)}{a b:Int}{k:Nat}(h:FI n nx ix lo on st aF P (w++[(a,k)]))(hk:k<(nx a).length)(hb:(nx a)[k]=b)(dK:0≤b)(hf:ix.getD b.toNat 0≠0)(hs:b ∉ st):FI n nx ix lo on st aF P (w++[(a,k+1)]):=by
 refine⟨by rw[LK (j:=k)];exact h.tj,fun t ht y hy=>?_,h.li,h.ll,h.kD,h.vU,fun t ht=>?_⟩
 ·rcases bR.1 ht with ht | ht
  ·exact h.vS t (gN _ ht) y hy
  ·rw[bh.1 ht]at hy ⊢
   rw[K1 hk hb]at hy
   rcases bR.1 hy with hy | hy
   ·exact h.vS (a,k) (jE _ (bh.2 rfl)) y hy
   ·rw[bh.1 hy,mh dK]
    exact⟨hf,fun hm=>absurd hm hs⟩
 ·rcases bR.1 ht with ht | ht
  ·exact h.tn t (gN _ ht)
  ·rw[bh.1 ht];exact hk
theorem FI.Iy{w:List (Int×Nat)}{a b:Int}{k:Nat}(h:FI n nx ix lo on st aF P (w++[(a,k)]))(hk:k<(nx a).length)(hb:(nx a)[k]=b)(hs:b∈st):FI n nx ix (lo.set a.toNat (min (lo.getD a.toNat 0) (ix.getD b.toNat 0))) on st aF P (w++[(a,k+1)]):=by
 have OS:b∈nx a:=hb▸bX hk
 have dK:=h.tj.node b hs
 have OU:a∈(w++[(a,k)]).map (·.1):=dL.2 ⟨(a,k),jE _ (bh.2 rfl),rfl⟩
 have mn:=h.tj.sub
 have s6:=h.tj.node a (mn.subset OU)
 have cf:((w++[(a,k)]).map (·.1)).Nodup:=(uI h.tj.inc).sublist mn
 have haw:∀t∈w,t.1≠a:=fun t ht e=>by
  rw[dr]at cf
  exact (o7.1 cf).2.2 t.1 (Pk ht) a (bh.2 rfl) e
 have iB:=h.tj
 rw[dr]at iB
 have h1:=iB.lower (z:=b) hs (.one OS)
 have E5:gI (lo.set a.toNat (min (lo.getD a.toNat 0) (ix.getD b.toNat 0)))=pJ (gI lo) a (min (gI lo a) (gI ix b)):=by rw[A3 s6.1 (by rw[h.ll];exact s6.2),mh s6.1,mh dK.1]
 refine⟨by rw[E5,LK (j:=k),dr];exact h1,fun t ht y hy=>?_,h.li,by rw[cM];exact h.ll,h.kD,h.vU,fun t ht=>?_⟩
 ·rw[E5]
  rcases bR.1 ht with ht | ht
  ·rw[ql (haw t ht)]
   exact h.vS t (gN _ ht) y hy
  ·rw[bh.1 ht]at hy ⊢
   rw[K1 hk hb]at hy
   rw[qm]
   rcases bR.1 hy with hy | hy
   ·obtain⟨h2,h3⟩:=h.vS (a,k) (jE _ (bh.2 rfl)) y hy
    have h3:y∈st→gI lo a≤gI ix y:=h3
    exact⟨h2,fun hm=>by have:=h3 hm;omega⟩
   ·rw[bh.1 hy]
    have:=h.tj.sN b hs
    exact⟨by omega,fun _=>by omega⟩
 ·rcases bR.1 ht with ht | ht
  ·exact h.tn t (gN _ ht)
  ·rw[bh.1 ht];exact hk
theorem FI.all{w:List (Int×Nat)}{a:Int}{k:Nat}(h:FI n nx ix lo on st aF P (w++[(a,k)]))(hk:(nx a).length≤k):∀y∈nx a,gI ix y≠0∧(y∈st→gI lo a≤gI ix y):=fun y hy=>
 h.vS (a,k) (jE _ (bh.2 rfl)) y (by rw[fe hk];exact hy)
theorem abp{l:List Int}{i:Nat}:l.set i (l.getD i 0)=l:=by
 refine zU fun j=>?_
 rw[e9]
 by_cases e:i=j
 ·subst e
  by_cases hl:i<l.length
  ·rw[ah rfl,ah hl,aW,bj hl];rfl
  ·rw[ah rfl,ag hl,uF (by omega)]
 ·rw[ag e]
theorem FI.up{w:List (Int×Nat)}{u v:Int}{i k:Nat}(h:FI n nx ix lo on st aF P ((w++[(u,i)])++[(v,k)]))(hk:(nx v).length≤k)(aQ:lo.getD v.toNat 0≠ix.getD v.toNat 0):FI n nx ix (lo.set u.toNat (min (lo.getD u.toNat 0) (lo.getD v.toNat 0))) on st aF P (w++[(u,i)]):=by
 have iB:=h.tj
 rw[dr,dr]at iB
 have Jm:u∈(w.map (·.1)++[u]++[v]):=by simp
 have Ji:v∈(w.map (·.1)++[u]++[v]):=by simp
 have fq:=iB.node u (iB.sub.subset Jm)
 have dy:=iB.node v (iB.sub.subset Ji)
 have cf:(w.map (·.1)++[u]++[v]).Nodup:=(uI iB.inc).sublist iB.sub
 have huw:∀t∈w,t.1≠u:=fun t ht e=>(o7.1 (o7.1 cf).1).2.2 t.1 (Pk ht) u (bh.2 rfl) e
 have fC:=(iB.low v Ji).1
 have ab:gI lo v<gI ix v:=by
  rw[mh dy.1,mh dy.1]at fC ⊢;omega
 have h1:=iB.up (u:=u) (v:=v) (w:=w.map (·.1)) ab (h.all hk)
 have E5:gI (lo.set u.toNat (min (lo.getD u.toNat 0) (lo.getD v.toNat 0)))=pJ (gI lo) u (min (gI lo u) (gI lo v)):=by rw[A3 fq.1 (by rw[h.ll];exact fq.2),mh fq.1,mh dy.1]
 refine⟨by rw[E5,dr];exact h1,fun t ht y hy=>?_,h.li,by rw[cM];exact h.ll,h.kD,h.vU,fun t ht=>h.tn t (gN _ ht)⟩
 rw[E5]
 obtain⟨h2,h3⟩:=h.vS t (gN _ ht) y hy
 refine⟨h2,fun hm=>?_⟩
 have:=h3 hm
 by_cases e:t.1=u
 ·rw[e]at this ⊢;rw[qm];omega
 ·rw[ql e];exact this
def eV(part:List Int)(on:List Bool):List Bool:=part.foldl (fun on b=>on.set b.toNat false) on
theorem Gf:∀(part:List Int) (on:List Bool),(eV part on).length=on.length
 | [],_=>rfl
 |b::part,on=>by
  show (eV part (on.set b.toNat false)).length=_
  rw[Gf part,cM]
theorem SM{a:Int}(ha:0≤a):∀(part:List Int) (on:List Bool),(∀b∈part,0≤b∧b<on.length)→(eV part on).getD a.toNat false=if a∈part then false else on.getD a.toNat false
 | [],_,_=>by simp[eV]
 |b::part,on,h=>by
  have hb:=h b (bU ..)
  show (eV part (on.set b.toNat false)).getD a.toNat false=_
  rw[SM ha part _ fun c hc=>by rw[cM];exact h c (cQ _ hc),Ut hb.1 hb.2 ha]
  by_cases h1:a∈part
  ·rw[ah h1,ah (cQ _ h1)]
  ·rw[ag h1]
   by_cases h2:a=b
   ·rw[ah h2,ah (by rw[h2];exact bU ..)]
   ·rw[ag h2,ag (by rw[dA];exact fun h=>h.elim h2 h1)]
theorem FI.tell{w:List (Int×Nat)}{v:Int}{k:Nat}{A B part:List Int}(h:FI n nx ix lo on st aF P (w++[(v,k)]))(hk:(nx v).length≤k)(an:st=A++v::B)(heq:lo.getD v.toNat 0=ix.getD v.toNat 0)(dc:∀x y,y∈nx x→0≤y∧y<n)(hp:part.Perm (v::B))(hs:part.Pairwise (· < ·)):FI n nx ix lo (eV (v::B) on) A aF (P++[part]) w:=by
 have iB:=h.tj
 rw[dr]at iB
 have dy:=iB.node v (by rw[an];simp)
 have h1:=iB.tell (w:=w.map (·.1)) (part:=part) an (by rw[mh dy.1,mh dy.1];exact heq) (h.all hk) dc hp hs
 have uw:∀x∈A,x∈st:=fun x hx=>by rw[an];exact gN _ hx
 refine⟨h1,fun t ht y hy=>?_,h.li,h.ll,by rw[Gf];exact h.kD,fun a h0 hn=>?_,fun t ht=>h.tn t (gN _ ht)⟩
 ·obtain⟨h2,h3⟩:=h.vS t (gN _ ht) y hy
  exact⟨h2,fun hm=>h3 (uw y hm)⟩
 ·rw[SM h0 _ _ fun b hb=>by rw[h.kD];exact iB.node b (by rw[an];exact jE _ hb),h.vU a h0 hn]
  have cf:=uI iB.inc
  rw[an]at cf
  by_cases hm:a∈v::B
  ·rw[ah hm]
   exact (bH fun hA=>(o7.1 cf).2.2 a hA a hm rfl).symm
  ·rw[ag hm]
   refine Bool.eq_iff_iff.2 ?_
   rw[decide_eq_true_eq,decide_eq_true_eq,an,bR]
   exact⟨fun h=>h.resolve_right hm,.inl⟩
theorem FI.same{w:List (Int×Nat)}{u v:Int}{i k:Nat}(h:FI n nx ix lo on st aF P ((w++[(u,i)])++[(v,k)]))(heq:lo.getD v.toNat 0=ix.getD v.toNat 0):lo.set u.toNat (min (lo.getD u.toNat 0) (lo.getD v.toNat 0))=lo:=by
 have iB:=h.tj
 rw[dr,dr]at iB
 have Jm:u∈(w.map (·.1)++[u]++[v]):=by simp
 have Ji:v∈(w.map (·.1)++[u]++[v]):=by simp
 have fq:=iB.node u (iB.sub.subset Jm)
 have dy:=iB.node v (iB.sub.subset Ji)
 have h1:=(iB.low u Jm).1
 have h2:=C7 iB.inc iB.sub u (by simp)
 rw[mh fq.1,mh fq.1]at h1
 rw[mh fq.1,mh dy.1]at h2
 rw[show min (lo.getD u.toNat 0) (lo.getD v.toNat 0)=lo.getD u.toNat 0 by omega]
 exact abp
theorem FI.U4(h:FI n nx ix lo on st aF P []):st=[]:=h.tj.empty
theorem FI.one{v:Int}{k:Nat}(h:FI n nx ix lo on st aF P [(v,k)]):lo.getD v.toNat 0=ix.getD v.toNat 0:=by
 have dy:=h.tj.node v (h.tj.sub.subset (by simp))
 have:=h.tj.first
 rw[mh dy.1,mh dy.1]at this
 exact this
theorem FI.mem{w:List (Int×Nat)}{v:Int}{k:Nat}(h:FI n nx ix lo on st aF P (w++[(v,k)])):v∈st:=h.tj.sub.subset (by simp)
theorem FI.A6{gT:List (Int×Nat)}(h:FI n nx ix lo on st aF P gT):aF≤n∧st.length≤n∧P.flatten.length≤n:=by
 have cf:(P.flatten++st).Nodup:=o7.2 ⟨h.tj.prt.nd,uI h.tj.inc,fun x hx y hy e=>by
  subst e
  obtain⟨p,hp,rZ⟩:=nf.1 hx
  exact h.tj.z8 p hp x rZ hy⟩
 have hn:∀z∈P.flatten++st,0≤z∧z<(n:Int):=fun z hz=>by
  rcases bR.1 hz with hz | hz
  ·obtain⟨p,hp,hz⟩:=nf.1 hz
   exact h.tj.prt.node p hp z hz
  ·exact h.tj.node z hz
 have mn:=Lx cf (m:=(List.range n).map fun i:Nat=>(i:Int)) fun z hz=>dL.2 ⟨z.toNat,gb.2 (by have:=hn z hz;omega),by have:=hn z hz;omega⟩
 rw[bV,cj,l0]at mn
 have:=h.tj.len
 omega
def jb(nx:Int→List Int)(gT:List (Int×Nat)):Nat:=(gT.map fun t=>(nx t.1).length+1-t.2).sum
def iw(nx:Int→List Int)(ix:List Int)(n:Nat):Nat:=((List.range n).map fun a:Nat=>if ix.getD a 0=0 then (nx a).length+2 else 0).sum
theorem l9(nx:Int→List Int)(w:List (Int×Nat))(a:Int)(k:Nat):jb nx (w++[(a,k)])=jb nx w+((nx a).length+1-k):=by unfold jb;simp
theorem Rr(nx:Int→List Int)(ix:List Int)(n:Nat):iw nx ix (n+1)=iw nx ix n+if ix.getD n 0=0 then (nx n).length+2 else 0:=by unfold iw;rw[List.range_succ];simp
theorem LC{nx:Int→List Int}{ix:List Int}{b:Nat}{v:Int}(hv:v≠0)(hf:ix.getD b 0=0)(hb:b<ix.length):∀n,iw nx (ix.set b v) n+(if b<n then (nx b).length+2 else 0)=iw nx ix n
 | 0=>rfl
 |n+1=>by
  have ih:=LC (nx:=nx) hv hf hb n
  rw[Rr,Rr]
  have hg:(ix.set b v).getD n 0=if b=n then v else ix.getD n 0:=by
   rw[aW,e9]
   by_cases e:b=n
   ·subst e;rw[ah rfl,ah hb,ah rfl];rfl
   ·rw[ag e,ag e,aW]
  rw[hg]
  by_cases e:b=n
  ·subst e
   rw[ah rfl,ag hv,ah hf,ah (by omega)]
   rw[ag (by omega)]at ih
   omega
  ·rw[ag e]
   by_cases c:b<n
   ·have e2:(if b<n+1 then (nx b).length+2 else 0)=(nx b).length+2:=ah (by omega)
    rw[ah c]at ih;rw[e2];omega
   ·have e2:(if b<n+1 then (nx b).length+2 else 0)=0:=ag (by omega)
    rw[ag c]at ih;rw[e2];omega
theorem Acc.xQ{e k:Nat}{v:AV}{acc:Hp}{cs:List AV}(h:Acc e k v acc cs):Acc e k (bP v) acc cs:=by
 cases h with
 |nil=>exact .nil
 |af b k cs h=>exact .af b k cs h
theorem abo{α:Type}(l:List α)(x y:α){k:Nat}(h:k=l.length):(l++[x]).set k y=l++[y]:=by subst h;simp
theorem acf{α:Type}(l:List α)(x:α){k:Nat}(h:k=l.length):(l++[x])[k]?=some x:=by subst h;simp
theorem tB{k:Nat}{v:AV}{acc:Hp}{cs:List AV}(h0:0<k)(h:Acc 1 k v acc cs):∃b,v=.af b 0 k 1∧acc=[(b,cs)]:=by
 cases h with
 |nil=>omega
 |af b k cs h=>exact⟨b,rfl,rfl⟩
theorem uK(P:List (List Int)):(cz P).length=P.length:=cj _
theorem aca{l:List Int}{J:List AV}{k:Nat}(h:k<l.length):(ao l++J)[k]?=some (.int .i64 (l.getD k 0)):=by
 rw[kh (by rw[Mq];exact h)]
 unfold ao
 rw[fm,aW,bj h];rfl
theorem UR(b k:Nat)(A B:List Int)(J:List AV)(x:Int)(σ:Hp)(hk:(A++x::B).length=k)(hx:x ∉ A)(hl:k≤1000000):ACalls Tryz.prog 287 [.af b 0 k 1,.int .i64 x] ((b,ao (A++x::B)++J)::σ) (aB (.int .i64 A.length) ((b,ao (A++x::B)++J)::σ)):=by
 have hkA:A.length<k:=by rw[← hk,bV,gq];omega
 refine au Tryz.func287 ?_
 refine cc (S:=Nat) (fun s=>[(0,.af b 0 k 1),(1,.int .i64 x),(7,.int .i64 k),(8,.int .i64 s)]) (fun _=>(b,ao (A++x::B)++J)::σ) (fun s=>s≤A.length) (fun s=>A.length-s) 0 ⟨bE _,⟨rfl,rfl,rfl,rfl,trivial⟩,rfl⟩ ?_
 rintro i t eD
 have hi:i≤A.length:=eD
 clear eD
 refine ak (p:=(i:Int)<k) (fun ab=>?_) (fun aq=>?_)
 ·have hg:=aca (l:=A++x::B) (J:=J) (k:=i) (by omega)
  obtain⟨y,hy⟩:∃y,(A++x::B).getD i 0=y:=⟨_,rfl⟩
  rw[hy]at hg
  refine aK ?_
  refine aZ 0 rfl (iV rfl (by rw[dM,er,bO];exact hg)) ?_
  refine ak (fun c=>?_) (fun c=>?_)
  ·have c:x=y:=c
   refine .done ⟨?_,rfl⟩
   by_cases e:i=A.length
   ·subst e;rfl
   ·have:y∈A:=by
     rw[← hy,aW,kh (by omega),bj (by omega)]
     exact bX _
    exact absurd (c▸this) hx
  ·have c:¬x=y:=c
   have aQ:i≠A.length:=fun e=>by
    subst e
    refine c ?_
    rw[← hy,aW,iQ (aR _),qY];rfl
   exact bg (i+1) (by show A.length-(i+1)<A.length-i;omega) (by show i+1≤A.length;omega) ⟨rfl,rfl,rfl,a8 (by omega),trivial⟩ (.refl _)
 ·omega
theorem UU(b off k:Nat)(C cs:List AV)(σ:Hp)(h:(C.drop off).take (k*1)=cs)(h2:off+k*1≤C.length)(hl:k≤1000000):ACalls Tryz.prog 220 [.af b off k 1] ((b,C)::σ) (fun x σ'=>∃b',x=.af b' 0 k 1∧σ'=(b',cs)::(b,C)::σ):=by
 refine au Tryz.func220 ?_
 intro b2
 refine AppendAt.more 0 b2 0 k [] ((C.drop off).take (k*1)) rfl rfl (cR rfl) (.mem (cQ _ (bU ..)) h2) (by omega) (by decide) (by decide) (fun b'=>?_)
 refine .done ⟨b',by rw[dM];rfl,?_⟩
 rw[h];rfl
theorem TA(w bi bl bo n:Nat)(N:List (List Int))(ix lo:List Int)(on:List Bool)(aF:Nat)(vs vp:AV)(a:Int)(σ:Hp)(h0:0≤a)(hn:a<n)(hi:ix.length=n)(hl:lo.length=n)(aQ:lo.getD a.toNat 0≠ix.getD a.toNat 0):
  ACalls Tryz.prog 315 [.ptr w 0,.int .i64 a] ((w,dp N bi bl bo n vs aF vp)::(bi,ao ix)::(bl,ao lo)::(bo,bJ on)::σ) (aB (.tup []) ((w,dp N bi bl bo n vs aF vp)::(bi,ao ix)::(bl,ao lo)::(bo,bJ on)::σ)):=by
 refine au Tryz.func315 ?_
 refine .quiet (by kernel_rfl) ?_
 refine aa 0 ?_
 refine aK ?_
 refine aZ 2 rfl (fg rfl h0 (by omega)) ?_
 refine aa 0 ?_
 refine aK ?_
 refine aZ 1 rfl (fg rfl h0 (by omega)) ?_
 refine cI (fun c=>?_) (fun c=>?_)
 ·exact .done ⟨rfl,rfl⟩
 ·exact absurd (by simpa using c) aQ
theorem Q9(w bi bl bo n:Nat)(N:List (List Int))(ix lo A B:List Int)(on:List Bool)(P:List (List Int))(aF:Nat)(vs vp:AV)(lM eM:Hp)(a:Int)(σ:Hp)(h0:0≤a)(hn:a<n)(hi:ix.length=n)(hl:lo.length=n)(ho:on.length=n)(he:lo.getD a.toNat 0=ix.getD a.toNat 0)(OV:a ∉ A)(hB:∀x∈a::B,0≤x∧x<n)(cY:(A++a::B).length≤10000)(sW:P.length≤10000)
  (hs:iy 1 (A++a::B).length vs lM (ao (A++a::B))) (hp:Acc 1 P.length vp eM (cz P)) :
  ACalls Tryz.prog 315 [.ptr w 0,.int .i64 a] ((w,dp N bi bl bo n vs aF vp)::(bi,ao ix)::(bl,ao lo)::(bo,bJ on)::(lM++(eM++σ)))
   (fun r σ'=>r=.tup []∧∃eE iZ gD gy,iy 1 A.length eE iZ (ao A)∧Acc 1 (P++[fF (a::B)]).length gD gy (cz (P++[fF (a::B)]))∧σ'=(w,dp N bi bl bo n eE aF gD)::(bi,ao ix)::(bl,ao lo)::(bo,bJ (eV (a::B) on))::(iZ++(gy++σ))):=by
 obtain⟨K,hK⟩:∃K,(A++a::B).length=K:=⟨_,rfl⟩
 obtain⟨L,hL⟩:∃L:List Int,a::B=L:=⟨_,rfl⟩
 obtain⟨q,hq⟩:∃q,L.length=q:=⟨_,rfl⟩
 have hKA:K=A.length+q:=by rw[← hK,bV,hL,hq]
 have hq0:0<q:=by rw[← hq,← hL,gq];omega
 rw[hK]at hs cY
 obtain⟨bs,J,rfl,rfl,O7⟩:=hs.pos (by omega)
 have kx:((ao (A++a::B)++J).drop A.length).take (q*1)=ao L:=by
  rw[hL]
  unfold ao
  rw[dr,dQ,Pv (by rw[cj];exact aR _),FU (by rw[cj];exact aR _),ye,Kg (by rw[cj];omega),fe (by rw[cj];omega)]
 have ef:A.length+q*1≤(ao (A++a::B)++J).length:=by rw[bV,O7];omega
 refine au Tryz.func315 ?_
 refine .quiet (by kernel_rfl) ?_
 refine aa 0 ?_
 refine aK ?_
 refine aZ 2 rfl (fg rfl h0 (by omega)) ?_
 refine aa 0 ?_
 refine aK ?_
 refine aZ 1 rfl (fg rfl h0 (by omega)) ?_
 refine cI (fun c=>?_) (fun c=>?_)
 ·exact absurd he (by simpa using c)
 clear c
 refine aa 0 ?_
 refine az [4] (UR bs K A B J a _ hK OV (by omega)) ?_
 refine aa 1 ?_
 refine aG.mk ⟨by omega,by omega,by omega,rfl⟩ ?_
 have hC:∀σ,ACalls Tryz.prog 220 [.af bs (0+((A.length:Nat):Int).toNat*1) (((K:Nat):Int).toNat-((A.length:Nat):Int).toNat) 1] ((bs,ao (A++a::B)++J)::σ) (fun x σ'=>∃b',x=.af b' 0 q 1∧σ'=(b',ao L)::(bs,ao (A++a::B)++J)::σ):=fun σ=>by
  rw[show 0+((A.length:Nat):Int).toNat*1=A.length by omega,show ((K:Nat):Int).toNat-((A.length:Nat):Int).toNat=q by omega]
  exact UU bs A.length q _ _ σ kx ef (by omega)
 refine .mk [0] _ (hC _) ?_
 rintro _ _ ⟨bp,rfl,rfl⟩
 refine aa 2 ?_
 refine aG.mk ⟨by omega,by omega,by omega,by omega,rfl⟩ ?_
 refine aj 2 ?_
 refine cc (S:=Nat) (fun i=>[(0,.ptr w 0),(5,.af bp 0 q 1),(46,.af bp 0 q 1),(47,.int .i64 q),(48,.int .i64 i)]) (fun i=>(bp,ao L)::(bs,ao (A++a::B)++J)::(w,dp N bi bl bo n (.af bs 0 A.length 1) aF vp)::(bi,ao ix)::(bl,ao lo)::(bo,bJ (eV (L.take i) on))::(eM++σ)) (fun i=>i≤q) (fun i=>q-i) 0 ⟨bE _,⟨rfl,rfl,rfl,rfl,rfl,trivial⟩,rfl⟩ ?_
 rintro i g eD
 have hiq:i≤q:=eD
 clear eD
 refine ak (p:=(i:Int)<q) (fun ab=>?_) (fun aq=>?_)
 ·have ab:i<L.length:=by omega
  obtain⟨x,hx⟩:∃x,L[i]=x:=⟨_,rfl⟩
  have E2:=hB x (by rw[hL,← hx];exact bX ab)
  have nQ:=Gf (L.take i) on
  have NJ:(eV (L.take i) on).set x.toNat false=eV (L.take (i+1)) on:=by unfold eV;rw[fw ab,hx,s9];rfl
  have nO:eg ⟨.int .i64,1,8,[.int .i64 0]⟩ (ao L) (0+((i:Nat):Int).toNat*1)=some (.int .i64 x):=by
   rw[fg rfl (by omega) (by omega),bO,aW,bj ab,hx];rfl
  refine aK ?_
  refine aZ 0 rfl nO ?_
  refine aa 2 ?_
  refine aK ?_
  refine da 5 rfl (yH rfl false E2.1 (by omega)) ?_
  exact bg (i+1) (by show q-(i+1)<q-i;omega) (by show i+1≤q;omega) ⟨rfl,rfl,rfl,rfl,a8 (by omega),trivial⟩ (aN (by rw[NJ];rfl))
 ·have aq:i=q:=by omega
  subst aq
  refine az [0] (MU bp L i _ hq (by omega)) ?_
  refine aa 2 ?_
  intro du
  refine Ai [_,_,_,_,_,_,_] hp.xQ (.af 0 du 0 1 _ rfl (cR rfl)) rfl (by omega) (by decide) (by decide) (fun v' bQ h'=>?_)
  obtain⟨b5,rfl,rfl⟩:=tB (by omega) h'
  refine aj 3 ?_
  have hgs:=acf (cz P) (AV.af bp 0 i 1) (k:=P.length) (uK P).symm
  have hss:=abo (cz P) (AV.af bp 0 i 1) (.ae (.int .i64) (fF L)) (k:=P.length) (uK P).symm
  refine .j6 1 bp 0 i 1 _ (.int .i64) (fF L) rfl (by rw[iP,fe (by rw[nj,Ag,er];omega)];exact xa _) ⟨(Ag L).trans hq,rfl,by decide⟩ 6 P.length b5 _ rfl hgs ?_
  refine .drop 0 1 (.perm (eS [_,_,_,_] [_] _).symm (.done ⟨rfl,.af bs 0 A.length 1,[(bs,ao A++(ao L++J))],.af b5 0 (P.length+1) 1,[(b5,cz (P++[fF L]))],.af bs A.length (ao A) (ao L++J) (by rw[nj,er]),?_,?_⟩))
  ·subst hL
   rw[bV]
   exact .af b5 (P.length+1) (cz (P++[fF (a::B)])) ((uK _).trans (by rw[bV,er];rfl))
  ·rw[fe (yc hq)]
   subst hL
   have e1:ao (A++a::B)++J=ao A++(ao (a::B)++J):=by unfold ao;rw[dr,dQ]
   have e2:cz (P++[fF (a::B)])=cz P++[.ae (.int .i64) (fF (a::B))]:=dr
   rw[e1,e2,← hss]
   rfl
def bF(l:List (Int×Nat)):List AV:=l.flatMap fun t=>[.int .i64 t.1,.int .i64 t.2]
theorem mD:∀l:List (Int×Nat),(bF l).length=l.length*2
 | []=>rfl
 |t::l=>by
  show ([AV.int .i64 t.1,.int .i64 t.2]++bF l).length=_
  rw[bV,mD l,gq]
  show 2+l.length*2=(l.length+1)*2
  omega
theorem pg(l m:List (Int×Nat)):bF (l++m)=bF l++bF m:=yj
theorem sk{w:List (Int×Nat)}{v:Int}{k:Nat}{J:List AV}{m:Nat}(hm:m=w.length):(bF (w++[(v,k)])++J)[m*2]?=some (.int .i64 v):=by
 subst hm
 rw[pg,dQ,iQ (by rw[mD];omega),mD,qY];rfl
theorem CO{w:List (Int×Nat)}{v:Int}{k:Nat}{J:List AV}{m:Nat}(hm:m=w.length):(bF (w++[(v,k)])++J)[m*2+1]?=some (.int .i64 k):=by
 subst hm
 rw[pg,dQ,iQ (by rw[mD];omega),mD,Ka];rfl
theorem C2{w:List (Int×Nat)}{v:Int}{k:Nat}{J:List AV}{m:Nat}(hm:m=w.length):(bF (w++[(v,k)])++J).set (m*2+1) (.int .i64 ((k+1:Nat):Int))=bF (w++[(v,k+1)])++J:=by
 subst hm
 rw[pg,pg,dQ,dQ,Kk _ _ (by rw[mD];omega),mD,Ka];rfl
def ca(n:Nat)(l:List bA):List (List Int):=(List.range n).map fun a:Nat=>ar n l a
theorem px{n:Nat}{l:List bA}{a:Int}(h:0≤a∧a<n):(ca n l)[a.toNat]?=some (ar n l a):=by
 unfold ca
 rw[fm,wI (by omega)]
 show some (ar n l (a.toNat:Int))=_
 rw[lB h.1]
theorem Cy(zs:List Int):(fF zs).Perm zs:=List.mergeSort_perm _ _
theorem Gc{zs:List Int}(h:zs.Nodup):(fF zs).Pairwise (· < ·):=((PY zs).and ((Cy zs).nodup_iff.2 h)).imp fun h=>by omega
theorem Gm{n:Nat}{nx:Int→List Int}{P:List (List Int)}(h:rh n nx P):P.length≤P.flatten.length:=by
 have:=h.ne
 clear h
 induction P with
 |nil=>exact aR _
 |cons p P ih=>
  have h1:=mB.2 (this p (bU ..))
  have h2:=ih fun q hq=>this q (cQ _ hq)
  rw[Cg,bV,gq];omega
theorem TZ{i:TI}(hw:i.wide=true){cs v:List AV}{off:Nat}(h:off+i.size≤cs.length)(hv:(cs.drop off).take i.size=v):eg i cs off=some (.agg v):=by
 unfold eg
 rw[hw]
 show (match Nat.ble (off+i.size) cs.length with | true=>some (AV.agg ((cs.drop off).take i.size)) | false=>none)=_
 rw[Kn h,hv]
theorem QA{w:List (Int×Nat)}{v:Int}{k:Nat}{J:List AV}{m:Nat}(hm:m=w.length):((bF (w++[(v,k)])++J).drop (m*2)).take 2=[.int .i64 v,.int .i64 k]:=by
 subst hm
 rw[pg,dQ,Pv (by rw[mD];exact aR _),FU (by rw[mD];exact aR _)];rfl
theorem wT(X a σ:Hp)(x y:Nat×List AV):(X++(a++(x::y::σ))).Perm (x::(X++(y::(a++σ)))):=by
 have h1:(a++(x::y::σ)).Perm (x::y::(a++σ)):=nX.trans (List.Perm.cons _ nX)
 exact (List.Perm.append_left X h1).trans nX
def DO(rec:Go.Code→Tm→Hp→(Ex→Tm→Hp→Prop)→Prop)(c:Go.Code){S:Type}(fZ:S→Nat)(L:S→List (Nat×AV))(H:S→Hp)(p:S→Prop)(μ:S→Nat)(Q:Ex→Tm→Hp→Prop):Prop:=
 ∀s g,p s→(match findLabel c (fZ s) with | some r=>rec r (eN g (L s)) (H s) (fun e t' σ'=>match e with | .goto l'=>rM fZ L H p μ s l' t' σ' | e=>Q e t' σ') | none=>False)
theorem Qy{P:Program}{TT:TypeId→Option TI}{fn:Go.Func}{c:Go.Code}{xs:List AV}{σ:Hp}{R:AV→Hp→Prop}{S:Type}(hb:fn.body=some (.scope c))(fZ:S→Nat)(L:S→List (Nat×AV))(H:S→Hp)(p:S→Prop)(μ:S→Nat)
  (hr:DO (mL P TT 999) c fZ L H p μ (vu TT fn.results.toList R))
  (h:DO (mL P TT 999) c fZ L H p μ (vu TT fn.results.toList R)→codeF P TT (mL P TT 999) (.scope c) (t0 xs) σ (vu TT fn.results.toList R)):tS P TT fn xs σ R:=by
 have h1:mL P TT 1000 (.scope c) (t0 xs) σ (vu TT fn.results.toList R):=h hr
 unfold tS
 rw[hb]
 exact h1
theorem wX{rec:Go.Code→Tm→Hp→(Ex→Tm→Hp→Prop)→Prop}{c:Go.Code}{S:Type}{fZ:S→Nat}{L:S→List (Nat×AV)}{H:S→Hp}{p:S→Prop}{μ:S→Nat}{Q:Ex→Tm→Hp→Prop}{t:Tm}{σ:Hp}{l:Nat}(hr:DO rec c fZ L H p μ Q)(s0:S)(h0:l=fZ s0∧p s0∧agree t (L s0)∧jh σ (H s0)):
  rN (fun l t σ Q=>match findLabel c l with | some r=>rec r t σ Q | none=>False) l Q t σ:=.loop fZ L H p μ s0 h0 hr
abbrev FrS:=(List Int×List Int×List Bool×List Int×Nat×List (List Int))×(Nat×List AV×AV×Hp)×(List (Int×Nat)×Int×Nat)×(Nat×List AV)
theorem aho(n w bi bl bo:Nat)(l:List bA)(lP vY:List Int)(vV:List Bool)(dI:Nat)(P0:List (List Int))(ue fY:AV)(vw iv:Hp)(a:Int)(σ:Hp)(hn:n≤1000)(h:FI n (ar n l) lP vY vV [] dI P0 [])(ha:0≤a∧a<n)(hf:lP.getD a.toNat 0=0)(hs:iy 1 0 ue vw [])(hp:Acc 1 P0.length fY iv (cz P0)):
  ACalls Tryz.prog 290 [.ptr w 0,.int .i64 a] ((w,dp (ca n l) bi bl bo n ue dI fY)::(bi,ao lP)::(bl,ao vY)::(bo,bJ vV)::(vw++(iv++σ)))
   (fun r σ'=>r=.tup []∧∃ix lo on aF P vs lM vp eM,FI n (ar n l) ix lo on [] aF P []∧iy 1 0 vs lM []∧Acc 1 P.length vp eM (cz P)∧ix.getD a.toNat 0≠0∧(∀b:Nat,lP.getD b 0≠0→ix.getD b 0≠0)∧σ'=(w,dp (ca n l) bi bl bo n vs aF vp)::(bi,ao ix)::(bl,ao lo)::(bo,bJ on)::(lM++(eM++σ))):=by
 have hle:=h.A6
 refine au Tryz.func290 ?_
 refine Qy (S:=FrS) rfl (fun _=>0)
  (fun x=>[(0,.ptr w 0),(4,.af x.2.2.2.1 0 (x.2.2.1.1.length+1) 2)])
  (fun x=>(w,dp (ca n l) bi bl bo n (.af x.2.1.1 0 x.1.2.2.2.1.length 1) x.1.2.2.2.2.1 x.2.1.2.2.1)::(bi,ao x.1.1)::(bl,ao x.1.2.1)::(bo,bJ x.1.2.2.1)::(x.2.1.1,ao x.1.2.2.2.1++x.2.1.2.1)::(x.2.2.2.1,bF (x.2.2.1.1++[(x.2.2.1.2.1,x.2.2.1.2.2)])++x.2.2.2.2)::(x.2.1.2.2.2++σ))
  (fun x=>(FI n (ar n l) x.1.1 x.1.2.1 x.1.2.2.1 x.1.2.2.2.1 x.1.2.2.2.2.1 x.1.2.2.2.2.2 (x.2.2.1.1++[(x.2.2.1.2.1,x.2.2.1.2.2)])∧Acc 1 x.1.2.2.2.2.2.length x.2.1.2.2.1 x.2.1.2.2.2 (cz x.1.2.2.2.2.2))∧x.1.1.getD a.toNat 0≠0∧∀b:Nat,lP.getD b 0≠0→x.1.1.getD b 0≠0)
  (fun x=>jb (ar n l) (x.2.2.1.1++[(x.2.2.1.2.1,x.2.2.1.2.2)])+iw (ar n l) x.1.1 n) ?_ ?_
 ·rintro⟨⟨ix,lo,on,st,aF,P⟩,⟨bs,Js,vp,eM⟩,⟨wy,v,k⟩,⟨bw,J⟩⟩ g ⟨⟨p8,uu⟩,qX,ya⟩
  have hF:FI n (ar n l) ix lo on st aF P (wy++[(v,k)]):=p8
  have hP:Acc 1 P.length vp eM (cz P):=uu
  have hA:ix.getD a.toNat 0≠0:=qX
  have hM:∀b:Nat,lP.getD b 0≠0→ix.getD b 0≠0:=ya
  clear p8 uu qX ya
  have hle:=hF.A6
  have bN:=hF.mem
  have dy:=hF.tj.node v bN
  have BT:k≤(ar n l v).length:=hF.tn (v,k) (jE _ (bh.2 rfl))
  have mz:=yA n l v
  have v7:wy.length+1≤st.length:=by
   have:=hF.tj.sub.length_le
   rw[cj,bV]at this
   exact this
  have nF:IntKind.i64.wrap (((wy.length+1:Nat):Int)-1)=((wy.length:Nat):Int):=by rw[dx (by omega)];omega
  have hX:0+(IntKind.i64.wrap (((wy.length+1:Nat):Int)-1)).toNat*2=wy.length*2:=by rw[nF];omega
  have mW:eg ⟨.int .i64,1,8,[.int .i64 0]⟩ (bF (wy++[(v,k)])++J) (0+(IntKind.i64.wrap (((wy.length+1:Nat):Int)-1)).toNat*2+0)=some (.int .i64 v):=iV rfl (by rw[hX];exact sk rfl)
  have lS:eg ⟨.int .i64,1,8,[.int .i64 0]⟩ (bF (wy++[(v,k)])++J) (0+(IntKind.i64.wrap (((wy.length+1:Nat):Int)-1)).toNat*2+1)=some (.int .i64 k):=iV rfl (by rw[hX];exact CO rfl)
  have ef:(bF (wy++[(v,k)])++J).length=wy.length*2+2+J.length:=by rw[bV,mD,bV];show (wy.length+1)*2+_=_;omega
  have lV:IntKind.i64.wrap ((k:Int)+1)=((k+1:Nat):Int):=by rw[dx (by omega)];omega
  have v8:kP ⟨.int .i64,1,8,[.int .i64 0]⟩ (bF (wy++[(v,k)])++J) (0+(IntKind.i64.wrap (((wy.length+1:Nat):Int)-1)).toNat*2+1) (.int .i64 (IntKind.i64.wrap ((k:Int)+1)))=some (bF (wy++[(v,k+1)])++J):=by
   rw[rC rfl rfl (by rw[hX,ef];omega),hX,lV,C2 rfl]
  have vr:2=2∧0≤IntKind.i64.wrap (((wy.length+1:Nat):Int)-1)∧IntKind.i64.wrap (((wy.length+1:Nat):Int)-1)<((wy.length+1:Nat):Int):=⟨rfl,by omega,by omega⟩
  refine aG.mk vr ?_
  refine .quiet (by kernel_rfl) ?_
  refine aZ 5 rfl lS ?_
  refine aa 0 ?_
  refine aZ 5 rfl mW ?_
  refine aG.mk rfl ?_
  refine bM.mk (ar n l v) (by omega) (px dy) ?_
  refine ak (p:=(k:Int)<(ar n l v).length) (fun ab=>?_) (fun aq=>?_)
  ·have ab:k<(ar n l v).length:=by omega
   obtain⟨b,hb⟩:∃b,(ar n l v)[k]=b:=⟨_,rfl⟩
   have s4:b∈ar n l v:=hb▸bX ab
   have dK:=(mb.1 s4).1
   refine .quiet (by kernel_rfl) ?_
   refine aa 0 ?_
   refine aZ 5 rfl mW ?_
   refine aG.mk rfl ?_
   refine bM.mk (ar n l v) (by omega) (px dy) ?_
   refine aZ 5 rfl lS ?_
   refine aG.mk rfl ?_
   refine bM.mk b (by omega) ((get_some ab).trans (congrArg some hb)) ?_
   refine aZ 5 rfl lS ?_
   refine da 5 rfl v8 ?_
   refine aa 0 ?_
   refine aK ?_
   refine aZ 1 rfl (fg rfl dK.1 (by rw[hF.li];omega)) ?_
   refine ak (p:=ix.getD b.toNat 0=0) (fun c1=>?_) (fun c1=>?_)
   ·have hN:=hF.new ab hb dK c1
    have ee:(ao st).length=st.length*1:=by rw[nj,er]
    refine .mk [] _ (A8 w bi bl bo n (ca n l) ix lo st on aF _ vp _ b ((bw,bF (wy++[(v,k+1)])++J)::(eM++σ)) dK.1 dK.2 hF.li hF.ll hF.kD (.af bs st.length (ao st) Js ee) (by omega) (by omega)) ?_
    rintro _ _ ⟨rfl,BH,Ed,fk,rfl⟩
    obtain⟨l6,o9,rfl,rfl,_⟩:=fk.pos (by rw[bV];show 0<_+1;omega)
    intro aD
    have ID:(bF (wy++[(v,k+1)])).length=(wy.length+1)*2:=by rw[mD,bV];rfl
    refine yy (k:=wy.length+1) (n:=1) [_,_,_,_,_,_] (.af bw (wy.length+1) (bF (wy++[(v,k+1)])) J ID) (.af 0 aD 0 1 _ rfl (cR rfl)) rfl (by omega) (by decide) (by decide) (fun v' bQ h'=>?_)
    obtain⟨o8,J2,rfl,rfl,_⟩:=h'.pos (by omega)
    have OC:(wy++[(v,k+1)]).length+1=wy.length+1+1:=by rw[bV];rfl
    have wz:(b.toNat:Int)=b:=lB dK.1
    have sU:=LC (nx:=ar n l) (ix:=ix) (b:=b.toNat) (v:=((aF+1:Nat):Int)) (by omega) c1 (by rw[hF.li];omega) n
    rw[ah (by omega),wz]at sU
    refine .mk ((ix.set b.toNat ((aF+1:Nat):Int),lo.set b.toNat ((aF+1:Nat):Int),on.set b.toNat true,st++[b],aF+1,P),(l6,o9,vp,eM),(wy++[(v,k+1)],b,0),(o8,J2)) rfl ?_ ⟨⟨hN,hP⟩,?_,?_⟩ ⟨rfl,by rw[OC];rfl,trivial⟩ (.drop 0 1 (aN (by rw[pg (wy++[(v,k+1)])];rfl)))
    ·show jb (ar n l) ((wy++[(v,k+1)])++[(b,0)])+iw (ar n l) (ix.set b.toNat ((aF+1:Nat):Int)) n<jb (ar n l) (wy++[(v,k)])+iw (ar n l) ix n
     rw[l9,l9,l9];omega
    ·show (ix.set b.toNat ((aF+1:Nat):Int)).getD a.toNat 0≠0
     rw[mE];split
     ·omega
     ·exact hA
    ·intro z hz
     show (ix.set b.toNat ((aF+1:Nat):Int)).getD z 0≠0
     rw[mE];split
     ·omega
     ·exact hM z hz
   ·have c1:¬(ix.getD b.toNat 0=0):=c1
    refine aa 0 ?_
    refine aK ?_
    have lU:=hF.vU b dK.1 dK.2
    have Eu:eg ⟨.int .i64,1,8,[.int .i64 0]⟩ (bF (wy++[(v,k+1)])++J) (0+(IntKind.i64.wrap (((wy.length+1:Nat):Int)-1)).toNat*2+0)=some (.int .i64 v):=iV rfl (by rw[hX];exact sk rfl)
    refine eU.kC 3 _ _ rfl (tA rfl dK.1 (by rw[hF.kD];omega)) (fun c2=>?_) (fun c2=>?_)
    ·rw[lU]at c2
     have hO:=hF.Iy ab hb (fv c2)
     refine .sched [] (upto [] 28 0) (by kernel_rfl) ?_
     refine aa 0 ?_
     refine aZ 5 rfl Eu ?_
     refine aa 0 ?_
     refine aZ 5 rfl Eu ?_
     refine aK ?_
     refine aZ 2 rfl (fg rfl dy.1 (by rw[hF.ll];omega)) ?_
     refine aa 0 ?_
     refine aK ?_
     refine aZ 1 rfl (fg rfl dK.1 (by rw[hF.li];omega)) ?_
     refine aK ?_
     refine da 2 rfl (nq rfl _ dy.1 (by rw[hF.ll];omega)) ?_
     have iJ:(if ix.getD b.toNat 0<lo.getD v.toNat 0 then ix.getD b.toNat 0 else lo.getD v.toNat 0)=min (lo.getD v.toNat 0) (ix.getD b.toNat 0):=by split <;> omega
     refine .mk ((ix,lo.set v.toNat (min (lo.getD v.toNat 0) (ix.getD b.toNat 0)),on,st,aF,P),(bs,Js,vp,eM),(wy,v,k+1),(bw,J)) rfl ?_ ⟨⟨hO,hP⟩,hA,hM⟩ ⟨rfl,rfl,trivial⟩ (aN (by rw[← iJ];rfl))
     show jb (ar n l) (wy++[(v,k+1)])+iw (ar n l) ix n<jb (ar n l) (wy++[(v,k)])+iw (ar n l) ix n
     rw[l9,l9];omega
    ·rw[lU]at c2
     have hO:=hF.off ab hb dK.1 c1 (qd c2)
     refine .mk ((ix,lo,on,st,aF,P),(bs,Js,vp,eM),(wy,v,k+1),(bw,J)) rfl ?_ ⟨⟨hO,hP⟩,hA,hM⟩ ⟨rfl,rfl,trivial⟩ (.refl _)
     show jb (ar n l) (wy++[(v,k+1)])+iw (ar n l) ix n<jb (ar n l) (wy++[(v,k)])+iw (ar n l) ix n
     rw[l9,l9];omega
  ·have aq:k=(ar n l v).length:=by omega
   have mV:eg ⟨.bc [(0,3),(1,3)],2,16,[.int .i64 0,.int .i64 0]⟩ (bF (wy++[(v,k)])++J) (0+(IntKind.i64.wrap (((wy.length+1:Nat):Int)-1)).toNat*2)=some (.agg [.int .i64 v,.int .i64 k]):=TZ rfl (by rw[hX,ef];show wy.length*2+2≤_;omega) (by rw[hX];exact QA rfl)
   refine aZ 5 rfl mV ?_
   intro bt
   refine aj 0 ?_
   refine aa 0 ?_
   have qy:(IntKind.i64.wrap (((wy.length+1:Nat):Int)-1)).toNat-Int.toNat 0=wy.length:=by rw[nF];omega
   have cY:0≤(0:Int)∧(0:Int)≤IntKind.i64.wrap (((wy.length+1:Nat):Int)-1)∧IntKind.i64.wrap (((wy.length+1:Nat):Int)-1)≤((wy.length+1:Nat):Int)∧2=2:=⟨by omega,by omega,by omega,rfl⟩
   by_cases he:lo.getD v.toNat 0=ix.getD v.toNat 0
   ·obtain⟨A,B,an,Fx,hB1⟩:=RM hF.tj.inc bN
    have Ou:v ∉ A:=fun hm=>by have:=Fx v hm;omega
    have Ot:∀x∈v::B,0≤x∧x<(n:Int):=fun x hx=>hF.tj.node x (by rw[an];exact jE _ hx)
    have cf:=uI hF.tj.inc
    rw[an]at cf
    have hT:=hF.tell (by omega) an he (fun x y hy=>(mb.1 hy).1) (Cy (v::B)) (Gc (o7.1 cf).2.1)
    have Fv:=Gm hF.tj.prt
    subst an
    have ee:(ao (A++v::B)).length=(A++v::B).length*1:=by rw[nj,er]
    refine .perm _ (wT [_,_,_,_,_] eM σ _ _) (Q9 w bi bl bo n (ca n l) ix lo A B on P aF _ vp _ eM v _ dy.1 dy.2 hF.li hF.ll hF.kD he Ou Ot (by omega) (by omega) (.af bs (A++v::B).length (ao (A++v::B)) Js ee) hP) ?_
    rintro _ _ ⟨rfl,eE,iZ,gD,gy,dP,nP,rfl⟩
    have gn:((bt,[AV.int .i64 v,.int .i64 k])::(w,dp (ca n l) bi bl bo n eE aF gD)::(bi,ao ix)::(bl,ao lo)::(bo,bJ (eV (v::B) on))::(bw,bF (wy++[(v,k)])++J)::(iZ++(gy++σ))).Perm ((w,dp (ca n l) bi bl bo n eE aF gD)::(bi,ao ix)::(bl,ao lo)::(bo,bJ (eV (v::B) on))::(iZ++(gy++((bt,[AV.int .i64 v,.int .i64 k])::(bw,bF (wy++[(v,k)])++J)::σ)))):=by
     have h1:=(wT [(w,dp (ca n l) bi bl bo n eE aF gD),(bi,ao ix),(bl,ao lo),(bo,bJ (eV (v::B) on))] (iZ++gy) σ (bt,[AV.int .i64 v,.int .i64 k]) (bw,bF (wy++[(v,k)])++J)).symm
     rw[dQ,dQ]at h1
     exact h1
    refine⟨_,gn,?_⟩
    refine aG.mk cY ?_
    rcases FR wy with dT | ⟨w',⟨u,i⟩,dT⟩
    ·have qD:wy.length=0:=by rw[dT];rfl
     rw[dT]at hT
     obtain rfl:A=[]:=hT.U4
     refine ak (p:=(0:Int)<(((IntKind.i64.wrap (((wy.length+1:Nat):Int)-1)).toNat-Int.toNat 0:Nat):Int)) (fun c3=>?_) (fun c3=>?_)
     ·rw[qy,qD]at c3;exact absurd c3 (by decide)
     ·refine .drop 0 1 (.drop 4 1 (.done ⟨rfl,ix,lo,eV (v::B) on,aF,P++[fF (v::B)],eE,iZ,gD,gy,hT,dP,nP,hA,hM,rfl⟩))
    ·have dT:wy=w'++[(u,i)]:=by simpa using dT
     have qD:wy.length=w'.length+1:=by rw[dT,bV];rfl
     have jd:(IntKind.i64.wrap (((wy.length+1:Nat):Int)-1)).toNat-Int.toNat 0=w'.length+1:=qy.trans qD
     have oq:IntKind.i64.wrap ((((IntKind.i64.wrap (((wy.length+1:Nat):Int)-1)).toNat-Int.toNat 0:Nat):Int)-1)=((w'.length:Nat):Int):=by rw[jd,dx (by omega)];omega
     have zR:(0+Int.toNat 0*2)+(IntKind.i64.wrap ((((IntKind.i64.wrap (((wy.length+1:Nat):Int)-1)).toNat-Int.toNat 0:Nat):Int)-1)).toNat*2+0=w'.length*2:=by rw[oq,bO];show 0+0*2+_+0=_;omega
     have oF:bF (wy++[(v,k)])++J=bF (w'++[(u,i)])++([.int .i64 v,.int .i64 k]++J):=by rw[dT,pg,dQ];rfl
     have sU:eg ⟨.int .i64,1,8,[.int .i64 0]⟩ (bF (wy++[(v,k)])++J) ((0+Int.toNat 0*2)+(IntKind.i64.wrap ((((IntKind.i64.wrap (((wy.length+1:Nat):Int)-1)).toNat-Int.toNat 0:Nat):Int)-1)).toNat*2+0)=some (.int .i64 u):=iV rfl (by rw[zR,oF];exact sk rfl)
     have fq:0≤u∧u<(n:Int):=hF.tj.node u (hF.tj.sub.subset (by rw[dT];simp))
     have kx:AV.af bw (0+Int.toNat 0*2) ((IntKind.i64.wrap (((wy.length+1:Nat):Int)-1)).toNat-Int.toNat 0) 2=.af bw 0 (w'.length+1) 2:=by rw[jd];rfl
     have Nk:AV.af bw 0 (w'.length+1) 2=AV.af bw (0+Int.toNat 0*2) ((IntKind.i64.wrap (((wy.length+1:Nat):Int)-1)).toNat-Int.toNat 0) 2:=kx.symm
     refine ak (p:=(0:Int)<(((IntKind.i64.wrap (((wy.length+1:Nat):Int)-1)).toNat-Int.toNat 0:Nat):Int)) (fun c3=>?_) (fun c3=>?_)
     rotate_left
     ·rw[jd]at c3;omega
     have yW:2=2∧0≤IntKind.i64.wrap ((((IntKind.i64.wrap (((wy.length+1:Nat):Int)-1)).toNat-Int.toNat 0:Nat):Int)-1)∧IntKind.i64.wrap ((((IntKind.i64.wrap (((wy.length+1:Nat):Int)-1)).toNat-Int.toNat 0:Nat):Int)-1)<(((IntKind.i64.wrap (((wy.length+1:Nat):Int)-1)).toNat-Int.toNat 0:Nat):Int):=⟨rfl,by rw[oq];omega,by rw[oq,jd];omega⟩
     refine aG.mk yW ?_
     refine aZ 5 rfl sU ?_
     refine .sched [] (upto [] 23 0) (by kernel_rfl) ?_
     refine aa 1 ?_
     refine aa 1 ?_
     refine aK ?_
     refine aZ 3 rfl (fg rfl fq.1 (by rw[hF.ll];omega)) ?_
     refine aa 1 ?_
     refine aa 0 ?_
     refine aK ?_
     refine aZ 3 rfl (fg rfl dy.1 (by rw[hF.ll];omega)) ?_
     refine aK ?_
     refine da 3 rfl (nq rfl _ fq.1 (by rw[hF.ll];omega)) ?_
     have iJ:(if lo.getD v.toNat 0<lo.getD u.toNat 0 then lo.getD v.toNat 0 else lo.getD u.toNat 0)=min (lo.getD u.toNat 0) (lo.getD v.toNat 0):=by split <;> omega
     have Pb:0<A.length:=List.length_pos_of_mem (a:=u) (hT.tj.sub.subset (by rw[dT];simp))
     obtain⟨l6,o9,rfl,rfl,_⟩:=dP.pos Pb
     have Ng:=FI.same (dT▸hF) he
     rw[dT]at hT
     have hE:(w,dp (ca n l) bi bl bo n (.af l6 0 A.length 1) aF gD)::(bi,ao ix)::(bl,ao (lo.set u.toNat (if lo.getD v.toNat 0<lo.getD u.toNat 0 then lo.getD v.toNat 0 else lo.getD u.toNat 0)))::(bo,bJ (eV (v::B) on))::(l6,ao A++o9)::(bw,bF (wy++[(v,k)])++J)::(gy++σ)=(w,dp (ca n l) bi bl bo n (.af l6 0 A.length 1) aF gD)::(bi,ao ix)::(bl,ao (lo))::(bo,bJ (eV (v::B) on))::(l6,ao A++o9)::(bw,bF (w'++[(u,i)])++([.int .i64 v,.int .i64 k]++J))::(gy++σ):=by rw[iJ,Ng,oF]
     refine .mk ((ix,lo,eV (v::B) on,A,aF,P++[fF (v::B)]),(l6,o9,gD,gy),(w',u,i),(bw,[AV.int .i64 v,.int .i64 k]++J)) rfl ?_ ⟨⟨hT,nP⟩,hA,hM⟩ ⟨rfl,kx,trivial⟩ (.drop 0 1 (.pull [4,4,4,4,5] (aN hE)))
     show jb (ar n l) (w'++[(u,i)])+iw (ar n l) ix n<jb (ar n l) (wy++[(v,k)])+iw (ar n l) ix n
     rw[dT,l9 (ar n l) (w'++[(u,i)])];omega
   ·have O5:=fun ρ=>TA w bi bl bo n (ca n l) ix lo on aF (.af bs 0 st.length 1) vp v ρ dy.1 dy.2 hF.li hF.ll he
    refine az [4,4,4,4] (O5 _) ?_
    refine aG.mk cY ?_
    rcases FR wy with dT | ⟨w',⟨u,i⟩,dT⟩
    ·have qD:wy.length=0:=by rw[dT];rfl
     rw[dT]at hF
     exact absurd hF.one he
    ·have dT:wy=w'++[(u,i)]:=by simpa using dT
     have qD:wy.length=w'.length+1:=by rw[dT,bV];rfl
     have jd:(IntKind.i64.wrap (((wy.length+1:Nat):Int)-1)).toNat-Int.toNat 0=w'.length+1:=qy.trans qD
     have oq:IntKind.i64.wrap ((((IntKind.i64.wrap (((wy.length+1:Nat):Int)-1)).toNat-Int.toNat 0:Nat):Int)-1)=((w'.length:Nat):Int):=by rw[jd,dx (by omega)];omega
     have zR:(0+Int.toNat 0*2)+(IntKind.i64.wrap ((((IntKind.i64.wrap (((wy.length+1:Nat):Int)-1)).toNat-Int.toNat 0:Nat):Int)-1)).toNat*2+0=w'.length*2:=by rw[oq,bO];show 0+0*2+_+0=_;omega
     have oF:bF (wy++[(v,k)])++J=bF (w'++[(u,i)])++([.int .i64 v,.int .i64 k]++J):=by rw[dT,pg,dQ];rfl
     have sU:eg ⟨.int .i64,1,8,[.int .i64 0]⟩ (bF (wy++[(v,k)])++J) ((0+Int.toNat 0*2)+(IntKind.i64.wrap ((((IntKind.i64.wrap (((wy.length+1:Nat):Int)-1)).toNat-Int.toNat 0:Nat):Int)-1)).toNat*2+0)=some (.int .i64 u):=iV rfl (by rw[zR,oF];exact sk rfl)
     have fq:0≤u∧u<(n:Int):=hF.tj.node u (hF.tj.sub.subset (by rw[dT];simp))
     have kx:AV.af bw (0+Int.toNat 0*2) ((IntKind.i64.wrap (((wy.length+1:Nat):Int)-1)).toNat-Int.toNat 0) 2=.af bw 0 (w'.length+1) 2:=by rw[jd];rfl
     have Nk:AV.af bw 0 (w'.length+1) 2=AV.af bw (0+Int.toNat 0*2) ((IntKind.i64.wrap (((wy.length+1:Nat):Int)-1)).toNat-Int.toNat 0) 2:=kx.symm
     refine ak (p:=(0:Int)<(((IntKind.i64.wrap (((wy.length+1:Nat):Int)-1)).toNat-Int.toNat 0:Nat):Int)) (fun c3=>?_) (fun c3=>?_)
     rotate_left
     ·rw[jd]at c3;omega
     have yW:2=2∧0≤IntKind.i64.wrap ((((IntKind.i64.wrap (((wy.length+1:Nat):Int)-1)).toNat-Int.toNat 0:Nat):Int)-1)∧IntKind.i64.wrap ((((IntKind.i64.wrap (((wy.length+1:Nat):Int)-1)).toNat-Int.toNat 0:Nat):Int)-1)<(((IntKind.i64.wrap (((wy.length+1:Nat):Int)-1)).toNat-Int.toNat 0:Nat):Int):=⟨rfl,by rw[oq];omega,by rw[oq,jd];omega⟩
     refine aG.mk yW ?_
     refine aZ 6 rfl sU ?_
     refine .sched [] (upto [] 23 0) (by kernel_rfl) ?_
     refine aa 0 ?_
     refine aa 0 ?_
     refine aK ?_
     refine aZ 2 rfl (fg rfl fq.1 (by rw[hF.ll];omega)) ?_
     refine aa 0 ?_
     refine aa 4 ?_
     refine aK ?_
     refine aZ 2 rfl (fg rfl dy.1 (by rw[hF.ll];omega)) ?_
     refine aK ?_
     refine da 2 rfl (nq rfl _ fq.1 (by rw[hF.ll];omega)) ?_
     have iJ:(if lo.getD v.toNat 0<lo.getD u.toNat 0 then lo.getD v.toNat 0 else lo.getD u.toNat 0)=min (lo.getD u.toNat 0) (lo.getD v.toNat 0):=by split <;> omega
     have hU:=FI.up (dT▸hF) (by omega) he
     have hE:(w,dp (ca n l) bi bl bo n (.af bs 0 st.length 1) aF vp)::(bi,ao ix)::(bl,ao (lo.set u.toNat (if lo.getD v.toNat 0<lo.getD u.toNat 0 then lo.getD v.toNat 0 else lo.getD u.toNat 0)))::(bo,bJ (on))::(bs,ao st++Js)::(bw,bF (wy++[(v,k)])++J)::(eM++σ)=(w,dp (ca n l) bi bl bo n (.af bs 0 st.length 1) aF vp)::(bi,ao ix)::(bl,ao (lo.set u.toNat (min (lo.getD u.toNat 0) (lo.getD v.toNat 0))))::(bo,bJ (on))::(bs,ao st++Js)::(bw,bF (w'++[(u,i)])++([.int .i64 v,.int .i64 k]++J))::(eM++σ):=by rw[iJ,oF]
     refine .mk ((ix,lo.set u.toNat (min (lo.getD u.toNat 0) (lo.getD v.toNat 0)),on,st,aF,P),(bs,Js,vp,eM),(w',u,i),(bw,[AV.int .i64 v,.int .i64 k]++J)) rfl ?_ ⟨⟨hU,hP⟩,hA,hM⟩ ⟨rfl,kx,trivial⟩ (.drop 4 1 (aN hE))
     show jb (ar n l) (w'++[(u,i)])+iw (ar n l) ix n<jb (ar n l) (wy++[(v,k)])+iw (ar n l) ix n
     rw[dT,l9 (ar n l) (w'++[(u,i)])];omega
 ·intro hr
  obtain⟨ix,lo,on,hF,hA,hM,heq,Pa⟩:∃ix lo on,FI n (ar n l) ix lo on [a] (dI+1) P0 [(a,0)]∧ix.getD a.toNat 0≠0∧(∀b:Nat,lP.getD b 0≠0→ix.getD b 0≠0)∧lo.getD a.toNat 0=ix.getD a.toNat 0∧∀ρ,ACalls Tryz.prog 314 [.ptr w 0,.int .i64 a] ((w,dp (ca n l) bi bl bo n ue dI fY)::(bi,ao lP)::(bl,ao vY)::(bo,bJ vV)::(vw++ρ))
    (fun r σ'=>r=.agg [.int .i64 a,.int .i64 0]∧∃bs Js,σ'=(w,dp (ca n l) bi bl bo n (.af bs 0 [a].length 1) (dI+1) fY)::(bi,ao ix)::(bl,ao lo)::(bo,bJ on)::(bs,ao [a]++Js)::ρ):=by
   have h1:=h.enter (way2:=[]) ha hf (fun v hv=>by cases hv) rfl (fun t ht=>by cases ht) (fun t ht=>by cases ht)
   refine⟨_,_,_,h1,?_,?_,?_,fun ρ=>(A8 w bi bl bo n (ca n l) lP vY [] vV dI ue fY vw a ρ ha.1 ha.2 h.li h.ll h.kD hs (bE _) (by omega)).mono ?_⟩
   ·rw[mE,ah ⟨rfl,by rw[h.li];omega⟩];omega
   ·intro z hz
    rw[mE];split
    ·omega
    ·exact hz
   ·rw[mE,mE,ah ⟨rfl,by rw[h.ll];omega⟩,ah ⟨rfl,by rw[h.li];omega⟩]
   ·rintro _ _ ⟨rfl,BH,Ed,fk,rfl⟩
    obtain⟨bs,Js,rfl,rfl,_⟩:=fk.pos (by show 0<1;decide)
    exact⟨rfl,bs,Js,rfl⟩
  clear hf hs h
  have hle:=hF.A6
  have BT:=yA n l a
  refine .mk [] _ (Pa (iv++σ)) ?_
  rintro _ _ ⟨rfl,bs,Js,rfl⟩
  intro bw
  refine aG.mk ⟨rfl,by decide,by decide⟩ ?_
  refine .quiet (by kernel_rfl) ?_
  refine aa 0 ?_
  refine aa 1 ?_
  refine aa 0 ?_
  refine aG.mk rfl ?_
  refine bM.mk (ar n l a) (by omega) (px ha) ?_
  refine ak (p:=(0:Int)<(ar n l a).length) (fun ab=>?_) (fun aq=>?_)
  ·have ab:0<(ar n l a).length:=by omega
   obtain⟨b,hb⟩:∃b,(ar n l a)[0]=b:=⟨_,rfl⟩
   have s4:b∈ar n l a:=hb▸bX ab
   have dK:=(mb.1 s4).1
   refine .quiet (by kernel_rfl) ?_
   refine aa 1 ?_
   refine aa 0 ?_
   refine aG.mk rfl ?_
   refine bM.mk (ar n l a) (by omega) (px ha) ?_
   refine aa 0 ?_
   refine aG.mk rfl ?_
   refine bM.mk b (by decide) ((get_some ab).trans (congrArg some hb)) ?_
   refine aa 0 ?_
   refine aj 0 ?_
   refine aa 1 ?_
   refine aK ?_
   refine aZ 2 rfl (fg rfl dK.1 (by rw[hF.li];omega)) ?_
   refine ak (p:=ix.getD b.toNat 0=0) (fun c1=>?_) (fun c1=>?_)
   ·have hN:=FI.new (w:=[]) hF ab hb dK c1
    refine .mk [5,5,5,5,5] _ (A8 w bi bl bo n (ca n l) ix lo [a] on (dI+1) _ fY _ b ((bw,[.int .i64 a,.int .i64 1])::(iv++σ)) dK.1 dK.2 hF.li hF.ll hF.kD (.af bs 1 (ao [a]) Js rfl) (by show 1≤10000;decide) (by omega)) ?_
    rintro _ _ ⟨rfl,BH,Ed,fk,rfl⟩
    obtain⟨l6,o9,rfl,rfl,_⟩:=fk.pos (by show 0<2;decide)
    intro aD
    refine yy (k:=1) (n:=1) [_,_,_,_,_,_] (.af bw 1 (bF [(a,1)]) [] rfl) (.af 0 aD 0 1 _ rfl (cR rfl)) rfl (by decide) (by decide) (by decide) (fun v' bQ h'=>?_)
    obtain⟨o8,J2,rfl,rfl,_⟩:=h'.pos (by decide)
    refine wX hr ((ix.set b.toNat ((dI+1+1:Nat):Int),lo.set b.toNat ((dI+1+1:Nat):Int),on.set b.toNat true,[a]++[b],dI+1+1,P0),(l6,o9,fY,iv),([(a,1)],b,0),(o8,J2)) ⟨rfl,⟨⟨hN,hp⟩,?_,?_⟩,⟨rfl,rfl,trivial⟩,.drop 0 1 (aN rfl)⟩
    ·show (ix.set b.toNat ((dI+1+1:Nat):Int)).getD a.toNat 0≠0
     rw[mE];split
     ·omega
     ·exact hA
    ·intro z hz
     show (ix.set b.toNat ((dI+1+1:Nat):Int)).getD z 0≠0
     rw[mE];split
     ·omega
     ·exact hM z hz
   ·have c1:¬(ix.getD b.toNat 0=0):=c1
    have lU:=hF.vU b dK.1 dK.2
    refine aa 1 ?_
    refine aK ?_
    refine eU.kC 4 _ _ rfl (tA rfl dK.1 (by rw[hF.kD];omega)) (fun c2=>?_) (fun c2=>?_)
    ·rw[lU]at c2
     have hO:=FI.Iy (w:=[]) hF ab hb (fv c2)
     refine .sched [] (upto [] 28 0) (by kernel_rfl) ?_
     refine aa 1 ?_
     refine aa 0 ?_
     refine aa 1 ?_
     refine aa 0 ?_
     refine aK ?_
     refine aZ 3 rfl (fg rfl ha.1 (by rw[hF.ll];omega)) ?_
     refine aa 1 ?_
     refine aK ?_
     refine aZ 2 rfl (fg rfl dK.1 (by rw[hF.li];omega)) ?_
     refine aK ?_
     refine da 3 rfl (nq rfl _ ha.1 (by rw[hF.ll];omega)) ?_
     have iJ:(if ix.getD b.toNat 0<lo.getD a.toNat 0 then ix.getD b.toNat 0 else lo.getD a.toNat 0)=min (lo.getD a.toNat 0) (ix.getD b.toNat 0):=by split <;> omega
     have hE:(w,dp (ca n l) bi bl bo n (.af bs 0 [a].length 1) (dI+1) fY)::(bi,ao ix)::(bl,ao (lo.set a.toNat (if ix.getD b.toNat 0<lo.getD a.toNat 0 then ix.getD b.toNat 0 else lo.getD a.toNat 0)))::(bo,bJ on)::(bs,ao [a]++Js)::(bw,bF [(a,1)]++[])::(iv++σ)=(w,dp (ca n l) bi bl bo n (.af bs 0 [a].length 1) (dI+1) fY)::(bi,ao ix)::(bl,ao (lo.set a.toNat (min (lo.getD a.toNat 0) (ix.getD b.toNat 0))))::(bo,bJ on)::(bs,ao [a]++Js)::(bw,bF [(a,1)]++[])::(iv++σ):=by rw[iJ]
     exact wX hr ((ix,lo.set a.toNat (min (lo.getD a.toNat 0) (ix.getD b.toNat 0)),on,[a],dI+1,P0),(bs,Js,fY,iv),([],a,1),(bw,[])) ⟨rfl,⟨⟨hO,hp⟩,hA,hM⟩,⟨rfl,rfl,trivial⟩,.pull [5,5,5,5,5] (aN hE)⟩
    ·rw[lU]at c2
     have hO:=FI.off (w:=[]) hF ab hb dK.1 c1 (qd c2)
     exact wX hr ((ix,lo,on,[a],dI+1,P0),(bs,Js,fY,iv),([],a,1),(bw,[])) ⟨rfl,⟨⟨hO,hp⟩,hA,hM⟩,⟨rfl,rfl,trivial⟩,.pull [5,5,5,5,5] (aN rfl)⟩
  ·have aq:(ar n l a).length=0:=by omega
   refine aa 0 ?_
   intro aD
   refine aj 0 ?_
   refine aa 0 ?_
   have hT:=FI.tell (w:=[]) (A:=[]) (B:=[]) (part:=fF [a]) hF (by omega) rfl heq (fun x y hy=>(mb.1 hy).1) (Cy [a]) (Gc (by simp))
   have Fv:=Gm hF.tj.prt
   have NI:((w,dp (ca n l) bi bl bo n (.af bs 0 [a].length 1) (dI+1) fY)::(bi,ao ix)::(bl,ao lo)::(bo,bJ on)::(bs,ao [a]++Js)::(iv++((aD,[AV.int .i64 a,.int .i64 0])::(bw,[AV.int .i64 a,.int .i64 0])::σ))).Perm ((aD,[AV.int .i64 a,.int .i64 0])::(bw,[AV.int .i64 a,.int .i64 0])::(w,dp (ca n l) bi bl bo n (.af bs 0 [a].length 1) (dI+1) fY)::(bi,ao ix)::(bl,ao lo)::(bo,bJ on)::(bs,ao [a]++Js)::(iv++σ)):=by
    have h1:=wT [(w,dp (ca n l) bi bl bo n (.af bs 0 [a].length 1) (dI+1) fY),(bi,ao ix),(bl,ao lo),(bo,bJ on),(bs,ao [a]++Js)] iv σ (aD,[AV.int .i64 a,.int .i64 0]) (bw,[AV.int .i64 a,.int .i64 0])
    exact h1.trans (List.Perm.cons _ (nX (l₁:=[(w,dp (ca n l) bi bl bo n (.af bs 0 [a].length 1) (dI+1) fY),(bi,ao ix),(bl,ao lo),(bo,bJ on),(bs,ao [a]++Js)])))
   refine .perm _ NI (Q9 w bi bl bo n (ca n l) ix lo [] [] on P0 (dI+1) _ fY _ iv a _ ha.1 ha.2 hF.li hF.ll hF.kD heq (by simp) (fun x hx=>by rw[List.mem_singleton.1 hx];exact ha) (by show 1≤10000;decide) (by omega) (.af bs 1 (ao [a]) Js rfl) hp) ?_
   rintro _ _ ⟨rfl,eE,iZ,gD,gy,dP,nP,rfl⟩
   have gn:((aD,[AV.int .i64 a,.int .i64 0])::(w,dp (ca n l) bi bl bo n eE (dI+1) gD)::(bi,ao ix)::(bl,ao lo)::(bo,bJ (eV [a] on))::(bw,[AV.int .i64 a,.int .i64 0])::(iZ++(gy++σ))).Perm ((w,dp (ca n l) bi bl bo n eE (dI+1) gD)::(bi,ao ix)::(bl,ao lo)::(bo,bJ (eV [a] on))::(iZ++(gy++((aD,[AV.int .i64 a,.int .i64 0])::(bw,[AV.int .i64 a,.int .i64 0])::σ)))):=by
    have h1:=(wT [(w,dp (ca n l) bi bl bo n eE (dI+1) gD),(bi,ao ix),(bl,ao lo),(bo,bJ (eV [a] on))] (iZ++gy) σ (aD,[AV.int .i64 a,.int .i64 0]) (bw,[AV.int .i64 a,.int .i64 0])).symm
    rw[dQ,dQ]at h1
    exact h1
   refine⟨_,gn,?_⟩
   refine aG.mk (by decide) ?_
   exact .drop 0 1 (.drop 4 1 (.done ⟨rfl,ix,lo,eV [a] on,dI+1,P0++[fF [a]],eE,iZ,gD,gy,hT,dP,nP,hA,hM,rfl⟩))
end Go.Proofs.YtnikdflhefijbaaGreat
