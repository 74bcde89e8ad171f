import Derived.Test.YtnikdflhefijbaaGreatBn14
import Derived.Test.YtnikdflhefijbaaGreatBn8
import Derived.Test.YtnikdflhefijbaaGreatBn10
import Derived.Test.YtnikdflhefijbaaGreatBn11
namespace Go.Proofs.YtnikdflhefijbaaGreat
open Go.RowKit
set_option maxRecDepth 100000
theorem mz{w:List Int}{i j:Nat}{x:Int}:(w.set i x).getD j 0=if i=j∧j<w.length then x else w.getD j 0:=by
 simp only[bg,e8]
 by_cases h:i=j
 ·subst h
  by_cases h2:i<w.length
  ·simp[h2]
  ·simp[h2]
 ·simp[h]
def gI(ix:List Int)(x:Int):Int:=if 0≤x then ix.getD x.toNat 0 else 0
theorem l8{ix:List Int}{x:Int}(h:0≤x):gI ix x=ix.getD x.toNat 0:=ah h
theorem Al{ix:List Int}{b v:Int}(h0:0≤b)(h1:b<ix.length):gI (ix.set b.toNat v)=pr (gI ix) b v:=by
 funext y
 show (if 0≤y then (ix.set b.toNat v).getD y.toNat 0 else 0)=if y=b then v else if 0≤y then ix.getD y.toNat 0 else 0
 by_cases hy:0≤y
 ·rw[ah hy,bg,e8]
  by_cases e:y=b
  ·subst e;rw[ah rfl,ah (by omega),ah rfl];rfl
  ·rw[ag (by omega),ag e,ah hy,bg]
 ·rw[ag hy,ag (by omega),ag hy]
theorem acH(n:Nat)(x:Int):gI (List.replicate n 0) x=0:=by
 unfold gI
 split
 ·rw[bg,vU];split <;> rfl
 ·rfl
structure FI(n:Nat)(nx:Int→List Int)(ix lo:List Int)(on:List Bool)(st:List Int)(aH:Nat)(P:List (List Int))(gW:List (Int×Nat)):Prop where
 tj:TJ n nx (gI ix) (gI lo) st aH P (gW.map (·.1))
 vq:Prc nx (gI ix) (gI lo) st gW
 li:ix.length=n
 ll:lo.length=n
 kE:on.length=n
 vt:∀a:Int,0≤a→a<n→on.getD a.toNat false=decide (a∈st)
 tn:∀t∈gW,t.2≤(nx t.1).length
theorem S8{on:List Bool}{b:Int}{x:Bool}(hb:0≤b)(hl:b<on.length){a:Int}(ha:0≤a):(on.set b.toNat x).getD a.toNat false=if a=b then x else on.getD a.toNat false:=by
 rw[bg,e8,bg]
 by_cases e:a=b
 ·subst e;rw[ah rfl,ah (by omega),ah rfl];rfl
 ·rw[ag (by omega),ag e]
theorem FI.start(n:Nat)(nx:Int→List Int):FI n nx (List.replicate n 0) (List.replicate n 0) (List.replicate n false) [] 0 [] []:=
 ⟨.start (acH n),fun _ h=>(by cases h),fZ,fZ,fZ,fun a _ _=>by
  rw[List.getD_eq_getElem?_getD,List.getElem?_replicate];split <;> simp,fun _ h=>(by cases h)⟩
variable {n:Nat} {nx:Int→List Int} {ix lo:List Int} {on:List Bool} {st:List Int} {aH:Nat} {P:List (List Int)}
theorem FI.enter{gW way2:List (Int×Nat)}{b:Int}(h:FI n nx ix lo on st aH P gW)(hb:0≤b∧b<n)(hf:ix.getD b.toNat 0=0)(hW:∀v∈gW.map (·.1),Rx nx v b)(ID:way2.map (·.1)=gW.map (·.1))(hp:∀t∈way2,∀y∈(nx t.1).take t.2,y=b∨(gI ix y≠0∧(y∈st→gI lo t.1≤gI ix y)))(ht:∀t∈way2,t.2≤(nx t.1).length):
  FI n nx (ix.set b.toNat ((aH+1:Nat):Int)) (lo.set b.toNat ((aH+1:Nat):Int)) (on.set b.toNat true) (st++[b]) (aH+1) P (way2++[(b,0)]):=by
 have hf:gI ix b=0:=by rw[l8 hb.1];exact hf
 have eE:b ∉ st:=fun hm=>by have:=h.tj.sg b hm;omega
 have h1:=h.tj.enter hb hf hW
 refine⟨?_,?_,by rw[cN];exact h.li,by rw[cN];exact h.ll,by rw[cN];exact h.kE,fun a h0 hn=>?_,fun t oM=>?_⟩
 ·rw[Al hb.1 (by rw[h.li];exact hb.2),Al hb.1 (by rw[h.ll];exact hb.2),cO,ID]
  exact h1
 ·rw[Al hb.1 (by rw[h.li];exact hb.2),Al hb.1 (by rw[h.ll];exact hb.2)]
  intro t oM y hy
  rcases bV.1 oM with oM | oM
  ·have htW:t.1∈gW.map (·.1):=ID▸Of oM
   have hts:t.1∈st:=h.tj.sub.subset htW
   have htb:t.1≠b:=fun e=>eE (e▸hts)
   rw[pU (f:=gI lo) htb]
   have hle:=(h.tj.low t.1 htW).1
   have Nu:=(h.tj.sg t.1 hts).2
   by_cases e:y=b
   ·subst e
    rw[pV]
    exact⟨by omega,fun _=>by omega⟩
   ·rw[pU e]
    obtain⟨h2,h3⟩:=(hp t oM y hy).resolve_left e
    exact⟨h2,fun hm=>h3 ((bV.1 hm).resolve_right fun hm=>e (bB.1 hm))⟩
  ·rw[bB.1 oM]at hy
   simp at hy
 ·rw[S8 hb.1 (by rw[h.kE];exact hb.2) h0]
  by_cases e:a=b
  ·subst e;rw[if_pos rfl];simp
  ·rw[if_neg e,h.vt a h0 hn];simp[e]
 ·rcases bV.1 oM with oM | oM
  ·exact ht t oM
  ·rw[bB.1 oM];exact bD _
theorem Ka{l:List Int}{k:Nat}(h:k<l.length){b:Int}(hb:l[k]=b):l.take (k+1)=l.take k++[b]:=by rw[fL h,hb]
theorem KJ{w:List (Int×Nat)}{a:Int}{k j:Nat}:(w++[(a,k)]).map (·.1)=(w++[(a,j)]).map (·.1):=by rw[cO,cO];rfl
theorem FI.new{w:List (Int×Nat)}{a b:Int}{k:Nat}(h:FI n nx ix lo on st aH P (w++[(a,k)]))(hk:k<(nx a).length)(hb:(nx a)[k]=b)(dG:0≤b∧b<n)(hf:ix.getD b.toNat 0=0):
  FI n nx (ix.set b.toNat ((aH+1:Nat):Int)) (lo.set b.toNat ((aH+1:Nat):Int)) (on.set b.toNat true) (st++[b]) (aH+1) P ((w++[(a,k+1)])++[(b,0)]):=by
 have NQ:b∈nx a:=hb▸cj hk
 have NT:a∈(w++[(a,k)]).map (·.1):=dP.2 ⟨(a,k),jJ _ (bB.2 rfl),rfl⟩
 have mb:=h.tj.sub
 have lM:∀v∈w.map (·.1),gI ix v<gI ix a:=by
  refine Cp h.tj.inc ?_
  rw[cO]at mb;exact mb
 refine h.enter dG hf (fun v hv=>?_) KJ (fun t ht y hy=>?_) fun t ht=>?_
 ·refine (h.tj.y9 v hv a (mb.subset NT) ?_).trans (.one NQ)
  rw[cO]at hv
  rcases bV.1 hv with hv | hv
  ·have:=lM v hv;omega
  ·rw[bB.1 hv];exact kq _
 ·rcases bV.1 ht with ht | ht
  ·exact .inr (h.vq t (gN _ ht) y hy)
  ·rw[bB.1 ht]at hy ⊢
   rw[Ka hk hb]at hy
   rcases bV.1 hy with hy | hy
   ·exact .inr (h.vq (a,k) (jJ _ (bB.2 rfl)) y hy)
   ·exact .inl (bB.1 hy)
 ·rcases bV.1 ht with ht | ht
  ·exact h.tn t (gN _ ht)
  ·rw[bB.1 ht];exact hk
theorem FI.off{w:List (Int×Nat)}{a b:Int}{k:Nat}(h:FI n nx ix lo on st aH P (w++[(a,k)]))(hk:k<(nx a).length)(hb:(nx a)[k]=b)(dG:0≤b)(hf:ix.getD b.toNat 0≠0)(hs:b ∉ st):FI n nx ix lo on st aH P (w++[(a,k+1)]):=by
 refine⟨by rw[KJ (j:=k)];exact h.tj,fun t ht y hy=>?_,h.li,h.ll,h.kE,h.vt,fun t ht=>?_⟩
 ·rcases bV.1 ht with ht | ht
  ·exact h.vq t (gN _ ht) y hy
  ·rw[bB.1 ht]at hy ⊢
   rw[Ka hk hb]at hy
   rcases bV.1 hy with hy | hy
   ·exact h.vq (a,k) (jJ _ (bB.2 rfl)) y hy
   ·rw[bB.1 hy,l8 dG]
    exact⟨hf,fun hm=>absurd hm hs⟩
 ·rcases bV.1 ht with ht | ht
  ·exact h.tn t (gN _ ht)
  ·rw[bB.1 ht];exact hk
theorem FI.HW{w:List (Int×Nat)}{a b:Int}{k:Nat}(h:FI n nx ix lo on st aH P (w++[(a,k)]))(hk:k<(nx a).length)(hb:(nx a)[k]=b)(hs:b∈st):FI n nx ix (lo.set a.toNat (min (lo.getD a.toNat 0) (ix.getD b.toNat 0))) on st aH P (w++[(a,k+1)]):=by
 have NQ:b∈nx a:=hb▸cj hk
 have dG:=h.tj.node b hs
 have NT:a∈(w++[(a,k)]).map (·.1):=dP.2 ⟨(a,k),jJ _ (bB.2 rfl),rfl⟩
 have mb:=h.tj.sub
 have sD:=h.tj.node a (mb.subset NT)
 have ca:((w++[(a,k)]).map (·.1)).Nodup:=(uc h.tj.inc).sublist mb
 have haw:∀t∈w,t.1≠a:=fun t ht e=>by
  rw[cO]at ca
  exact (oU.1 ca).2.2 t.1 (Of ht) a (bB.2 rfl) e
 have iK:=h.tj
 rw[cO]at iK
 have h1:=iK.lower (z:=b) hs (.one NQ)
 have En:gI (lo.set a.toNat (min (lo.getD a.toNat 0) (ix.getD b.toNat 0)))=pr (gI lo) a (min (gI lo a) (gI ix b)):=by rw[Al sD.1 (by rw[h.ll];exact sD.2),l8 sD.1,l8 dG.1]
 refine⟨by rw[En,KJ (j:=k),cO];exact h1,fun t ht y hy=>?_,h.li,by rw[cN];exact h.ll,h.kE,h.vt,fun t ht=>?_⟩
 ·rw[En]
  rcases bV.1 ht with ht | ht
  ·rw[pU (haw t ht)]
   exact h.vq t (gN _ ht) y hy
  ·rw[bB.1 ht]at hy ⊢
   rw[Ka hk hb]at hy
   rw[pV]
   rcases bV.1 hy with hy | hy
   ·obtain⟨h2,h3⟩:=h.vq (a,k) (jJ _ (bB.2 rfl)) y hy
    have h3:y∈st→gI lo a≤gI ix y:=h3
    exact⟨h2,fun hm=>by have:=h3 hm;omega⟩
   ·rw[bB.1 hy]
    have:=h.tj.sg b hs
    exact⟨by omega,fun _=>by omega⟩
 ·rcases bV.1 ht with ht | ht
  ·exact h.tn t (gN _ ht)
  ·rw[bB.1 ht];exact hk
theorem FI.all{w:List (Int×Nat)}{a:Int}{k:Nat}(h:FI n nx ix lo on st aH P (w++[(a,k)]))(hk:(nx a).length≤k):∀y∈nx a,gI ix y≠0∧(y∈st→gI lo a≤gI ix y):=fun y hy=>
 h.vq (a,k) (jJ _ (bB.2 rfl)) y (by rw[eG hk];exact hy)
theorem Z3{l:List Int}{i:Nat}:l.set i (l.getD i 0)=l:=by
 refine zo fun j=>?_
 rw[e8]
 by_cases e:i=j
 ·subst e
  by_cases hl:i<l.length
  ·rw[ah rfl,ah hl,bg,bF hl];rfl
  ·rw[ah rfl,ag hl,tZ (by omega)]
 ·rw[ag e]
theorem FI.up{w:List (Int×Nat)}{u v:Int}{i k:Nat}(h:FI n nx ix lo on st aH P ((w++[(u,i)])++[(v,k)]))(hk:(nx v).length≤k)(aS:lo.getD v.toNat 0≠ix.getD v.toNat 0):FI n nx ix (lo.set u.toNat (min (lo.getD u.toNat 0) (lo.getD v.toNat 0))) on st aH P (w++[(u,i)]):=by
 have iK:=h.tj
 rw[cO,cO]at iK
 have IK:u∈(w.map (·.1)++[u]++[v]):=by simp
 have IG:v∈(w.map (·.1)++[u]++[v]):=by simp
 have fm:=iK.node u (iK.sub.subset IK)
 have dm:=iK.node v (iK.sub.subset IG)
 have ca:(w.map (·.1)++[u]++[v]).Nodup:=(uc iK.inc).sublist iK.sub
 have huw:∀t∈w,t.1≠u:=fun t ht e=>(oU.1 (oU.1 ca).1).2.2 t.1 (Of ht) u (bB.2 rfl) e
 have fg:=(iK.low v IG).1
 have ab:gI lo v<gI ix v:=by
  rw[l8 dm.1,l8 dm.1]at fg ⊢;omega
 have h1:=iK.up (u:=u) (v:=v) (w:=w.map (·.1)) ab (h.all hk)
 have En:gI (lo.set u.toNat (min (lo.getD u.toNat 0) (lo.getD v.toNat 0)))=pr (gI lo) u (min (gI lo u) (gI lo v)):=by rw[Al fm.1 (by rw[h.ll];exact fm.2),l8 fm.1,l8 dm.1]
 refine⟨by rw[En,cO];exact h1,fun t ht y hy=>?_,h.li,by rw[cN];exact h.ll,h.kE,h.vt,fun t ht=>h.tn t (gN _ ht)⟩
 rw[En]
 obtain⟨h2,h3⟩:=h.vq t (gN _ ht) y hy
 refine⟨h2,fun hm=>?_⟩
 have:=h3 hm
 by_cases e:t.1=u
 ·rw[e]at this ⊢;rw[pV];omega
 ·rw[pU e];exact this
def eU(part:List Int)(on:List Bool):List Bool:=part.foldl (fun on b=>on.set b.toNat false) on
theorem Fv:∀(part:List Int) (on:List Bool),(eU part on).length=on.length
 | [],_=>rfl
 |b::part,on=>by
  show (eU part (on.set b.toNat false)).length=_
  rw[Fv part,cN]
theorem RP{a:Int}(ha:0≤a):∀(part:List Int) (on:List Bool),(∀b∈part,0≤b∧b<on.length)→(eU part on).getD a.toNat false=if a∈part then false else on.getD a.toNat false
 | [],_,_=>by simp[eU]
 |b::part,on,h=>by
  have hb:=h b (ck ..)
  show (eU part (on.set b.toNat false)).getD a.toNat false=_
  rw[RP ha part _ fun c hc=>by rw[cN];exact h c (cW _ hc),S8 hb.1 hb.2 ha]
  by_cases h1:a∈part
  ·rw[ah h1,ah (cW _ h1)]
  ·rw[ag h1]
   by_cases h2:a=b
   ·rw[ah h2,ah (by rw[h2];exact ck ..)]
   ·rw[ag h2,ag (by rw[eF];exact fun h=>h.elim h2 h1)]
theorem FI.tell{w:List (Int×Nat)}{v:Int}{k:Nat}{A B part:List Int}(h:FI n nx ix lo on st aH P (w++[(v,k)]))(hk:(nx v).length≤k)(ao:st=A++v::B)(heq:lo.getD v.toNat 0=ix.getD v.toNat 0)(cQ:∀x y,y∈nx x→0≤y∧y<n)(hp:part.Perm (v::B))(hs:part.Pairwise (· < ·)):FI n nx ix lo (eU (v::B) on) A aH (P++[part]) w:=by
 have iK:=h.tj
 rw[cO]at iK
 have dm:=iK.node v (by rw[ao];simp)
 have h1:=iK.tell (w:=w.map (·.1)) (part:=part) ao (by rw[l8 dm.1,l8 dm.1];exact heq) (h.all hk) cQ hp hs
 have tR:∀x∈A,x∈st:=fun x hx=>by rw[ao];exact gN _ hx
 refine⟨h1,fun t ht y hy=>?_,h.li,h.ll,by rw[Fv];exact h.kE,fun a h0 hn=>?_,fun t ht=>h.tn t (gN _ ht)⟩
 ·obtain⟨h2,h3⟩:=h.vq t (gN _ ht) y hy
  exact⟨h2,fun hm=>h3 (tR y hm)⟩
 ·rw[RP h0 _ _ fun b hb=>by rw[h.kE];exact iK.node b (by rw[ao];exact jJ _ hb),h.vt a h0 hn]
  have ca:=uc iK.inc
  rw[ao]at ca
  by_cases hm:a∈v::B
  ·rw[ah hm]
   exact (bZ fun hA=>(oU.1 ca).2.2 a hA a hm rfl).symm
  ·rw[ag hm]
   refine Bool.eq_iff_iff.2 ?_
   rw[decide_eq_true_eq,decide_eq_true_eq,ao,bV]
   exact⟨fun h=>h.resolve_right hm,.inl⟩
theorem FI.same{w:List (Int×Nat)}{u v:Int}{i k:Nat}(h:FI n nx ix lo on st aH P ((w++[(u,i)])++[(v,k)]))(heq:lo.getD v.toNat 0=ix.getD v.toNat 0):lo.set u.toNat (min (lo.getD u.toNat 0) (lo.getD v.toNat 0))=lo:=by
 have iK:=h.tj
 rw[cO,cO]at iK
 have IK:u∈(w.map (·.1)++[u]++[v]):=by simp
 have IG:v∈(w.map (·.1)++[u]++[v]):=by simp
 have fm:=iK.node u (iK.sub.subset IK)
 have dm:=iK.node v (iK.sub.subset IG)
 have h1:=(iK.low u IK).1
 have h2:=Cp iK.inc iK.sub u (by simp)
 rw[l8 fm.1,l8 fm.1]at h1
 rw[l8 fm.1,l8 dm.1]at h2
 rw[show min (lo.getD u.toNat 0) (lo.getD v.toNat 0)=lo.getD u.toNat 0 by omega]
 exact Z3
theorem FI.TQ(h:FI n nx ix lo on st aH P []):st=[]:=h.tj.empty
theorem FI.one{v:Int}{k:Nat}(h:FI n nx ix lo on st aH P [(v,k)]):lo.getD v.toNat 0=ix.getD v.toNat 0:=by
 have dm:=h.tj.node v (h.tj.sub.subset (by simp))
 have:=h.tj.first
 rw[l8 dm.1,l8 dm.1]at this
 exact this
theorem FI.mem{w:List (Int×Nat)}{v:Int}{k:Nat}(h:FI n nx ix lo on st aH P (w++[(v,k)])):v∈st:=h.tj.sub.subset (by simp)
theorem FI.Ao{gW:List (Int×Nat)}(h:FI n nx ix lo on st aH P gW):aH≤n∧st.length≤n∧P.flatten.length≤n:=by
 have ca:(P.flatten++st).Nodup:=oU.2 ⟨h.tj.prt.nd,uc h.tj.inc,fun x hx y hy e=>by
  subst e
  obtain⟨p,hp,rq⟩:=oT.1 hx
  exact h.tj.zA p hp x rq hy⟩
 have hn:∀z∈P.flatten++st,0≤z∧z<(n:Int):=fun z hz=>by
  rcases bV.1 hz with hz | hz
  ·obtain⟨p,hp,hz⟩:=oT.1 hz
   exact h.tj.prt.node p hp z hz
  ·exact h.tj.node z hz
 have mb:=Kz ca (m:=(List.range n).map fun i:Nat=>(i:Int)) fun z hz=>dP.2 ⟨z.toNat,gm.2 (by have:=hn z hz;omega),by have:=hn z hz;omega⟩
 rw[bP,cm,pN]at mb
 have:=h.tj.len
 omega
def jg(nx:Int→List Int)(gW:List (Int×Nat)):Nat:=(gW.map fun t=>(nx t.1).length+1-t.2).sum
def iE(nx:Int→List Int)(ix:List Int)(n:Nat):Nat:=((List.range n).map fun a:Nat=>if ix.getD a 0=0 then (nx a).length+2 else 0).sum
theorem l5(nx:Int→List Int)(w:List (Int×Nat))(a:Int)(k:Nat):jg nx (w++[(a,k)])=jg nx w+((nx a).length+1-k):=by unfold jg;simp
theorem Qw(nx:Int→List Int)(ix:List Int)(n:Nat):iE nx ix (n+1)=iE nx ix n+if ix.getD n 0=0 then (nx n).length+2 else 0:=by unfold iE;rw[List.range_succ];simp
theorem KC{nx:Int→List Int}{ix:List Int}{b:Nat}{v:Int}(hv:v≠0)(hf:ix.getD b 0=0)(hb:b<ix.length):∀n,iE nx (ix.set b v) n+(if b<n then (nx b).length+2 else 0)=iE nx ix n
 | 0=>rfl
 |n+1=>by
  have ih:=KC (nx:=nx) hv hf hb n
  rw[Qw,Qw]
  have hg:(ix.set b v).getD n 0=if b=n then v else ix.getD n 0:=by
   rw[bg,e8]
   by_cases e:b=n
   ·subst e;rw[ah rfl,ah hb,ah rfl];rfl
   ·rw[ag e,ag e,bg]
  rw[hg]
  by_cases e:b=n
  ·subst e
   rw[ah rfl,ag hv,ah hf,ah (by omega)]
   rw[ag (by omega)]at ih
   omega
  ·rw[ag e]
   by_cases c:b<n
   ·have e2:(if b<n+1 then (nx b).length+2 else 0)=(nx b).length+2:=ah (by omega)
    rw[ah c]at ih;rw[e2];omega
   ·have e2:(if b<n+1 then (nx b).length+2 else 0)=0:=ag (by omega)
    rw[ag c]at ih;rw[e2];omega
theorem aav(l:List Int){i:Nat}(h:i<l.length):(an l)[i]?=some (.int .i64 (l.getD i 0)):=by
 unfold an;rw[fo,bF h,bg,bF h];rfl
theorem zQ{l:List Int}{z:Int}{k:Nat}(hz:z=k)(h:k<l.length):ey ⟨.int .i64,1,8,[.int .i64 0]⟩ (an l) (0+z.toNat*1)=some (.int .i64 (l.getD k 0)):=by
 subst hz
 rw[ef,dO,bM]
 exact jc rfl (aav l h)
theorem Acc.xm{e k:Nat}{v:AV}{acc:Hp}{cs:List AV}(h:Acc e k v acc cs):Acc e k (bQ v) acc cs:=by
 cases h with
 |nil=>exact .nil
 |ae b k cs h=>exact .ae b k cs h
theorem Z2{α:Type}(l:List α)(x y:α){k:Nat}(h:k=l.length):(l++[x]).set k y=l++[y]:=by subst h;simp
theorem aaz{α:Type}(l:List α)(x:α){k:Nat}(h:k=l.length):(l++[x])[k]?=some x:=by subst h;simp
theorem sU{k:Nat}{v:AV}{acc:Hp}{cs:List AV}(h0:0<k)(h:Acc 1 k v acc cs):∃b,v=.ae b 0 k 1∧acc=[(b,cs)]:=by
 cases h with
 |nil=>omega
 |ae b k cs h=>exact⟨b,rfl,rfl⟩
theorem ud(P:List (List Int)):(cC P).length=P.length:=cm _
theorem aaw{l:List Int}{J:List AV}{k:Nat}(h:k<l.length):(an l++J)[k]?=some (.int .i64 (l.getD k 0)):=by
 rw[jY (by rw[Lm];exact h)]
 unfold an
 rw[fo,bg,bF h];rfl
theorem TC(b k:Nat)(A B:List Int)(J:List AV)(x:Int)(σ:Hp)(hk:(A++x::B).length=k)(hx:x ∉ A)(hl:k≤1000000):ACalls Tryz.prog 287 [.ae b 0 k 1,.int .i64 x] ((b,an (A++x::B)++J)::σ) (aE (.int .i64 A.length) ((b,an (A++x::B)++J)::σ)):=by
 have hkA:A.length<k:=by rw[← hk,bP,iy];omega
 refine az Tryz.func287 ?_
 refine cc (S:=Nat) (fun s=>[(0,.ae b 0 k 1),(1,.int .i64 x),(7,.int .i64 k),(8,.int .i64 s)]) (fun _=>(b,an (A++x::B)++J)::σ) (fun s=>s≤A.length) (fun s=>A.length-s) 0 ⟨bD _,⟨rfl,rfl,rfl,rfl,trivial⟩,rfl⟩ ?_
 rintro i t gk
 have hi:i≤A.length:=gk
 clear gk
 refine aq (p:=(i:Int)<k) (fun ab=>?_) (fun au=>?_)
 ·have hg:=aaw (l:=A++x::B) (J:=J) (k:=i) (by omega)
  obtain⟨y,hy⟩:∃y,(A++x::B).getD i 0=y:=⟨_,rfl⟩
  rw[hy]at hg
  refine aM ?_
  refine aT 0 rfl (jc rfl (by rw[ef,dO,bM];exact hg)) ?_
  refine aq (fun c=>?_) (fun c=>?_)
  ·have c:x=y:=c
   refine .done ⟨?_,rfl⟩
   by_cases e:i=A.length
   ·subst e;rfl
   ·have:y∈A:=by
     rw[← hy,bg,jY (by omega),bF (by omega)]
     exact cj _
    exact absurd (c▸this) hx
  ·have c:¬x=y:=c
   have aS:i≠A.length:=fun e=>by
    subst e
    refine c ?_
    rw[← hy,bg,iX (a8 _),pL];rfl
   exact bj (i+1) (by show A.length-(i+1)<A.length-i;omega) (by show i+1≤A.length;omega) ⟨rfl,rfl,rfl,aY (by omega),trivial⟩ (.refl _)
 ·omega
theorem TE(b off k:Nat)(C cs:List AV)(σ:Hp)(h:(C.drop off).take (k*1)=cs)(h2:off+k*1≤C.length)(hl:k≤1000000):ACalls Tryz.prog 220 [.ae b off k 1] ((b,C)::σ) (fun x σ'=>∃b',x=.ae b' 0 k 1∧σ'=(b',cs)::(b,C)::σ):=by
 refine az Tryz.func220 ?_
 intro b2
 refine AppendAt.more 0 b2 0 k [] ((C.drop off).take (k*1)) rfl rfl (cD rfl) (.mem (cW _ (ck ..)) h2) (by omega) (by decide) (by decide) (fun b'=>?_)
 refine .done ⟨b',by rw[ef];rfl,?_⟩
 rw[h];rfl
theorem Su(w bi bl bo n:Nat)(N:List (List Int))(ix lo:List Int)(on:List Bool)(aH:Nat)(vs vp:AV)(a:Int)(σ:Hp)(h0:0≤a)(hn:a<n)(hi:ix.length=n)(hl:lo.length=n)(aS:lo.getD a.toNat 0≠ix.getD a.toNat 0):
  ACalls Tryz.prog 315 [.ptr w 0,.int .i64 a] ((w,df N bi bl bo n vs aH vp)::(bi,an ix)::(bl,an lo)::(bo,bN on)::σ) (aE (.tup []) ((w,df N bi bl bo n vs aH vp)::(bi,an ix)::(bl,an lo)::(bo,bN on)::σ)):=by
 refine az Tryz.func315 ?_
 refine .quiet (by kernel_rfl) ?_
 refine aa 0 ?_
 refine aM ?_
 refine aT 2 rfl (e9 rfl h0 (by omega)) ?_
 refine aa 0 ?_
 refine aM ?_
 refine aT 1 rfl (e9 rfl h0 (by omega)) ?_
 refine ew (fun c=>?_) (fun c=>?_)
 ·exact .done ⟨rfl,rfl⟩
 ·exact absurd (by simpa using c) aS
theorem Qc(w bi bl bo n:Nat)(N:List (List Int))(ix lo A B:List Int)(on:List Bool)(P:List (List Int))(aH:Nat)(vs vp:AV)(lN eM:Hp)(a:Int)(σ:Hp)(h0:0≤a)(hn:a<n)(hi:ix.length=n)(hl:lo.length=n)(ho:on.length=n)(he:lo.getD a.toNat 0=ix.getD a.toNat 0)(NU:a ∉ A)(hB:∀x∈a::B,0≤x∧x<n)(dg:(A++a::B).length≤10000)(sy:P.length≤10000)
  (hs:iG 1 (A++a::B).length vs lN (an (A++a::B))) (hp:Acc 1 P.length vp eM (cC P)) :
  ACalls Tryz.prog 315 [.ptr w 0,.int .i64 a] ((w,df N bi bl bo n vs aH vp)::(bi,an ix)::(bl,an lo)::(bo,bN on)::(lN++(eM++σ)))
   (fun r σ'=>r=.tup []∧∃eC je gC gy,iG 1 A.length eC je (an A)∧Acc 1 (P++[fG (a::B)]).length gC gy (cC (P++[fG (a::B)]))∧σ'=(w,df N bi bl bo n eC aH gC)::(bi,an ix)::(bl,an lo)::(bo,bN (eU (a::B) on))::(je++(gy++σ))):=by
 obtain⟨K,hK⟩:∃K,(A++a::B).length=K:=⟨_,rfl⟩
 obtain⟨L,hL⟩:∃L:List Int,a::B=L:=⟨_,rfl⟩
 obtain⟨q,hq⟩:∃q,L.length=q:=⟨_,rfl⟩
 have hKA:K=A.length+q:=by rw[← hK,bP,hL,hq]
 have hq0:0<q:=by rw[← hq,← hL,iy];omega
 rw[hK]at hs dg
 obtain⟨bs,J,rfl,rfl,N6⟩:=hs.pos (by omega)
 have iR:((an (A++a::B)++J).drop A.length).take (q*1)=an L:=by
  rw[hL]
  unfold an
  rw[cO,dQ,Ou (by rw[cm];exact a8 _),Jt (by rw[cm];exact a8 _),vQ,Jz (by rw[cm];omega),eG (by rw[cm];omega)]
 have er:A.length+q*1≤(an (A++a::B)++J).length:=by rw[bP,N6];omega
 refine az Tryz.func315 ?_
 refine .quiet (by kernel_rfl) ?_
 refine aa 0 ?_
 refine aM ?_
 refine aT 2 rfl (e9 rfl h0 (by omega)) ?_
 refine aa 0 ?_
 refine aM ?_
 refine aT 1 rfl (e9 rfl h0 (by omega)) ?_
 refine ew (fun c=>?_) (fun c=>?_)
 ·exact absurd he (by simpa using c)
 clear c
 refine aa 0 ?_
 refine ay [4] (TC bs K A B J a _ hK NU (by omega)) ?_
 refine aa 1 ?_
 refine aI.mk ⟨by omega,by omega,by omega,rfl⟩ ?_
 have hC:∀σ,ACalls Tryz.prog 220 [.ae bs (0+((A.length:Nat):Int).toNat*1) (((K:Nat):Int).toNat-((A.length:Nat):Int).toNat) 1] ((bs,an (A++a::B)++J)::σ) (fun x σ'=>∃b',x=.ae b' 0 q 1∧σ'=(b',an L)::(bs,an (A++a::B)++J)::σ):=fun σ=>by
  rw[show 0+((A.length:Nat):Int).toNat*1=A.length by omega,show ((K:Nat):Int).toNat-((A.length:Nat):Int).toNat=q by omega]
  exact TE bs A.length q _ _ σ iR er (by omega)
 refine .mk [0] _ (hC _) ?_
 rintro _ _ ⟨bp,rfl,rfl⟩
 refine aa 2 ?_
 refine aI.mk ⟨by omega,by omega,by omega,by omega,rfl⟩ ?_
 refine ai 2 ?_
 refine cc (S:=Nat) (fun i=>[(0,.ptr w 0),(5,.ae bp 0 q 1),(46,.ae bp 0 q 1),(47,.int .i64 q),(48,.int .i64 i)]) (fun i=>(bp,an L)::(bs,an (A++a::B)++J)::(w,df N bi bl bo n (.ae bs 0 A.length 1) aH vp)::(bi,an ix)::(bl,an lo)::(bo,bN (eU (L.take i) on))::(eM++σ)) (fun i=>i≤q) (fun i=>q-i) 0 ⟨bD _,⟨rfl,rfl,rfl,rfl,rfl,trivial⟩,rfl⟩ ?_
 rintro i g gk
 have hiq:i≤q:=gk
 clear gk
 refine aq (p:=(i:Int)<q) (fun ab=>?_) (fun au=>?_)
 ·have ab:i<L.length:=by omega
  obtain⟨x,hx⟩:∃x,L[i]=x:=⟨_,rfl⟩
  have Ei:=hB x (by rw[hL,← hx];exact cj ab)
  have nO:=Fv (L.take i) on
  have MG:(eU (L.take i) on).set x.toNat false=eU (L.take (i+1)) on:=by unfold eU;rw[fL ab,hx,tV];rfl
  have nL:ey ⟨.int .i64,1,8,[.int .i64 0]⟩ (an L) (0+((i:Nat):Int).toNat*1)=some (.int .i64 x):=by
   rw[e9 rfl (by omega) (by omega),bM,bg,bF ab,hx];rfl
  refine aM ?_
  refine aT 0 rfl nL ?_
  refine aa 2 ?_
  refine aM ?_
  refine da 5 rfl (x7 rfl false Ei.1 (by omega)) ?_
  exact bj (i+1) (by show q-(i+1)<q-i;omega) (by show i+1≤q;omega) ⟨rfl,rfl,rfl,rfl,aY (by omega),trivial⟩ (aJ (by rw[MG];rfl))
 ·have au:i=q:=by omega
  subst au
  refine ay [0] (LP bp L i _ hq (by omega)) ?_
  refine aa 2 ?_
  intro dw
  refine zI [_,_,_,_,_,_,_] hp.xm (.ae 0 dw 0 1 _ rfl (cD rfl)) rfl (by omega) (by decide) (by decide) (fun v' aU h'=>?_)
  obtain⟨b5,rfl,rfl⟩:=sU (by omega) h'
  refine ai 3 ?_
  have hgs:=aaz (cC P) (AV.ae bp 0 i 1) (k:=P.length) (ud P).symm
  have hss:=Z2 (cC P) (AV.ae bp 0 i 1) (.af (.int .i64) (fG L)) (k:=P.length) (ud P).symm
  refine .kz 1 bp 0 i 1 _ (.int .i64) (fG L) rfl (by rw[gM,eG (by rw[jy,zG,dO];omega)];exact ui _) ⟨(zG L).trans hq,rfl,by decide⟩ 6 P.length b5 _ rfl hgs ?_
  refine .drop 0 1 (.perm (fC [_,_,_,_] [_] _).symm (.done ⟨rfl,.ae bs 0 A.length 1,[(bs,an A++(an L++J))],.ae b5 0 (P.length+1) 1,[(b5,cC (P++[fG L]))],.ae bs A.length (an A) (an L++J) (by rw[jy,dO]),?_,?_⟩))
  ·subst hL
   rw[bP]
   exact .ae b5 (P.length+1) (cC (P++[fG (a::B)])) ((ud _).trans (by rw[bP,dO];rfl))
  ·rw[eG (Bs hq)]
   subst hL
   have e1:an (A++a::B)++J=an A++(an (a::B)++J):=by unfold an;rw[cO,dQ]
   have e2:cC (P++[fG (a::B)])=cC P++[.af (.int .i64) (fG (a::B))]:=cO
   rw[e1,e2,← hss]
   rfl
def bK(l:List (Int×Nat)):List AV:=l.flatMap fun t=>[.int .i64 t.1,.int .i64 t.2]
theorem my:∀l:List (Int×Nat),(bK l).length=l.length*2
 | []=>rfl
 |t::l=>by
  show ([AV.int .i64 t.1,.int .i64 t.2]++bK l).length=_
  rw[bP,my l,iy]
  show 2+l.length*2=(l.length+1)*2
  omega
theorem oY(l m:List (Int×Nat)):bK (l++m)=bK l++bK m:=vT
theorem rJ{w:List (Int×Nat)}{v:Int}{k:Nat}{J:List AV}{m:Nat}(hm:m=w.length):(bK (w++[(v,k)])++J)[m*2]?=some (.int .i64 v):=by
 subst hm
 rw[oY,dQ,iX (by rw[my];omega),my,pL];rfl
theorem B0{w:List (Int×Nat)}{v:Int}{k:Nat}{J:List AV}{m:Nat}(hm:m=w.length):(bK (w++[(v,k)])++J)[m*2+1]?=some (.int .i64 k):=by
 subst hm
 rw[oY,dQ,iX (by rw[my];omega),my,Ju];rfl
theorem Cj{w:List (Int×Nat)}{v:Int}{k:Nat}{J:List AV}{m:Nat}(hm:m=w.length):(bK (w++[(v,k)])++J).set (m*2+1) (.int .i64 ((k+1:Nat):Int))=bK (w++[(v,k+1)])++J:=by
 subst hm
 rw[oY,oY,dQ,dQ,JC _ _ (by rw[my];omega),my,Ju];rfl
def bY(n:Nat)(l:List bE):List (List Int):=(List.range n).map fun a:Nat=>ar n l a
theorem pc{n:Nat}{l:List bE}{a:Int}(h:0≤a∧a<n):(bY n l)[a.toNat]?=some (ar n l a):=by
 unfold bY
 rw[fo,tX (by omega)]
 show some (ar n l (a.toNat:Int))=_
 rw[lZ h.1]
theorem BP(zs:List Int):(fG zs).Perm zs:=List.mergeSort_perm _ _
theorem Fs{zs:List Int}(h:zs.Nodup):(fG zs).Pairwise (· < ·):=((OZ zs).and ((BP zs).nodup_iff.2 h)).imp fun h=>by omega
theorem FD{n:Nat}{nx:Int→List Int}{P:List (List Int)}(h:qK n nx P):P.length≤P.flatten.length:=by
 have:=h.ne
 clear h
 induction P with
 |nil=>exact a8 _
 |cons p P ih=>
  have h1:=mW.2 (this p (ck ..))
  have h2:=ih fun q hq=>this q (cW _ hq)
  rw[Bz,bP,iy];omega
theorem SM{i:TI}(hw:i.wide=true){cs v:List AV}{off:Nat}(h:off+i.size≤cs.length)(hv:(cs.drop off).take i.size=v):ey i cs off=some (.agg v):=by
 unfold ey
 rw[hw]
 show (match Nat.ble (off+i.size) cs.length with | true=>some (AV.agg ((cs.drop off).take i.size)) | false=>none)=_
 rw[Oz h,hv]
theorem Pv{w:List (Int×Nat)}{v:Int}{k:Nat}{J:List AV}{m:Nat}(hm:m=w.length):((bK (w++[(v,k)])++J).drop (m*2)).take 2=[.int .i64 v,.int .i64 k]:=by
 subst hm
 rw[oY,dQ,Ou (by rw[my];exact a8 _),Jt (by rw[my];exact a8 _)];rfl
theorem wg(X a σ:Hp)(x y:Nat×List AV):(X++(a++(x::y::σ))).Perm (x::(X++(y::(a++σ)))):=by
 have h1:(a++(x::y::σ)).Perm (x::y::(a++σ)):=nS.trans (List.Perm.cons _ nS)
 exact (List.Perm.append_left X h1).trans nS
def C3(rec:Go.Code→Tm→Hp→(Ex→Tm→Hp→Prop)→Prop)(c:Go.Code){S:Type}(fX:S→Nat)(L:S→List (Nat×AV))(H:S→Hp)(p:S→Prop)(μ:S→Nat)(Q:Ex→Tm→Hp→Prop):Prop:=
 ∀s g,p s→(match findLabel c (fX s) with | some r=>rec r (eN g (L s)) (H s) (fun e t' σ'=>match e with | .goto l'=>ra fX L H p μ s l' t' σ' | e=>Q e t' σ') | none=>False)
theorem Pt{P:Program}{TT:TypeId→Option TI}{fn:Go.Func}{c:Go.Code}{xs:List AV}{σ:Hp}{R:AV→Hp→Prop}{S:Type}(hb:fn.body=some (.scope c))(fX:S→Nat)(L:S→List (Nat×AV))(H:S→Hp)(p:S→Prop)(μ:S→Nat)
  (hr:C3 (mG P TT 999) c fX L H p μ (uN TT fn.results.toList R))
  (h:C3 (mG P TT 999) c fX L H p μ (uN TT fn.results.toList R)→codeF P TT (mG P TT 999) (.scope c) (t0 xs) σ (uN TT fn.results.toList R)):uO P TT fn xs σ R:=by
 have h1:mG P TT 1000 (.scope c) (t0 xs) σ (uN TT fn.results.toList R):=h hr
 unfold uO
 rw[hb]
 exact h1
theorem wk{rec:Go.Code→Tm→Hp→(Ex→Tm→Hp→Prop)→Prop}{c:Go.Code}{S:Type}{fX:S→Nat}{L:S→List (Nat×AV)}{H:S→Hp}{p:S→Prop}{μ:S→Nat}{Q:Ex→Tm→Hp→Prop}{t:Tm}{σ:Hp}{l:Nat}(hr:C3 rec c fX L H p μ Q)(s0:S)(h0:l=fX s0∧p s0∧agree t (L s0)∧jm σ (H s0)):
  rb (fun l t σ Q=>match findLabel c l with | some r=>rec r t σ Q | none=>False) l Q t σ:=.loop fX L H p μ s0 h0 hr
abbrev FrS:=(List Int×List Int×List Bool×List Int×Nat×List (List Int))×(Nat×List AV×AV×Hp)×(List (Int×Nat)×Int×Nat)×(Nat×List AV)
theorem afs(n w bi bl bo:Nat)(l:List bE)(lP vA:List Int)(vu:List Bool)(dF:Nat)(P0:List (List Int))(tD fW:AV)(uP iD:Hp)(a:Int)(σ:Hp)(hn:n≤1000)(h:FI n (ar n l) lP vA vu [] dF P0 [])(ha:0≤a∧a<n)(hf:lP.getD a.toNat 0=0)(hs:iG 1 0 tD uP [])(hp:Acc 1 P0.length fW iD (cC P0)):
  ACalls Tryz.prog 290 [.ptr w 0,.int .i64 a] ((w,df (bY n l) bi bl bo n tD dF fW)::(bi,an lP)::(bl,an vA)::(bo,bN vu)::(uP++(iD++σ)))
   (fun r σ'=>r=.tup []∧∃ix lo on aH P vs lN vp eM,FI n (ar n l) ix lo on [] aH P []∧iG 1 0 vs lN []∧Acc 1 P.length vp eM (cC P)∧ix.getD a.toNat 0≠0∧(∀b:Nat,lP.getD b 0≠0→ix.getD b 0≠0)∧σ'=(w,df (bY n l) bi bl bo n vs aH vp)::(bi,an ix)::(bl,an lo)::(bo,bN on)::(lN++(eM++σ))):=by
 have hle:=h.Ao
 refine az Tryz.func290 ?_
 refine Pt (S:=FrS) rfl (fun _=>0)
  (fun x=>[(0,.ptr w 0),(4,.ae x.2.2.2.1 0 (x.2.2.1.1.length+1) 2)])
  (fun x=>(w,df (bY n l) bi bl bo n (.ae x.2.1.1 0 x.1.2.2.2.1.length 1) x.1.2.2.2.2.1 x.2.1.2.2.1)::(bi,an x.1.1)::(bl,an x.1.2.1)::(bo,bN x.1.2.2.1)::(x.2.1.1,an x.1.2.2.2.1++x.2.1.2.1)::(x.2.2.2.1,bK (x.2.2.1.1++[(x.2.2.1.2.1,x.2.2.1.2.2)])++x.2.2.2.2)::(x.2.1.2.2.2++σ))
  (fun x=>(FI n (ar n l) x.1.1 x.1.2.1 x.1.2.2.1 x.1.2.2.2.1 x.1.2.2.2.2.1 x.1.2.2.2.2.2 (x.2.2.1.1++[(x.2.2.1.2.1,x.2.2.1.2.2)])∧Acc 1 x.1.2.2.2.2.2.length x.2.1.2.2.1 x.2.1.2.2.2 (cC x.1.2.2.2.2.2))∧x.1.1.getD a.toNat 0≠0∧∀b:Nat,lP.getD b 0≠0→x.1.1.getD b 0≠0)
  (fun x=>jg (ar n l) (x.2.2.1.1++[(x.2.2.1.2.1,x.2.2.1.2.2)])+iE (ar n l) x.1.1 n) ?_ ?_
 ·rintro⟨⟨ix,lo,on,st,aH,P⟩,⟨bs,Js,vp,eM⟩,⟨wy,v,k⟩,⟨bw,J⟩⟩ g ⟨⟨sF,tQ⟩,lU,EN⟩
  have hF:FI n (ar n l) ix lo on st aH P (wy++[(v,k)]):=sF
  have hP:Acc 1 P.length vp eM (cC P):=tQ
  have hA:ix.getD a.toNat 0≠0:=lU
  have hM:∀b:Nat,lP.getD b 0≠0→ix.getD b 0≠0:=EN
  clear sF tQ lU EN
  have hle:=hF.Ao
  have bS:=hF.mem
  have dm:=hF.tj.node v bS
  have Bg:k≤(ar n l v).length:=hF.tn (v,k) (jJ _ (bB.2 rfl))
  have mj:=xW n l v
  have vC:wy.length+1≤st.length:=by
   have:=hF.tj.sub.length_le
   rw[cm,bP]at this
   exact this
  have nE:IntKind.i64.wrap (((wy.length+1:Nat):Int)-1)=((wy.length:Nat):Int):=by rw[cy (by omega)];omega
  have hX:0+(IntKind.i64.wrap (((wy.length+1:Nat):Int)-1)).toNat*2=wy.length*2:=by rw[nE];omega
  have mO:ey ⟨.int .i64,1,8,[.int .i64 0]⟩ (bK (wy++[(v,k)])++J) (0+(IntKind.i64.wrap (((wy.length+1:Nat):Int)-1)).toNat*2+0)=some (.int .i64 v):=jc rfl (by rw[hX];exact rJ rfl)
  have lR:ey ⟨.int .i64,1,8,[.int .i64 0]⟩ (bK (wy++[(v,k)])++J) (0+(IntKind.i64.wrap (((wy.length+1:Nat):Int)-1)).toNat*2+1)=some (.int .i64 k):=jc rfl (by rw[hX];exact B0 rfl)
  have er:(bK (wy++[(v,k)])++J).length=wy.length*2+2+J.length:=by rw[bP,my,bP];show (wy.length+1)*2+_=_;omega
  have mR:IntKind.i64.wrap ((k:Int)+1)=((k+1:Nat):Int):=by rw[cy (by omega)];omega
  have vD:kQ ⟨.int .i64,1,8,[.int .i64 0]⟩ (bK (wy++[(v,k)])++J) (0+(IntKind.i64.wrap (((wy.length+1:Nat):Int)-1)).toNat*2+1) (.int .i64 (IntKind.i64.wrap ((k:Int)+1)))=some (bK (wy++[(v,k+1)])++J):=by
   rw[uA rfl rfl (by rw[hX,er];omega),hX,mR,Cj rfl]
  have uL:2=2∧0≤IntKind.i64.wrap (((wy.length+1:Nat):Int)-1)∧IntKind.i64.wrap (((wy.length+1:Nat):Int)-1)<((wy.length+1:Nat):Int):=⟨rfl,by omega,by omega⟩
  refine aI.mk uL ?_
  refine .quiet (by kernel_rfl) ?_
  refine aT 5 rfl lR ?_
  refine aa 0 ?_
  refine aT 5 rfl mO ?_
  refine aI.mk rfl ?_
  refine bL.mk (ar n l v) (by omega) (pc dm) ?_
  refine aq (p:=(k:Int)<(ar n l v).length) (fun ab=>?_) (fun au=>?_)
  ·have ab:k<(ar n l v).length:=by omega
   obtain⟨b,hb⟩:∃b,(ar n l v)[k]=b:=⟨_,rfl⟩
   have sB:b∈ar n l v:=hb▸cj ab
   have dG:=(lD.1 sB).1
   refine .quiet (by kernel_rfl) ?_
   refine aa 0 ?_
   refine aT 5 rfl mO ?_
   refine aI.mk rfl ?_
   refine bL.mk (ar n l v) (by omega) (pc dm) ?_
   refine aT 5 rfl lR ?_
   refine aI.mk rfl ?_
   refine bL.mk b (by omega) ((get_some ab).trans (congrArg some hb)) ?_
   refine aT 5 rfl lR ?_
   refine da 5 rfl vD ?_
   refine aa 0 ?_
   refine aM ?_
   refine aT 1 rfl (e9 rfl dG.1 (by rw[hF.li];omega)) ?_
   refine aq (p:=ix.getD b.toNat 0=0) (fun c1=>?_) (fun c1=>?_)
   ·have hN:=hF.new ab hb dG c1
    have dY:(an st).length=st.length*1:=by rw[jy,dO]
    refine .mk [] _ (Ap w bi bl bo n (bY n l) ix lo st on aH _ vp _ b ((bw,bK (wy++[(v,k+1)])++J)::(eM++σ)) dG.1 dG.2 hF.li hF.ll hF.kE (.ae bs st.length (an st) Js dY) (by omega) (by omega)) ?_
    rintro _ _ ⟨rfl,A4,Ds,fv,rfl⟩
    obtain⟨l4,oW,rfl,rfl,_⟩:=fv.pos (by rw[bP];show 0<_+1;omega)
    intro aG
    have H0:(bK (wy++[(v,k+1)])).length=(wy.length+1)*2:=by rw[my,bP];rfl
    refine xT (k:=wy.length+1) (n:=1) [_,_,_,_,_,_] (.ae bw (wy.length+1) (bK (wy++[(v,k+1)])) J H0) (.ae 0 aG 0 1 _ rfl (cD rfl)) rfl (by omega) (by decide) (by decide) (fun v' aU h'=>?_)
    obtain⟨oV,J2,rfl,rfl,_⟩:=h'.pos (by omega)
    have NA:(wy++[(v,k+1)]).length+1=wy.length+1+1:=by rw[bP];rfl
    have vK:(b.toNat:Int)=b:=lZ dG.1
    have sw:=KC (nx:=ar n l) (ix:=ix) (b:=b.toNat) (v:=((aH+1:Nat):Int)) (by omega) c1 (by rw[hF.li];omega) n
    rw[ah (by omega),vK]at sw
    refine .mk ((ix.set b.toNat ((aH+1:Nat):Int),lo.set b.toNat ((aH+1:Nat):Int),on.set b.toNat true,st++[b],aH+1,P),(l4,oW,vp,eM),(wy++[(v,k+1)],b,0),(oV,J2)) rfl ?_ ⟨⟨hN,hP⟩,?_,?_⟩ ⟨rfl,by rw[NA];rfl,trivial⟩ (.drop 0 1 (aJ (by rw[oY (wy++[(v,k+1)])];rfl)))
    ·show jg (ar n l) ((wy++[(v,k+1)])++[(b,0)])+iE (ar n l) (ix.set b.toNat ((aH+1:Nat):Int)) n<jg (ar n l) (wy++[(v,k)])+iE (ar n l) ix n
     rw[l5,l5,l5];omega
    ·show (ix.set b.toNat ((aH+1:Nat):Int)).getD a.toNat 0≠0
     rw[mz];split
     ·omega
     ·exact hA
    ·intro z hz
     show (ix.set b.toNat ((aH+1:Nat):Int)).getD z 0≠0
     rw[mz];split
     ·omega
     ·exact hM z hz
   ·have c1:¬(ix.getD b.toNat 0=0):=c1
    refine aa 0 ?_
    refine aM ?_
    have lT:=hF.vt b dG.1 dG.2
    have DK:ey ⟨.int .i64,1,8,[.int .i64 0]⟩ (bK (wy++[(v,k+1)])++J) (0+(IntKind.i64.wrap (((wy.length+1:Nat):Int)-1)).toNat*2+0)=some (.int .i64 v):=jc rfl (by rw[hX];exact rJ rfl)
    refine fE.kD 3 _ _ rfl (sT rfl dG.1 (by rw[hF.kE];omega)) (fun c2=>?_) (fun c2=>?_)
    ·rw[lT]at c2
     have hO:=hF.HW ab hb (fA c2)
     refine .sched [] (upto [] 28 0) (by kernel_rfl) ?_
     refine aa 0 ?_
     refine aT 5 rfl DK ?_
     refine aa 0 ?_
     refine aT 5 rfl DK ?_
     refine aM ?_
     refine aT 2 rfl (e9 rfl dm.1 (by rw[hF.ll];omega)) ?_
     refine aa 0 ?_
     refine aM ?_
     refine aT 1 rfl (e9 rfl dG.1 (by rw[hF.li];omega)) ?_
     refine aM ?_
     refine da 2 rfl (nk rfl _ dm.1 (by rw[hF.ll];omega)) ?_
     have jE:(if ix.getD b.toNat 0<lo.getD v.toNat 0 then ix.getD b.toNat 0 else lo.getD v.toNat 0)=min (lo.getD v.toNat 0) (ix.getD b.toNat 0):=by split <;> omega
     refine .mk ((ix,lo.set v.toNat (min (lo.getD v.toNat 0) (ix.getD b.toNat 0)),on,st,aH,P),(bs,Js,vp,eM),(wy,v,k+1),(bw,J)) rfl ?_ ⟨⟨hO,hP⟩,hA,hM⟩ ⟨rfl,rfl,trivial⟩ (aJ (by rw[← jE];rfl))
     show jg (ar n l) (wy++[(v,k+1)])+iE (ar n l) ix n<jg (ar n l) (wy++[(v,k)])+iE (ar n l) ix n
     rw[l5,l5];omega
    ·rw[lT]at c2
     have hO:=hF.off ab hb dG.1 c1 (pO c2)
     refine .mk ((ix,lo,on,st,aH,P),(bs,Js,vp,eM),(wy,v,k+1),(bw,J)) rfl ?_ ⟨⟨hO,hP⟩,hA,hM⟩ ⟨rfl,rfl,trivial⟩ (.refl _)
     show jg (ar n l) (wy++[(v,k+1)])+iE (ar n l) ix n<jg (ar n l) (wy++[(v,k)])+iE (ar n l) ix n
     rw[l5,l5];omega
  ·have au:k=(ar n l v).length:=by omega
   have mN:ey ⟨.bh [(0,3),(1,3)],2,16,[.int .i64 0,.int .i64 0]⟩ (bK (wy++[(v,k)])++J) (0+(IntKind.i64.wrap (((wy.length+1:Nat):Int)-1)).toNat*2)=some (.agg [.int .i64 v,.int .i64 k]):=SM rfl (by rw[hX,er];show wy.length*2+2≤_;omega) (by rw[hX];exact Pv rfl)
   refine aT 5 rfl mN ?_
   intro bt
   refine ai 0 ?_
   refine aa 0 ?_
   have qe:(IntKind.i64.wrap (((wy.length+1:Nat):Int)-1)).toNat-Int.toNat 0=wy.length:=by rw[nE];omega
   have dg:0≤(0:Int)∧(0:Int)≤IntKind.i64.wrap (((wy.length+1:Nat):Int)-1)∧IntKind.i64.wrap (((wy.length+1:Nat):Int)-1)≤((wy.length+1:Nat):Int)∧2=2:=⟨by omega,by omega,by omega,rfl⟩
   by_cases he:lo.getD v.toNat 0=ix.getD v.toNat 0
   ·obtain⟨A,B,ao,ES,hB1⟩:=QP hF.tj.inc bS
    have Nr:v ∉ A:=fun hm=>by have:=ES v hm;omega
    have Nq:∀x∈v::B,0≤x∧x<(n:Int):=fun x hx=>hF.tj.node x (by rw[ao];exact jJ _ hx)
    have ca:=uc hF.tj.inc
    rw[ao]at ca
    have hT:=hF.tell (by omega) ao he (fun x y hy=>(lD.1 hy).1) (BP (v::B)) (Fs (oU.1 ca).2.1)
    have EM:=FD hF.tj.prt
    subst ao
    have dY:(an (A++v::B)).length=(A++v::B).length*1:=by rw[jy,dO]
    refine .perm _ (wg [_,_,_,_,_] eM σ _ _) (Qc w bi bl bo n (bY n l) ix lo A B on P aH _ vp _ eM v _ dm.1 dm.2 hF.li hF.ll hF.kE he Nr Nq (by omega) (by omega) (.ae bs (A++v::B).length (an (A++v::B)) Js dY) hP) ?_
    rintro _ _ ⟨rfl,eC,je,gC,gy,dN,nM,rfl⟩
    have gj:((bt,[AV.int .i64 v,.int .i64 k])::(w,df (bY n l) bi bl bo n eC aH gC)::(bi,an ix)::(bl,an lo)::(bo,bN (eU (v::B) on))::(bw,bK (wy++[(v,k)])++J)::(je++(gy++σ))).Perm ((w,df (bY n l) bi bl bo n eC aH gC)::(bi,an ix)::(bl,an lo)::(bo,bN (eU (v::B) on))::(je++(gy++((bt,[AV.int .i64 v,.int .i64 k])::(bw,bK (wy++[(v,k)])++J)::σ)))):=by
     have h1:=(wg [(w,df (bY n l) bi bl bo n eC aH gC),(bi,an ix),(bl,an lo),(bo,bN (eU (v::B) on))] (je++gy) σ (bt,[AV.int .i64 v,.int .i64 k]) (bw,bK (wy++[(v,k)])++J)).symm
     rw[dQ,dQ]at h1
     exact h1
    refine⟨_,gj,?_⟩
    refine aI.mk dg ?_
    rcases E5 wy with dS | ⟨w',⟨u,i⟩,dS⟩
    ·have qi:wy.length=0:=by rw[dS];rfl
     rw[dS]at hT
     obtain rfl:A=[]:=hT.TQ
     refine aq (p:=(0:Int)<(((IntKind.i64.wrap (((wy.length+1:Nat):Int)-1)).toNat-Int.toNat 0:Nat):Int)) (fun c3=>?_) (fun c3=>?_)
     ·rw[qe,qi]at c3;exact absurd c3 (by decide)
     ·refine .drop 0 1 (.drop 4 1 (.done ⟨rfl,ix,lo,eU (v::B) on,aH,P++[fG (v::B)],eC,je,gC,gy,hT,dN,nM,hA,hM,rfl⟩))
    ·have dS:wy=w'++[(u,i)]:=by simpa using dS
     have qi:wy.length=w'.length+1:=by rw[dS,bP];rfl
     have jh:(IntKind.i64.wrap (((wy.length+1:Nat):Int)-1)).toNat-Int.toNat 0=w'.length+1:=qe.trans qi
     have oc:IntKind.i64.wrap ((((IntKind.i64.wrap (((wy.length+1:Nat):Int)-1)).toNat-Int.toNat 0:Nat):Int)-1)=((w'.length:Nat):Int):=by rw[jh,cy (by omega)];omega
     have zk:(0+Int.toNat 0*2)+(IntKind.i64.wrap ((((IntKind.i64.wrap (((wy.length+1:Nat):Int)-1)).toNat-Int.toNat 0:Nat):Int)-1)).toNat*2+0=w'.length*2:=by rw[oc,bM];show 0+0*2+_+0=_;omega
     have ou:bK (wy++[(v,k)])++J=bK (w'++[(u,i)])++([.int .i64 v,.int .i64 k]++J):=by rw[dS,oY,dQ];rfl
     have sw:ey ⟨.int .i64,1,8,[.int .i64 0]⟩ (bK (wy++[(v,k)])++J) ((0+Int.toNat 0*2)+(IntKind.i64.wrap ((((IntKind.i64.wrap (((wy.length+1:Nat):Int)-1)).toNat-Int.toNat 0:Nat):Int)-1)).toNat*2+0)=some (.int .i64 u):=jc rfl (by rw[zk,ou];exact rJ rfl)
     have fm:0≤u∧u<(n:Int):=hF.tj.node u (hF.tj.sub.subset (by rw[dS];simp))
     have iR:AV.ae bw (0+Int.toNat 0*2) ((IntKind.i64.wrap (((wy.length+1:Nat):Int)-1)).toNat-Int.toNat 0) 2=.ae bw 0 (w'.length+1) 2:=by rw[jh];rfl
     have Mg:AV.ae bw 0 (w'.length+1) 2=AV.ae bw (0+Int.toNat 0*2) ((IntKind.i64.wrap (((wy.length+1:Nat):Int)-1)).toNat-Int.toNat 0) 2:=iR.symm
     refine aq (p:=(0:Int)<(((IntKind.i64.wrap (((wy.length+1:Nat):Int)-1)).toNat-Int.toNat 0:Nat):Int)) (fun c3=>?_) (fun c3=>?_)
     rotate_left
     ·rw[jh]at c3;omega
     have yq:2=2∧0≤IntKind.i64.wrap ((((IntKind.i64.wrap (((wy.length+1:Nat):Int)-1)).toNat-Int.toNat 0:Nat):Int)-1)∧IntKind.i64.wrap ((((IntKind.i64.wrap (((wy.length+1:Nat):Int)-1)).toNat-Int.toNat 0:Nat):Int)-1)<(((IntKind.i64.wrap (((wy.length+1:Nat):Int)-1)).toNat-Int.toNat 0:Nat):Int):=⟨rfl,by rw[oc];omega,by rw[oc,jh];omega⟩
     refine aI.mk yq ?_
     refine aT 5 rfl sw ?_
     refine .sched [] (upto [] 23 0) (by kernel_rfl) ?_
     refine aa 1 ?_
     refine aa 1 ?_
     refine aM ?_
     refine aT 3 rfl (e9 rfl fm.1 (by rw[hF.ll];omega)) ?_
     refine aa 1 ?_
     refine aa 0 ?_
     refine aM ?_
     refine aT 3 rfl (e9 rfl dm.1 (by rw[hF.ll];omega)) ?_
     refine aM ?_
     refine da 3 rfl (nk rfl _ fm.1 (by rw[hF.ll];omega)) ?_
     have jE:(if lo.getD v.toNat 0<lo.getD u.toNat 0 then lo.getD v.toNat 0 else lo.getD u.toNat 0)=min (lo.getD u.toNat 0) (lo.getD v.toNat 0):=by split <;> omega
     have Oa:0<A.length:=List.length_pos_of_mem (a:=u) (hT.tj.sub.subset (by rw[dS];simp))
     obtain⟨l4,oW,rfl,rfl,_⟩:=dN.pos Oa
     have Mc:=FI.same (dS▸hF) he
     rw[dS]at hT
     have hE:(w,df (bY n l) bi bl bo n (.ae l4 0 A.length 1) aH gC)::(bi,an ix)::(bl,an (lo.set u.toNat (if lo.getD v.toNat 0<lo.getD u.toNat 0 then lo.getD v.toNat 0 else lo.getD u.toNat 0)))::(bo,bN (eU (v::B) on))::(l4,an A++oW)::(bw,bK (wy++[(v,k)])++J)::(gy++σ)=(w,df (bY n l) bi bl bo n (.ae l4 0 A.length 1) aH gC)::(bi,an ix)::(bl,an (lo))::(bo,bN (eU (v::B) on))::(l4,an A++oW)::(bw,bK (w'++[(u,i)])++([.int .i64 v,.int .i64 k]++J))::(gy++σ):=by rw[jE,Mc,ou]
     refine .mk ((ix,lo,eU (v::B) on,A,aH,P++[fG (v::B)]),(l4,oW,gC,gy),(w',u,i),(bw,[AV.int .i64 v,.int .i64 k]++J)) rfl ?_ ⟨⟨hT,nM⟩,hA,hM⟩ ⟨rfl,iR,trivial⟩ (.drop 0 1 (.pull [4,4,4,4,5] (aJ hE)))
     show jg (ar n l) (w'++[(u,i)])+iE (ar n l) ix n<jg (ar n l) (wy++[(v,k)])+iE (ar n l) ix n
     rw[dS,l5 (ar n l) (w'++[(u,i)])];omega
   ·have N5:=fun ρ=>Su w bi bl bo n (bY n l) ix lo on aH (.ae bs 0 st.length 1) vp v ρ dm.1 dm.2 hF.li hF.ll he
    refine ay [4,4,4,4] (N5 _) ?_
    refine aI.mk dg ?_
    rcases E5 wy with dS | ⟨w',⟨u,i⟩,dS⟩
    ·have qi:wy.length=0:=by rw[dS];rfl
     rw[dS]at hF
     exact absurd hF.one he
    ·have dS:wy=w'++[(u,i)]:=by simpa using dS
     have qi:wy.length=w'.length+1:=by rw[dS,bP];rfl
     have jh:(IntKind.i64.wrap (((wy.length+1:Nat):Int)-1)).toNat-Int.toNat 0=w'.length+1:=qe.trans qi
     have oc:IntKind.i64.wrap ((((IntKind.i64.wrap (((wy.length+1:Nat):Int)-1)).toNat-Int.toNat 0:Nat):Int)-1)=((w'.length:Nat):Int):=by rw[jh,cy (by omega)];omega
     have zk:(0+Int.toNat 0*2)+(IntKind.i64.wrap ((((IntKind.i64.wrap (((wy.length+1:Nat):Int)-1)).toNat-Int.toNat 0:Nat):Int)-1)).toNat*2+0=w'.length*2:=by rw[oc,bM];show 0+0*2+_+0=_;omega
     have ou:bK (wy++[(v,k)])++J=bK (w'++[(u,i)])++([.int .i64 v,.int .i64 k]++J):=by rw[dS,oY,dQ];rfl
     have sw:ey ⟨.int .i64,1,8,[.int .i64 0]⟩ (bK (wy++[(v,k)])++J) ((0+Int.toNat 0*2)+(IntKind.i64.wrap ((((IntKind.i64.wrap (((wy.length+1:Nat):Int)-1)).toNat-Int.toNat 0:Nat):Int)-1)).toNat*2+0)=some (.int .i64 u):=jc rfl (by rw[zk,ou];exact rJ rfl)
     have fm:0≤u∧u<(n:Int):=hF.tj.node u (hF.tj.sub.subset (by rw[dS];simp))
     have iR:AV.ae bw (0+Int.toNat 0*2) ((IntKind.i64.wrap (((wy.length+1:Nat):Int)-1)).toNat-Int.toNat 0) 2=.ae bw 0 (w'.length+1) 2:=by rw[jh];rfl
     have Mg:AV.ae bw 0 (w'.length+1) 2=AV.ae bw (0+Int.toNat 0*2) ((IntKind.i64.wrap (((wy.length+1:Nat):Int)-1)).toNat-Int.toNat 0) 2:=iR.symm
     refine aq (p:=(0:Int)<(((IntKind.i64.wrap (((wy.length+1:Nat):Int)-1)).toNat-Int.toNat 0:Nat):Int)) (fun c3=>?_) (fun c3=>?_)
     rotate_left
     ·rw[jh]at c3;omega
     have yq:2=2∧0≤IntKind.i64.wrap ((((IntKind.i64.wrap (((wy.length+1:Nat):Int)-1)).toNat-Int.toNat 0:Nat):Int)-1)∧IntKind.i64.wrap ((((IntKind.i64.wrap (((wy.length+1:Nat):Int)-1)).toNat-Int.toNat 0:Nat):Int)-1)<(((IntKind.i64.wrap (((wy.length+1:Nat):Int)-1)).toNat-Int.toNat 0:Nat):Int):=⟨rfl,by rw[oc];omega,by rw[oc,jh];omega⟩
     refine aI.mk yq ?_
     refine aT 6 rfl sw ?_
     refine .sched [] (upto [] 23 0) (by kernel_rfl) ?_
     refine aa 0 ?_
     refine aa 0 ?_
     refine aM ?_
     refine aT 2 rfl (e9 rfl fm.1 (by rw[hF.ll];omega)) ?_
     refine aa 0 ?_
     refine aa 4 ?_
     refine aM ?_
     refine aT 2 rfl (e9 rfl dm.1 (by rw[hF.ll];omega)) ?_
     refine aM ?_
     refine da 2 rfl (nk rfl _ fm.1 (by rw[hF.ll];omega)) ?_
     have jE:(if lo.getD v.toNat 0<lo.getD u.toNat 0 then lo.getD v.toNat 0 else lo.getD u.toNat 0)=min (lo.getD u.toNat 0) (lo.getD v.toNat 0):=by split <;> omega
     have hU:=FI.up (dS▸hF) (by omega) he
     have hE:(w,df (bY n l) bi bl bo n (.ae bs 0 st.length 1) aH vp)::(bi,an ix)::(bl,an (lo.set u.toNat (if lo.getD v.toNat 0<lo.getD u.toNat 0 then lo.getD v.toNat 0 else lo.getD u.toNat 0)))::(bo,bN (on))::(bs,an st++Js)::(bw,bK (wy++[(v,k)])++J)::(eM++σ)=(w,df (bY n l) bi bl bo n (.ae bs 0 st.length 1) aH vp)::(bi,an ix)::(bl,an (lo.set u.toNat (min (lo.getD u.toNat 0) (lo.getD v.toNat 0))))::(bo,bN (on))::(bs,an st++Js)::(bw,bK (w'++[(u,i)])++([.int .i64 v,.int .i64 k]++J))::(eM++σ):=by rw[jE,ou]
     refine .mk ((ix,lo.set u.toNat (min (lo.getD u.toNat 0) (lo.getD v.toNat 0)),on,st,aH,P),(bs,Js,vp,eM),(w',u,i),(bw,[AV.int .i64 v,.int .i64 k]++J)) rfl ?_ ⟨⟨hU,hP⟩,hA,hM⟩ ⟨rfl,iR,trivial⟩ (.drop 4 1 (aJ hE))
     show jg (ar n l) (w'++[(u,i)])+iE (ar n l) ix n<jg (ar n l) (wy++[(v,k)])+iE (ar n l) ix n
     rw[dS,l5 (ar n l) (w'++[(u,i)])];omega
 ·intro hr
  obtain⟨ix,lo,on,hF,hA,hM,heq,N9⟩:∃ix lo on,FI n (ar n l) ix lo on [a] (dF+1) P0 [(a,0)]∧ix.getD a.toNat 0≠0∧(∀b:Nat,lP.getD b 0≠0→ix.getD b 0≠0)∧lo.getD a.toNat 0=ix.getD a.toNat 0∧∀ρ,ACalls Tryz.prog 314 [.ptr w 0,.int .i64 a] ((w,df (bY n l) bi bl bo n tD dF fW)::(bi,an lP)::(bl,an vA)::(bo,bN vu)::(uP++ρ))
    (fun r σ'=>r=.agg [.int .i64 a,.int .i64 0]∧∃bs Js,σ'=(w,df (bY n l) bi bl bo n (.ae bs 0 [a].length 1) (dF+1) fW)::(bi,an ix)::(bl,an lo)::(bo,bN on)::(bs,an [a]++Js)::ρ):=by
   have h1:=h.enter (way2:=[]) ha hf (fun v hv=>by cases hv) rfl (fun t ht=>by cases ht) (fun t ht=>by cases ht)
   refine⟨_,_,_,h1,?_,?_,?_,fun ρ=>(Ap w bi bl bo n (bY n l) lP vA [] vu dF tD fW uP a ρ ha.1 ha.2 h.li h.ll h.kE hs (bD _) (by omega)).mono ?_⟩
   ·rw[mz,ah ⟨rfl,by rw[h.li];omega⟩];omega
   ·intro z hz
    rw[mz];split
    ·omega
    ·exact hz
   ·rw[mz,mz,ah ⟨rfl,by rw[h.ll];omega⟩,ah ⟨rfl,by rw[h.li];omega⟩]
   ·rintro _ _ ⟨rfl,A4,Ds,fv,rfl⟩
    obtain⟨bs,Js,rfl,rfl,_⟩:=fv.pos (by show 0<1;decide)
    exact⟨rfl,bs,Js,rfl⟩
  clear hf hs h
  have hle:=hF.Ao
  have Bg:=xW n l a
  refine .mk [] _ (N9 (iD++σ)) ?_
  rintro _ _ ⟨rfl,bs,Js,rfl⟩
  intro bw
  refine aI.mk ⟨rfl,by decide,by decide⟩ ?_
  refine .quiet (by kernel_rfl) ?_
  refine aa 0 ?_
  refine aa 1 ?_
  refine aa 0 ?_
  refine aI.mk rfl ?_
  refine bL.mk (ar n l a) (by omega) (pc ha) ?_
  refine aq (p:=(0:Int)<(ar n l a).length) (fun ab=>?_) (fun au=>?_)
  ·have ab:0<(ar n l a).length:=by omega
   obtain⟨b,hb⟩:∃b,(ar n l a)[0]=b:=⟨_,rfl⟩
   have sB:b∈ar n l a:=hb▸cj ab
   have dG:=(lD.1 sB).1
   refine .quiet (by kernel_rfl) ?_
   refine aa 1 ?_
   refine aa 0 ?_
   refine aI.mk rfl ?_
   refine bL.mk (ar n l a) (by omega) (pc ha) ?_
   refine aa 0 ?_
   refine aI.mk rfl ?_
   refine bL.mk b (by decide) ((get_some ab).trans (congrArg some hb)) ?_
   refine aa 0 ?_
   refine ai 0 ?_
   refine aa 1 ?_
   refine aM ?_
   refine aT 2 rfl (e9 rfl dG.1 (by rw[hF.li];omega)) ?_
   refine aq (p:=ix.getD b.toNat 0=0) (fun c1=>?_) (fun c1=>?_)
   ·have hN:=FI.new (w:=[]) hF ab hb dG c1
    refine .mk [5,5,5,5,5] _ (Ap w bi bl bo n (bY n l) ix lo [a] on (dF+1) _ fW _ b ((bw,[.int .i64 a,.int .i64 1])::(iD++σ)) dG.1 dG.2 hF.li hF.ll hF.kE (.ae bs 1 (an [a]) Js rfl) (by show 1≤10000;decide) (by omega)) ?_
    rintro _ _ ⟨rfl,A4,Ds,fv,rfl⟩
    obtain⟨l4,oW,rfl,rfl,_⟩:=fv.pos (by show 0<2;decide)
    intro aG
    refine xT (k:=1) (n:=1) [_,_,_,_,_,_] (.ae bw 1 (bK [(a,1)]) [] rfl) (.ae 0 aG 0 1 _ rfl (cD rfl)) rfl (by decide) (by decide) (by decide) (fun v' aU h'=>?_)
    obtain⟨oV,J2,rfl,rfl,_⟩:=h'.pos (by decide)
    refine wk hr ((ix.set b.toNat ((dF+1+1:Nat):Int),lo.set b.toNat ((dF+1+1:Nat):Int),on.set b.toNat true,[a]++[b],dF+1+1,P0),(l4,oW,fW,iD),([(a,1)],b,0),(oV,J2)) ⟨rfl,⟨⟨hN,hp⟩,?_,?_⟩,⟨rfl,rfl,trivial⟩,.drop 0 1 (aJ rfl)⟩
    ·show (ix.set b.toNat ((dF+1+1:Nat):Int)).getD a.toNat 0≠0
     rw[mz];split
     ·omega
     ·exact hA
    ·intro z hz
     show (ix.set b.toNat ((dF+1+1:Nat):Int)).getD z 0≠0
     rw[mz];split
     ·omega
     ·exact hM z hz
   ·have c1:¬(ix.getD b.toNat 0=0):=c1
    have lT:=hF.vt b dG.1 dG.2
    refine aa 1 ?_
    refine aM ?_
    refine fE.kD 4 _ _ rfl (sT rfl dG.1 (by rw[hF.kE];omega)) (fun c2=>?_) (fun c2=>?_)
    ·rw[lT]at c2
     have hO:=FI.HW (w:=[]) hF ab hb (fA c2)
     refine .sched [] (upto [] 28 0) (by kernel_rfl) ?_
     refine aa 1 ?_
     refine aa 0 ?_
     refine aa 1 ?_
     refine aa 0 ?_
     refine aM ?_
     refine aT 3 rfl (e9 rfl ha.1 (by rw[hF.ll];omega)) ?_
     refine aa 1 ?_
     refine aM ?_
     refine aT 2 rfl (e9 rfl dG.1 (by rw[hF.li];omega)) ?_
     refine aM ?_
     refine da 3 rfl (nk rfl _ ha.1 (by rw[hF.ll];omega)) ?_
     have jE:(if ix.getD b.toNat 0<lo.getD a.toNat 0 then ix.getD b.toNat 0 else lo.getD a.toNat 0)=min (lo.getD a.toNat 0) (ix.getD b.toNat 0):=by split <;> omega
     have hE:(w,df (bY n l) bi bl bo n (.ae bs 0 [a].length 1) (dF+1) fW)::(bi,an ix)::(bl,an (lo.set a.toNat (if ix.getD b.toNat 0<lo.getD a.toNat 0 then ix.getD b.toNat 0 else lo.getD a.toNat 0)))::(bo,bN on)::(bs,an [a]++Js)::(bw,bK [(a,1)]++[])::(iD++σ)=(w,df (bY n l) bi bl bo n (.ae bs 0 [a].length 1) (dF+1) fW)::(bi,an ix)::(bl,an (lo.set a.toNat (min (lo.getD a.toNat 0) (ix.getD b.toNat 0))))::(bo,bN on)::(bs,an [a]++Js)::(bw,bK [(a,1)]++[])::(iD++σ):=by rw[jE]
     exact wk hr ((ix,lo.set a.toNat (min (lo.getD a.toNat 0) (ix.getD b.toNat 0)),on,[a],dF+1,P0),(bs,Js,fW,iD),([],a,1),(bw,[])) ⟨rfl,⟨⟨hO,hp⟩,hA,hM⟩,⟨rfl,rfl,trivial⟩,.pull [5,5,5,5,5] (aJ hE)⟩
    ·rw[lT]at c2
     have hO:=FI.off (w:=[]) hF ab hb dG.1 c1 (pO c2)
     exact wk hr ((ix,lo,on,[a],dF+1,P0),(bs,Js,fW,iD),([],a,1),(bw,[])) ⟨rfl,⟨⟨hO,hp⟩,hA,hM⟩,⟨rfl,rfl,trivial⟩,.pull [5,5,5,5,5] (aJ rfl)⟩
  ·have au:(ar n l a).length=0:=by omega
   refine aa 0 ?_
   intro aG
   refine ai 0 ?_
   refine aa 0 ?_
   have hT:=FI.tell (w:=[]) (A:=[]) (B:=[]) (part:=fG [a]) hF (by omega) rfl heq (fun x y hy=>(lD.1 hy).1) (BP [a]) (Fs (by simp))
   have EM:=FD hF.tj.prt
   have MF:((w,df (bY n l) bi bl bo n (.ae bs 0 [a].length 1) (dF+1) fW)::(bi,an ix)::(bl,an lo)::(bo,bN on)::(bs,an [a]++Js)::(iD++((aG,[AV.int .i64 a,.int .i64 0])::(bw,[AV.int .i64 a,.int .i64 0])::σ))).Perm ((aG,[AV.int .i64 a,.int .i64 0])::(bw,[AV.int .i64 a,.int .i64 0])::(w,df (bY n l) bi bl bo n (.ae bs 0 [a].length 1) (dF+1) fW)::(bi,an ix)::(bl,an lo)::(bo,bN on)::(bs,an [a]++Js)::(iD++σ)):=by
    have h1:=wg [(w,df (bY n l) bi bl bo n (.ae bs 0 [a].length 1) (dF+1) fW),(bi,an ix),(bl,an lo),(bo,bN on),(bs,an [a]++Js)] iD σ (aG,[AV.int .i64 a,.int .i64 0]) (bw,[AV.int .i64 a,.int .i64 0])
    exact h1.trans (List.Perm.cons _ (nS (l₁:=[(w,df (bY n l) bi bl bo n (.ae bs 0 [a].length 1) (dF+1) fW),(bi,an ix),(bl,an lo),(bo,bN on),(bs,an [a]++Js)])))
   refine .perm _ MF (Qc w bi bl bo n (bY n l) ix lo [] [] on P0 (dF+1) _ fW _ iD a _ ha.1 ha.2 hF.li hF.ll hF.kE heq (by simp) (fun x hx=>by rw[List.mem_singleton.1 hx];exact ha) (by show 1≤10000;decide) (by omega) (.ae bs 1 (an [a]) Js rfl) hp) ?_
   rintro _ _ ⟨rfl,eC,je,gC,gy,dN,nM,rfl⟩
   have gj:((aG,[AV.int .i64 a,.int .i64 0])::(w,df (bY n l) bi bl bo n eC (dF+1) gC)::(bi,an ix)::(bl,an lo)::(bo,bN (eU [a] on))::(bw,[AV.int .i64 a,.int .i64 0])::(je++(gy++σ))).Perm ((w,df (bY n l) bi bl bo n eC (dF+1) gC)::(bi,an ix)::(bl,an lo)::(bo,bN (eU [a] on))::(je++(gy++((aG,[AV.int .i64 a,.int .i64 0])::(bw,[AV.int .i64 a,.int .i64 0])::σ)))):=by
    have h1:=(wg [(w,df (bY n l) bi bl bo n eC (dF+1) gC),(bi,an ix),(bl,an lo),(bo,bN (eU [a] on))] (je++gy) σ (aG,[AV.int .i64 a,.int .i64 0]) (bw,[AV.int .i64 a,.int .i64 0])).symm
    rw[dQ,dQ]at h1
    exact h1
   refine⟨_,gj,?_⟩
   refine aI.mk (by decide) ?_
   exact .drop 0 1 (.drop 4 1 (.done ⟨rfl,ix,lo,eU [a] on,dF+1,P0++[fG [a]],eC,je,gC,gy,hT,dN,nM,hA,hM,rfl⟩))
end Go.Proofs.YtnikdflhefijbaaGreat
