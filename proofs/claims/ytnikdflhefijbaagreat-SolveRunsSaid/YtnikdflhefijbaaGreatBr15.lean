import Derived.Test.YtnikdflhefijbaaGreatBr14
import Derived.Test.YtnikdflhefijbaaGreatBr5
import Derived.Test.YtnikdflhefijbaaGreatBr9
import Derived.Test.YtnikdflhefijbaaGreatBr10
namespace Go.Proofs.YtnikdflhefijbaaGreat
open Go.RowKit
set_option maxRecDepth 100000
theorem mq{w:List Int}{i j:Nat}{x:Int}:(w.set i x).getD j 0=if i=j∧j<w.length then x else w.getD j 0:=by
 simp only[bO,gX]
 by_cases h:i=j
 ·subst h
  by_cases h2:i<w.length
  ·simp[h2]
  ·simp[h2]
 ·simp[h]
def gI(ix:List Int)(x:Int):Int:=if 0≤x then ix.getD x.toNat 0 else 0
theorem lX{ix:List Int}{x:Int}(h:0≤x):gI ix x=ix.getD x.toNat 0:=az h
theorem y9{ix:List Int}{b v:Int}(h0:0≤b)(h1:b<ix.length):gI (ix.set b.toNat v)=oQ (gI ix) b v:=by
 funext y
 show (if 0≤y then (ix.set b.toNat v).getD y.toNat 0 else 0)=if y=b then v else if 0≤y then ix.getD y.toNat 0 else 0
 by_cases hy:0≤y
 ·rw[az hy,bO,gX]
  by_cases e:y=b
  ·subst e;rw[az rfl,az (by omega),az rfl];rfl
  ·rw[aA (by omega),aA e,az hy,bO]
 ·rw[aA hy,aA (by omega),aA hy]
theorem aa1(n:Nat)(x:Int):gI (List.replicate n 0) x=0:=by
 unfold gI
 split
 ·rw[bO,wW];split <;> rfl
 ·rfl
structure FI(n:Nat)(nx:Int→List Int)(ix lo:List Int)(on:List Bool)(st:List Int)(aV:Nat)(P:List (List Int))(gR:List (Int×Nat)):Prop where
 tj:TJ n nx (gI ix) (gI lo) st aV P (gR.map (·.1))
 uk:Prc nx (gI ix) (gI lo) st gR
 li:ix.length=n
 ll:lo.length=n
 kq:on.length=n
 uo:∀a:Int,0≤a→a<n→on.getD a.toNat false=decide (a∈st)
 tn:∀t∈gR,t.2≤(nx t.1).length
theorem Qt{on:List Bool}{b:Int}{x:Bool}(hb:0≤b)(hl:b<on.length){a:Int}(ha:0≤a):(on.set b.toNat x).getD a.toNat false=if a=b then x else on.getD a.toNat false:=by
 rw[bO,gX,bO]
 by_cases e:a=b
 ·subst e;rw[az rfl,az (by omega),az rfl];rfl
 ·rw[aA (by omega),aA e]
theorem FI.start(n:Nat)(nx:Int→List Int):FI n nx (List.replicate n 0) (List.replicate n 0) (List.replicate n false) [] 0 [] []:=
 ⟨.start (aa1 n),fun _ h=>(by cases h),gY,gY,gY,fun a _ _=>by
  rw[List.getD_eq_getElem?_getD,List.getElem?_replicate];split <;> simp,fun _ h=>(by cases h)⟩
variable {n:Nat} {nx:Int→List Int} {ix lo:List Int} {on:List Bool} {st:List Int} {aV:Nat} {P:List (List Int)}
theorem FI.enter{gR way2:List (Int×Nat)}{b:Int}(h:FI n nx ix lo on st aV P gR)(hb:0≤b∧b<n)(hf:ix.getD b.toNat 0=0)(hW:∀v∈gR.map (·.1),Rx nx v b)(zT:way2.map (·.1)=gR.map (·.1))(hp:∀t∈way2,∀y∈(nx t.1).take t.2,y=b∨(gI ix y≠0∧(y∈st→gI lo t.1≤gI ix y)))(ht:∀t∈way2,t.2≤(nx t.1).length):
  FI n nx (ix.set b.toNat ((aV+1:Nat):Int)) (lo.set b.toNat ((aV+1:Nat):Int)) (on.set b.toNat true) (st++[b]) (aV+1) P (way2++[(b,0)]):=by
 have hf:gI ix b=0:=by rw[lX hb.1];exact hf
 have im:b ∉ st:=fun hm=>by have:=h.tj.rL b hm;omega
 have h1:=h.tj.enter hb hf hW
 refine⟨?_,?_,by rw[dV];exact h.li,by rw[dV];exact h.ll,by rw[dV];exact h.kq,fun a h0 hn=>?_,fun t ob=>?_⟩
 ·rw[y9 hb.1 (by rw[h.li];exact hb.2),y9 hb.1 (by rw[h.ll];exact hb.2),cC,zT]
  exact h1
 ·rw[y9 hb.1 (by rw[h.li];exact hb.2),y9 hb.1 (by rw[h.ll];exact hb.2)]
  intro t ob y hy
  rcases bU.1 ob with ob | ob
  ·have htW:t.1∈gR.map (·.1):=zT▸LO ob
   have hts:t.1∈st:=h.tj.sub.subset htW
   have htb:t.1≠b:=fun e=>im (e▸hts)
   rw[pr (f:=gI lo) htb]
   have hle:=(h.tj.low t.1 htW).1
   have K7:=(h.tj.rL t.1 hts).2
   by_cases e:y=b
   ·subst e
    rw[pt]
    exact⟨by omega,fun _=>by omega⟩
   ·rw[pr e]
    obtain⟨h2,h3⟩:=(hp t ob y hy).resolve_left e
    exact⟨h2,fun hm=>h3 ((bU.1 hm).resolve_right fun hm=>e (bE.1 hm))⟩
  ·rw[bE.1 ob]at hy
   simp at hy
 ·rw[Qt hb.1 (by rw[h.kq];exact hb.2) h0]
  by_cases e:a=b
  ·subst e;rw[if_pos rfl];simp
  ·rw[if_neg e,h.uo a h0 hn];simp[e]
 ·rcases bU.1 ob with ob | ob
  ·exact ht t ob
  ·rw[bE.1 ob];exact aY _
theorem HM{l:List Int}{k:Nat}(h:k<l.length){b:Int}(hb:l[k]=b):l.take (k+1)=l.take k++[b]:=by rw[eT h,hb]
theorem Io{w:List (Int×Nat)}{a:Int}{k j:Nat}:(w++[(a,k)]).map (·.1)=(w++[(a,j)]).map (·.1):=by rw[cC,cC];rfl
theorem FI.new{w:List (Int×Nat)}{a b:Int}{k:Nat}(h:FI n nx ix lo on st aV P (w++[(a,k)]))(hk:k<(nx a).length)(hb:(nx a)[k]=b)(dM:0≤b∧b<n)(hf:ix.getD b.toNat 0=0):
  FI n nx (ix.set b.toNat ((aV+1:Nat):Int)) (lo.set b.toNat ((aV+1:Nat):Int)) (on.set b.toNat true) (st++[b]) (aV+1) P ((w++[(a,k+1)])++[(b,0)]):=by
 have Lq:b∈nx a:=hb▸cq hk
 have Lt:a∈(w++[(a,k)]).map (·.1):=fi.2 ⟨(a,k),iO _ (bE.2 rfl),rfl⟩
 have l0:=h.tj.sub
 have lu:∀v∈w.map (·.1),gI ix v<gI ix a:=by
  refine Bc h.tj.inc ?_
  rw[cC]at l0;exact l0
 refine h.enter dM hf (fun v hv=>?_) Io (fun t ht y hy=>?_) fun t ht=>?_
 ·refine (h.tj.xY v hv a (l0.subset Lt) ?_).trans (.one Lq)
  rw[cC]at hv
  rcases bU.1 hv with hv | hv
  ·have:=lu v hv;omega
  ·rw[bE.1 hv];exact dA _
 ·rcases bU.1 ht with ht | ht
  ·exact .inr (h.uk t (gF _ ht) y hy)
  ·rw[bE.1 ht]at hy ⊢
   rw[HM hk hb]at hy
   rcases bU.1 hy with hy | hy
   ·exact .inr (h.uk (a,k) (iO _ (bE.2 rfl)) y hy)
   ·exact .inl (bE.1 hy)
 ·rcases bU.1 ht with ht | ht
  ·exact h.tn t (gF _ ht)
  ·rw[bE.1 ht];exact hk
theorem FI.off{w:List (Int×Nat)}{a b:Int}{k:Nat}(h:FI n nx ix lo on st aV P (w++[(a,k)]))(hk:k<(nx a).length)(hb:(nx a)[k]=b)(dM:0≤b)(hf:ix.getD b.toNat 0≠0)(hs:b ∉ st):FI n nx ix lo on st aV P (w++[(a,k+1)]):=by
 refine⟨by rw[Io (j:=k)];exact h.tj,fun t ht y hy=>?_,h.li,h.ll,h.kq,h.uo,fun t ht=>?_⟩
 ·rcases bU.1 ht with ht | ht
  ·exact h.uk t (gF _ ht) y hy
  ·rw[bE.1 ht]at hy ⊢
   rw[HM hk hb]at hy
   rcases bU.1 hy with hy | hy
   ·exact h.uk (a,k) (iO _ (bE.2 rfl)) y hy
   ·rw[bE.1 hy,lX dM]
    exact⟨hf,fun hm=>absurd hm hs⟩
 ·rcases bU.1 ht with ht | ht
  ·exact h.tn t (gF _ ht)
  ·rw[bE.1 ht];exact hk
theorem FI.FL{w:List (Int×Nat)}{a b:Int}{k:Nat}(h:FI n nx ix lo on st aV P (w++[(a,k)]))(hk:k<(nx a).length)(hb:(nx a)[k]=b)(hs:b∈st):FI n nx ix (lo.set a.toNat (min (lo.getD a.toNat 0) (ix.getD b.toNat 0))) on st aV P (w++[(a,k+1)]):=by
 have Lq:b∈nx a:=hb▸cq hk
 have dM:=h.tj.node b hs
 have Lt:a∈(w++[(a,k)]).map (·.1):=fi.2 ⟨(a,k),iO _ (bE.2 rfl),rfl⟩
 have l0:=h.tj.sub
 have rU:=h.tj.node a (l0.subset Lt)
 have ck:((w++[(a,k)]).map (·.1)).Nodup:=(tg h.tj.inc).sublist l0
 have haw:∀t∈w,t.1≠a:=fun t ht e=>by
  rw[cC]at ck
  exact (ml.1 ck).2.2 t.1 (LO ht) a (bE.2 rfl) e
 have iD:=h.tj
 rw[cC]at iD
 have h1:=iD.lower (z:=b) hs (.one Lq)
 have CN:gI (lo.set a.toNat (min (lo.getD a.toNat 0) (ix.getD b.toNat 0)))=oQ (gI lo) a (min (gI lo a) (gI ix b)):=by rw[y9 rU.1 (by rw[h.ll];exact rU.2),lX rU.1,lX dM.1]
 refine⟨by rw[CN,Io (j:=k),cC];exact h1,fun t ht y hy=>?_,h.li,by rw[dV];exact h.ll,h.kq,h.uo,fun t ht=>?_⟩
 ·rw[CN]
  rcases bU.1 ht with ht | ht
  ·rw[pr (haw t ht)]
   exact h.uk t (gF _ ht) y hy
  ·rw[bE.1 ht]at hy ⊢
   rw[HM hk hb]at hy
   rw[pt]
   rcases bU.1 hy with hy | hy
   ·obtain⟨h2,h3⟩:=h.uk (a,k) (iO _ (bE.2 rfl)) y hy
    have h3:y∈st→gI lo a≤gI ix y:=h3
    exact⟨h2,fun hm=>by have:=h3 hm;omega⟩
   ·rw[bE.1 hy]
    have:=h.tj.rL b hs
    exact⟨by omega,fun _=>by omega⟩
 ·rcases bU.1 ht with ht | ht
  ·exact h.tn t (gF _ ht)
  ·rw[bE.1 ht];exact hk
theorem FI.all{w:List (Int×Nat)}{a:Int}{k:Nat}(h:FI n nx ix lo on st aV P (w++[(a,k)]))(hk:(nx a).length≤k):∀y∈nx a,gI ix y≠0∧(y∈st→gI lo a≤gI ix y):=fun y hy=>
 h.uk (a,k) (iO _ (bE.2 rfl)) y (by rw[dN hk];exact hy)
theorem XB{l:List Int}{i:Nat}:l.set i (l.getD i 0)=l:=by
 refine wO fun j=>?_
 rw[gX]
 by_cases e:i=j
 ·subst e
  by_cases hl:i<l.length
  ·rw[az rfl,az hl,bO,bN hl];rfl
  ·rw[az rfl,aA hl,r9 (by omega)]
 ·rw[aA e]
theorem FI.up{w:List (Int×Nat)}{u v:Int}{i k:Nat}(h:FI n nx ix lo on st aV P ((w++[(u,i)])++[(v,k)]))(hk:(nx v).length≤k)(bc:lo.getD v.toNat 0≠ix.getD v.toNat 0):FI n nx ix (lo.set u.toNat (min (lo.getD u.toNat 0) (lo.getD v.toNat 0))) on st aV P (w++[(u,i)]):=by
 have iD:=h.tj
 rw[cC,cC]at iD
 have Gs:u∈(w.map (·.1)++[u]++[v]):=by simp
 have Gn:v∈(w.map (·.1)++[u]++[v]):=by simp
 have fR:=iD.node u (iD.sub.subset Gs)
 have er:=iD.node v (iD.sub.subset Gn)
 have ck:(w.map (·.1)++[u]++[v]).Nodup:=(tg iD.inc).sublist iD.sub
 have huw:∀t∈w,t.1≠u:=fun t ht e=>(ml.1 (ml.1 ck).1).2.2 t.1 (LO ht) u (bE.2 rfl) e
 have sK:=(iD.low v Gn).1
 have ab:gI lo v<gI ix v:=by
  rw[lX er.1,lX er.1]at sK ⊢;omega
 have h1:=iD.up (u:=u) (v:=v) (w:=w.map (·.1)) ab (h.all hk)
 have CN:gI (lo.set u.toNat (min (lo.getD u.toNat 0) (lo.getD v.toNat 0)))=oQ (gI lo) u (min (gI lo u) (gI lo v)):=by rw[y9 fR.1 (by rw[h.ll];exact fR.2),lX fR.1,lX er.1]
 refine⟨by rw[CN,cC];exact h1,fun t ht y hy=>?_,h.li,by rw[dV];exact h.ll,h.kq,h.uo,fun t ht=>h.tn t (gF _ ht)⟩
 rw[CN]
 obtain⟨h2,h3⟩:=h.uk t (gF _ ht) y hy
 refine⟨h2,fun hm=>?_⟩
 have:=h3 hm
 by_cases e:t.1=u
 ·rw[e]at this ⊢;rw[pt];omega
 ·rw[pr e];exact this
def eR(part:List Int)(on:List Bool):List Bool:=part.foldl (fun on b=>on.set b.toNat false) on
theorem DN:∀(part:List Int) (on:List Bool),(eR part on).length=on.length
 | [],_=>rfl
 |b::part,on=>by
  show (eR part (on.set b.toNat false)).length=_
  rw[DN part,dV]
theorem Pf{a:Int}(ha:0≤a):∀(part:List Int) (on:List Bool),(∀b∈part,0≤b∧b<on.length)→(eR part on).getD a.toNat false=if a∈part then false else on.getD a.toNat false
 | [],_,_=>by simp[eR]
 |b::part,on,h=>by
  have hb:=h b (cF ..)
  show (eR part (on.set b.toNat false)).getD a.toNat false=_
  rw[Pf ha part _ fun c hc=>by rw[dV];exact h c (dy _ hc),Qt hb.1 hb.2 ha]
  by_cases h1:a∈part
  ·rw[az h1,az (dy _ h1)]
  ·rw[aA h1]
   by_cases h2:a=b
   ·rw[az h2,az (by rw[h2];exact cF ..)]
   ·rw[aA h2,aA (by rw[ei];exact fun h=>h.elim h2 h1)]
theorem FI.tell{w:List (Int×Nat)}{v:Int}{k:Nat}{A B part:List Int}(h:FI n nx ix lo on st aV P (w++[(v,k)]))(hk:(nx v).length≤k)(ao:st=A++v::B)(heq:lo.getD v.toNat 0=ix.getD v.toNat 0)(cz:∀x y,y∈nx x→0≤y∧y<n)(hp:part.Perm (v::B))(hs:part.Pairwise (· < ·)):FI n nx ix lo (eR (v::B) on) A aV (P++[part]) w:=by
 have iD:=h.tj
 rw[cC]at iD
 have er:=iD.node v (by rw[ao];simp)
 have h1:=iD.tell (w:=w.map (·.1)) (part:=part) ao (by rw[lX er.1,lX er.1];exact heq) (h.all hk) cz hp hs
 have s5:∀x∈A,x∈st:=fun x hx=>by rw[ao];exact gF _ hx
 refine⟨h1,fun t ht y hy=>?_,h.li,h.ll,by rw[DN];exact h.kq,fun a h0 hn=>?_,fun t ht=>h.tn t (gF _ ht)⟩
 ·obtain⟨h2,h3⟩:=h.uk t (gF _ ht) y hy
  exact⟨h2,fun hm=>h3 (s5 y hm)⟩
 ·rw[Pf h0 _ _ fun b hb=>by rw[h.kq];exact iD.node b (by rw[ao];exact iO _ hb),h.uo a h0 hn]
  have ck:=tg iD.inc
  rw[ao]at ck
  by_cases hm:a∈v::B
  ·rw[az hm]
   exact (cy fun hA=>(ml.1 ck).2.2 a hA a hm rfl).symm
  ·rw[aA hm]
   refine Bool.eq_iff_iff.2 ?_
   rw[decide_eq_true_eq,decide_eq_true_eq,ao,bU]
   exact⟨fun h=>h.resolve_right hm,.inl⟩
theorem FI.same{w:List (Int×Nat)}{u v:Int}{i k:Nat}(h:FI n nx ix lo on st aV P ((w++[(u,i)])++[(v,k)]))(heq:lo.getD v.toNat 0=ix.getD v.toNat 0):lo.set u.toNat (min (lo.getD u.toNat 0) (lo.getD v.toNat 0))=lo:=by
 have iD:=h.tj
 rw[cC,cC]at iD
 have Gs:u∈(w.map (·.1)++[u]++[v]):=by simp
 have Gn:v∈(w.map (·.1)++[u]++[v]):=by simp
 have fR:=iD.node u (iD.sub.subset Gs)
 have er:=iD.node v (iD.sub.subset Gn)
 have h1:=(iD.low u Gs).1
 have h2:=Bc iD.inc iD.sub u (by simp)
 rw[lX fR.1,lX fR.1]at h1
 rw[lX fR.1,lX er.1]at h2
 rw[show min (lo.getD u.toNat 0) (lo.getD v.toNat 0)=lo.getD u.toNat 0 by omega]
 exact XB
theorem FI.Q1(h:FI n nx ix lo on st aV P []):st=[]:=h.tj.empty
theorem FI.one{v:Int}{k:Nat}(h:FI n nx ix lo on st aV P [(v,k)]):lo.getD v.toNat 0=ix.getD v.toNat 0:=by
 have er:=h.tj.node v (h.tj.sub.subset (by simp))
 have:=h.tj.first
 rw[lX er.1,lX er.1]at this
 exact this
theorem FI.mem{w:List (Int×Nat)}{v:Int}{k:Nat}(h:FI n nx ix lo on st aV P (w++[(v,k)])):v∈st:=h.tj.sub.subset (by simp)
theorem FI.zc{gR:List (Int×Nat)}(h:FI n nx ix lo on st aV P gR):aV≤n∧st.length≤n∧P.flatten.length≤n:=by
 have ck:(P.flatten++st).Nodup:=ml.2 ⟨h.tj.prt.nd,tg h.tj.inc,fun x hx y hy e=>by
  subst e
  obtain⟨p,hp,qK⟩:=nu.1 hx
  exact h.tj.yy p hp x qK hy⟩
 have hn:∀z∈P.flatten++st,0≤z∧z<(n:Int):=fun z hz=>by
  rcases bU.1 hz with hz | hz
  ·obtain⟨p,hp,hz⟩:=nu.1 hz
   exact h.tj.prt.node p hp z hz
  ·exact h.tj.node z hz
 have l0:=Ie ck (m:=(List.range n).map fun i:Nat=>(i:Int)) fun z hz=>fi.2 ⟨z.toNat,gq.2 (by have:=hn z hz;omega),by have:=hn z hz;omega⟩
 rw[bG,cm,kx]at l0
 have:=h.tj.len
 omega
def je(nx:Int→List Int)(gR:List (Int×Nat)):Nat:=(gR.map fun t=>(nx t.1).length+1-t.2).sum
def iy(nx:Int→List Int)(ix:List Int)(n:Nat):Nat:=((List.range n).map fun a:Nat=>if ix.getD a 0=0 then (nx a).length+2 else 0).sum
theorem lP(nx:Int→List Int)(w:List (Int×Nat))(a:Int)(k:Nat):je nx (w++[(a,k)])=je nx w+((nx a).length+1-k):=by unfold je;simp
theorem NY(nx:Int→List Int)(ix:List Int)(n:Nat):iy nx ix (n+1)=iy nx ix n+if ix.getD n 0=0 then (nx n).length+2 else 0:=by unfold iy;rw[List.range_succ];simp
theorem Ii{nx:Int→List Int}{ix:List Int}{b:Nat}{v:Int}(hv:v≠0)(hf:ix.getD b 0=0)(hb:b<ix.length):∀n,iy nx (ix.set b v) n+(if b<n then (nx b).length+2 else 0)=iy nx ix n
 | 0=>rfl
 |n+1=>by
  have ih:=Ii (nx:=nx) hv hf hb n
  rw[NY,NY]
  have hg:(ix.set b v).getD n 0=if b=n then v else ix.getD n 0:=by
   rw[bO,gX]
   by_cases e:b=n
   ·subst e;rw[az rfl,az hb,az rfl];rfl
   ·rw[aA e,aA e,bO]
  rw[hg]
  by_cases e:b=n
  ·subst e
   rw[az rfl,aA hv,az hf,az (by omega)]
   rw[aA (by omega)]at ih
   omega
  ·rw[aA e]
   by_cases c:b<n
   ·have e2:(if b<n+1 then (nx b).length+2 else 0)=(nx b).length+2:=az (by omega)
    rw[az c]at ih;rw[e2];omega
   ·have e2:(if b<n+1 then (nx b).length+2 else 0)=0:=aA (by omega)
    rw[aA c]at ih;rw[e2];omega
theorem Acc.v8{e k:Nat}{v:AV}{acc:Hp}{cs:List AV}(h:Acc e k v acc cs):Acc e k (bZ v) acc cs:=by
 cases h with
 |nil=>exact .nil
 |ah b k cs h=>exact .ah b k cs h
theorem XA{α:Type}(l:List α)(x y:α){k:Nat}(h:k=l.length):(l++[x]).set k y=l++[y]:=by subst h;simp
theorem Ye{α:Type}(l:List α)(x:α){k:Nat}(h:k=l.length):(l++[x])[k]?=some x:=by subst h;simp
theorem sl{k:Nat}{v:AV}{acc:Hp}{cs:List AV}(h0:0<k)(h:Acc 1 k v acc cs):∃b,v=.ah b 0 k 1∧acc=[(b,cs)]:=by
 cases h with
 |nil=>omega
 |ah b k cs h=>exact⟨b,rfl,rfl⟩
theorem th(P:List (List Int)):(cx P).length=P.length:=cm _
theorem X8{l:List Int}{J:List AV}{k:Nat}(h:k<l.length):(an l++J)[k]?=some (.int .i64 (l.getD k 0)):=by
 rw[ky (by rw[q9];exact h)]
 unfold an
 rw[fm,bO,bN h];rfl
theorem QN(b k:Nat)(A B:List Int)(J:List AV)(x:Int)(σ:Hp)(hk:(A++x::B).length=k)(hx:x ∉ A)(hl:k≤1000000):ACalls Tryz.prog 287 [.ah b 0 k 1,.int .i64 x] ((b,an (A++x::B)++J)::σ) (aD (.int .i64 A.length) ((b,an (A++x::B)++J)::σ)):=by
 have hkA:A.length<k:=by rw[← hk,bG,iE];omega
 refine au Tryz.func287 ?_
 refine bh (S:=Nat) (fun s=>[(0,.ah b 0 k 1),(1,.int .i64 x),(7,.int .i64 k),(8,.int .i64 s)]) (fun _=>(b,an (A++x::B)++J)::σ) (fun s=>s≤A.length) (fun s=>A.length-s) 0 ⟨aY _,⟨rfl,rfl,rfl,rfl,trivial⟩,rfl⟩ ?_
 rintro i t dc
 have hi:i≤A.length:=dc
 clear dc
 refine aj (p:=(i:Int)<k) (fun ab=>?_) (fun aq=>?_)
 ·have hg:=X8 (l:=A++x::B) (J:=J) (k:=i) (by omega)
  obtain⟨y,hy⟩:∃y,(A++x::B).getD i 0=y:=⟨_,rfl⟩
  rw[hy]at hg
  refine aQ ?_
  refine aW 0 rfl (gy rfl (by rw[dU,dB,bR];exact hg)) ?_
  refine aj (fun c=>?_) (fun c=>?_)
  ·have c:x=y:=c
   refine .done ⟨?_,rfl⟩
   by_cases e:i=A.length
   ·subst e;rfl
   ·have:y∈A:=by
     rw[← hy,bO,ky (by omega),bN (by omega)]
     exact cq _
    exact absurd (c▸this) hx
  ·have c:¬x=y:=c
   have bc:i≠A.length:=fun e=>by
    subst e
    refine c ?_
    rw[← hy,bO,iP (bJ _),nt];rfl
   exact aM (i+1) (by show A.length-(i+1)<A.length-i;omega) (by show i+1≤A.length;omega) ⟨rfl,rfl,rfl,aL (by omega),trivial⟩ (.refl _)
 ·omega
theorem QQ(b off k:Nat)(C cs:List AV)(σ:Hp)(h:(C.drop off).take (k*1)=cs)(h2:off+k*1≤C.length)(hl:k≤1000000):ACalls Tryz.prog 220 [.ah b off k 1] ((b,C)::σ) (fun x σ'=>∃b',x=.ah b' 0 k 1∧σ'=(b',cs)::(b,C)::σ):=by
 refine au Tryz.func220 ?_
 intro b2
 refine AppendAt.more 0 b2 0 k [] ((C.drop off).take (k*1)) rfl rfl (cp rfl) (.mem (dy _ (cF ..)) h2) (by omega) (by decide) (by decide) (fun b'=>?_)
 refine .done ⟨b',by rw[dU];rfl,?_⟩
 rw[h];rfl
theorem PS(w bi bl bo n:Nat)(N:List (List Int))(ix lo:List Int)(on:List Bool)(aV:Nat)(vs vp:AV)(a:Int)(σ:Hp)(h0:0≤a)(hn:a<n)(hi:ix.length=n)(hl:lo.length=n)(bc:lo.getD a.toNat 0≠ix.getD a.toNat 0):
  ACalls Tryz.prog 315 [.ptr w 0,.int .i64 a] ((w,dq N bi bl bo n vs aV vp)::(bi,an ix)::(bl,an lo)::(bo,bK on)::σ) (aD (.tup []) ((w,dq N bi bl bo n vs aV vp)::(bi,an ix)::(bl,an lo)::(bo,bK on)::σ)):=by
 refine au Tryz.func315 ?_
 refine .quiet (by kernel_rfl) ?_
 refine aa 0 ?_
 refine aQ ?_
 refine aW 2 rfl (eZ rfl h0 (by omega)) ?_
 refine aa 0 ?_
 refine aQ ?_
 refine aW 1 rfl (eZ rfl h0 (by omega)) ?_
 refine cQ (fun c=>?_) (fun c=>?_)
 ·exact .done ⟨rfl,rfl⟩
 ·exact absurd (by simpa using c) bc
theorem NG(w bi bl bo n:Nat)(N:List (List Int))(ix lo A B:List Int)(on:List Bool)(P:List (List Int))(aV:Nat)(vs vp:AV)(ly eK:Hp)(a:Int)(σ:Hp)(h0:0≤a)(hn:a<n)(hi:ix.length=n)(hl:lo.length=n)(ho:on.length=n)(he:lo.getD a.toNat 0=ix.getD a.toNat 0)(Lu:a ∉ A)(hB:∀x∈a::B,0≤x∧x<n)(dx:(A++a::B).length≤10000)(lG:P.length≤10000)
  (hs:iA 1 (A++a::B).length vs ly (an (A++a::B))) (hp:Acc 1 P.length vp eK (cx P)) :
  ACalls Tryz.prog 315 [.ptr w 0,.int .i64 a] ((w,dq N bi bl bo n vs aV vp)::(bi,an ix)::(bl,an lo)::(bo,bK on)::(ly++(eK++σ)))
   (fun r σ'=>r=.tup []∧∃eD iZ gB gz,iA 1 A.length eD iZ (an A)∧Acc 1 (P++[fJ (a::B)]).length gB gz (cx (P++[fJ (a::B)]))∧σ'=(w,dq N bi bl bo n eD aV gB)::(bi,an ix)::(bl,an lo)::(bo,bK (eR (a::B) on))::(iZ++(gz++σ))):=by
 obtain⟨K,hK⟩:∃K,(A++a::B).length=K:=⟨_,rfl⟩
 obtain⟨L,hL⟩:∃L:List Int,a::B=L:=⟨_,rfl⟩
 obtain⟨q,hq⟩:∃q,L.length=q:=⟨_,rfl⟩
 have hKA:K=A.length+q:=by rw[← hK,bG,hL,hq]
 have hq0:0<q:=by rw[← hq,← hL,iE];omega
 rw[hK]at hs dx
 obtain⟨bs,J,rfl,rfl,LF⟩:=hs.pos (by omega)
 have iK:((an (A++a::B)++J).drop A.length).take (q*1)=an L:=by
  rw[hL]
  unfold an
  rw[cC,dh,L4 (by rw[cm];exact bJ _),Dw (by rw[cm];exact bJ _),uP,G2 (by rw[cm];omega),dN (by rw[cm];omega)]
 have fh:A.length+q*1≤(an (A++a::B)++J).length:=by rw[bG,LF];omega
 refine au Tryz.func315 ?_
 refine .quiet (by kernel_rfl) ?_
 refine aa 0 ?_
 refine aQ ?_
 refine aW 2 rfl (eZ rfl h0 (by omega)) ?_
 refine aa 0 ?_
 refine aQ ?_
 refine aW 1 rfl (eZ rfl h0 (by omega)) ?_
 refine cQ (fun c=>?_) (fun c=>?_)
 ·exact absurd he (by simpa using c)
 clear c
 refine aa 0 ?_
 refine ar [4] (QN bs K A B J a _ hK Lu (by omega)) ?_
 refine aa 1 ?_
 refine aw.mk ⟨by omega,by omega,by omega,rfl⟩ ?_
 have hC:∀σ,ACalls Tryz.prog 220 [.ah bs (0+((A.length:Nat):Int).toNat*1) (((K:Nat):Int).toNat-((A.length:Nat):Int).toNat) 1] ((bs,an (A++a::B)++J)::σ) (fun x σ'=>∃b',x=.ah b' 0 q 1∧σ'=(b',an L)::(bs,an (A++a::B)++J)::σ):=fun σ=>by
  rw[show 0+((A.length:Nat):Int).toNat*1=A.length by omega,show ((K:Nat):Int).toNat-((A.length:Nat):Int).toNat=q by omega]
  exact QQ bs A.length q _ _ σ iK fh (by omega)
 refine .mk [0] _ (hC _) ?_
 rintro _ _ ⟨bp,rfl,rfl⟩
 refine aa 2 ?_
 refine aw.mk ⟨by omega,by omega,by omega,by omega,rfl⟩ ?_
 refine ag 2 ?_
 refine bh (S:=Nat) (fun i=>[(0,.ptr w 0),(5,.ah bp 0 q 1),(46,.ah bp 0 q 1),(47,.int .i64 q),(48,.int .i64 i)]) (fun i=>(bp,an L)::(bs,an (A++a::B)++J)::(w,dq N bi bl bo n (.ah bs 0 A.length 1) aV vp)::(bi,an ix)::(bl,an lo)::(bo,bK (eR (L.take i) on))::(eK++σ)) (fun i=>i≤q) (fun i=>q-i) 0 ⟨aY _,⟨rfl,rfl,rfl,rfl,rfl,trivial⟩,rfl⟩ ?_
 rintro i g dc
 have hiq:i≤q:=dc
 clear dc
 refine aj (p:=(i:Int)<q) (fun ab=>?_) (fun aq=>?_)
 ·have ab:i<L.length:=by omega
  obtain⟨x,hx⟩:∃x,L[i]=x:=⟨_,rfl⟩
  have wk:=hB x (by rw[hL,← hx];exact cq ab)
  have jC:=DN (L.take i) on
  have Ka:(eR (L.take i) on).set x.toNat false=eR (L.take (i+1)) on:=by unfold eR;rw[eT ab,hx,uQ];rfl
  have mb:eF ⟨.int .i64,1,8,[.int .i64 0]⟩ (an L) (0+((i:Nat):Int).toNat*1)=some (.int .i64 x):=by
   rw[eZ rfl (by omega) (by omega),bR,bO,bN ab,hx];rfl
  refine aQ ?_
  refine aW 0 rfl mb ?_
  refine aa 2 ?_
  refine aQ ?_
  refine cu 5 rfl (ti rfl false wk.1 (by omega)) ?_
  exact aM (i+1) (by show q-(i+1)<q-i;omega) (by show i+1≤q;omega) ⟨rfl,rfl,rfl,rfl,aL (by omega),trivial⟩ (aN (by rw[Ka];rfl))
 ·have aq:i=q:=by omega
  subst aq
  refine ar [0] (Jf bp L i _ hq (by omega)) ?_
  refine aa 2 ?_
  intro cE
  refine yC [_,_,_,_,_,_,_] hp.v8 (.ah 0 cE 0 1 _ rfl (cp rfl)) rfl (by omega) (by decide) (by decide) (fun v' aU h'=>?_)
  obtain⟨b5,rfl,rfl⟩:=sl (by omega) h'
  refine ag 3 ?_
  have hgs:=Ye (cx P) (AV.ah bp 0 i 1) (k:=P.length) (th P).symm
  have hss:=XA (cx P) (AV.ah bp 0 i 1) (.af (.int .i64) (fJ L)) (k:=P.length) (th P).symm
  refine .kj 1 bp 0 i 1 _ (.int .i64) (fJ L) rfl (by rw[fG,dN (by rw[lO,yB,dB];omega)];exact ir _) ⟨(yB L).trans hq,rfl,by decide⟩ 6 P.length b5 _ rfl hgs ?_
  refine .drop 0 1 (.perm (ez [_,_,_,_] [_] _).symm (.done ⟨rfl,.ah bs 0 A.length 1,[(bs,an A++(an L++J))],.ah b5 0 (P.length+1) 1,[(b5,cx (P++[fJ L]))],.ah bs A.length (an A) (an L++J) (by rw[lO,dB]),?_,?_⟩))
  ·subst hL
   rw[bG]
   exact .ah b5 (P.length+1) (cx (P++[fJ (a::B)])) ((th _).trans (by rw[bG,dB];rfl))
  ·rw[dN (Aj hq)]
   subst hL
   have e1:an (A++a::B)++J=an A++(an (a::B)++J):=by unfold an;rw[cC,dh]
   have e2:cx (P++[fJ (a::B)])=cx P++[.af (.int .i64) (fJ (a::B))]:=cC
   rw[e1,e2,← hss]
   rfl
def bM(l:List (Int×Nat)):List AV:=l.flatMap fun t=>[.int .i64 t.1,.int .i64 t.2]
theorem mm:∀l:List (Int×Nat),(bM l).length=l.length*2
 | []=>rfl
 |t::l=>by
  show ([AV.int .i64 t.1,.int .i64 t.2]++bM l).length=_
  rw[bG,mm l,iE]
  show 2+l.length*2=(l.length+1)*2
  omega
theorem ou(l m:List (Int×Nat)):bM (l++m)=bM l++bM m:=wV
theorem qY{w:List (Int×Nat)}{v:Int}{k:Nat}{J:List AV}{m:Nat}(hm:m=w.length):(bM (w++[(v,k)])++J)[m*2]?=some (.int .i64 v):=by
 subst hm
 rw[ou,dh,iP (by rw[mm];omega),mm,nt];rfl
theorem AT{w:List (Int×Nat)}{v:Int}{k:Nat}{J:List AV}{m:Nat}(hm:m=w.length):(bM (w++[(v,k)])++J)[m*2+1]?=some (.int .i64 k):=by
 subst hm
 rw[ou,dh,iP (by rw[mm];omega),mm,GZ];rfl
theorem A6{w:List (Int×Nat)}{v:Int}{k:Nat}{J:List AV}{m:Nat}(hm:m=w.length):(bM (w++[(v,k)])++J).set (m*2+1) (.int .i64 ((k+1:Nat):Int))=bM (w++[(v,k+1)])++J:=by
 subst hm
 rw[ou,ou,dh,dh,G7 _ _ (by rw[mm];omega),mm,GZ];rfl
def cj(n:Nat)(l:List aT):List (List Int):=(List.range n).map fun a:Nat=>ax n l a
theorem oF{n:Nat}{l:List aT}{a:Int}(h:0≤a∧a<n):(cj n l)[a.toNat]?=some (ax n l a):=by
 unfold cj
 rw[fm,wR (by omega)]
 show some (ax n l (a.toNat:Int))=_
 rw[mL h.1]
theorem AJ(zs:List Int):(fJ zs).Perm zs:=List.mergeSort_perm _ _
theorem DK{zs:List Int}(h:zs.Nodup):(fJ zs).Pairwise (· < ·):=((Mz zs).and ((AJ zs).nodup_iff.2 h)).imp fun h=>by omega
theorem DU{n:Nat}{nx:Int→List Int}{P:List (List Int)}(h:qh n nx P):P.length≤P.flatten.length:=by
 have:=h.ne
 clear h
 induction P with
 |nil=>exact bJ _
 |cons p P ih=>
  have h1:=mK.2 (this p (cF ..))
  have h2:=ih fun q hq=>this q (dy _ hq)
  rw[wP,bG,iE];omega
theorem Qd{i:TI}(hw:i.wide=true){cs v:List AV}{off:Nat}(h:off+i.size≤cs.length)(hv:(cs.drop off).take i.size=v):eF i cs off=some (.agg v):=by
 unfold eF
 rw[hw]
 show (match Nat.ble (off+i.size) cs.length with | true=>some (AV.agg ((cs.drop off).take i.size)) | false=>none)=_
 rw[Ma h,hv]
theorem M9{w:List (Int×Nat)}{v:Int}{k:Nat}{J:List AV}{m:Nat}(hm:m=w.length):((bM (w++[(v,k)])++J).drop (m*2)).take 2=[.int .i64 v,.int .i64 k]:=by
 subst hm
 rw[ou,dh,L4 (by rw[mm];exact bJ _),Dw (by rw[mm];exact bJ _)];rfl
theorem vc(X a σ:Hp)(x y:Nat×List AV):(X++(a++(x::y::σ))).Perm (x::(X++(y::(a++σ)))):=by
 have h1:(a++(x::y::σ)).Perm (x::y::(a++σ)):=nw.trans (List.Perm.cons _ nw)
 exact (List.Perm.append_left X h1).trans nw
def BE(rec:Go.Code→Tm→Hp→(Ex→Tm→Hp→Prop)→Prop)(c:Go.Code){S:Type}(ga:S→Nat)(L:S→List (Nat×AV))(H:S→Hp)(p:S→Prop)(μ:S→Nat)(Q:Ex→Tm→Hp→Prop):Prop:=
 ∀s g,p s→(match findLabel c (ga s) with | some r=>rec r (mC g (L s)) (H s) (fun e t' σ'=>match e with | .goto l'=>qB ga L H p μ s l' t' σ' | e=>Q e t' σ') | none=>False)
theorem M7{P:Program}{TT:TypeId→Option TI}{fn:Go.Func}{c:Go.Code}{xs:List AV}{σ:Hp}{R:AV→Hp→Prop}{S:Type}(hb:fn.body=some (.scope c))(ga:S→Nat)(L:S→List (Nat×AV))(H:S→Hp)(p:S→Prop)(μ:S→Nat)
  (hr:BE (mw P TT 999) c ga L H p μ (tQ TT fn.results.toList R))
  (h:BE (mw P TT 999) c ga L H p μ (tQ TT fn.results.toList R)→codeF P TT (mw P TT 999) (.scope c) (t0 xs) σ (tQ TT fn.results.toList R)):sB P TT fn xs σ R:=by
 have h1:mw P TT 1000 (.scope c) (t0 xs) σ (tQ TT fn.results.toList R):=h hr
 unfold sB
 rw[hb]
 exact h1
theorem vh{rec:Go.Code→Tm→Hp→(Ex→Tm→Hp→Prop)→Prop}{c:Go.Code}{S:Type}{ga:S→Nat}{L:S→List (Nat×AV)}{H:S→Hp}{p:S→Prop}{μ:S→Nat}{Q:Ex→Tm→Hp→Prop}{t:Tm}{σ:Hp}{l:Nat}(hr:BE rec c ga L H p μ Q)(s0:S)(h0:l=ga s0∧p s0∧agree t (L s0)∧jg σ (H s0)):
  qC (fun l t σ Q=>match findLabel c l with | some r=>rec r t σ Q | none=>False) l Q t σ:=.loop ga L H p μ s0 h0 hr
abbrev FrS:=(List Int×List Int×List Bool×List Int×Nat×List (List Int))×(Nat×List AV×AV×Hp)×(List (Int×Nat)×Int×Nat)×(Nat×List AV)
theorem adh(n w bi bl bo:Nat)(l:List aT)(lC uu:List Int)(uq:List Bool)(dJ:Nat)(P0:List (List Int))(sP fZ:AV)(tR iw:Hp)(a:Int)(σ:Hp)(hn:n≤1000)(h:FI n (ax n l) lC uu uq [] dJ P0 [])(ha:0≤a∧a<n)(hf:lC.getD a.toNat 0=0)(hs:iA 1 0 sP tR [])(hp:Acc 1 P0.length fZ iw (cx P0)):
  ACalls Tryz.prog 290 [.ptr w 0,.int .i64 a] ((w,dq (cj n l) bi bl bo n sP dJ fZ)::(bi,an lC)::(bl,an uu)::(bo,bK uq)::(tR++(iw++σ)))
   (fun r σ'=>r=.tup []∧∃ix lo on aV P vs ly vp eK,FI n (ax n l) ix lo on [] aV P []∧iA 1 0 vs ly []∧Acc 1 P.length vp eK (cx P)∧ix.getD a.toNat 0≠0∧(∀b:Nat,lC.getD b 0≠0→ix.getD b 0≠0)∧σ'=(w,dq (cj n l) bi bl bo n vs aV vp)::(bi,an ix)::(bl,an lo)::(bo,bK on)::(ly++(eK++σ))):=by
 have hle:=h.zc
 refine au Tryz.func290 ?_
 refine M7 (S:=FrS) rfl (fun _=>0)
  (fun x=>[(0,.ptr w 0),(4,.ah x.2.2.2.1 0 (x.2.2.1.1.length+1) 2)])
  (fun x=>(w,dq (cj n l) bi bl bo n (.ah x.2.1.1 0 x.1.2.2.2.1.length 1) x.1.2.2.2.2.1 x.2.1.2.2.1)::(bi,an x.1.1)::(bl,an x.1.2.1)::(bo,bK x.1.2.2.1)::(x.2.1.1,an x.1.2.2.2.1++x.2.1.2.1)::(x.2.2.2.1,bM (x.2.2.1.1++[(x.2.2.1.2.1,x.2.2.1.2.2)])++x.2.2.2.2)::(x.2.1.2.2.2++σ))
  (fun x=>(FI n (ax n l) x.1.1 x.1.2.1 x.1.2.2.1 x.1.2.2.2.1 x.1.2.2.2.2.1 x.1.2.2.2.2.2 (x.2.2.1.1++[(x.2.2.1.2.1,x.2.2.1.2.2)])∧Acc 1 x.1.2.2.2.2.2.length x.2.1.2.2.1 x.2.1.2.2.2 (cx x.1.2.2.2.2.2))∧x.1.1.getD a.toNat 0≠0∧∀b:Nat,lC.getD b 0≠0→x.1.1.getD b 0≠0)
  (fun x=>je (ax n l) (x.2.2.1.1++[(x.2.2.1.2.1,x.2.2.1.2.2)])+iy (ax n l) x.1.1 n) ?_ ?_
 ·rintro⟨⟨ix,lo,on,st,aV,P⟩,⟨bs,Js,vp,eK⟩,⟨wy,v,k⟩,⟨bw,J⟩⟩ g ⟨⟨rV,s4⟩,p8,Dc⟩
  have hF:FI n (ax n l) ix lo on st aV P (wy++[(v,k)]):=rV
  have hP:Acc 1 P.length vp eK (cx P):=s4
  have hA:ix.getD a.toNat 0≠0:=p8
  have hM:∀b:Nat,lC.getD b 0≠0→ix.getD b 0≠0:=Dc
  clear rV s4 p8 Dc
  have hle:=hF.zc
  have cg:=hF.mem
  have er:=hF.tj.node v cg
  have zV:k≤(ax n l v).length:=hF.tn (v,k) (iO _ (bE.2 rfl))
  have kT:=vb n l v
  have qL:wy.length+1≤st.length:=by
   have:=hF.tj.sub.length_le
   rw[cm,bG]at this
   exact this
  have l5:IntKind.i64.wrap (((wy.length+1:Nat):Int)-1)=((wy.length:Nat):Int):=by rw[fP (by omega)];omega
  have hX:0+(IntKind.i64.wrap (((wy.length+1:Nat):Int)-1)).toNat*2=wy.length*2:=by rw[l5];omega
  have mF:eF ⟨.int .i64,1,8,[.int .i64 0]⟩ (bM (wy++[(v,k)])++J) (0+(IntKind.i64.wrap (((wy.length+1:Nat):Int)-1)).toNat*2+0)=some (.int .i64 v):=gy rfl (by rw[hX];exact qY rfl)
  have lF:eF ⟨.int .i64,1,8,[.int .i64 0]⟩ (bM (wy++[(v,k)])++J) (0+(IntKind.i64.wrap (((wy.length+1:Nat):Int)-1)).toNat*2+1)=some (.int .i64 k):=gy rfl (by rw[hX];exact AT rfl)
  have fh:(bM (wy++[(v,k)])++J).length=wy.length*2+2+J.length:=by rw[bG,mm,bG];show (wy.length+1)*2+_=_;omega
  have jE:IntKind.i64.wrap ((k:Int)+1)=((k+1:Nat):Int):=by rw[fP (by omega)];omega
  have uz:kC ⟨.int .i64,1,8,[.int .i64 0]⟩ (bM (wy++[(v,k)])++J) (0+(IntKind.i64.wrap (((wy.length+1:Nat):Int)-1)).toNat*2+1) (.int .i64 (IntKind.i64.wrap ((k:Int)+1)))=some (bM (wy++[(v,k+1)])++J):=by
   rw[pz rfl rfl (by rw[hX,fh];omega),hX,jE,A6 rfl]
  have tN:2=2∧0≤IntKind.i64.wrap (((wy.length+1:Nat):Int)-1)∧IntKind.i64.wrap (((wy.length+1:Nat):Int)-1)<((wy.length+1:Nat):Int):=⟨rfl,by omega,by omega⟩
  refine aw.mk tN ?_
  refine .quiet (by kernel_rfl) ?_
  refine aW 5 rfl lF ?_
  refine aa 0 ?_
  refine aW 5 rfl mF ?_
  refine aw.mk rfl ?_
  refine aX.mk (ax n l v) (by omega) (oF er) ?_
  refine aj (p:=(k:Int)<(ax n l v).length) (fun ab=>?_) (fun aq=>?_)
  ·have ab:k<(ax n l v).length:=by omega
   obtain⟨b,hb⟩:∃b,(ax n l v)[k]=b:=⟨_,rfl⟩
   have rS:b∈ax n l v:=hb▸cq ab
   have dM:=(kD.1 rS).1
   refine .quiet (by kernel_rfl) ?_
   refine aa 0 ?_
   refine aW 5 rfl mF ?_
   refine aw.mk rfl ?_
   refine aX.mk (ax n l v) (by omega) (oF er) ?_
   refine aW 5 rfl lF ?_
   refine aw.mk rfl ?_
   refine aX.mk b (by omega) ((get_some ab).trans (congrArg some hb)) ?_
   refine aW 5 rfl lF ?_
   refine cu 5 rfl uz ?_
   refine aa 0 ?_
   refine aQ ?_
   refine aW 1 rfl (eZ rfl dM.1 (by rw[hF.li];omega)) ?_
   refine aj (p:=ix.getD b.toNat 0=0) (fun c1=>?_) (fun c1=>?_)
   ·have hN:=hF.new ab hb dM c1
    have ew:(an st).length=st.length*1:=by rw[lO,dB]
    refine .mk [] _ (ze w bi bl bo n (cj n l) ix lo st on aV _ vp _ b ((bw,bM (wy++[(v,k+1)])++J)::(eK++σ)) dM.1 dM.2 hF.li hF.ll hF.kq (.ah bs st.length (an st) Js ew) (by omega) (by omega)) ?_
    rintro _ _ ⟨rfl,zL,BZ,fE,rfl⟩
    obtain⟨lL,oq,rfl,rfl,_⟩:=fE.pos (by rw[bG];show 0<_+1;omega)
    intro aB
    have FO:(bM (wy++[(v,k+1)])).length=(wy.length+1)*2:=by rw[mm,bG];rfl
    refine xa (k:=wy.length+1) (n:=1) [_,_,_,_,_,_] (.ah bw (wy.length+1) (bM (wy++[(v,k+1)])) J FO) (.ah 0 aB 0 1 _ rfl (cp rfl)) rfl (by omega) (by decide) (by decide) (fun v' aU h'=>?_)
    obtain⟨om,J2,rfl,rfl,_⟩:=h'.pos (by omega)
    have Lc:(wy++[(v,k+1)]).length+1=wy.length+1+1:=by rw[bG];rfl
    have uJ:(b.toNat:Int)=b:=mL dM.1
    have pV:=Ii (nx:=ax n l) (ix:=ix) (b:=b.toNat) (v:=((aV+1:Nat):Int)) (by omega) c1 (by rw[hF.li];omega) n
    rw[az (by omega),uJ]at pV
    refine .mk ((ix.set b.toNat ((aV+1:Nat):Int),lo.set b.toNat ((aV+1:Nat):Int),on.set b.toNat true,st++[b],aV+1,P),(lL,oq,vp,eK),(wy++[(v,k+1)],b,0),(om,J2)) rfl ?_ ⟨⟨hN,hP⟩,?_,?_⟩ ⟨rfl,by rw[Lc];rfl,trivial⟩ (.drop 0 1 (aN (by rw[ou (wy++[(v,k+1)])];rfl)))
    ·show je (ax n l) ((wy++[(v,k+1)])++[(b,0)])+iy (ax n l) (ix.set b.toNat ((aV+1:Nat):Int)) n<je (ax n l) (wy++[(v,k)])+iy (ax n l) ix n
     rw[lP,lP,lP];omega
    ·show (ix.set b.toNat ((aV+1:Nat):Int)).getD a.toNat 0≠0
     rw[mq];split
     ·omega
     ·exact hA
    ·intro z hz
     show (ix.set b.toNat ((aV+1:Nat):Int)).getD z 0≠0
     rw[mq];split
     ·omega
     ·exact hM z hz
   ·have c1:¬(ix.getD b.toNat 0=0):=c1
    refine aa 0 ?_
    refine aQ ?_
    have o0:=hF.uo b dM.1 dM.2
    have Ce:eF ⟨.int .i64,1,8,[.int .i64 0]⟩ (bM (wy++[(v,k+1)])++J) (0+(IntKind.i64.wrap (((wy.length+1:Nat):Int)-1)).toNat*2+0)=some (.int .i64 v):=gy rfl (by rw[hX];exact qY rfl)
    refine eH.ij 3 _ _ rfl (qo rfl dM.1 (by rw[hF.kq];omega)) (fun c2=>?_) (fun c2=>?_)
    ·rw[o0]at c2
     have hO:=hF.FL ab hb (fk c2)
     refine .sched [] (upto [] 28 0) (by kernel_rfl) ?_
     refine aa 0 ?_
     refine aW 5 rfl Ce ?_
     refine aa 0 ?_
     refine aW 5 rfl Ce ?_
     refine aQ ?_
     refine aW 2 rfl (eZ rfl er.1 (by rw[hF.ll];omega)) ?_
     refine aa 0 ?_
     refine aQ ?_
     refine aW 1 rfl (eZ rfl dM.1 (by rw[hF.li];omega)) ?_
     refine aQ ?_
     refine cu 2 rfl (lS rfl _ er.1 (by rw[hF.ll];omega)) ?_
     have jw:(if ix.getD b.toNat 0<lo.getD v.toNat 0 then ix.getD b.toNat 0 else lo.getD v.toNat 0)=min (lo.getD v.toNat 0) (ix.getD b.toNat 0):=by split <;> omega
     refine .mk ((ix,lo.set v.toNat (min (lo.getD v.toNat 0) (ix.getD b.toNat 0)),on,st,aV,P),(bs,Js,vp,eK),(wy,v,k+1),(bw,J)) rfl ?_ ⟨⟨hO,hP⟩,hA,hM⟩ ⟨rfl,rfl,trivial⟩ (aN (by rw[← jw];rfl))
     show je (ax n l) (wy++[(v,k+1)])+iy (ax n l) ix n<je (ax n l) (wy++[(v,k)])+iy (ax n l) ix n
     rw[lP,lP];omega
    ·rw[o0]at c2
     have hO:=hF.off ab hb dM.1 c1 (pc c2)
     refine .mk ((ix,lo,on,st,aV,P),(bs,Js,vp,eK),(wy,v,k+1),(bw,J)) rfl ?_ ⟨⟨hO,hP⟩,hA,hM⟩ ⟨rfl,rfl,trivial⟩ (.refl _)
     show je (ax n l) (wy++[(v,k+1)])+iy (ax n l) ix n<je (ax n l) (wy++[(v,k)])+iy (ax n l) ix n
     rw[lP,lP];omega
  ·have aq:k=(ax n l v).length:=by omega
   have mE:eF ⟨.bB [(0,3),(1,3)],2,16,[.int .i64 0,.int .i64 0]⟩ (bM (wy++[(v,k)])++J) (0+(IntKind.i64.wrap (((wy.length+1:Nat):Int)-1)).toNat*2)=some (.agg [.int .i64 v,.int .i64 k]):=Qd rfl (by rw[hX,fh];show wy.length*2+2≤_;omega) (by rw[hX];exact M9 rfl)
   refine aW 5 rfl mE ?_
   intro bt
   refine ag 0 ?_
   refine aa 0 ?_
   have pE:(IntKind.i64.wrap (((wy.length+1:Nat):Int)-1)).toNat-Int.toNat 0=wy.length:=by rw[l5];omega
   have dx:0≤(0:Int)∧(0:Int)≤IntKind.i64.wrap (((wy.length+1:Nat):Int)-1)∧IntKind.i64.wrap (((wy.length+1:Nat):Int)-1)≤((wy.length+1:Nat):Int)∧2=2:=⟨by omega,by omega,by omega,rfl⟩
   by_cases he:lo.getD v.toNat 0=ix.getD v.toNat 0
   ·obtain⟨A,B,ao,Dk,hB1⟩:=Om hF.tj.inc cg
    have K5:v ∉ A:=fun hm=>by have:=Dk v hm;omega
    have K4:∀x∈v::B,0≤x∧x<(n:Int):=fun x hx=>hF.tj.node x (by rw[ao];exact iO _ hx)
    have ck:=tg hF.tj.inc
    rw[ao]at ck
    have hT:=hF.tell (by omega) ao he (fun x y hy=>(kD.1 hy).1) (AJ (v::B)) (DK (ml.1 ck).2.1)
    have Da:=DU hF.tj.prt
    subst ao
    have ew:(an (A++v::B)).length=(A++v::B).length*1:=by rw[lO,dB]
    refine .perm _ (vc [_,_,_,_,_] eK σ _ _) (NG w bi bl bo n (cj n l) ix lo A B on P aV _ vp _ eK v _ er.1 er.2 hF.li hF.ll hF.kq he K5 K4 (by omega) (by omega) (.ah bs (A++v::B).length (an (A++v::B)) Js ew) hP) ?_
    rintro _ _ ⟨rfl,eD,iZ,gB,gz,dS,rQ,rfl⟩
    have gm:((bt,[AV.int .i64 v,.int .i64 k])::(w,dq (cj n l) bi bl bo n eD aV gB)::(bi,an ix)::(bl,an lo)::(bo,bK (eR (v::B) on))::(bw,bM (wy++[(v,k)])++J)::(iZ++(gz++σ))).Perm ((w,dq (cj n l) bi bl bo n eD aV gB)::(bi,an ix)::(bl,an lo)::(bo,bK (eR (v::B) on))::(iZ++(gz++((bt,[AV.int .i64 v,.int .i64 k])::(bw,bM (wy++[(v,k)])++J)::σ)))):=by
     have h1:=(vc [(w,dq (cj n l) bi bl bo n eD aV gB),(bi,an ix),(bl,an lo),(bo,bK (eR (v::B) on))] (iZ++gz) σ (bt,[AV.int .i64 v,.int .i64 k]) (bw,bM (wy++[(v,k)])++J)).symm
     rw[dh,dh]at h1
     exact h1
    refine⟨_,gm,?_⟩
    refine aw.mk dx ?_
    rcases Aw wy with dQ | ⟨w',⟨u,i⟩,dQ⟩
    ·have pH:wy.length=0:=by rw[dQ];rfl
     rw[dQ]at hT
     obtain rfl:A=[]:=hT.Q1
     refine aj (p:=(0:Int)<(((IntKind.i64.wrap (((wy.length+1:Nat):Int)-1)).toNat-Int.toNat 0:Nat):Int)) (fun c3=>?_) (fun c3=>?_)
     ·rw[pE,pH]at c3;exact absurd c3 (by decide)
     ·refine .drop 0 1 (.drop 4 1 (.done ⟨rfl,ix,lo,eR (v::B) on,aV,P++[fJ (v::B)],eD,iZ,gB,gz,hT,dS,rQ,hA,hM,rfl⟩))
    ·have dQ:wy=w'++[(u,i)]:=by simpa using dQ
     have pH:wy.length=w'.length+1:=by rw[dQ,bG];rfl
     have jf:(IntKind.i64.wrap (((wy.length+1:Nat):Int)-1)).toNat-Int.toNat 0=w'.length+1:=pE.trans pH
     have nM:IntKind.i64.wrap ((((IntKind.i64.wrap (((wy.length+1:Nat):Int)-1)).toNat-Int.toNat 0:Nat):Int)-1)=((w'.length:Nat):Int):=by rw[jf,fP (by omega)];omega
     have yi:(0+Int.toNat 0*2)+(IntKind.i64.wrap ((((IntKind.i64.wrap (((wy.length+1:Nat):Int)-1)).toNat-Int.toNat 0:Nat):Int)-1)).toNat*2+0=w'.length*2:=by rw[nM,bR];show 0+0*2+_+0=_;omega
     have nU:bM (wy++[(v,k)])++J=bM (w'++[(u,i)])++([.int .i64 v,.int .i64 k]++J):=by rw[dQ,ou,dh];rfl
     have pV:eF ⟨.int .i64,1,8,[.int .i64 0]⟩ (bM (wy++[(v,k)])++J) ((0+Int.toNat 0*2)+(IntKind.i64.wrap ((((IntKind.i64.wrap (((wy.length+1:Nat):Int)-1)).toNat-Int.toNat 0:Nat):Int)-1)).toNat*2+0)=some (.int .i64 u):=gy rfl (by rw[yi,nU];exact qY rfl)
     have fR:0≤u∧u<(n:Int):=hF.tj.node u (hF.tj.sub.subset (by rw[dQ];simp))
     have iK:AV.ah bw (0+Int.toNat 0*2) ((IntKind.i64.wrap (((wy.length+1:Nat):Int)-1)).toNat-Int.toNat 0) 2=.ah bw 0 (w'.length+1) 2:=by rw[jf];rfl
     have JH:AV.ah bw 0 (w'.length+1) 2=AV.ah bw (0+Int.toNat 0*2) ((IntKind.i64.wrap (((wy.length+1:Nat):Int)-1)).toNat-Int.toNat 0) 2:=iK.symm
     refine aj (p:=(0:Int)<(((IntKind.i64.wrap (((wy.length+1:Nat):Int)-1)).toNat-Int.toNat 0:Nat):Int)) (fun c3=>?_) (fun c3=>?_)
     rotate_left
     ·rw[jf]at c3;omega
     have xw:2=2∧0≤IntKind.i64.wrap ((((IntKind.i64.wrap (((wy.length+1:Nat):Int)-1)).toNat-Int.toNat 0:Nat):Int)-1)∧IntKind.i64.wrap ((((IntKind.i64.wrap (((wy.length+1:Nat):Int)-1)).toNat-Int.toNat 0:Nat):Int)-1)<(((IntKind.i64.wrap (((wy.length+1:Nat):Int)-1)).toNat-Int.toNat 0:Nat):Int):=⟨rfl,by rw[nM];omega,by rw[nM,jf];omega⟩
     refine aw.mk xw ?_
     refine aW 5 rfl pV ?_
     refine .sched [] (upto [] 23 0) (by kernel_rfl) ?_
     refine aa 1 ?_
     refine aa 1 ?_
     refine aQ ?_
     refine aW 3 rfl (eZ rfl fR.1 (by rw[hF.ll];omega)) ?_
     refine aa 1 ?_
     refine aa 0 ?_
     refine aQ ?_
     refine aW 3 rfl (eZ rfl er.1 (by rw[hF.ll];omega)) ?_
     refine aQ ?_
     refine cu 3 rfl (lS rfl _ fR.1 (by rw[hF.ll];omega)) ?_
     have jw:(if lo.getD v.toNat 0<lo.getD u.toNat 0 then lo.getD v.toNat 0 else lo.getD u.toNat 0)=min (lo.getD u.toNat 0) (lo.getD v.toNat 0):=by split <;> omega
     have Di:0<A.length:=List.length_pos_of_mem (a:=u) (hT.tj.sub.subset (by rw[dQ];simp))
     obtain⟨lL,oq,rfl,rfl,_⟩:=dS.pos Di
     have zl:=FI.same (dQ▸hF) he
     rw[dQ]at hT
     have hE:(w,dq (cj n l) bi bl bo n (.ah lL 0 A.length 1) aV gB)::(bi,an ix)::(bl,an (lo.set u.toNat (if lo.getD v.toNat 0<lo.getD u.toNat 0 then lo.getD v.toNat 0 else lo.getD u.toNat 0)))::(bo,bK (eR (v::B) on))::(lL,an A++oq)::(bw,bM (wy++[(v,k)])++J)::(gz++σ)=(w,dq (cj n l) bi bl bo n (.ah lL 0 A.length 1) aV gB)::(bi,an ix)::(bl,an (lo))::(bo,bK (eR (v::B) on))::(lL,an A++oq)::(bw,bM (w'++[(u,i)])++([.int .i64 v,.int .i64 k]++J))::(gz++σ):=by rw[jw,zl,nU]
     refine .mk ((ix,lo,eR (v::B) on,A,aV,P++[fJ (v::B)]),(lL,oq,gB,gz),(w',u,i),(bw,[AV.int .i64 v,.int .i64 k]++J)) rfl ?_ ⟨⟨hT,rQ⟩,hA,hM⟩ ⟨rfl,iK,trivial⟩ (.drop 0 1 (.pull [4,4,4,4,5] (aN hE)))
     show je (ax n l) (w'++[(u,i)])+iy (ax n l) ix n<je (ax n l) (wy++[(v,k)])+iy (ax n l) ix n
     rw[dQ,lP (ax n l) (w'++[(u,i)])];omega
   ·have LD:=fun ρ=>PS w bi bl bo n (cj n l) ix lo on aV (.ah bs 0 st.length 1) vp v ρ er.1 er.2 hF.li hF.ll he
    refine ar [4,4,4,4] (LD _) ?_
    refine aw.mk dx ?_
    rcases Aw wy with dQ | ⟨w',⟨u,i⟩,dQ⟩
    ·have pH:wy.length=0:=by rw[dQ];rfl
     rw[dQ]at hF
     exact absurd hF.one he
    ·have dQ:wy=w'++[(u,i)]:=by simpa using dQ
     have pH:wy.length=w'.length+1:=by rw[dQ,bG];rfl
     have jf:(IntKind.i64.wrap (((wy.length+1:Nat):Int)-1)).toNat-Int.toNat 0=w'.length+1:=pE.trans pH
     have nM:IntKind.i64.wrap ((((IntKind.i64.wrap (((wy.length+1:Nat):Int)-1)).toNat-Int.toNat 0:Nat):Int)-1)=((w'.length:Nat):Int):=by rw[jf,fP (by omega)];omega
     have yi:(0+Int.toNat 0*2)+(IntKind.i64.wrap ((((IntKind.i64.wrap (((wy.length+1:Nat):Int)-1)).toNat-Int.toNat 0:Nat):Int)-1)).toNat*2+0=w'.length*2:=by rw[nM,bR];show 0+0*2+_+0=_;omega
     have nU:bM (wy++[(v,k)])++J=bM (w'++[(u,i)])++([.int .i64 v,.int .i64 k]++J):=by rw[dQ,ou,dh];rfl
     have pV:eF ⟨.int .i64,1,8,[.int .i64 0]⟩ (bM (wy++[(v,k)])++J) ((0+Int.toNat 0*2)+(IntKind.i64.wrap ((((IntKind.i64.wrap (((wy.length+1:Nat):Int)-1)).toNat-Int.toNat 0:Nat):Int)-1)).toNat*2+0)=some (.int .i64 u):=gy rfl (by rw[yi,nU];exact qY rfl)
     have fR:0≤u∧u<(n:Int):=hF.tj.node u (hF.tj.sub.subset (by rw[dQ];simp))
     have iK:AV.ah bw (0+Int.toNat 0*2) ((IntKind.i64.wrap (((wy.length+1:Nat):Int)-1)).toNat-Int.toNat 0) 2=.ah bw 0 (w'.length+1) 2:=by rw[jf];rfl
     have JH:AV.ah bw 0 (w'.length+1) 2=AV.ah bw (0+Int.toNat 0*2) ((IntKind.i64.wrap (((wy.length+1:Nat):Int)-1)).toNat-Int.toNat 0) 2:=iK.symm
     refine aj (p:=(0:Int)<(((IntKind.i64.wrap (((wy.length+1:Nat):Int)-1)).toNat-Int.toNat 0:Nat):Int)) (fun c3=>?_) (fun c3=>?_)
     rotate_left
     ·rw[jf]at c3;omega
     have xw:2=2∧0≤IntKind.i64.wrap ((((IntKind.i64.wrap (((wy.length+1:Nat):Int)-1)).toNat-Int.toNat 0:Nat):Int)-1)∧IntKind.i64.wrap ((((IntKind.i64.wrap (((wy.length+1:Nat):Int)-1)).toNat-Int.toNat 0:Nat):Int)-1)<(((IntKind.i64.wrap (((wy.length+1:Nat):Int)-1)).toNat-Int.toNat 0:Nat):Int):=⟨rfl,by rw[nM];omega,by rw[nM,jf];omega⟩
     refine aw.mk xw ?_
     refine aW 6 rfl pV ?_
     refine .sched [] (upto [] 23 0) (by kernel_rfl) ?_
     refine aa 0 ?_
     refine aa 0 ?_
     refine aQ ?_
     refine aW 2 rfl (eZ rfl fR.1 (by rw[hF.ll];omega)) ?_
     refine aa 0 ?_
     refine aa 4 ?_
     refine aQ ?_
     refine aW 2 rfl (eZ rfl er.1 (by rw[hF.ll];omega)) ?_
     refine aQ ?_
     refine cu 2 rfl (lS rfl _ fR.1 (by rw[hF.ll];omega)) ?_
     have jw:(if lo.getD v.toNat 0<lo.getD u.toNat 0 then lo.getD v.toNat 0 else lo.getD u.toNat 0)=min (lo.getD u.toNat 0) (lo.getD v.toNat 0):=by split <;> omega
     have hU:=FI.up (dQ▸hF) (by omega) he
     have hE:(w,dq (cj n l) bi bl bo n (.ah bs 0 st.length 1) aV vp)::(bi,an ix)::(bl,an (lo.set u.toNat (if lo.getD v.toNat 0<lo.getD u.toNat 0 then lo.getD v.toNat 0 else lo.getD u.toNat 0)))::(bo,bK (on))::(bs,an st++Js)::(bw,bM (wy++[(v,k)])++J)::(eK++σ)=(w,dq (cj n l) bi bl bo n (.ah bs 0 st.length 1) aV vp)::(bi,an ix)::(bl,an (lo.set u.toNat (min (lo.getD u.toNat 0) (lo.getD v.toNat 0))))::(bo,bK (on))::(bs,an st++Js)::(bw,bM (w'++[(u,i)])++([.int .i64 v,.int .i64 k]++J))::(eK++σ):=by rw[jw,nU]
     refine .mk ((ix,lo.set u.toNat (min (lo.getD u.toNat 0) (lo.getD v.toNat 0)),on,st,aV,P),(bs,Js,vp,eK),(w',u,i),(bw,[AV.int .i64 v,.int .i64 k]++J)) rfl ?_ ⟨⟨hU,hP⟩,hA,hM⟩ ⟨rfl,iK,trivial⟩ (.drop 4 1 (aN hE))
     show je (ax n l) (w'++[(u,i)])+iy (ax n l) ix n<je (ax n l) (wy++[(v,k)])+iy (ax n l) ix n
     rw[dQ,lP (ax n l) (w'++[(u,i)])];omega
 ·intro hr
  obtain⟨ix,lo,on,hF,hA,hM,heq,LI⟩:∃ix lo on,FI n (ax n l) ix lo on [a] (dJ+1) P0 [(a,0)]∧ix.getD a.toNat 0≠0∧(∀b:Nat,lC.getD b 0≠0→ix.getD b 0≠0)∧lo.getD a.toNat 0=ix.getD a.toNat 0∧∀ρ,ACalls Tryz.prog 314 [.ptr w 0,.int .i64 a] ((w,dq (cj n l) bi bl bo n sP dJ fZ)::(bi,an lC)::(bl,an uu)::(bo,bK uq)::(tR++ρ))
    (fun r σ'=>r=.agg [.int .i64 a,.int .i64 0]∧∃bs Js,σ'=(w,dq (cj n l) bi bl bo n (.ah bs 0 [a].length 1) (dJ+1) fZ)::(bi,an ix)::(bl,an lo)::(bo,bK on)::(bs,an [a]++Js)::ρ):=by
   have h1:=h.enter (way2:=[]) ha hf (fun v hv=>by cases hv) rfl (fun t ht=>by cases ht) (fun t ht=>by cases ht)
   refine⟨_,_,_,h1,?_,?_,?_,fun ρ=>(ze w bi bl bo n (cj n l) lC uu [] uq dJ sP fZ tR a ρ ha.1 ha.2 h.li h.ll h.kq hs (aY _) (by omega)).mono ?_⟩
   ·rw[mq,az ⟨rfl,by rw[h.li];omega⟩];omega
   ·intro z hz
    rw[mq];split
    ·omega
    ·exact hz
   ·rw[mq,mq,az ⟨rfl,by rw[h.ll];omega⟩,az ⟨rfl,by rw[h.li];omega⟩]
   ·rintro _ _ ⟨rfl,zL,BZ,fE,rfl⟩
    obtain⟨bs,Js,rfl,rfl,_⟩:=fE.pos (by show 0<1;decide)
    exact⟨rfl,bs,Js,rfl⟩
  clear hf hs h
  have hle:=hF.zc
  have zV:=vb n l a
  refine .mk [] _ (LI (iw++σ)) ?_
  rintro _ _ ⟨rfl,bs,Js,rfl⟩
  intro bw
  refine aw.mk ⟨rfl,by decide,by decide⟩ ?_
  refine .quiet (by kernel_rfl) ?_
  refine aa 0 ?_
  refine aa 1 ?_
  refine aa 0 ?_
  refine aw.mk rfl ?_
  refine aX.mk (ax n l a) (by omega) (oF ha) ?_
  refine aj (p:=(0:Int)<(ax n l a).length) (fun ab=>?_) (fun aq=>?_)
  ·have ab:0<(ax n l a).length:=by omega
   obtain⟨b,hb⟩:∃b,(ax n l a)[0]=b:=⟨_,rfl⟩
   have rS:b∈ax n l a:=hb▸cq ab
   have dM:=(kD.1 rS).1
   refine .quiet (by kernel_rfl) ?_
   refine aa 1 ?_
   refine aa 0 ?_
   refine aw.mk rfl ?_
   refine aX.mk (ax n l a) (by omega) (oF ha) ?_
   refine aa 0 ?_
   refine aw.mk rfl ?_
   refine aX.mk b (by decide) ((get_some ab).trans (congrArg some hb)) ?_
   refine aa 0 ?_
   refine ag 0 ?_
   refine aa 1 ?_
   refine aQ ?_
   refine aW 2 rfl (eZ rfl dM.1 (by rw[hF.li];omega)) ?_
   refine aj (p:=ix.getD b.toNat 0=0) (fun c1=>?_) (fun c1=>?_)
   ·have hN:=FI.new (w:=[]) hF ab hb dM c1
    refine .mk [5,5,5,5,5] _ (ze w bi bl bo n (cj n l) ix lo [a] on (dJ+1) _ fZ _ b ((bw,[.int .i64 a,.int .i64 1])::(iw++σ)) dM.1 dM.2 hF.li hF.ll hF.kq (.ah bs 1 (an [a]) Js rfl) (by show 1≤10000;decide) (by omega)) ?_
    rintro _ _ ⟨rfl,zL,BZ,fE,rfl⟩
    obtain⟨lL,oq,rfl,rfl,_⟩:=fE.pos (by show 0<2;decide)
    intro aB
    refine xa (k:=1) (n:=1) [_,_,_,_,_,_] (.ah bw 1 (bM [(a,1)]) [] rfl) (.ah 0 aB 0 1 _ rfl (cp rfl)) rfl (by decide) (by decide) (by decide) (fun v' aU h'=>?_)
    obtain⟨om,J2,rfl,rfl,_⟩:=h'.pos (by decide)
    refine vh hr ((ix.set b.toNat ((dJ+1+1:Nat):Int),lo.set b.toNat ((dJ+1+1:Nat):Int),on.set b.toNat true,[a]++[b],dJ+1+1,P0),(lL,oq,fZ,iw),([(a,1)],b,0),(om,J2)) ⟨rfl,⟨⟨hN,hp⟩,?_,?_⟩,⟨rfl,rfl,trivial⟩,.drop 0 1 (aN rfl)⟩
    ·show (ix.set b.toNat ((dJ+1+1:Nat):Int)).getD a.toNat 0≠0
     rw[mq];split
     ·omega
     ·exact hA
    ·intro z hz
     show (ix.set b.toNat ((dJ+1+1:Nat):Int)).getD z 0≠0
     rw[mq];split
     ·omega
     ·exact hM z hz
   ·have c1:¬(ix.getD b.toNat 0=0):=c1
    have o0:=hF.uo b dM.1 dM.2
    refine aa 1 ?_
    refine aQ ?_
    refine eH.ij 4 _ _ rfl (qo rfl dM.1 (by rw[hF.kq];omega)) (fun c2=>?_) (fun c2=>?_)
    ·rw[o0]at c2
     have hO:=FI.FL (w:=[]) hF ab hb (fk c2)
     refine .sched [] (upto [] 28 0) (by kernel_rfl) ?_
     refine aa 1 ?_
     refine aa 0 ?_
     refine aa 1 ?_
     refine aa 0 ?_
     refine aQ ?_
     refine aW 3 rfl (eZ rfl ha.1 (by rw[hF.ll];omega)) ?_
     refine aa 1 ?_
     refine aQ ?_
     refine aW 2 rfl (eZ rfl dM.1 (by rw[hF.li];omega)) ?_
     refine aQ ?_
     refine cu 3 rfl (lS rfl _ ha.1 (by rw[hF.ll];omega)) ?_
     have jw:(if ix.getD b.toNat 0<lo.getD a.toNat 0 then ix.getD b.toNat 0 else lo.getD a.toNat 0)=min (lo.getD a.toNat 0) (ix.getD b.toNat 0):=by split <;> omega
     have hE:(w,dq (cj n l) bi bl bo n (.ah bs 0 [a].length 1) (dJ+1) fZ)::(bi,an ix)::(bl,an (lo.set a.toNat (if ix.getD b.toNat 0<lo.getD a.toNat 0 then ix.getD b.toNat 0 else lo.getD a.toNat 0)))::(bo,bK on)::(bs,an [a]++Js)::(bw,bM [(a,1)]++[])::(iw++σ)=(w,dq (cj n l) bi bl bo n (.ah bs 0 [a].length 1) (dJ+1) fZ)::(bi,an ix)::(bl,an (lo.set a.toNat (min (lo.getD a.toNat 0) (ix.getD b.toNat 0))))::(bo,bK on)::(bs,an [a]++Js)::(bw,bM [(a,1)]++[])::(iw++σ):=by rw[jw]
     exact vh hr ((ix,lo.set a.toNat (min (lo.getD a.toNat 0) (ix.getD b.toNat 0)),on,[a],dJ+1,P0),(bs,Js,fZ,iw),([],a,1),(bw,[])) ⟨rfl,⟨⟨hO,hp⟩,hA,hM⟩,⟨rfl,rfl,trivial⟩,.pull [5,5,5,5,5] (aN hE)⟩
    ·rw[o0]at c2
     have hO:=FI.off (w:=[]) hF ab hb dM.1 c1 (pc c2)
     exact vh hr ((ix,lo,on,[a],dJ+1,P0),(bs,Js,fZ,iw),([],a,1),(bw,[])) ⟨rfl,⟨⟨hO,hp⟩,hA,hM⟩,⟨rfl,rfl,trivial⟩,.pull [5,5,5,5,5] (aN rfl)⟩
  ·have aq:(ax n l a).length=0:=by omega
   refine aa 0 ?_
   intro aB
   refine ag 0 ?_
   refine aa 0 ?_
   have hT:=FI.tell (w:=[]) (A:=[]) (B:=[]) (part:=fJ [a]) hF (by omega) rfl heq (fun x y hy=>(kD.1 hy).1) (AJ [a]) (DK (by simp))
   have Da:=DU hF.tj.prt
   have J9:((w,dq (cj n l) bi bl bo n (.ah bs 0 [a].length 1) (dJ+1) fZ)::(bi,an ix)::(bl,an lo)::(bo,bK on)::(bs,an [a]++Js)::(iw++((aB,[AV.int .i64 a,.int .i64 0])::(bw,[AV.int .i64 a,.int .i64 0])::σ))).Perm ((aB,[AV.int .i64 a,.int .i64 0])::(bw,[AV.int .i64 a,.int .i64 0])::(w,dq (cj n l) bi bl bo n (.ah bs 0 [a].length 1) (dJ+1) fZ)::(bi,an ix)::(bl,an lo)::(bo,bK on)::(bs,an [a]++Js)::(iw++σ)):=by
    have h1:=vc [(w,dq (cj n l) bi bl bo n (.ah bs 0 [a].length 1) (dJ+1) fZ),(bi,an ix),(bl,an lo),(bo,bK on),(bs,an [a]++Js)] iw σ (aB,[AV.int .i64 a,.int .i64 0]) (bw,[AV.int .i64 a,.int .i64 0])
    exact h1.trans (List.Perm.cons _ (nw (l₁:=[(w,dq (cj n l) bi bl bo n (.ah bs 0 [a].length 1) (dJ+1) fZ),(bi,an ix),(bl,an lo),(bo,bK on),(bs,an [a]++Js)])))
   refine .perm _ J9 (NG w bi bl bo n (cj n l) ix lo [] [] on P0 (dJ+1) _ fZ _ iw a _ ha.1 ha.2 hF.li hF.ll hF.kq heq (by simp) (fun x hx=>by rw[List.mem_singleton.1 hx];exact ha) (by show 1≤10000;decide) (by omega) (.ah bs 1 (an [a]) Js rfl) hp) ?_
   rintro _ _ ⟨rfl,eD,iZ,gB,gz,dS,rQ,rfl⟩
   have gm:((aB,[AV.int .i64 a,.int .i64 0])::(w,dq (cj n l) bi bl bo n eD (dJ+1) gB)::(bi,an ix)::(bl,an lo)::(bo,bK (eR [a] on))::(bw,[AV.int .i64 a,.int .i64 0])::(iZ++(gz++σ))).Perm ((w,dq (cj n l) bi bl bo n eD (dJ+1) gB)::(bi,an ix)::(bl,an lo)::(bo,bK (eR [a] on))::(iZ++(gz++((aB,[AV.int .i64 a,.int .i64 0])::(bw,[AV.int .i64 a,.int .i64 0])::σ)))):=by
    have h1:=(vc [(w,dq (cj n l) bi bl bo n eD (dJ+1) gB),(bi,an ix),(bl,an lo),(bo,bK (eR [a] on))] (iZ++gz) σ (aB,[AV.int .i64 a,.int .i64 0]) (bw,[AV.int .i64 a,.int .i64 0])).symm
    rw[dh,dh]at h1
    exact h1
   refine⟨_,gm,?_⟩
   refine aw.mk (by decide) ?_
   exact .drop 0 1 (.drop 4 1 (.done ⟨rfl,ix,lo,eR [a] on,dJ+1,P0++[fJ [a]],eD,iZ,gB,gz,hT,dS,rQ,hA,hM,rfl⟩))
end Go.Proofs.YtnikdflhefijbaaGreat
