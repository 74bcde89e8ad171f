import Derived.Test.YtnpidbjdilnhlaaGreatBn33
import Derived.Test.YtnpidbjdilnhlaaGreatBn11
import Derived.Test.YtnpidbjdilnhlaaGreatBn21
import Derived.Test.YtnpidbjdilnhlaaGreatBn23
import Derived.Test.YtnpidbjdilnhlaaGreatBn22
import Derived.Test.YtnpidbjdilnhlaaGreatBn34
namespace Go.Proofs.YtnpidbjdilnhlaaGreat
open Go.RowKit
set_option maxRecDepth 100000
theorem jP{w:List Int}{i j:Nat}{x:Int}:(w.set i x).getD j 0=if i=j∧j<w.length then x else w.getD j 0:=by
 simp only[List.getD_eq_getElem?_getD,List.getElem?_set]
 by_cases h:i=j
 ·subst h
  by_cases h2:i<w.length
  ·simp[h2]
  ·simp[h2]
 ·simp[h]
def gI(ix:List Int)(x:Int):Int:=if 0≤x then ix.getD x.toNat 0 else 0
theorem jA{ix:List Int}{x:Int}(h:0≤x):gI ix x=ix.getD x.toNat 0:=if_pos h
theorem uW{ix:List Int}{b v:Int}(h0:0≤b)(h1:b<ix.length):gI (ix.set b.toNat v)=lJ (gI ix) b v:=by
 funext y
 show (if 0≤y then (ix.set b.toNat v).getD y.toNat 0 else 0)=if y=b then v else if 0≤y then ix.getD y.toNat 0 else 0
 by_cases hy:0≤y
 ·rw[if_pos hy,List.getD_eq_getElem?_getD,List.getElem?_set]
  by_cases e:y=b
  ·subst e;rw[if_pos rfl,if_pos (by omega),if_pos rfl];rfl
  ·rw[if_neg (by omega),if_neg e,if_pos hy,List.getD_eq_getElem?_getD]
 ·rw[if_neg hy,if_neg (by omega),if_neg hy]
theorem TO(n:Nat)(x:Int):gI (List.replicate n 0) x=0:=by
 unfold gI
 split
 ·rw[List.getD_eq_getElem?_getD,List.getElem?_replicate];split <;> rfl
 ·rfl
structure FI(n:Nat)(nx:Int→List Int)(ix lo:List Int)(on:List Bool)(st:List Int)(aM:Nat)(P:List (List Int))(eS:List (Int×Nat)):Prop where
 tj:TJ n nx (gI ix) (gI lo) st aM P (eS.map (·.1))
 qP:Prc nx (gI ix) (gI lo) st eS
 li:ix.length=n
 ll:lo.length=n
 ig:on.length=n
 qR:∀a:Int,0≤a→a<n→on.getD a.toNat false=decide (a∈st)
 tn:∀t∈eS,t.2≤(nx t.1).length
theorem Kk{on:List Bool}{b:Int}{x:Bool}(hb:0≤b)(hl:b<on.length){a:Int}(ha:0≤a):(on.set b.toNat x).getD a.toNat false=if a=b then x else on.getD a.toNat false:=by
 rw[List.getD_eq_getElem?_getD,List.getElem?_set,List.getD_eq_getElem?_getD]
 by_cases e:a=b
 ·subst e;rw[if_pos rfl,if_pos (by omega),if_pos rfl];rfl
 ·rw[if_neg (by omega),if_neg e]
theorem FI.start(n:Nat)(nx:Int→List Int):FI n nx (List.replicate n 0) (List.replicate n 0) (List.replicate n false) [] 0 [] []:=
 ⟨.start (TO n),fun _ h=>(by cases h),List.length_replicate,List.length_replicate,List.length_replicate,fun a _ _=>by
  rw[List.getD_eq_getElem?_getD,List.getElem?_replicate];split <;> simp,fun _ h=>(by cases h)⟩
variable {n:Nat} {nx:Int→List Int} {ix lo:List Int} {on:List Bool} {st:List Int} {aM:Nat} {P:List (List Int)}
theorem FI.enter{eS way2:List (Int×Nat)}{b:Int}(h:FI n nx ix lo on st aM P eS)(hb:0≤b∧b<n)(hf:ix.getD b.toNat 0=0)(hW:∀v∈eS.map (·.1),Rx nx v b)(BU:way2.map (·.1)=eS.map (·.1))(hp:∀t∈way2,∀y∈(nx t.1).take t.2,y=b∨(gI ix y≠0∧(y∈st→gI lo t.1≤gI ix y)))(ht:∀t∈way2,t.2≤(nx t.1).length):
  FI n nx (ix.set b.toNat ((aM+1:Nat):Int)) (lo.set b.toNat ((aM+1:Nat):Int)) (on.set b.toNat true) (st++[b]) (aM+1) P (way2++[(b,0)]):=by
 have hf:gI ix b=0:=by rw[jA hb.1];exact hf
 have fg:b ∉ st:=fun hm=>by have:=h.tj.ov b hm;omega
 have h1:=h.tj.enter hb hf hW
 refine⟨?_,?_,by rw[List.length_set];exact h.li,by rw[List.length_set];exact h.ll,by rw[List.length_set];exact h.ig,fun a h0 hn =>?_,fun t k9 =>?_⟩
 ·rw[uW hb.1 (by rw[h.li];exact hb.2),uW hb.1 (by rw[h.ll];exact hb.2),List.map_append,BU]
  exact h1
 ·rw[uW hb.1 (by rw[h.li];exact hb.2),uW hb.1 (by rw[h.ll];exact hb.2)]
  intro t k9 y hy
  rcases List.mem_append.1 k9 with k9 | k9
  ·have htW:t.1∈eS.map (·.1):=BU▸List.mem_map_of_mem k9
   have hts:t.1∈st:=h.tj.sub.subset htW
   have htb:t.1≠b:=fun e=>fg (e▸hts)
   rw[lZ (f:=gI lo) htb]
   have hle:=(h.tj.low t.1 htW).1
   have FQ:=(h.tj.ov t.1 hts).2
   by_cases e:y=b
   ·subst e
    rw[l0]
    exact⟨by omega,fun _=>by omega⟩
   ·rw[lZ e]
    obtain⟨h2,h3⟩:=(hp t k9 y hy).resolve_left e
    exact⟨h2,fun hm=>h3 ((List.mem_append.1 hm).resolve_right fun hm=>e (List.mem_singleton.1 hm))⟩
  ·rw[List.mem_singleton.1 k9]at hy
   simp at hy
 ·rw[Kk hb.1 (by rw[h.ig];exact hb.2) h0]
  by_cases e:a=b
  ·subst e;rw[if_pos rfl];simp
  ·rw[if_neg e,h.qR a h0 hn];simp[e]
 ·rcases List.mem_append.1 k9 with k9 | k9
  ·exact ht t k9
  ·rw[List.mem_singleton.1 k9];exact Nat.zero_le _
theorem CO{l:List Int}{k:Nat}(h:k<l.length){b:Int}(hb:l[k]=b):l.take (k+1)=l.take k++[b]:=by rw[List.take_succ_eq_append_getElem h,hb]
theorem Dp{w:List (Int×Nat)}{a:Int}{k j:Nat}:(w++[(a,k)]).map (·.1)=(w++[(a,j)]).map (·.1):=by rw[List.map_append,List.map_append];rfl
theorem FI.new{w:List (Int×Nat)}{a b:Int}{k:Nat}(h:FI n nx ix lo on st aM P (w++[(a,k)]))(hk:k<(nx a).length)(hb:(nx a)[k]=b)(cC:0≤b∧b<n)(hf:ix.getD b.toNat 0=0):
  FI n nx (ix.set b.toNat ((aM+1:Nat):Int)) (lo.set b.toNat ((aM+1:Nat):Int)) (on.set b.toNat true) (st++[b]) (aM+1) P ((w++[(a,k+1)])++[(b,0)]):=by
 have Ge:b∈nx a:=hb▸List.getElem_mem hk
 have Gh:a∈(w++[(a,k)]).map (·.1):=List.mem_map.2 ⟨(a,k),List.mem_append_right _ (List.mem_singleton.2 rfl),rfl⟩
 have jE:=h.tj.sub
 have oc:∀v∈w.map (·.1),gI ix v<gI ix a:=by
  refine wS h.tj.inc ?_
  rw[List.map_append]at jE;exact jE
 refine h.enter cC hf (fun v hv =>?_) Dp (fun t ht y hy =>?_) fun t ht =>?_
 ·refine (h.tj.tQ v hv a (jE.subset Gh) ?_).trans (.one Ge)
  rw[List.map_append]at hv
  rcases List.mem_append.1 hv with hv | hv
  ·have:=oc v hv;omega
  ·rw[List.mem_singleton.1 hv];exact Int.le_refl _
 ·rcases List.mem_append.1 ht with ht | ht
  ·exact .inr (h.qP t (List.mem_append_left _ ht) y hy)
  ·rw[List.mem_singleton.1 ht]at hy ⊢
   rw[CO hk hb]at hy
   rcases List.mem_append.1 hy with hy | hy
   ·exact .inr (h.qP (a,k) (List.mem_append_right _ (List.mem_singleton.2 rfl)) y hy)
   ·exact .inl (List.mem_singleton.1 hy)
 ·rcases List.mem_append.1 ht with ht | ht
  ·exact h.tn t (List.mem_append_left _ ht)
  ·rw[List.mem_singleton.1 ht];exact hk
theorem FI.off{w:List (Int×Nat)}{a b:Int}{k:Nat}(h:FI n nx ix lo on st aM P (w++[(a,k)]))(hk:k<(nx a).length)(hb:(nx a)[k]=b)(cC:0≤b)(hf:ix.getD b.toNat 0≠0)(hs:b ∉ st):FI n nx ix lo on st aM P (w++[(a,k+1)]):=by
 refine⟨by rw[Dp (j:=k)];exact h.tj,fun t ht y hy =>?_,h.li,h.ll,h.ig,h.qR,fun t ht =>?_⟩
 ·rcases List.mem_append.1 ht with ht | ht
  ·exact h.qP t (List.mem_append_left _ ht) y hy
  ·rw[List.mem_singleton.1 ht]at hy ⊢
   rw[CO hk hb]at hy
   rcases List.mem_append.1 hy with hy | hy
   ·exact h.qP (a,k) (List.mem_append_right _ (List.mem_singleton.2 rfl)) y hy
   ·rw[List.mem_singleton.1 hy,jA cC]
    exact⟨hf,fun hm=>absurd hm hs⟩
 ·rcases List.mem_append.1 ht with ht | ht
  ·exact h.tn t (List.mem_append_left _ ht)
  ·rw[List.mem_singleton.1 ht];exact hk
theorem FI.Bp{w:List (Int×Nat)}{a b:Int}{k:Nat}(h:FI n nx ix lo on st aM P (w++[(a,k)]))(hk:k<(nx a).length)(hb:(nx a)[k]=b)(hs:b∈st):FI n nx ix (lo.set a.toNat (min (lo.getD a.toNat 0) (ix.getD b.toNat 0))) on st aM P (w++[(a,k+1)]):=by
 have Ge:b∈nx a:=hb▸List.getElem_mem hk
 have cC:=h.tj.node b hs
 have Gh:a∈(w++[(a,k)]).map (·.1):=List.mem_map.2 ⟨(a,k),List.mem_append_right _ (List.mem_singleton.2 rfl),rfl⟩
 have jE:=h.tj.sub
 have oJ:=h.tj.node a (jE.subset Gh)
 have bC:((w++[(a,k)]).map (·.1)).Nodup:=(pX h.tj.inc).sublist jE
 have haw:∀t∈w,t.1≠a:=fun t ht e=>by
  rw[List.map_append]at bC
  exact (List.nodup_append.1 bC).2.2 t.1 (List.mem_map_of_mem ht) a (List.mem_singleton.2 rfl) e
 have fx:=h.tj
 rw[List.map_append]at fx
 have h1:=fx.lower (z:=b) hs (.one Ge)
 have yB:gI (lo.set a.toNat (min (lo.getD a.toNat 0) (ix.getD b.toNat 0)))=lJ (gI lo) a (min (gI lo a) (gI ix b)):=by rw[uW oJ.1 (by rw[h.ll];exact oJ.2),jA oJ.1,jA cC.1]
 refine⟨by rw[yB,Dp (j:=k),List.map_append];exact h1,fun t ht y hy =>?_,h.li,by rw[List.length_set];exact h.ll,h.ig,h.qR,fun t ht =>?_⟩
 ·rw[yB]
  rcases List.mem_append.1 ht with ht | ht
  ·rw[lZ (haw t ht)]
   exact h.qP t (List.mem_append_left _ ht) y hy
  ·rw[List.mem_singleton.1 ht]at hy ⊢
   rw[CO hk hb]at hy
   rw[l0]
   rcases List.mem_append.1 hy with hy | hy
   ·obtain⟨h2,h3⟩:=h.qP (a,k) (List.mem_append_right _ (List.mem_singleton.2 rfl)) y hy
    have h3:y∈st→gI lo a≤gI ix y:=h3
    exact⟨h2,fun hm=>by have:=h3 hm;omega⟩
   ·rw[List.mem_singleton.1 hy]
    have:=h.tj.ov b hs
    exact⟨by omega,fun _=>by omega⟩
 ·rcases List.mem_append.1 ht with ht | ht
  ·exact h.tn t (List.mem_append_left _ ht)
  ·rw[List.mem_singleton.1 ht];exact hk
theorem FI.all{w:List (Int×Nat)}{a:Int}{k:Nat}(h:FI n nx ix lo on st aM P (w++[(a,k)]))(hk:(nx a).length≤k):∀y∈nx a,gI ix y≠0∧(y∈st→gI lo a≤gI ix y):=fun y hy =>
 h.qP (a,k) (List.mem_append_right _ (List.mem_singleton.2 rfl)) y (by rw[List.take_of_length_le hk];exact hy)
theorem Q3{l:List Int}{i:Nat}:l.set i (l.getD i 0)=l:=by
 refine List.ext_getElem? fun j =>?_
 rw[List.getElem?_set]
 by_cases e:i=j
 ·subst e
  by_cases hl:i<l.length
  ·rw[if_pos rfl,if_pos hl,List.getD_eq_getElem?_getD,List.getElem?_eq_getElem hl];rfl
  ·rw[if_pos rfl,if_neg hl,List.getElem?_eq_none (by omega)]
 ·rw[if_neg e]
theorem FI.up{w:List (Int×Nat)}{u v:Int}{i k:Nat}(h:FI n nx ix lo on st aM P ((w++[(u,i)])++[(v,k)]))(hk:(nx v).length≤k)(aS:lo.getD v.toNat 0≠ix.getD v.toNat 0):FI n nx ix (lo.set u.toNat (min (lo.getD u.toNat 0) (lo.getD v.toNat 0))) on st aM P (w++[(u,i)]):=by
 have fx:=h.tj
 rw[List.map_append,List.map_append]at fx
 have BZ:u∈(w.map (·.1)++[u]++[v]):=by simp
 have BV:v∈(w.map (·.1)++[u]++[v]):=by simp
 have eb:=fx.node u (fx.sub.subset BZ)
 have cW:=fx.node v (fx.sub.subset BV)
 have bC:(w.map (·.1)++[u]++[v]).Nodup:=(pX fx.inc).sublist fx.sub
 have huw:∀t∈w,t.1≠u:=fun t ht e=>(List.nodup_append.1 (List.nodup_append.1 bC).1).2.2 t.1 (List.mem_map_of_mem ht) u (List.mem_singleton.2 rfl) e
 have pC:=(fx.low v BV).1
 have ab:gI lo v<gI ix v:=by
  rw[jA cW.1,jA cW.1]at pC ⊢;omega
 have h1:=fx.up (u:=u) (v:=v) (w:=w.map (·.1)) ab (h.all hk)
 have yB:gI (lo.set u.toNat (min (lo.getD u.toNat 0) (lo.getD v.toNat 0)))=lJ (gI lo) u (min (gI lo u) (gI lo v)):=by rw[uW eb.1 (by rw[h.ll];exact eb.2),jA eb.1,jA cW.1]
 refine⟨by rw[yB,List.map_append];exact h1,fun t ht y hy =>?_,h.li,by rw[List.length_set];exact h.ll,h.ig,h.qR,fun t ht=>h.tn t (List.mem_append_left _ ht)⟩
 rw[yB]
 obtain⟨h2,h3⟩:=h.qP t (List.mem_append_left _ ht) y hy
 refine⟨h2,fun hm =>?_⟩
 have:=h3 hm
 by_cases e:t.1=u
 ·rw[e]at this ⊢;rw[l0];omega
 ·rw[lZ e];exact this
def dz(part:List Int)(on:List Bool):List Bool:=part.foldl (fun on b=>on.set b.toNat false) on
theorem zD:∀(part:List Int) (on:List Bool),(dz part on).length=on.length
 | [],_=>rfl
 | b::part,on=>by
  show (dz part (on.set b.toNat false)).length=_
  rw[zD part,List.length_set]
theorem Jj{a:Int}(ha:0≤a):∀(part:List Int) (on:List Bool),(∀b∈part,0≤b∧b<on.length)→(dz part on).getD a.toNat false=if a∈part then false else on.getD a.toNat false
 | [],_,_=>by simp[dz]
 | b::part,on,h=>by
  have hb:=h b (List.mem_cons_self ..)
  show (dz part (on.set b.toNat false)).getD a.toNat false=_
  rw[Jj ha part _ fun c hc=>by rw[List.length_set];exact h c (List.mem_cons_of_mem _ hc),Kk hb.1 hb.2 ha]
  by_cases h1:a∈part
  ·rw[if_pos h1,if_pos (List.mem_cons_of_mem _ h1)]
  ·rw[if_neg h1]
   by_cases h2:a=b
   ·rw[if_pos h2,if_pos (by rw[h2];exact List.mem_cons_self ..)]
   ·rw[if_neg h2,if_neg (by rw[List.mem_cons];exact fun h=>h.elim h2 h1)]
theorem FI.tell{w:List (Int×Nat)}{v:Int}{k:Nat}{A B part:List Int}(h:FI n nx ix lo on st aM P (w++[(v,k)]))(hk:(nx v).length≤k)(ar:st=A++v::B)(heq:lo.getD v.toNat 0=ix.getD v.toNat 0)(bF:∀x y,y∈nx x→0≤y∧y<n)(hp:part.Perm (v::B))(hs:part.Pairwise (· < ·)):FI n nx ix lo (dz (v::B) on) A aM (P++[part]) w:=by
 have fx:=h.tj
 rw[List.map_append]at fx
 have cW:=fx.node v (by rw[ar];simp)
 have h1:=fx.tell (w:=w.map (·.1)) (part:=part) ar (by rw[jA cW.1,jA cW.1];exact heq) (h.all hk) bF hp hs
 have pR:∀x∈A,x∈st:=fun x hx=>by rw[ar];exact List.mem_append_left _ hx
 refine⟨h1,fun t ht y hy =>?_,h.li,h.ll,by rw[zD];exact h.ig,fun a h0 hn =>?_,fun t ht=>h.tn t (List.mem_append_left _ ht)⟩
 ·obtain⟨h2,h3⟩:=h.qP t (List.mem_append_left _ ht) y hy
  exact⟨h2,fun hm=>h3 (pR y hm)⟩
 ·rw[Jj h0 _ _ fun b hb=>by rw[h.ig];exact fx.node b (by rw[ar];exact List.mem_append_right _ hb),h.qR a h0 hn]
  have bC:=pX fx.inc
  rw[ar]at bC
  by_cases hm:a∈v::B
  ·rw[if_pos hm]
   exact (decide_eq_false fun hA=>(List.nodup_append.1 bC).2.2 a hA a hm rfl).symm
  ·rw[if_neg hm]
   refine Bool.eq_iff_iff.2 ?_
   rw[decide_eq_true_eq,decide_eq_true_eq,ar,List.mem_append]
   exact⟨fun h=>h.resolve_right hm,.inl⟩
theorem FI.same{w:List (Int×Nat)}{u v:Int}{i k:Nat}(h:FI n nx ix lo on st aM P ((w++[(u,i)])++[(v,k)]))(heq:lo.getD v.toNat 0=ix.getD v.toNat 0):lo.set u.toNat (min (lo.getD u.toNat 0) (lo.getD v.toNat 0))=lo:=by
 have fx:=h.tj
 rw[List.map_append,List.map_append]at fx
 have BZ:u∈(w.map (·.1)++[u]++[v]):=by simp
 have BV:v∈(w.map (·.1)++[u]++[v]):=by simp
 have eb:=fx.node u (fx.sub.subset BZ)
 have cW:=fx.node v (fx.sub.subset BV)
 have h1:=(fx.low u BZ).1
 have h2:=wS fx.inc fx.sub u (by simp)
 rw[jA eb.1,jA eb.1]at h1
 rw[jA eb.1,jA cW.1]at h2
 rw[show min (lo.getD u.toNat 0) (lo.getD v.toNat 0)=lo.getD u.toNat 0 by omega]
 exact Q3
theorem FI.KS(h:FI n nx ix lo on st aM P []):st=[]:=h.tj.empty
theorem FI.one{v:Int}{k:Nat}(h:FI n nx ix lo on st aM P [(v,k)]):lo.getD v.toNat 0=ix.getD v.toNat 0:=by
 have cW:=h.tj.node v (h.tj.sub.subset (by simp))
 have:=h.tj.first
 rw[jA cW.1,jA cW.1]at this
 exact this
theorem FI.mem{w:List (Int×Nat)}{v:Int}{k:Nat}(h:FI n nx ix lo on st aM P (w++[(v,k)])):v∈st:=h.tj.sub.subset (by simp)
theorem FI.uZ{eS:List (Int×Nat)}(h:FI n nx ix lo on st aM P eS):aM≤n∧st.length≤n∧P.flatten.length≤n:=by
 have bC:(P.flatten++st).Nodup:=List.nodup_append.2 ⟨h.tj.prt.nd,pX h.tj.inc,fun x hx y hy e=>by
  subst e
  obtain⟨p,hp,nt⟩:=List.mem_flatten.1 hx
  exact h.tj.uq p hp x nt hy⟩
 have hn:∀z∈P.flatten++st,0≤z∧z<(n:Int):=fun z hz=>by
  rcases List.mem_append.1 hz with hz | hz
  ·obtain⟨p,hp,hz⟩:=List.mem_flatten.1 hz
   exact h.tj.prt.node p hp z hz
  ·exact h.tj.node z hz
 have jE:=Dh bC (m:=(List.range n).map fun i:Nat=>(i:Int)) fun z hz=>List.mem_map.2 ⟨z.toNat,List.mem_range.2 (by have:=hn z hz;omega),by have:=hn z hz;omega⟩
 rw[List.length_append,List.length_map,List.length_range]at jE
 have:=h.tj.len
 omega
def fQ(nx:Int→List Int)(eS:List (Int×Nat)):Nat:=(eS.map fun t=>(nx t.1).length+1-t.2).sum
def fp(nx:Int→List Int)(ix:List Int)(n:Nat):Nat:=((List.range n).map fun a:Nat=>if ix.getD a 0=0 then (nx a).length+2 else 0).sum
theorem jr(nx:Int→List Int)(w:List (Int×Nat))(a:Int)(k:Nat):fQ nx (w++[(a,k)])=fQ nx w+((nx a).length+1-k):=by unfold fQ;simp
theorem H5(nx:Int→List Int)(ix:List Int)(n:Nat):fp nx ix (n+1)=fp nx ix n+if ix.getD n 0=0 then (nx n).length+2 else 0:=by unfold fp;rw[List.range_succ];simp
theorem Dl{nx:Int→List Int}{ix:List Int}{b:Nat}{v:Int}(hv:v≠0)(hf:ix.getD b 0=0)(hb:b<ix.length):∀n,fp nx (ix.set b v) n+(if b<n then (nx b).length+2 else 0)=fp nx ix n
 | 0=>rfl
 | n+1=>by
  have ih:=Dl (nx:=nx) hv hf hb n
  rw[H5,H5]
  have hg:(ix.set b v).getD n 0=if b=n then v else ix.getD n 0:=by
   rw[List.getD_eq_getElem?_getD,List.getElem?_set]
   by_cases e:b=n
   ·subst e;rw[if_pos rfl,if_pos hb,if_pos rfl];rfl
   ·rw[if_neg e,if_neg e,List.getD_eq_getElem?_getD]
  rw[hg]
  by_cases e:b=n
  ·subst e
   rw[if_pos rfl,if_neg hv,if_pos hf,if_pos (by omega)]
   rw[if_neg (by omega)]at ih
   omega
  ·rw[if_neg e]
   by_cases c:b<n
   ·have e2:(if b<n+1 then (nx b).length+2 else 0)=(nx b).length+2:=if_pos (by omega)
    rw[if_pos c]at ih;rw[e2];omega
   ·have e2:(if b<n+1 then (nx b).length+2 else 0)=0:=if_neg (by omega)
    rw[if_neg c]at ih;rw[e2];omega
end Go.Proofs.YtnpidbjdilnhlaaGreat
namespace Go.Proofs.YtnpidbjdilnhlaaGreat
open Go.RowKit
set_option maxRecDepth 100000
theorem Acc.sl{e k:Nat}{v:AV}{acc:Hp}{cs:List AV}(h:Acc e k v acc cs):Acc e k (a8 v) acc cs:=by
 cases h with
 | nil=>exact .nil
 | ae b k cs h=>exact .ae b k cs h
theorem Q2{α:Type}(l:List α)(x y:α){k:Nat}(h:k=l.length):(l++[x]).set k y=l++[y]:=by subst h;simp
theorem RD{α:Type}(l:List α)(x:α){k:Nat}(h:k=l.length):(l++[x])[k]?=some x:=by subst h;simp
theorem oY{k:Nat}{v:AV}{acc:Hp}{cs:List AV}(h0:0<k)(h:Acc 1 k v acc cs):∃b,v=.ae b 0 k 1∧acc=[(b,cs)]:=by
 cases h with
 | nil=>omega
 | ae b k cs h=>exact⟨b,rfl,rfl⟩
end Go.Proofs.YtnpidbjdilnhlaaGreat
namespace Go.Proofs.YtnpidbjdilnhlaaGreat
open Go.RowKit
set_option maxRecDepth 100000
theorem pZ(P:List (List Int)):(bE P).length=P.length:=List.length_map _
theorem Ry{l:List Int}{J:List AV}{k:Nat}(h:k<l.length):(ak l++J)[k]?=some (.int .i64 (l.getD k 0)):=by
 rw[List.getElem?_append_left (by rw[nO];exact h)]
 unfold ak
 rw[List.getElem?_map,List.getD_eq_getElem?_getD,List.getElem?_eq_getElem h];rfl
theorem KF(b k:Nat)(A B:List Int)(J:List AV)(x:Int)(σ:Hp)(hk:(A++x::B).length=k)(hx:x ∉ A)(hl:k≤1000000):ACalls Tryz.prog 202 [.ae b 0 k 1,.int .i64 x] ((b,ak (A++x::B)++J)::σ) (aB (.int .i64 A.length) ((b,ak (A++x::B)++J)::σ)):=by
 have hkA:A.length<k:=by rw[← hk,List.length_append,List.length_cons];omega
 refine okF Tryz.func202 (by kernel_rfl) ?_
 refine aU (S:=Nat) (fun s=>[(0,.ae b 0 k 1),(1,.int .i64 x),(7,.int .i64 k),(8,.int .i64 s)]) (fun _=>(b,ak (A++x::B)++J)::σ) (fun s=>s≤A.length) (fun s=>A.length-s) 0 ⟨Nat.zero_le _,⟨rfl,rfl,rfl,rfl,trivial⟩,rfl⟩ ?_
 rintro i t cY
 have hi:i≤A.length:=cY
 clear cY
 refine an (p:=(i:Int)<k) (fun ab =>?_) (fun aq =>?_)
 ·have hg:=Ry (l:=A++x::B) (J:=J) (k:=i) (by omega)
  obtain⟨y,hy⟩:∃y,(A++x::B).getD i 0=y:=⟨_,rfl⟩
  rw[hy]at hg
  refine ah.mk ⟨rfl,by omega,by omega⟩ ?_
  refine aa.mk 0 _ _ rfl (eO rfl (by rw[Nat.zero_add,Nat.mul_one,Int.toNat_natCast];exact hg)) ?_
  refine an (fun c =>?_) (fun c =>?_)
  ·have c:x=y:=c
   refine .done ⟨?_,rfl⟩
   by_cases e:i=A.length
   ·subst e;rfl
   ·have:y∈A:=by
     rw[← hy,List.getD_eq_getElem?_getD,List.getElem?_append_left (by omega),List.getElem?_eq_getElem (by omega)]
     exact List.getElem_mem _
    exact absurd (c▸this) hx
  ·have c:¬x=y:=c
   have aS:i≠A.length:=fun e=>by
    subst e
    refine c ?_
    rw[← hy,List.getD_eq_getElem?_getD,List.getElem?_append_right (Nat.le_refl _),Nat.sub_self];rfl
   exact aH (i+1) (by show A.length-(i+1)<A.length-i;omega) (by show i+1≤A.length;omega) ⟨rfl,rfl,rfl,aI (by omega),trivial⟩ (.refl _)
 ·omega
theorem KI(b off k:Nat)(C cs:List AV)(σ:Hp)(h:(C.drop off).take (k*1)=cs)(h2:off+k*1≤C.length)(hl:k≤1000000):ACalls Tryz.prog 219 [.ae b off k 1] ((b,C)::σ) (fun x σ'=>∃b',x=.ae b' 0 k 1∧σ'=(b',cs)::(b,C)::σ):=by
 refine okF Tryz.func219 (by kernel_rfl) ?_
 intro b2
 refine AppendAt.more 0 b2 0 k [] ((C.drop off).take (k*1)) rfl rfl (Nat.le_of_ble_eq_true rfl) (.mem (List.mem_cons_of_mem _ (List.mem_cons_self ..)) h2) (by omega) (by decide) (by decide) (fun b' =>?_)
 refine .done ⟨b',by rw[Nat.zero_add];rfl,?_⟩
 rw[h];rfl
theorem JR(w bi bl bo n:Nat)(N:List (List Int))(ix lo:List Int)(on:List Bool)(aM:Nat)(vs vp:AV)(a:Int)(σ:Hp)(h0:0≤a)(hn:a<n)(hi:ix.length=n)(hl:lo.length=n)(aS:lo.getD a.toNat 0≠ix.getD a.toNat 0):
  ACalls Tryz.prog 247 [.ptr w 0,.int .i64 a] ((w,bZ N bi bl bo n vs aM vp)::(bi,ak ix)::(bl,ak lo)::(bo,aZ on)::σ) (aB (.tup []) ((w,bZ N bi bl bo n vs aM vp)::(bi,ak ix)::(bl,ak lo)::(bo,aZ on)::σ)):=by
 refine okF Tryz.func247 (by kernel_rfl) ?_
 refine .quiet (by kernel_rfl) ?_
 refine aa.mk 0 _ _ rfl rfl ?_
 refine ah.mk ⟨rfl,by omega,by omega⟩ ?_
 refine aa.mk 2 _ _ rfl (dD rfl h0 (by omega)) ?_
 refine aa.mk 0 _ _ rfl rfl ?_
 refine ah.mk ⟨rfl,by omega,by omega⟩ ?_
 refine aa.mk 1 _ _ rfl (dD rfl h0 (by omega)) ?_
 refine bS (fun c =>?_) (fun c =>?_)
 ·exact .done ⟨rfl,rfl⟩
 ·exact absurd (by simpa using c) aS
theorem HP(w bi bl bo n:Nat)(N:List (List Int))(ix lo A B:List Int)(on:List Bool)(P:List (List Int))(aM:Nat)(vs vp:AV)(iX du:Hp)(a:Int)(σ:Hp)(h0:0≤a)(hn:a<n)(hi:ix.length=n)(hl:lo.length=n)(ho:on.length=n)(he:lo.getD a.toNat 0=ix.getD a.toNat 0)(Gi:a ∉ A)(hB:∀x∈a::B,0≤x∧x<n)(cc:(A++a::B).length≤10000)(jd:P.length≤10000)
  (hs:fu 1 (A++a::B).length vs iX (ak (A++a::B))) (hp:Acc 1 P.length vp du (bE P)) :
  ACalls Tryz.prog 247 [.ptr w 0,.int .i64 a] ((w,bZ N bi bl bo n vs aM vp)::(bi,ak ix)::(bl,ak lo)::(bo,aZ on)::(iX++(du++σ)))
   (fun r σ'=>r=.tup []∧∃dg fN eH eF,fu 1 A.length dg fN (ak A)∧Acc 1 (P++[dU (a::B)]).length eH eF (bE (P++[dU (a::B)]))∧σ'=(w,bZ N bi bl bo n dg aM eH)::(bi,ak ix)::(bl,ak lo)::(bo,aZ (dz (a::B) on))::(fN++(eF++σ))):=by
 obtain⟨K,hK⟩:∃K,(A++a::B).length=K:=⟨_,rfl⟩
 obtain⟨L,hL⟩:∃L:List Int,a::B=L:=⟨_,rfl⟩
 obtain⟨q,hq⟩:∃q,L.length=q:=⟨_,rfl⟩
 have hKA:K=A.length+q:=by rw[← hK,List.length_append,hL,hq]
 have hq0:0<q:=by rw[← hq,← hL,List.length_cons];omega
 rw[hK]at hs cc
 obtain⟨bs,J,rfl,rfl,Gs⟩:=hs.pos (by omega)
 have e8:((ak (A++a::B)++J).drop A.length).take (q*1)=ak L:=by
  rw[hL]
  unfold ak
  rw[List.map_append,List.append_assoc,List.drop_append_of_le_length (by rw[List.length_map];exact Nat.le_refl _),List.drop_of_length_le (by rw[List.length_map];exact Nat.le_refl _),List.nil_append,List.take_append_of_le_length (by rw[List.length_map];omega),List.take_of_length_le (by rw[List.length_map];omega)]
 have dI:A.length+q*1≤(ak (A++a::B)++J).length:=by rw[List.length_append,Gs];omega
 refine okF Tryz.func247 (by kernel_rfl) ?_
 refine .quiet (by kernel_rfl) ?_
 refine aa.mk 0 _ _ rfl rfl ?_
 refine ah.mk ⟨rfl,by omega,by omega⟩ ?_
 refine aa.mk 2 _ _ rfl (dD rfl h0 (by omega)) ?_
 refine aa.mk 0 _ _ rfl rfl ?_
 refine ah.mk ⟨rfl,by omega,by omega⟩ ?_
 refine aa.mk 1 _ _ rfl (dD rfl h0 (by omega)) ?_
 refine bS (fun c =>?_) (fun c =>?_)
 ·exact absurd he (by simpa using c)
 clear c
 refine aa.mk 0 _ _ rfl rfl ?_
 refine az [4] (KF bs K A B J a _ hK Gi (by omega)) ?_
 refine aa.mk 1 _ _ rfl rfl ?_
 refine ah.mk ⟨by omega,by omega,by omega,rfl⟩ ?_
 have hC:∀σ,ACalls Tryz.prog 219 [.ae bs (0+((A.length:Nat):Int).toNat*1) (((K:Nat):Int).toNat-((A.length:Nat):Int).toNat) 1] ((bs,ak (A++a::B)++J)::σ) (fun x σ'=>∃b',x=.ae b' 0 q 1∧σ'=(b',ak L)::(bs,ak (A++a::B)++J)::σ):=fun σ=>by
  rw[show 0+((A.length:Nat):Int).toNat*1=A.length by omega,show ((K:Nat):Int).toNat-((A.length:Nat):Int).toNat=q by omega]
  exact KI bs A.length q _ _ σ e8 dI (by omega)
 refine .mk [0] _ (hC _) ?_
 rintro _ _ ⟨bp,rfl,rfl⟩
 refine aa.mk 2 _ _ rfl rfl ?_
 refine ah.mk ⟨by omega,by omega,by omega,by omega,rfl⟩ ?_
 refine ai.mk 2 _ _ rfl rfl ?_
 refine aU (S:=Nat) (fun i=>[(0,.ptr w 0),(5,.ae bp 0 q 1),(46,.ae bp 0 q 1),(47,.int .i64 q),(48,.int .i64 i)]) (fun i=>(bp,ak L)::(bs,ak (A++a::B)++J)::(w,bZ N bi bl bo n (.ae bs 0 A.length 1) aM vp)::(bi,ak ix)::(bl,ak lo)::(bo,aZ (dz (L.take i) on))::(du++σ)) (fun i=>i≤q) (fun i=>q-i) 0 ⟨Nat.zero_le _,⟨rfl,rfl,rfl,rfl,rfl,trivial⟩,rfl⟩ ?_
 rintro i g cY
 have hiq:i≤q:=cY
 clear cY
 refine an (p:=(i:Int)<q) (fun ab =>?_) (fun aq =>?_)
 ·have ab:i<L.length:=by omega
  obtain⟨x,hx⟩:∃x,L[i]=x:=⟨_,rfl⟩
  have sn:=hB x (by rw[hL,← hx];exact List.getElem_mem ab)
  have gj:=zD (L.take i) on
  have E2:(dz (L.take i) on).set x.toNat false=dz (L.take (i+1)) on:=by unfold dz;rw[List.take_succ_eq_append_getElem ab,hx,List.foldl_append];rfl
  have lV:dy ⟨.int .i64,1,8,[.int .i64 0]⟩ (ak L) (0+((i:Nat):Int).toNat*1)=some (.int .i64 x):=by
   rw[dD rfl (by omega) (by omega),Int.toNat_natCast,List.getD_eq_getElem?_getD,List.getElem?_eq_getElem ab,hx];rfl
  refine ah.mk ⟨rfl,by omega,by omega⟩ ?_
  refine aa.mk 0 _ _ rfl lV ?_
  refine aa.mk 2 _ _ rfl rfl ?_
  refine ah.mk ⟨rfl,by omega,by omega⟩ ?_
  refine ai.mk 5 _ _ rfl (p7 rfl false sn.1 (by omega)) ?_
  exact aH (i+1) (by show q-(i+1)<q-i;omega) (by show i+1≤q;omega) ⟨rfl,rfl,rfl,rfl,aI (by omega),trivial⟩ (aF (by rw[E2];rfl))
 ·have aq:i=q:=by omega
  subst aq
  refine az [0] (Ec bp L i _ hq (by omega)) ?_
  refine aa.mk 2 _ _ rfl rfl ?_
  intro bM
  refine uw [_,_,_,_,_,_,_] hp.sl (.ae 0 bM 0 1 _ rfl (Nat.le_of_ble_eq_true rfl)) rfl (by omega) (by decide) (by decide) (fun v' aP h' =>?_)
  obtain⟨b5,rfl,rfl⟩:=oY (by omega) h'
  refine ai.mk 3 _ _ rfl rfl ?_
  have hgs:=RD (bE P) (AV.ae bp 0 i 1) (k:=P.length) (pZ P).symm
  have hss:=Q2 (bE P) (AV.ae bp 0 i 1) (.af (.int .i64) (dU L)) (k:=P.length) (pZ P).symm
  refine .hY 1 bp 0 i 1 _ (.int .i64) (dU L) rfl (by rw[List.drop_zero,List.take_of_length_le (by rw[jm,uv,Nat.mul_one];omega)];exact fi _) ⟨(uv L).trans hq,rfl,by decide⟩ 6 P.length b5 _ rfl hgs ?_
  refine .drop 0 1 (.perm (dJ [_,_,_,_] [_] _).symm (.done ⟨rfl,.ae bs 0 A.length 1,[(bs,ak A++(ak L++J))],.ae b5 0 (P.length+1) 1,[(b5,bE (P++[dU L]))],.ae bs A.length (ak A) (ak L++J) (by rw[jm,Nat.mul_one]),?_,?_⟩))
  ·subst hL
   rw[List.length_append]
   exact .ae b5 (P.length+1) (bE (P++[dU (a::B)])) ((pZ _).trans (by rw[List.length_append,Nat.mul_one];rfl))
  ·rw[List.take_of_length_le (Nat.le_of_eq hq)]
   subst hL
   have e1:ak (A++a::B)++J=ak A++(ak (a::B)++J):=by unfold ak;rw[List.map_append,List.append_assoc]
   have e2:bE (P++[dU (a::B)])=bE P++[.af (.int .i64) (dU (a::B))]:=List.map_append
   rw[e1,e2,← hss]
   rfl
end Go.Proofs.YtnpidbjdilnhlaaGreat
