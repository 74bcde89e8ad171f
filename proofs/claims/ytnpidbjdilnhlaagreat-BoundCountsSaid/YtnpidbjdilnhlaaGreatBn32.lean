import Derived.Test.YtnpidbjdilnhlaaGreatBn30
import Derived.Test.YtnpidbjdilnhlaaGreatBn11
import Derived.Test.YtnpidbjdilnhlaaGreatBn18
import Derived.Test.YtnpidbjdilnhlaaGreatBn19
import Derived.Test.YtnpidbjdilnhlaaGreatBn31
namespace Go.Proofs.YtnpidbjdilnhlaaGreat
open Go.RowKit
set_option maxRecDepth 100000
theorem ku{w:List Int}{i j:Nat}{x:Int}:(w.set i x).getD j 0=if i=j∧j<w.length then x else w.getD j 0:=by
 simp only[List.getD_eq_getElem?_getD,List.getElem?_set]
 by_cases h:i=j
 ·subst h
  by_cases h2:i<w.length
  ·simp[h2]
  ·simp[h2]
 ·simp[h]
def gI(ix:List Int)(x:Int):Int:=if 0≤x then ix.getD x.toNat 0 else 0
theorem kb{ix:List Int}{x:Int}(h:0≤x):gI ix x=ix.getD x.toNat 0:=if_pos h
theorem xJ{ix:List Int}{b v:Int}(h0:0≤b)(h1:b<ix.length):gI (ix.set b.toNat v)=mU (gI ix) b v:=by
 funext y
 show (if 0≤y then (ix.set b.toNat v).getD y.toNat 0 else 0)=if y=b then v else if 0≤y then ix.getD y.toNat 0 else 0
 by_cases hy:0≤y
 ·rw[if_pos hy,List.getD_eq_getElem?_getD,List.getElem?_set]
  by_cases e:y=b
  ·subst e;rw[if_pos rfl,if_pos (by omega),if_pos rfl];rfl
  ·rw[if_neg (by omega),if_neg e,if_pos hy,List.getD_eq_getElem?_getD]
 ·rw[if_neg hy,if_neg (by omega),if_neg hy]
theorem YP(n:Nat)(x:Int):gI (List.replicate n 0) x=0:=by
 unfold gI
 split
 ·rw[List.getD_eq_getElem?_getD,List.getElem?_replicate];split <;> rfl
 ·rfl
structure FI(n:Nat)(nx:Int→List Int)(ix lo:List Int)(on:List Bool)(st:List Int)(aB:Nat)(P:List (List Int))(fI:List (Int×Nat)):Prop where
 tj:TJ n nx (gI ix) (gI lo) st aB P (fI.map (·.1))
 sK:Prc nx (gI ix) (gI lo) st fI
 li:ix.length=n
 ll:lo.length=n
 ja:on.length=n
 sM:∀a:Int,0≤a→a<n→on.getD a.toNat false=decide (a∈st)
 tn:∀t∈fI,t.2≤(nx t.1).length
theorem OK{on:List Bool}{b:Int}{x:Bool}(hb:0≤b)(hl:b<on.length){a:Int}(ha:0≤a):(on.set b.toNat x).getD a.toNat false=if a=b then x else on.getD a.toNat false:=by
 rw[List.getD_eq_getElem?_getD,List.getElem?_set,List.getD_eq_getElem?_getD]
 by_cases e:a=b
 ·subst e;rw[if_pos rfl,if_pos (by omega),if_pos rfl];rfl
 ·rw[if_neg (by omega),if_neg e]
theorem FI.start(n:Nat)(nx:Int→List Int):FI n nx (List.replicate n 0) (List.replicate n 0) (List.replicate n false) [] 0 [] []:=
 ⟨.start (YP n),fun _ h=>(by cases h),List.length_replicate,List.length_replicate,List.length_replicate,fun a _ _=>by
  rw[List.getD_eq_getElem?_getD,List.getElem?_replicate];split <;> simp,fun _ h=>(by cases h)⟩
variable {n:Nat} {nx:Int→List Int} {ix lo:List Int} {on:List Bool} {st:List Int} {aB:Nat} {P:List (List Int)}
theorem FI.enter{fI way2:List (Int×Nat)}{b:Int}(h:FI n nx ix lo on st aB P fI)(hb:0≤b∧b<n)(hf:ix.getD b.toNat 0=0)(hW:∀v∈fI.map (·.1),Rx nx v b)(sS:way2.map (·.1)=fI.map (·.1))(hp:∀t∈way2,∀y∈(nx t.1).take t.2,y=b∨(gI ix y≠0∧(y∈st→gI lo t.1≤gI ix y)))(ht:∀t∈way2,t.2≤(nx t.1).length):
  FI n nx (ix.set b.toNat ((aB+1:Nat):Int)) (lo.set b.toNat ((aB+1:Nat):Int)) (on.set b.toNat true) (st++[b]) (aB+1) P (way2++[(b,0)]):=by
 have hf:gI ix b=0:=by rw[kb hb.1];exact hf
 have dB:b ∉ st:=fun hm=>by have:=h.tj.p9 b hm;omega
 have h1:=h.tj.enter hb hf hW
 refine⟨?_,?_,by rw[List.length_set];exact h.li,by rw[List.length_set];exact h.ll,by rw[List.length_set];exact h.ja,fun a h0 hn =>?_,fun t mq =>?_⟩
 ·rw[xJ hb.1 (by rw[h.li];exact hb.2),xJ hb.1 (by rw[h.ll];exact hb.2),List.map_append,sS]
  exact h1
 ·rw[xJ hb.1 (by rw[h.li];exact hb.2),xJ hb.1 (by rw[h.ll];exact hb.2)]
  intro t mq y hy
  rcases List.mem_append.1 mq with mq | mq
  ·have htW:t.1∈fI.map (·.1):=sS▸List.mem_map_of_mem mq
   have hts:t.1∈st:=h.tj.sub.subset htW
   have htb:t.1≠b:=fun e=>dB (e▸hts)
   rw[nE (f:=gI lo) htb]
   have hle:=(h.tj.low t.1 htW).1
   have JG:=(h.tj.p9 t.1 hts).2
   by_cases e:y=b
   ·subst e
    rw[nF]
    exact⟨by omega,fun _=>by omega⟩
   ·rw[nE e]
    obtain⟨h2,h3⟩:=(hp t mq y hy).resolve_left e
    exact⟨h2,fun hm=>h3 ((List.mem_append.1 hm).resolve_right fun hm=>e (List.mem_singleton.1 hm))⟩
  ·rw[List.mem_singleton.1 mq]at hy
   simp at hy
 ·rw[OK hb.1 (by rw[h.ja];exact hb.2) h0]
  by_cases e:a=b
  ·subst e;rw[if_pos rfl];simp
  ·rw[if_neg e,h.sM a h0 hn];simp[e]
 ·rcases List.mem_append.1 mq with mq | mq
  ·exact ht t mq
  ·rw[List.mem_singleton.1 mq];exact Nat.zero_le _
theorem Gj{l:List Int}{k:Nat}(h:k<l.length){b:Int}(hb:l[k]=b):l.take (k+1)=l.take k++[b]:=by rw[List.take_succ_eq_append_getElem h,hb]
theorem GY{w:List (Int×Nat)}{a:Int}{k j:Nat}:(w++[(a,k)]).map (·.1)=(w++[(a,j)]).map (·.1):=by rw[List.map_append,List.map_append];rfl
theorem FI.new{w:List (Int×Nat)}{a b:Int}{k:Nat}(h:FI n nx ix lo on st aB P (w++[(a,k)]))(hk:k<(nx a).length)(hb:(nx a)[k]=b)(cJ:0≤b∧b<n)(hf:ix.getD b.toNat 0=0):
  FI n nx (ix.set b.toNat ((aB+1:Nat):Int)) (lo.set b.toNat ((aB+1:Nat):Int)) (on.set b.toNat true) (st++[b]) (aB+1) P ((w++[(a,k+1)])++[(b,0)]):=by
 have J0:b∈nx a:=hb▸List.getElem_mem hk
 have J3:a∈(w++[(a,k)]).map (·.1):=List.mem_map.2 ⟨(a,k),List.mem_append_right _ (List.mem_singleton.2 rfl),rfl⟩
 have kf:=h.tj.sub
 have pV:∀v∈w.map (·.1),gI ix v<gI ix a:=by
  refine zC h.tj.inc ?_
  rw[List.map_append]at kf;exact kf
 refine h.enter cJ hf (fun v hv =>?_) GY (fun t ht y hy =>?_) fun t ht =>?_
 ·refine (h.tj.wG v hv a (kf.subset J3) ?_).trans (.one J0)
  rw[List.map_append]at hv
  rcases List.mem_append.1 hv with hv | hv
  ·have:=pV v hv;omega
  ·rw[List.mem_singleton.1 hv];exact Int.le_refl _
 ·rcases List.mem_append.1 ht with ht | ht
  ·exact .inr (h.sK t (List.mem_append_left _ ht) y hy)
  ·rw[List.mem_singleton.1 ht]at hy ⊢
   rw[Gj hk hb]at hy
   rcases List.mem_append.1 hy with hy | hy
   ·exact .inr (h.sK (a,k) (List.mem_append_right _ (List.mem_singleton.2 rfl)) y hy)
   ·exact .inl (List.mem_singleton.1 hy)
 ·rcases List.mem_append.1 ht with ht | ht
  ·exact h.tn t (List.mem_append_left _ ht)
  ·rw[List.mem_singleton.1 ht];exact hk
theorem FI.off{w:List (Int×Nat)}{a b:Int}{k:Nat}(h:FI n nx ix lo on st aB P (w++[(a,k)]))(hk:k<(nx a).length)(hb:(nx a)[k]=b)(cJ:0≤b)(hf:ix.getD b.toNat 0≠0)(hs:b ∉ st):FI n nx ix lo on st aB P (w++[(a,k+1)]):=by
 refine⟨by rw[GY (j:=k)];exact h.tj,fun t ht y hy =>?_,h.li,h.ll,h.ja,h.sM,fun t ht =>?_⟩
 ·rcases List.mem_append.1 ht with ht | ht
  ·exact h.sK t (List.mem_append_left _ ht) y hy
  ·rw[List.mem_singleton.1 ht]at hy ⊢
   rw[Gj hk hb]at hy
   rcases List.mem_append.1 hy with hy | hy
   ·exact h.sK (a,k) (List.mem_append_right _ (List.mem_singleton.2 rfl)) y hy
   ·rw[List.mem_singleton.1 hy,kb cJ]
    exact⟨hf,fun hm=>absurd hm hs⟩
 ·rcases List.mem_append.1 ht with ht | ht
  ·exact h.tn t (List.mem_append_left _ ht)
  ·rw[List.mem_singleton.1 ht];exact hk
theorem FI.Es{w:List (Int×Nat)}{a b:Int}{k:Nat}(h:FI n nx ix lo on st aB P (w++[(a,k)]))(hk:k<(nx a).length)(hb:(nx a)[k]=b)(hs:b∈st):FI n nx ix (lo.set a.toNat (min (lo.getD a.toNat 0) (ix.getD b.toNat 0))) on st aB P (w++[(a,k+1)]):=by
 have J0:b∈nx a:=hb▸List.getElem_mem hk
 have cJ:=h.tj.node b hs
 have J3:a∈(w++[(a,k)]).map (·.1):=List.mem_map.2 ⟨(a,k),List.mem_append_right _ (List.mem_singleton.2 rfl),rfl⟩
 have kf:=h.tj.sub
 have qt:=h.tj.node a (kf.subset J3)
 have bB:((w++[(a,k)]).map (·.1)).Nodup:=(rO h.tj.inc).sublist kf
 have haw:∀t∈w,t.1≠a:=fun t ht e=>by
  rw[List.map_append]at bB
  exact (List.nodup_append.1 bB).2.2 t.1 (List.mem_map_of_mem ht) a (List.mem_singleton.2 rfl) e
 have gd:=h.tj
 rw[List.map_append]at gd
 have h1:=gd.lower (z:=b) hs (.one J0)
 have BF:gI (lo.set a.toNat (min (lo.getD a.toNat 0) (ix.getD b.toNat 0)))=mU (gI lo) a (min (gI lo a) (gI ix b)):=by rw[xJ qt.1 (by rw[h.ll];exact qt.2),kb qt.1,kb cJ.1]
 refine⟨by rw[BF,GY (j:=k),List.map_append];exact h1,fun t ht y hy =>?_,h.li,by rw[List.length_set];exact h.ll,h.ja,h.sM,fun t ht =>?_⟩
 ·rw[BF]
  rcases List.mem_append.1 ht with ht | ht
  ·rw[nE (haw t ht)]
   exact h.sK t (List.mem_append_left _ ht) y hy
  ·rw[List.mem_singleton.1 ht]at hy ⊢
   rw[Gj hk hb]at hy
   rw[nF]
   rcases List.mem_append.1 hy with hy | hy
   ·obtain⟨h2,h3⟩:=h.sK (a,k) (List.mem_append_right _ (List.mem_singleton.2 rfl)) y hy
    have h3:y∈st→gI lo a≤gI ix y:=h3
    exact⟨h2,fun hm=>by have:=h3 hm;omega⟩
   ·rw[List.mem_singleton.1 hy]
    have:=h.tj.p9 b hs
    exact⟨by omega,fun _=>by omega⟩
 ·rcases List.mem_append.1 ht with ht | ht
  ·exact h.tn t (List.mem_append_left _ ht)
  ·rw[List.mem_singleton.1 ht];exact hk
theorem FI.all{w:List (Int×Nat)}{a:Int}{k:Nat}(h:FI n nx ix lo on st aB P (w++[(a,k)]))(hk:(nx a).length≤k):∀y∈nx a,gI ix y≠0∧(y∈st→gI lo a≤gI ix y):=fun y hy =>
 h.sK (a,k) (List.mem_append_right _ (List.mem_singleton.2 rfl)) y (by rw[List.take_of_length_le hk];exact hy)
theorem VV{l:List Int}{i:Nat}:l.set i (l.getD i 0)=l:=by
 refine List.ext_getElem? fun j =>?_
 rw[List.getElem?_set]
 by_cases e:i=j
 ·subst e
  by_cases hl:i<l.length
  ·rw[if_pos rfl,if_pos hl,List.getD_eq_getElem?_getD,List.getElem?_eq_getElem hl];rfl
  ·rw[if_pos rfl,if_neg hl,List.getElem?_eq_none (by omega)]
 ·rw[if_neg e]
theorem FI.up{w:List (Int×Nat)}{u v:Int}{i k:Nat}(h:FI n nx ix lo on st aB P ((w++[(u,i)])++[(v,k)]))(hk:(nx v).length≤k)(aI:lo.getD v.toNat 0≠ix.getD v.toNat 0):FI n nx ix (lo.set u.toNat (min (lo.getD u.toNat 0) (lo.getD v.toNat 0))) on st aB P (w++[(u,i)]):=by
 have gd:=h.tj
 rw[List.map_append,List.map_append]at gd
 have Fi:u∈(w.map (·.1)++[u]++[v]):=by simp
 have Fe:v∈(w.map (·.1)++[u]++[v]):=by simp
 have ef:=gd.node u (gd.sub.subset Fi)
 have cm:=gd.node v (gd.sub.subset Fe)
 have bB:(w.map (·.1)++[u]++[v]).Nodup:=(rO gd.inc).sublist gd.sub
 have huw:∀t∈w,t.1≠u:=fun t ht e=>(List.nodup_append.1 (List.nodup_append.1 bB).1).2.2 t.1 (List.mem_map_of_mem ht) u (List.mem_singleton.2 rfl) e
 have eo:=(gd.low v Fe).1
 have ab:gI lo v<gI ix v:=by
  rw[kb cm.1,kb cm.1]at eo ⊢;omega
 have h1:=gd.up (u:=u) (v:=v) (w:=w.map (·.1)) ab (h.all hk)
 have BF:gI (lo.set u.toNat (min (lo.getD u.toNat 0) (lo.getD v.toNat 0)))=mU (gI lo) u (min (gI lo u) (gI lo v)):=by rw[xJ ef.1 (by rw[h.ll];exact ef.2),kb ef.1,kb cm.1]
 refine⟨by rw[BF,List.map_append];exact h1,fun t ht y hy =>?_,h.li,by rw[List.length_set];exact h.ll,h.ja,h.sM,fun t ht=>h.tn t (List.mem_append_left _ ht)⟩
 rw[BF]
 obtain⟨h2,h3⟩:=h.sK t (List.mem_append_left _ ht) y hy
 refine⟨h2,fun hm =>?_⟩
 have:=h3 hm
 by_cases e:t.1=u
 ·rw[e]at this ⊢;rw[nF];omega
 ·rw[nE e];exact this
def dM(part:List Int)(on:List Bool):List Bool:=part.foldl (fun on b=>on.set b.toNat false) on
theorem Ch:∀(part:List Int) (on:List Bool),(dM part on).length=on.length
 | [],_=>rfl
 | b::part,on=>by
  show (dM part (on.set b.toNat false)).length=_
  rw[Ch part,List.length_set]
theorem Ni{a:Int}(ha:0≤a):∀(part:List Int) (on:List Bool),(∀b∈part,0≤b∧b<on.length)→(dM part on).getD a.toNat false=if a∈part then false else on.getD a.toNat false
 | [],_,_=>by simp[dM]
 | b::part,on,h=>by
  have hb:=h b (List.mem_cons_self ..)
  show (dM part (on.set b.toNat false)).getD a.toNat false=_
  rw[Ni ha part _ fun c hc=>by rw[List.length_set];exact h c (List.mem_cons_of_mem _ hc),OK hb.1 hb.2 ha]
  by_cases h1:a∈part
  ·rw[if_pos h1,if_pos (List.mem_cons_of_mem _ h1)]
  ·rw[if_neg h1]
   by_cases h2:a=b
   ·rw[if_pos h2,if_pos (by rw[h2];exact List.mem_cons_self ..)]
   ·rw[if_neg h2,if_neg (by rw[List.mem_cons];exact fun h=>h.elim h2 h1)]
theorem FI.tell{w:List (Int×Nat)}{v:Int}{k:Nat}{A B part:List Int}(h:FI n nx ix lo on st aB P (w++[(v,k)]))(hk:(nx v).length≤k)(ak:st=A++v::B)(heq:lo.getD v.toNat 0=ix.getD v.toNat 0)(bY:∀x y,y∈nx x→0≤y∧y<n)(hp:part.Perm (v::B))(hs:part.Pairwise (· < ·)):FI n nx ix lo (dM (v::B) on) A aB (P++[part]) w:=by
 have gd:=h.tj
 rw[List.map_append]at gd
 have cm:=gd.node v (by rw[ak];simp)
 have h1:=gd.tell (w:=w.map (·.1)) (part:=part) ak (by rw[kb cm.1,kb cm.1];exact heq) (h.all hk) bY hp hs
 have rK:∀x∈A,x∈st:=fun x hx=>by rw[ak];exact List.mem_append_left _ hx
 refine⟨h1,fun t ht y hy =>?_,h.li,h.ll,by rw[Ch];exact h.ja,fun a h0 hn =>?_,fun t ht=>h.tn t (List.mem_append_left _ ht)⟩
 ·obtain⟨h2,h3⟩:=h.sK t (List.mem_append_left _ ht) y hy
  exact⟨h2,fun hm=>h3 (rK y hm)⟩
 ·rw[Ni h0 _ _ fun b hb=>by rw[h.ja];exact gd.node b (by rw[ak];exact List.mem_append_right _ hb),h.sM a h0 hn]
  have bB:=rO gd.inc
  rw[ak]at bB
  by_cases hm:a∈v::B
  ·rw[if_pos hm]
   exact (decide_eq_false fun hA=>(List.nodup_append.1 bB).2.2 a hA a hm rfl).symm
  ·rw[if_neg hm]
   refine Bool.eq_iff_iff.2 ?_
   rw[decide_eq_true_eq,decide_eq_true_eq,ak,List.mem_append]
   exact⟨fun h=>h.resolve_right hm,.inl⟩
theorem FI.same{w:List (Int×Nat)}{u v:Int}{i k:Nat}(h:FI n nx ix lo on st aB P ((w++[(u,i)])++[(v,k)]))(heq:lo.getD v.toNat 0=ix.getD v.toNat 0):lo.set u.toNat (min (lo.getD u.toNat 0) (lo.getD v.toNat 0))=lo:=by
 have gd:=h.tj
 rw[List.map_append,List.map_append]at gd
 have Fi:u∈(w.map (·.1)++[u]++[v]):=by simp
 have Fe:v∈(w.map (·.1)++[u]++[v]):=by simp
 have ef:=gd.node u (gd.sub.subset Fi)
 have cm:=gd.node v (gd.sub.subset Fe)
 have h1:=(gd.low u Fi).1
 have h2:=zC gd.inc gd.sub u (by simp)
 rw[kb ef.1,kb ef.1]at h1
 rw[kb ef.1,kb cm.1]at h2
 rw[show min (lo.getD u.toNat 0) (lo.getD v.toNat 0)=lo.getD u.toNat 0 by omega]
 exact VV
theorem FI.Pd(h:FI n nx ix lo on st aB P []):st=[]:=h.tj.empty
theorem FI.one{v:Int}{k:Nat}(h:FI n nx ix lo on st aB P [(v,k)]):lo.getD v.toNat 0=ix.getD v.toNat 0:=by
 have cm:=h.tj.node v (h.tj.sub.subset (by simp))
 have:=h.tj.first
 rw[kb cm.1,kb cm.1]at this
 exact this
theorem FI.mem{w:List (Int×Nat)}{v:Int}{k:Nat}(h:FI n nx ix lo on st aB P (w++[(v,k)])):v∈st:=h.tj.sub.subset (by simp)
theorem FI.xM{fI:List (Int×Nat)}(h:FI n nx ix lo on st aB P fI):aB≤n∧st.length≤n∧P.flatten.length≤n:=by
 have bB:(P.flatten++st).Nodup:=List.nodup_append.2 ⟨h.tj.prt.nd,rO h.tj.inc,fun x hx y hy e=>by
  subst e
  obtain⟨p,hp,po⟩:=List.mem_flatten.1 hx
  exact h.tj.wU p hp x po hy⟩
 have hn:∀z∈P.flatten++st,0≤z∧z<(n:Int):=fun z hz=>by
  rcases List.mem_append.1 hz with hz | hz
  ·obtain⟨p,hp,hz⟩:=List.mem_flatten.1 hz
   exact h.tj.prt.node p hp z hz
  ·exact h.tj.node z hz
 have kf:=GN bB (m:=(List.range n).map fun i:Nat=>(i:Int)) fun z hz=>List.mem_map.2 ⟨z.toNat,List.mem_range.2 (by have:=hn z hz;omega),by have:=hn z hz;omega⟩
 rw[List.length_append,List.length_map,List.length_range]at kf
 have:=h.tj.len
 omega
def gB(nx:Int→List Int)(fI:List (Int×Nat)):Nat:=(fI.map fun t=>(nx t.1).length+1-t.2).sum
def fY(nx:Int→List Int)(ix:List Int)(n:Nat):Nat:=((List.range n).map fun a:Nat=>if ix.getD a 0=0 then (nx a).length+2 else 0).sum
theorem j6(nx:Int→List Int)(w:List (Int×Nat))(a:Int)(k:Nat):gB nx (w++[(a,k)])=gB nx w+((nx a).length+1-k):=by unfold gB;simp
theorem L7(nx:Int→List Int)(ix:List Int)(n:Nat):fY nx ix (n+1)=fY nx ix n+if ix.getD n 0=0 then (nx n).length+2 else 0:=by unfold fY;rw[List.range_succ];simp
theorem GR{nx:Int→List Int}{ix:List Int}{b:Nat}{v:Int}(hv:v≠0)(hf:ix.getD b 0=0)(hb:b<ix.length):∀n,fY nx (ix.set b v) n+(if b<n then (nx b).length+2 else 0)=fY nx ix n
 | 0=>rfl
 | n+1=>by
  have ih:=GR (nx:=nx) hv hf hb n
  rw[L7,L7]
  have hg:(ix.set b v).getD n 0=if b=n then v else ix.getD n 0:=by
   rw[List.getD_eq_getElem?_getD,List.getElem?_set]
   by_cases e:b=n
   ·subst e;rw[if_pos rfl,if_pos hb,if_pos rfl];rfl
   ·rw[if_neg e,if_neg e,List.getD_eq_getElem?_getD]
  rw[hg]
  by_cases e:b=n
  ·subst e
   rw[if_pos rfl,if_neg hv,if_pos hf,if_pos (by omega)]
   rw[if_neg (by omega)]at ih
   omega
  ·rw[if_neg e]
   by_cases c:b<n
   ·have e2:(if b<n+1 then (nx b).length+2 else 0)=(nx b).length+2:=if_pos (by omega)
    rw[if_pos c]at ih;rw[e2];omega
   ·have e2:(if b<n+1 then (nx b).length+2 else 0)=0:=if_neg (by omega)
    rw[if_neg c]at ih;rw[e2];omega
set_option maxRecDepth 100000
theorem Acc.uw{e k:Nat}{v:AV}{acc:Hp}{cs:List AV}(h:Acc e k v acc cs):Acc e k (bc v) acc cs:=by
 cases h with
 | nil=>exact .nil
 | ae b k cs h=>exact .ae b k cs h
theorem VU{α:Type}(l:List α)(x y:α){k:Nat}(h:k=l.length):(l++[x]).set k y=l++[y]:=by subst h;simp
theorem WJ{α:Type}(l:List α)(x:α){k:Nat}(h:k=l.length):(l++[x])[k]?=some x:=by subst h;simp
theorem qF{k:Nat}{v:AV}{acc:Hp}{cs:List AV}(h0:0<k)(h:Acc 1 k v acc cs):∃b,v=.ae b 0 k 1∧acc=[(b,cs)]:=by
 cases h with
 | nil=>omega
 | ae b k cs h=>exact⟨b,rfl,rfl⟩
set_option maxRecDepth 100000
theorem rQ(P:List (List Int)):(bK P).length=P.length:=List.length_map _
theorem WE{l:List Int}{J:List AV}{k:Nat}(h:k<l.length):(aj l++J)[k]?=some (.int .i64 (l.getD k 0)):=by
 rw[List.getElem?_append_left (by rw[HB];exact h)]
 unfold aj
 rw[List.getElem?_map,List.getD_eq_getElem?_getD,List.getElem?_eq_getElem h];rfl
theorem O2(b k:Nat)(A B:List Int)(J:List AV)(x:Int)(σ:Hp)(hk:(A++x::B).length=k)(hx:x ∉ A)(hl:k≤1000000):ACalls Tryz.prog 202 [.ae b 0 k 1,.int .i64 x] ((b,aj (A++x::B)++J)::σ) (az (.int .i64 A.length) ((b,aj (A++x::B)++J)::σ)):=by
 have hkA:A.length<k:=by rw[← hk,List.length_append,List.length_cons];omega
 refine okF Tryz.func202 (by kernel_rfl) ?_
 refine bO (S:=Nat) (fun s=>[(0,.ae b 0 k 1),(1,.int .i64 x),(7,.int .i64 k),(8,.int .i64 s)]) (fun _=>(b,aj (A++x::B)++J)::σ) (fun s=>s≤A.length) (fun s=>A.length-s) 0 ⟨Nat.zero_le _,⟨rfl,rfl,rfl,rfl,trivial⟩,rfl⟩ ?_
 rintro i t dY
 have hi:i≤A.length:=dY
 clear dY
 refine ao (p:=(i:Int)<k) (fun ab =>?_) (fun au =>?_)
 ·have hg:=WE (l:=A++x::B) (J:=J) (k:=i) (by omega)
  obtain⟨y,hy⟩:∃y,(A++x::B).getD i 0=y:=⟨_,rfl⟩
  rw[hy]at hg
  refine ag.mk ⟨rfl,by omega,by omega⟩ ?_
  refine aL 0 rfl (gN rfl (by rw[Nat.zero_add,Nat.mul_one,Int.toNat_natCast];exact hg)) ?_
  refine ao (fun c =>?_) (fun c =>?_)
  ·have c:x=y:=c
   refine .done ⟨?_,rfl⟩
   by_cases e:i=A.length
   ·subst e;rfl
   ·have:y∈A:=by
     rw[← hy,List.getD_eq_getElem?_getD,List.getElem?_append_left (by omega),List.getElem?_eq_getElem (by omega)]
     exact List.getElem_mem _
    exact absurd (c▸this) hx
  ·have c:¬x=y:=c
   have aI:i≠A.length:=fun e=>by
    subst e
    refine c ?_
    rw[← hy,List.getD_eq_getElem?_getD,List.getElem?_append_right (Nat.le_refl _),Nat.sub_self];rfl
   exact bg (i+1) (by show A.length-(i+1)<A.length-i;omega) (by show i+1≤A.length;omega) ⟨rfl,rfl,rfl,a8 (by omega),trivial⟩ (.refl _)
 ·omega
theorem O4(b off k:Nat)(C cs:List AV)(σ:Hp)(h:(C.drop off).take (k*1)=cs)(h2:off+k*1≤C.length)(hl:k≤1000000):ACalls Tryz.prog 219 [.ae b off k 1] ((b,C)::σ) (fun x σ'=>∃b',x=.ae b' 0 k 1∧σ'=(b',cs)::(b,C)::σ):=by
 refine okF Tryz.func219 (by kernel_rfl) ?_
 intro b2
 refine AppendAt.more 0 b2 0 k [] ((C.drop off).take (k*1)) rfl rfl (Nat.le_of_ble_eq_true rfl) (.mem (List.mem_cons_of_mem _ (List.mem_cons_self ..)) h2) (by omega) (by decide) (by decide) (fun b' =>?_)
 refine .done ⟨b',by rw[Nat.zero_add];rfl,?_⟩
 rw[h];rfl
theorem N0(w bi bl bo n:Nat)(N:List (List Int))(ix lo:List Int)(on:List Bool)(aB:Nat)(vs vp:AV)(a:Int)(σ:Hp)(h0:0≤a)(hn:a<n)(hi:ix.length=n)(hl:lo.length=n)(aI:lo.getD a.toNat 0≠ix.getD a.toNat 0):
  ACalls Tryz.prog 247 [.ptr w 0,.int .i64 a] ((w,cc N bi bl bo n vs aB vp)::(bi,aj ix)::(bl,aj lo)::(bo,aY on)::σ) (az (.tup []) ((w,cc N bi bl bo n vs aB vp)::(bi,aj ix)::(bl,aj lo)::(bo,aY on)::σ)):=by
 refine okF Tryz.func247 (by kernel_rfl) ?_
 refine .quiet (by kernel_rfl) ?_
 refine aa 0 ?_
 refine ag.mk ⟨rfl,by omega,by omega⟩ ?_
 refine aL 2 rfl (dT rfl h0 (by omega)) ?_
 refine aa 0 ?_
 refine ag.mk ⟨rfl,by omega,by omega⟩ ?_
 refine aL 1 rfl (dT rfl h0 (by omega)) ?_
 refine dx (fun c =>?_) (fun c =>?_)
 ·exact .done ⟨rfl,rfl⟩
 ·exact absurd (by simpa using c) aI
theorem LP(w bi bl bo n:Nat)(N:List (List Int))(ix lo A B:List Int)(on:List Bool)(P:List (List Int))(aB:Nat)(vs vp:AV)(jS dE:Hp)(a:Int)(σ:Hp)(h0:0≤a)(hn:a<n)(hi:ix.length=n)(hl:lo.length=n)(ho:on.length=n)(he:lo.getD a.toNat 0=ix.getD a.toNat 0)(J4:a ∉ A)(hB:∀x∈a::B,0≤x∧x<n)(bV:(A++a::B).length≤10000)(ql:P.length≤10000)
  (hs:fZ 1 (A++a::B).length vs jS (aj (A++a::B))) (hp:Acc 1 P.length vp dE (bK P)) :
  ACalls Tryz.prog 247 [.ptr w 0,.int .i64 a] ((w,cc N bi bl bo n vs aB vp)::(bi,aj ix)::(bl,aj lo)::(bo,aY on)::(jS++(dE++σ)))
   (fun r σ'=>r=.tup []∧∃dy gy fo fj,fZ 1 A.length dy gy (aj A)∧Acc 1 (P++[eu (a::B)]).length fo fj (bK (P++[eu (a::B)]))∧σ'=(w,cc N bi bl bo n dy aB fo)::(bi,aj ix)::(bl,aj lo)::(bo,aY (dM (a::B) on))::(gy++(fj++σ))):=by
 obtain⟨K,hK⟩:∃K,(A++a::B).length=K:=⟨_,rfl⟩
 obtain⟨L,hL⟩:∃L:List Int,a::B=L:=⟨_,rfl⟩
 obtain⟨q,hq⟩:∃q,L.length=q:=⟨_,rfl⟩
 have hKA:K=A.length+q:=by rw[← hK,List.length_append,hL,hq]
 have hq0:0<q:=by rw[← hq,← hL,List.length_cons];omega
 rw[hK]at hs bV
 obtain⟨bs,J,rfl,rfl,Kf⟩:=hs.pos (by omega)
 have iS:((aj (A++a::B)++J).drop A.length).take (q*1)=aj L:=by
  rw[hL]
  unfold aj
  rw[List.map_append,List.append_assoc,List.drop_append_of_le_length (by rw[List.length_map];exact Nat.le_refl _),List.drop_of_length_le (by rw[List.length_map];exact Nat.le_refl _),List.nil_append,List.take_append_of_le_length (by rw[List.length_map];omega),List.take_of_length_le (by rw[List.length_map];omega)]
 have dw:A.length+q*1≤(aj (A++a::B)++J).length:=by rw[List.length_append,Kf];omega
 refine okF Tryz.func247 (by kernel_rfl) ?_
 refine .quiet (by kernel_rfl) ?_
 refine aa 0 ?_
 refine ag.mk ⟨rfl,by omega,by omega⟩ ?_
 refine aL 2 rfl (dT rfl h0 (by omega)) ?_
 refine aa 0 ?_
 refine ag.mk ⟨rfl,by omega,by omega⟩ ?_
 refine aL 1 rfl (dT rfl h0 (by omega)) ?_
 refine dx (fun c =>?_) (fun c =>?_)
 ·exact absurd he (by simpa using c)
 clear c
 refine aa 0 ?_
 refine ax [4] (O2 bs K A B J a _ hK J4 (by omega)) ?_
 refine aa 1 ?_
 refine ag.mk ⟨by omega,by omega,by omega,rfl⟩ ?_
 have hC:∀σ,ACalls Tryz.prog 219 [.ae bs (0+((A.length:Nat):Int).toNat*1) (((K:Nat):Int).toNat-((A.length:Nat):Int).toNat) 1] ((bs,aj (A++a::B)++J)::σ) (fun x σ'=>∃b',x=.ae b' 0 q 1∧σ'=(b',aj L)::(bs,aj (A++a::B)++J)::σ):=fun σ=>by
  rw[show 0+((A.length:Nat):Int).toNat*1=A.length by omega,show ((K:Nat):Int).toNat-((A.length:Nat):Int).toNat=q by omega]
  exact O4 bs A.length q _ _ σ iS dw (by omega)
 refine .mk [0] _ (hC _) ?_
 rintro _ _ ⟨bp,rfl,rfl⟩
 refine aa 2 ?_
 refine ag.mk ⟨by omega,by omega,by omega,by omega,rfl⟩ ?_
 refine ai 2 ?_
 refine bO (S:=Nat) (fun i=>[(0,.ptr w 0),(5,.ae bp 0 q 1),(46,.ae bp 0 q 1),(47,.int .i64 q),(48,.int .i64 i)]) (fun i=>(bp,aj L)::(bs,aj (A++a::B)++J)::(w,cc N bi bl bo n (.ae bs 0 A.length 1) aB vp)::(bi,aj ix)::(bl,aj lo)::(bo,aY (dM (L.take i) on))::(dE++σ)) (fun i=>i≤q) (fun i=>q-i) 0 ⟨Nat.zero_le _,⟨rfl,rfl,rfl,rfl,rfl,trivial⟩,rfl⟩ ?_
 rintro i g dY
 have hiq:i≤q:=dY
 clear dY
 refine ao (p:=(i:Int)<q) (fun ab =>?_) (fun au =>?_)
 ·have ab:i<L.length:=by omega
  obtain⟨x,hx⟩:∃x,L[i]=x:=⟨_,rfl⟩
  have BC:=hB x (by rw[hL,← hx];exact List.getElem_mem ab)
  have lM:=Ch (L.take i) on
  have IY:(dM (L.take i) on).set x.toNat false=dM (L.take (i+1)) on:=by unfold dM;rw[List.take_succ_eq_append_getElem ab,hx,List.foldl_append];rfl
  have lK:cY ⟨.int .i64,1,8,[.int .i64 0]⟩ (aj L) (0+((i:Nat):Int).toNat*1)=some (.int .i64 x):=by
   rw[dT rfl (by omega) (by omega),Int.toNat_natCast,List.getD_eq_getElem?_getD,List.getElem?_eq_getElem ab,hx];rfl
  refine ag.mk ⟨rfl,by omega,by omega⟩ ?_
  refine aL 0 rfl lK ?_
  refine aa 2 ?_
  refine ag.mk ⟨rfl,by omega,by omega⟩ ?_
  refine cd 5 rfl (vk rfl false BC.1 (by omega)) ?_
  exact bg (i+1) (by show q-(i+1)<q-i;omega) (by show i+1≤q;omega) ⟨rfl,rfl,rfl,rfl,a8 (by omega),trivial⟩ (aF (by rw[IY];rfl))
 ·have au:i=q:=by omega
  subst au
  refine ax [0] (H8 bp L i _ hq (by omega)) ?_
  refine aa 2 ?_
  intro dI
  refine w8 [_,_,_,_,_,_,_] hp.uw (.ae 0 dI 0 1 _ rfl (Nat.le_of_ble_eq_true rfl)) rfl (by omega) (by decide) (by decide) (fun v' bh h' =>?_)
  obtain⟨b5,rfl,rfl⟩:=qF (by omega) h'
  refine ai 3 ?_
  have hgs:=WJ (bK P) (AV.ae bp 0 i 1) (k:=P.length) (rQ P).symm
  have hss:=VU (bK P) (AV.ae bp 0 i 1) (.ah (.int .i64) (eu L)) (k:=P.length) (rQ P).symm
  refine .iU 1 bp 0 i 1 _ (.int .i64) (eu L) rfl (by rw[List.drop_zero,List.take_of_length_le (by rw[kU,w6,Nat.mul_one];omega)];exact tD _) ⟨(w6 L).trans hq,rfl,by decide⟩ 6 P.length b5 _ rfl hgs ?_
  refine .drop 0 1 (.perm (dO [_,_,_,_] [_] _).symm (.done ⟨rfl,.ae bs 0 A.length 1,[(bs,aj A++(aj L++J))],.ae b5 0 (P.length+1) 1,[(b5,bK (P++[eu L]))],.ae bs A.length (aj A) (aj L++J) (by rw[kU,Nat.mul_one]),?_,?_⟩))
  ·subst hL
   rw[List.length_append]
   exact .ae b5 (P.length+1) (bK (P++[eu (a::B)])) ((rQ _).trans (by rw[List.length_append,Nat.mul_one];rfl))
  ·rw[List.take_of_length_le (Nat.le_of_eq hq)]
   subst hL
   have e1:aj (A++a::B)++J=aj A++(aj (a::B)++J):=by unfold aj;rw[List.map_append,List.append_assoc]
   have e2:bK (P++[eu (a::B)])=bK P++[.ah (.int .i64) (eu (a::B))]:=List.map_append
   rw[e1,e2,← hss]
   rfl
end Go.Proofs.YtnpidbjdilnhlaaGreat
