/-
  Sd: what the claim uses of them.
-/
import Derived.Test.YtljbnigceammdaaGreatDoorBn13
namespace Go.Proofs.YtljbnigceammdaaGreatDoor
open Go.RowKit
set_option maxRecDepth 100000
theorem getD_setI {w : List Int} {i j : Nat} {x : Int} : (w.set i x).getD j 0 = if i = j ∧ j < w.length then x else w.getD j 0 := by
  simp only [List.getD_eq_getElem?_getD, List.getElem?_set]
  by_cases h : i = j
  · subst h
    by_cases h2 : i < w.length
    · simp [h2]
    · simp [h2]
  · simp [h]
def gI (ix : List Int) (x : Int) : Int := if 0 ≤ x then ix.getD x.toNat 0 else 0
theorem gI_at {ix : List Int} {x : Int} (h : 0 ≤ x) : gI ix x = ix.getD x.toNat 0 := if_pos h
theorem gI_set {ix : List Int} {b v : Int} (h0 : 0 ≤ b) (h1 : b < ix.length) : gI (ix.set b.toNat v) = updI (gI ix) b v := by
  funext y
  show (if 0 ≤ y then (ix.set b.toNat v).getD y.toNat 0 else 0) = if y = b then v else if 0 ≤ y then ix.getD y.toNat 0 else 0
  by_cases hy : 0 ≤ y
  · rw [if_pos hy, List.getD_eq_getElem?_getD, List.getElem?_set]
    by_cases e : y = b
    · subst e; rw [if_pos rfl, if_pos (by omega), if_pos rfl]; rfl
    · rw [if_neg (by omega), if_neg e, if_pos hy, List.getD_eq_getElem?_getD]
  · rw [if_neg hy, if_neg (by omega), if_neg hy]
theorem gI_zero (n : Nat) (x : Int) : gI (List.replicate n 0) x = 0 := by
  unfold gI
  split
  · rw [List.getD_eq_getElem?_getD, List.getElem?_replicate]; split <;> rfl
  · rfl
/-- How scc's walk stands. -/
structure FI (n : Nat) (nx : Int → List Int) (ix lo : List Int) (on : List Bool) (st : List Int) (cnt : Nat) (P : List (List Int)) (way : List (Int × Nat)) : Prop where
  tj : TJ n nx (gI ix) (gI lo) st cnt P (way.map (·.1))
  prc : Prc nx (gI ix) (gI lo) st way
  li : ix.length = n
  ll : lo.length = n
  lon : on.length = n
  onk : ∀ a : Int, 0 ≤ a → a < n → on.getD a.toNat false = decide (a ∈ st)
  tn : ∀ t ∈ way, t.2 ≤ (nx t.1).length
theorem getD_on {on : List Bool} {b : Int} {x : Bool} (hb : 0 ≤ b) (hl : b < on.length) {a : Int} (ha : 0 ≤ a) : (on.set b.toNat x).getD a.toNat false = if a = b then x else on.getD a.toNat false := by
  rw [List.getD_eq_getElem?_getD, List.getElem?_set, List.getD_eq_getElem?_getD]
  by_cases e : a = b
  · subst e; rw [if_pos rfl, if_pos (by omega), if_pos rfl]; rfl
  · rw [if_neg (by omega), if_neg e]
theorem FI.start (n : Nat) (nx : Int → List Int) : FI n nx (List.replicate n 0) (List.replicate n 0) (List.replicate n false) [] 0 [] [] :=
  ⟨.start (gI_zero n), fun _ h => (by cases h), List.length_replicate, List.length_replicate, List.length_replicate, fun a _ _ => by
    rw [List.getD_eq_getElem?_getD, List.getElem?_replicate]; split <;> simp, fun _ h => (by cases h)⟩
variable {n : Nat} {nx : Int → List Int} {ix lo : List Int} {on : List Bool} {st : List Int} {cnt : Nat} {P : List (List Int)}
theorem FI.enter {way way2 : List (Int × Nat)} {b : Int} (h : FI n nx ix lo on st cnt P way) (hb : 0 ≤ b ∧ b < n) (hf : ix.getD b.toNat 0 = 0) (hW : ∀ v ∈ way.map (·.1), Rx nx v b) (hw2 : way2.map (·.1) = way.map (·.1)) (hp : ∀ t ∈ way2, ∀ y ∈ (nx t.1).take t.2, y = b ∨ (gI ix y ≠ 0 ∧ (y ∈ st → gI lo t.1 ≤ gI ix y))) (ht : ∀ t ∈ way2, t.2 ≤ (nx t.1).length) :
    FI n nx (ix.set b.toNat ((cnt + 1 : Nat) : Int)) (lo.set b.toNat ((cnt + 1 : Nat) : Int)) (on.set b.toNat true) (st ++ [b]) (cnt + 1) P (way2 ++ [(b, 0)]) := by
  have hf : gI ix b = 0 := by rw [gI_at hb.1]; exact hf
  have hbs : b ∉ st := fun hm => by have := h.tj.rng b hm; omega
  have h1 := h.tj.enter hb hf hW
  refine ⟨?_, ?_, by rw [List.length_set]; exact h.li, by rw [List.length_set]; exact h.ll, by rw [List.length_set]; exact h.lon, fun a h0 hn => ?_, fun t htm => ?_⟩
  · rw [gI_set hb.1 (by rw [h.li]; exact hb.2), gI_set hb.1 (by rw [h.ll]; exact hb.2), List.map_append, hw2]
    exact h1
  · rw [gI_set hb.1 (by rw [h.li]; exact hb.2), gI_set hb.1 (by rw [h.ll]; exact hb.2)]
    intro t htm y hy
    rcases List.mem_append.1 htm with htm | htm
    · have htW : t.1 ∈ way.map (·.1) := hw2 ▸ List.mem_map_of_mem htm
      have hts : t.1 ∈ st := h.tj.sub.subset htW
      have htb : t.1 ≠ b := fun e => hbs (e ▸ hts)
      rw [updI_ne (f := gI lo) htb]
      have hle := (h.tj.low t.1 htW).1
      have hrg := (h.tj.rng t.1 hts).2
      by_cases e : y = b
      · subst e
        rw [updI_eq]
        exact ⟨by omega, fun _ => by omega⟩
      · rw [updI_ne e]
        obtain ⟨h2, h3⟩ := (hp t htm y hy).resolve_left e
        exact ⟨h2, fun hm => h3 ((List.mem_append.1 hm).resolve_right fun hm => e (List.mem_singleton.1 hm))⟩
    · rw [List.mem_singleton.1 htm] at hy
      simp at hy
  · rw [getD_on hb.1 (by rw [h.lon]; exact hb.2) h0]
    by_cases e : a = b
    · subst e; rw [if_pos rfl]; simp
    · rw [if_neg e, h.onk a h0 hn]; simp [e]
  · rcases List.mem_append.1 htm with htm | htm
    · exact ht t htm
    · rw [List.mem_singleton.1 htm]; exact Nat.zero_le _
theorem take_snoc {l : List Int} {k : Nat} (h : k < l.length) {b : Int} (hb : l[k] = b) : l.take (k + 1) = l.take k ++ [b] := by rw [List.take_succ_eq_append_getElem h, hb]
theorem map_last {w : List (Int × Nat)} {a : Int} {k j : Nat} : (w ++ [(a, k)]).map (·.1) = (w ++ [(a, j)]).map (·.1) := by rw [List.map_append, List.map_append]; rfl
/-- The edge leads to one that wasn't met. -/
theorem FI.new {w : List (Int × Nat)} {a b : Int} {k : Nat} (h : FI n nx ix lo on st cnt P (w ++ [(a, k)])) (hk : k < (nx a).length) (hb : (nx a)[k] = b) (hbn : 0 ≤ b ∧ b < n) (hf : ix.getD b.toNat 0 = 0) :
    FI n nx (ix.set b.toNat ((cnt + 1 : Nat) : Int)) (lo.set b.toNat ((cnt + 1 : Nat) : Int)) (on.set b.toNat true) (st ++ [b]) (cnt + 1) P ((w ++ [(a, k + 1)]) ++ [(b, 0)]) := by
  have hba : b ∈ nx a := hb ▸ List.getElem_mem hk
  have haW : a ∈ (w ++ [(a, k)]).map (·.1) := List.mem_map.2 ⟨(a, k), List.mem_append_right _ (List.mem_singleton.2 rfl), rfl⟩
  have hsub := h.tj.sub
  have hmax : ∀ v ∈ w.map (·.1), gI ix v < gI ix a := by
    refine last_max h.tj.inc ?_
    rw [List.map_append] at hsub; exact hsub
  refine h.enter hbn hf (fun v hv => ?_) map_last (fun t ht y hy => ?_) fun t ht => ?_
  · refine (h.tj.rch v hv a (hsub.subset haW) ?_).trans (.one hba)
    rw [List.map_append] at hv
    rcases List.mem_append.1 hv with hv | hv
    · have := hmax v hv; omega
    · rw [List.mem_singleton.1 hv]; exact Int.le_refl _
  · rcases List.mem_append.1 ht with ht | ht
    · exact .inr (h.prc t (List.mem_append_left _ ht) y hy)
    · rw [List.mem_singleton.1 ht] at hy ⊢
      rw [take_snoc hk hb] at hy
      rcases List.mem_append.1 hy with hy | hy
      · exact .inr (h.prc (a, k) (List.mem_append_right _ (List.mem_singleton.2 rfl)) y hy)
      · exact .inl (List.mem_singleton.1 hy)
  · rcases List.mem_append.1 ht with ht | ht
    · exact h.tn t (List.mem_append_left _ ht)
    · rw [List.mem_singleton.1 ht]; exact hk
/-- The edge leads to one whose part was told. -/
theorem FI.off {w : List (Int × Nat)} {a b : Int} {k : Nat} (h : FI n nx ix lo on st cnt P (w ++ [(a, k)])) (hk : k < (nx a).length) (hb : (nx a)[k] = b) (hbn : 0 ≤ b) (hf : ix.getD b.toNat 0 ≠ 0) (hs : b ∉ st) : FI n nx ix lo on st cnt P (w ++ [(a, k + 1)]) := by
  refine ⟨by rw [map_last (j := k)]; exact h.tj, fun t ht y hy => ?_, h.li, h.ll, h.lon, h.onk, fun t ht => ?_⟩
  · rcases List.mem_append.1 ht with ht | ht
    · exact h.prc t (List.mem_append_left _ ht) y hy
    · rw [List.mem_singleton.1 ht] at hy ⊢
      rw [take_snoc hk hb] at hy
      rcases List.mem_append.1 hy with hy | hy
      · exact h.prc (a, k) (List.mem_append_right _ (List.mem_singleton.2 rfl)) y hy
      · rw [List.mem_singleton.1 hy, gI_at hbn]
        exact ⟨hf, fun hm => absurd hm hs⟩
  · rcases List.mem_append.1 ht with ht | ht
    · exact h.tn t (List.mem_append_left _ ht)
    · rw [List.mem_singleton.1 ht]; exact hk
/-- The edge leads to one on the stack. -/
theorem FI.onSt {w : List (Int × Nat)} {a b : Int} {k : Nat} (h : FI n nx ix lo on st cnt P (w ++ [(a, k)])) (hk : k < (nx a).length) (hb : (nx a)[k] = b) (hs : b ∈ st) : FI n nx ix (lo.set a.toNat (min (lo.getD a.toNat 0) (ix.getD b.toNat 0))) on st cnt P (w ++ [(a, k + 1)]) := by
  have hba : b ∈ nx a := hb ▸ List.getElem_mem hk
  have hbn := h.tj.node b hs
  have haW : a ∈ (w ++ [(a, k)]).map (·.1) := List.mem_map.2 ⟨(a, k), List.mem_append_right _ (List.mem_singleton.2 rfl), rfl⟩
  have hsub := h.tj.sub
  have han := h.tj.node a (hsub.subset haW)
  have hnd : ((w ++ [(a, k)]).map (·.1)).Nodup := (nodup_of_inc h.tj.inc).sublist hsub
  have haw : ∀ t ∈ w, t.1 ≠ a := fun t ht e => by
    rw [List.map_append] at hnd
    exact (List.nodup_append.1 hnd).2.2 t.1 (List.mem_map_of_mem ht) a (List.mem_singleton.2 rfl) e
  have htj := h.tj
  rw [List.map_append] at htj
  have h1 := htj.lower (z := b) hs (.one hba)
  have hse : gI (lo.set a.toNat (min (lo.getD a.toNat 0) (ix.getD b.toNat 0))) = updI (gI lo) a (min (gI lo a) (gI ix b)) := by rw [gI_set han.1 (by rw [h.ll]; exact han.2), gI_at han.1, gI_at hbn.1]
  refine ⟨by rw [hse, map_last (j := k), List.map_append]; exact h1, fun t ht y hy => ?_, h.li, by rw [List.length_set]; exact h.ll, h.lon, h.onk, fun t ht => ?_⟩
  · rw [hse]
    rcases List.mem_append.1 ht with ht | ht
    · rw [updI_ne (haw t ht)]
      exact h.prc t (List.mem_append_left _ ht) y hy
    · rw [List.mem_singleton.1 ht] at hy ⊢
      rw [take_snoc hk hb] at hy
      rw [updI_eq]
      rcases List.mem_append.1 hy with hy | hy
      · obtain ⟨h2, h3⟩ := h.prc (a, k) (List.mem_append_right _ (List.mem_singleton.2 rfl)) y hy
        have h3 : y ∈ st → gI lo a ≤ gI ix y := h3
        exact ⟨h2, fun hm => by have := h3 hm; omega⟩
      · rw [List.mem_singleton.1 hy]
        have := h.tj.rng b hs
        exact ⟨by omega, fun _ => by omega⟩
  · rcases List.mem_append.1 ht with ht | ht
    · exact h.tn t (List.mem_append_left _ ht)
    · rw [List.mem_singleton.1 ht]; exact hk
theorem FI.all {w : List (Int × Nat)} {a : Int} {k : Nat} (h : FI n nx ix lo on st cnt P (w ++ [(a, k)])) (hk : (nx a).length ≤ k) : ∀ y ∈ nx a, gI ix y ≠ 0 ∧ (y ∈ st → gI lo a ≤ gI ix y) := fun y hy =>
  h.prc (a, k) (List.mem_append_right _ (List.mem_singleton.2 rfl)) y (by rw [List.take_of_length_le hk]; exact hy)
theorem set_self {l : List Int} {i : Nat} : l.set i (l.getD i 0) = l := by
  refine List.ext_getElem? fun j => ?_
  rw [List.getElem?_set]
  by_cases e : i = j
  · subst e
    by_cases hl : i < l.length
    · rw [if_pos rfl, if_pos hl, List.getD_eq_getElem?_getD, List.getElem?_eq_getElem hl]; rfl
    · rw [if_pos rfl, if_neg hl, List.getElem?_eq_none (by omega)]
  · rw [if_neg e]
/-- A node is left; its part goes on. -/
theorem FI.up {w : List (Int × Nat)} {u v : Int} {i k : Nat} (h : FI n nx ix lo on st cnt P ((w ++ [(u, i)]) ++ [(v, k)])) (hk : (nx v).length ≤ k) (hne : lo.getD v.toNat 0 ≠ ix.getD v.toNat 0) : FI n nx ix (lo.set u.toNat (min (lo.getD u.toNat 0) (lo.getD v.toNat 0))) on st cnt P (w ++ [(u, i)]) := by
  have htj := h.tj
  rw [List.map_append, List.map_append] at htj
  have huW : u ∈ (w.map (·.1) ++ [u] ++ [v]) := by simp
  have hvW : v ∈ (w.map (·.1) ++ [u] ++ [v]) := by simp
  have hun := htj.node u (htj.sub.subset huW)
  have hvn := htj.node v (htj.sub.subset hvW)
  have hnd : (w.map (·.1) ++ [u] ++ [v]).Nodup := (nodup_of_inc htj.inc).sublist htj.sub
  have huw : ∀ t ∈ w, t.1 ≠ u := fun t ht e => (List.nodup_append.1 (List.nodup_append.1 hnd).1).2.2 t.1 (List.mem_map_of_mem ht) u (List.mem_singleton.2 rfl) e
  have hlow := (htj.low v hvW).1
  have hlt : gI lo v < gI ix v := by
    rw [gI_at hvn.1, gI_at hvn.1] at hlow ⊢; omega
  have h1 := htj.up (u := u) (v := v) (w := w.map (·.1)) hlt (h.all hk)
  have hse : gI (lo.set u.toNat (min (lo.getD u.toNat 0) (lo.getD v.toNat 0))) = updI (gI lo) u (min (gI lo u) (gI lo v)) := by rw [gI_set hun.1 (by rw [h.ll]; exact hun.2), gI_at hun.1, gI_at hvn.1]
  refine ⟨by rw [hse, List.map_append]; exact h1, fun t ht y hy => ?_, h.li, by rw [List.length_set]; exact h.ll, h.lon, h.onk, fun t ht => h.tn t (List.mem_append_left _ ht)⟩
  rw [hse]
  obtain ⟨h2, h3⟩ := h.prc t (List.mem_append_left _ ht) y hy
  refine ⟨h2, fun hm => ?_⟩
  have := h3 hm
  by_cases e : t.1 = u
  · rw [e] at this ⊢; rw [updI_eq]; omega
  · rw [updI_ne e]; exact this
/-- What is marked no more. -/
def offS (part : List Int) (on : List Bool) : List Bool := part.foldl (fun on b => on.set b.toNat false) on
theorem offS_length : ∀ (part : List Int) (on : List Bool), (offS part on).length = on.length
  | [], _ => rfl
  | b :: part, on => by
    show (offS part (on.set b.toNat false)).length = _
    rw [offS_length part, List.length_set]
theorem offS_get {a : Int} (ha : 0 ≤ a) : ∀ (part : List Int) (on : List Bool), (∀ b ∈ part, 0 ≤ b ∧ b < on.length) → (offS part on).getD a.toNat false = if a ∈ part then false else on.getD a.toNat false
  | [], _, _ => by simp [offS]
  | b :: part, on, h => by
    have hb := h b (List.mem_cons_self ..)
    show (offS part (on.set b.toNat false)).getD a.toNat false = _
    rw [offS_get ha part _ fun c hc => by rw [List.length_set]; exact h c (List.mem_cons_of_mem _ hc), getD_on hb.1 hb.2 ha]
    by_cases h1 : a ∈ part
    · rw [if_pos h1, if_pos (List.mem_cons_of_mem _ h1)]
    · rw [if_neg h1]
      by_cases h2 : a = b
      · rw [if_pos h2, if_pos (by rw [h2]; exact List.mem_cons_self ..)]
      · rw [if_neg h2, if_neg (by rw [List.mem_cons]; exact fun h => h.elim h2 h1)]
/-- A node is left, and its part is told. -/
theorem FI.tell {w : List (Int × Nat)} {v : Int} {k : Nat} {A B part : List Int} (h : FI n nx ix lo on st cnt P (w ++ [(v, k)])) (hk : (nx v).length ≤ k) (hst : st = A ++ v :: B) (heq : lo.getD v.toNat 0 = ix.getD v.toNat 0) (hnx : ∀ x y, y ∈ nx x → 0 ≤ y ∧ y < n) (hp : part.Perm (v :: B)) (hs : part.Pairwise (· < ·)) : FI n nx ix lo (offS (v :: B) on) A cnt (P ++ [part]) w := by
  have htj := h.tj
  rw [List.map_append] at htj
  have hvn := htj.node v (by rw [hst]; simp)
  have h1 := htj.tell (w := w.map (·.1)) (part := part) hst (by rw [gI_at hvn.1, gI_at hvn.1]; exact heq) (h.all hk) hnx hp hs
  have hAs : ∀ x ∈ A, x ∈ st := fun x hx => by rw [hst]; exact List.mem_append_left _ hx
  refine ⟨h1, fun t ht y hy => ?_, h.li, h.ll, by rw [offS_length]; exact h.lon, fun a h0 hn => ?_, fun t ht => h.tn t (List.mem_append_left _ ht)⟩
  · obtain ⟨h2, h3⟩ := h.prc t (List.mem_append_left _ ht) y hy
    exact ⟨h2, fun hm => h3 (hAs y hm)⟩
  · rw [offS_get h0 _ _ fun b hb => by rw [h.lon]; exact htj.node b (by rw [hst]; exact List.mem_append_right _ hb), h.onk a h0 hn]
    have hnd := nodup_of_inc htj.inc
    rw [hst] at hnd
    by_cases hm : a ∈ v :: B
    · rw [if_pos hm]
      exact (decide_eq_false fun hA => (List.nodup_append.1 hnd).2.2 a hA a hm rfl).symm
    · rw [if_neg hm]
      refine Bool.eq_iff_iff.2 ?_
      rw [decide_eq_true_eq, decide_eq_true_eq, hst, List.mem_append]
      exact ⟨fun h => h.resolve_right hm, .inl⟩
/-- Behind a part that was told, the one that is above leads as low as it did. -/
theorem FI.same {w : List (Int × Nat)} {u v : Int} {i k : Nat} (h : FI n nx ix lo on st cnt P ((w ++ [(u, i)]) ++ [(v, k)])) (heq : lo.getD v.toNat 0 = ix.getD v.toNat 0) : lo.set u.toNat (min (lo.getD u.toNat 0) (lo.getD v.toNat 0)) = lo := by
  have htj := h.tj
  rw [List.map_append, List.map_append] at htj
  have huW : u ∈ (w.map (·.1) ++ [u] ++ [v]) := by simp
  have hvW : v ∈ (w.map (·.1) ++ [u] ++ [v]) := by simp
  have hun := htj.node u (htj.sub.subset huW)
  have hvn := htj.node v (htj.sub.subset hvW)
  have h1 := (htj.low u huW).1
  have h2 := last_max htj.inc htj.sub u (by simp)
  rw [gI_at hun.1, gI_at hun.1] at h1
  rw [gI_at hun.1, gI_at hvn.1] at h2
  rw [show min (lo.getD u.toNat 0) (lo.getD v.toNat 0) = lo.getD u.toNat 0 by omega]
  exact set_self
theorem FI.st_nil (h : FI n nx ix lo on st cnt P []) : st = [] := h.tj.empty
theorem FI.one {v : Int} {k : Nat} (h : FI n nx ix lo on st cnt P [(v, k)]) : lo.getD v.toNat 0 = ix.getD v.toNat 0 := by
  have hvn := h.tj.node v (h.tj.sub.subset (by simp))
  have := h.tj.first
  rw [gI_at hvn.1, gI_at hvn.1] at this
  exact this
theorem FI.mem {w : List (Int × Nat)} {v : Int} {k : Nat} (h : FI n nx ix lo on st cnt P (w ++ [(v, k)])) : v ∈ st := h.tj.sub.subset (by simp)
theorem FI.cnt_le {way : List (Int × Nat)} (h : FI n nx ix lo on st cnt P way) : cnt ≤ n ∧ st.length ≤ n ∧ P.flatten.length ≤ n := by
  have hnd : (P.flatten ++ st).Nodup := List.nodup_append.2 ⟨h.tj.prt.nd, nodup_of_inc h.tj.inc, fun x hx y hy e => by
    subst e
    obtain ⟨p, hp, hxp⟩ := List.mem_flatten.1 hx
    exact h.tj.dis p hp x hxp hy⟩
  have hn : ∀ z ∈ P.flatten ++ st, 0 ≤ z ∧ z < (n : Int) := fun z hz => by
    rcases List.mem_append.1 hz with hz | hz
    · obtain ⟨p, hp, hz⟩ := List.mem_flatten.1 hz
      exact h.tj.prt.node p hp z hz
    · exact h.tj.node z hz
  have hsub := sub_lenS hnd (m := (List.range n).map fun i : Nat => (i : Int)) fun z hz => List.mem_map.2 ⟨z.toNat, List.mem_range.2 (by have := hn z hz; omega), by have := hn z hz; omega⟩
  rw [List.length_append, List.length_map, List.length_range] at hsub
  have := h.tj.len
  omega
def remW (nx : Int → List Int) (way : List (Int × Nat)) : Nat := (way.map fun t => (nx t.1).length + 1 - t.2).sum
def remU (nx : Int → List Int) (ix : List Int) (n : Nat) : Nat := ((List.range n).map fun a : Nat => if ix.getD a 0 = 0 then (nx a).length + 2 else 0).sum
theorem remW_app (nx : Int → List Int) (w : List (Int × Nat)) (a : Int) (k : Nat) : remW nx (w ++ [(a, k)]) = remW nx w + ((nx a).length + 1 - k) := by unfold remW; simp
theorem remU_succ (nx : Int → List Int) (ix : List Int) (n : Nat) : remU nx ix (n + 1) = remU nx ix n + if ix.getD n 0 = 0 then (nx n).length + 2 else 0 := by unfold remU; rw [List.range_succ]; simp
theorem remU_set {nx : Int → List Int} {ix : List Int} {b : Nat} {v : Int} (hv : v ≠ 0) (hf : ix.getD b 0 = 0) (hb : b < ix.length) : ∀ n, remU nx (ix.set b v) n + (if b < n then (nx b).length + 2 else 0) = remU nx ix n
  | 0 => rfl
  | n + 1 => by
    have ih := remU_set (nx := nx) hv hf hb n
    rw [remU_succ, remU_succ]
    have hg : (ix.set b v).getD n 0 = if b = n then v else ix.getD n 0 := by
      rw [List.getD_eq_getElem?_getD, List.getElem?_set]
      by_cases e : b = n
      · subst e; rw [if_pos rfl, if_pos hb, if_pos rfl]; rfl
      · rw [if_neg e, if_neg e, List.getD_eq_getElem?_getD]
    rw [hg]
    by_cases e : b = n
    · subst e
      rw [if_pos rfl, if_neg hv, if_pos hf, if_pos (by omega)]
      rw [if_neg (by omega)] at ih
      omega
    · rw [if_neg e]
      by_cases c : b < n
      · have e2 : (if b < n + 1 then (nx b).length + 2 else 0) = (nx b).length + 2 := if_pos (by omega)
        rw [if_pos c] at ih; rw [e2]; omega
      · have e2 : (if b < n + 1 then (nx b).length + 2 else 0) = 0 := if_neg (by omega)
        rw [if_neg c] at ih; rw [e2]; omega
end Go.Proofs.YtljbnigceammdaaGreatDoor
