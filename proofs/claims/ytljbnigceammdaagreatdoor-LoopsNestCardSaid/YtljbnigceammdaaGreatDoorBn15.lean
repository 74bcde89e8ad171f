/-
  Sd: what the claim uses of them.
-/
import Derived.Test.YtljbnigceammdaaGreatDoorBn14
namespace Go.Proofs.YtljbnigceammdaaGreatDoor
open Go.RowKit
set_option maxRecDepth 100000
def gI (ix : List Int) (x : Int) : Int := if 0 ≤ x then ix.getD x.toNat 0 else 0
theorem gI_at {ix : List Int} {x : Int} (h : 0 ≤ x) : gI ix x = ix.getD x.toNat 0 := if_pos h
theorem gI_set {ix : List Int} {b v : Int} (h0 : 0 ≤ b) (h1 : b < ix.length) : gI (ix.set b.toNat v) = updI (gI ix) b v := by
  funext y
  show (if 0 ≤ y then (ix.set b.toNat v).getD y.toNat 0 else 0) = if y = b then v else if 0 ≤ y then ix.getD y.toNat 0 else 0
  by_cases hy : 0 ≤ y
  · rw [if_pos hy, List.getD_eq_getElem?_getD, List.getElem?_set]
    by_cases e : y = b
    · subst e; rw [if_pos rfl, if_pos (by omega), if_pos rfl]; rfl
    · rw [if_neg (by omega), if_neg e, if_pos hy, List.getD_eq_getElem?_getD]
  · rw [if_neg hy, if_neg (by omega), if_neg hy]
theorem gI_zero (n : Nat) (x : Int) : gI (List.replicate n 0) x = 0 := by
  unfold gI
  split
  · rw [List.getD_eq_getElem?_getD, List.getElem?_replicate]; split <;> rfl
  · rfl
/-- How scc's walk stands. -/
structure FI (n : Nat) (nx : Int → List Int) (ix lo : List Int) (on : List Bool) (st : List Int) (cnt : Nat) (P : List (List Int)) (way : List (Int × Nat)) : Prop where
  tj : TJ n nx (gI ix) (gI lo) st cnt P (way.map (·.1))
  prc : Prc nx (gI ix) (gI lo) st way
  li : ix.length = n
  ll : lo.length = n
  lon : on.length = n
  onk : ∀ a : Int, 0 ≤ a → a < n → on.getD a.toNat false = decide (a ∈ st)
  tn : ∀ t ∈ way, t.2 ≤ (nx t.1).length
theorem getD_on {on : List Bool} {b : Int} {x : Bool} (hb : 0 ≤ b) (hl : b < on.length) {a : Int} (ha : 0 ≤ a) : (on.set b.toNat x).getD a.toNat false = if a = b then x else on.getD a.toNat false := by
  rw [List.getD_eq_getElem?_getD, List.getElem?_set, List.getD_eq_getElem?_getD]
  by_cases e : a = b
  · subst e; rw [if_pos rfl, if_pos (by omega), if_pos rfl]; rfl
  · rw [if_neg (by omega), if_neg e]
theorem FI.start (n : Nat) (nx : Int → List Int) : FI n nx (List.replicate n 0) (List.replicate n 0) (List.replicate n false) [] 0 [] [] :=
  ⟨.start (gI_zero n), fun _ h => (by cases h), List.length_replicate, List.length_replicate, List.length_replicate, fun a _ _ => by
    rw [List.getD_eq_getElem?_getD, List.getElem?_replicate]; split <;> simp, fun _ h => (by cases h)⟩
variable {n : Nat} {nx : Int → List Int} {ix lo : List Int} {on : List Bool} {st : List Int} {cnt : Nat} {P : List (List Int)}
theorem FI.enter {way way2 : List (Int × Nat)} {b : Int} (h : FI n nx ix lo on st cnt P way) (hb : 0 ≤ b ∧ b < n) (hf : ix.getD b.toNat 0 = 0) (hW : ∀ v ∈ way.map (·.1), Rx nx v b) (hw2 : way2.map (·.1) = way.map (·.1)) (hp : ∀ t ∈ way2, ∀ y ∈ (nx t.1).take t.2, y = b ∨ (gI ix y ≠ 0 ∧ (y ∈ st → gI lo t.1 ≤ gI ix y))) (ht : ∀ t ∈ way2, t.2 ≤ (nx t.1).length) :
    FI n nx (ix.set b.toNat ((cnt + 1 : Nat) : Int)) (lo.set b.toNat ((cnt + 1 : Nat) : Int)) (on.set b.toNat true) (st ++ [b]) (cnt + 1) P (way2 ++ [(b, 0)]) := by
  have hf : gI ix b = 0 := by rw [gI_at hb.1]; exact hf
  have hbs : b ∉ st := fun hm => by have := h.tj.rng b hm; omega
  have h1 := h.tj.enter hb hf hW
  refine ⟨?_, ?_, by rw [List.length_set]; exact h.li, by rw [List.length_set]; exact h.ll, by rw [List.length_set]; exact h.lon, fun a h0 hn => ?_, fun t htm => ?_⟩
  · rw [gI_set hb.1 (by rw [h.li]; exact hb.2), gI_set hb.1 (by rw [h.ll]; exact hb.2), List.map_append, hw2]
    exact h1
  · rw [gI_set hb.1 (by rw [h.li]; exact hb.2), gI_set hb.1 (by rw [h.ll]; exact hb.2)]
    intro t htm y hy
    rcases List.mem_append.1 htm with htm | htm
    · have htW : t.1 ∈ way.map (·.1) := hw2 ▸ List.mem_map_of_mem htm
      have hts : t.1 ∈ st := h.tj.sub.subset htW
      have htb : t.1 ≠ b := fun e => hbs (e ▸ hts)
      rw [updI_ne (f := gI lo) htb]
      have hle := (h.tj.low t.1 htW).1
      have hrg := (h.tj.rng t.1 hts).2
      by_cases e : y = b
      · subst e
        rw [updI_eq]
        exact ⟨by omega, fun _ => by omega⟩
      · rw [updI_ne e]
        obtain ⟨h2, h3⟩ := (hp t htm y hy).resolve_left e
        exact ⟨h2, fun hm => h3 ((List.mem_append.1 hm).resolve_right fun hm => e (List.mem_singleton.1 hm))⟩
    · rw [List.mem_singleton.1 htm] at hy
      simp at hy
  · rw [getD_on hb.1 (by rw [h.lon]; exact hb.2) h0]
    by_cases e : a = b
    · subst e; rw [if_pos rfl]; simp
    · rw [if_neg e, h.onk a h0 hn]; simp [e]
  · rcases List.mem_append.1 htm with htm | htm
    · exact ht t htm
    · rw [List.mem_singleton.1 htm]; exact Nat.zero_le _
theorem take_snoc {l : List Int} {k : Nat} (h : k < l.length) {b : Int} (hb : l[k] = b) : l.take (k + 1) = l.take k ++ [b] := by rw [List.take_succ_eq_append_getElem h, hb]
theorem map_last {w : List (Int × Nat)} {a : Int} {k j : Nat} : (w ++ [(a, k)]).map (·.1) = (w ++ [(a, j)]).map (·.1) := by rw [List.map_append, List.map_append]; rfl
/-- The edge leads to one that wasn't met. -/
theorem FI.new {w : List (Int × Nat)} {a b : Int} {k : Nat} (h : FI n nx ix lo on st cnt P (w ++ [(a, k)])) (hk : k < (nx a).length) (hb : (nx a)[k] = b) (hbn : 0 ≤ b ∧ b < n) (hf : ix.getD b.toNat 0 = 0) :
    FI n nx (ix.set b.toNat ((cnt + 1 : Nat) : Int)) (lo.set b.toNat ((cnt + 1 : Nat) : Int)) (on.set b.toNat true) (st ++ [b]) (cnt + 1) P ((w ++ [(a, k + 1)]) ++ [(b, 0)]) := by
  have hba : b ∈ nx a := hb ▸ List.getElem_mem hk
  have haW : a ∈ (w ++ [(a, k)]).map (·.1) := List.mem_map.2 ⟨(a, k), List.mem_append_right _ (List.mem_singleton.2 rfl), rfl⟩
  have hsub := h.tj.sub
  have hmax : ∀ v ∈ w.map (·.1), gI ix v < gI ix a := by
    refine last_max h.tj.inc ?_
    rw [List.map_append] at hsub; exact hsub
  refine h.enter hbn hf (fun v hv => ?_) map_last (fun t ht y hy => ?_) fun t ht => ?_
  · refine (h.tj.rch v hv a (hsub.subset haW) ?_).trans (.one hba)
    rw [List.map_append] at hv
    rcases List.mem_append.1 hv with hv | hv
    · have := hmax v hv; omega
    · rw [List.mem_singleton.1 hv]; exact Int.le_refl _
  · rcases List.mem_append.1 ht with ht | ht
    · exact .inr (h.prc t (List.mem_append_left _ ht) y hy)
    · rw [List.mem_singleton.1 ht] at hy ⊢
      rw [take_snoc hk hb] at hy
      rcases List.mem_append.1 hy with hy | hy
      · exact .inr (h.prc (a, k) (List.mem_append_right _ (List.mem_singleton.2 rfl)) y hy)
      · exact .inl (List.mem_singleton.1 hy)
  · rcases List.mem_append.1 ht with ht | ht
    · exact h.tn t (List.mem_append_left _ ht)
    · rw [List.mem_singleton.1 ht]; exact hk
/-- The edge leads to one whose part was told. -/
theorem FI.off {w : List (Int × Nat)} {a b : Int} {k : Nat} (h : FI n nx ix lo on st cnt P (w ++ [(a, k)])) (hk : k < (nx a).length) (hb : (nx a)[k] = b) (hbn : 0 ≤ b) (hf : ix.getD b.toNat 0 ≠ 0) (hs : b ∉ st) : FI n nx ix lo on st cnt P (w ++ [(a, k + 1)]) := by
  refine ⟨by rw [map_last (j := k)]; exact h.tj, fun t ht y hy => ?_, h.li, h.ll, h.lon, h.onk, fun t ht => ?_⟩
  · rcases List.mem_append.1 ht with ht | ht
    · exact h.prc t (List.mem_append_left _ ht) y hy
    · rw [List.mem_singleton.1 ht] at hy ⊢
      rw [take_snoc hk hb] at hy
      rcases List.mem_append.1 hy with hy | hy
      · exact h.prc (a, k) (List.mem_append_right _ (List.mem_singleton.2 rfl)) y hy
      · rw [List.mem_singleton.1 hy, gI_at hbn]
        exact ⟨hf, fun hm => absurd hm hs⟩
  · rcases List.mem_append.1 ht with ht | ht
    · exact h.tn t (List.mem_append_left _ ht)
    · rw [List.mem_singleton.1 ht]; exact hk
theorem FI.all {w : List (Int × Nat)} {a : Int} {k : Nat} (h : FI n nx ix lo on st cnt P (w ++ [(a, k)])) (hk : (nx a).length ≤ k) : ∀ y ∈ nx a, gI ix y ≠ 0 ∧ (y ∈ st → gI lo a ≤ gI ix y) := fun y hy =>
  h.prc (a, k) (List.mem_append_right _ (List.mem_singleton.2 rfl)) y (by rw [List.take_of_length_le hk]; exact hy)
theorem set_self {l : List Int} {i : Nat} : l.set i (l.getD i 0) = l := by
  refine List.ext_getElem? fun j => ?_
  rw [List.getElem?_set]
  by_cases e : i = j
  · subst e
    by_cases hl : i < l.length
    · rw [if_pos rfl, if_pos hl, List.getD_eq_getElem?_getD, List.getElem?_eq_getElem hl]; rfl
    · rw [if_pos rfl, if_neg hl, List.getElem?_eq_none (by omega)]
  · rw [if_neg e]
/-- A node is left; its part goes on. -/
theorem FI.up {w : List (Int × Nat)} {u v : Int} {i k : Nat} (h : FI n nx ix lo on st cnt P ((w ++ [(u, i)]) ++ [(v, k)])) (hk : (nx v).length ≤ k) (hne : lo.getD v.toNat 0 ≠ ix.getD v.toNat 0) : FI n nx ix (lo.set u.toNat (min (lo.getD u.toNat 0) (lo.getD v.toNat 0))) on st cnt P (w ++ [(u, i)]) := by
  have htj := h.tj
  rw [List.map_append, List.map_append] at htj
  have huW : u ∈ (w.map (·.1) ++ [u] ++ [v]) := by simp
  have hvW : v ∈ (w.map (·.1) ++ [u] ++ [v]) := by simp
  have hun := htj.node u (htj.sub.subset huW)
  have hvn := htj.node v (htj.sub.subset hvW)
  have hnd : (w.map (·.1) ++ [u] ++ [v]).Nodup := (nodup_of_inc htj.inc).sublist htj.sub
  have huw : ∀ t ∈ w, t.1 ≠ u := fun t ht e => (List.nodup_append.1 (List.nodup_append.1 hnd).1).2.2 t.1 (List.mem_map_of_mem ht) u (List.mem_singleton.2 rfl) e
  have hlow := (htj.low v hvW).1
  have hlt : gI lo v < gI ix v := by
    rw [gI_at hvn.1, gI_at hvn.1] at hlow ⊢; omega
  have h1 := htj.up (u := u) (v := v) (w := w.map (·.1)) hlt (h.all hk)
  have hse : gI (lo.set u.toNat (min (lo.getD u.toNat 0) (lo.getD v.toNat 0))) = updI (gI lo) u (min (gI lo u) (gI lo v)) := by rw [gI_set hun.1 (by rw [h.ll]; exact hun.2), gI_at hun.1, gI_at hvn.1]
  refine ⟨by rw [hse, List.map_append]; exact h1, fun t ht y hy => ?_, h.li, by rw [List.length_set]; exact h.ll, h.lon, h.onk, fun t ht => h.tn t (List.mem_append_left _ ht)⟩
  rw [hse]
  obtain ⟨h2, h3⟩ := h.prc t (List.mem_append_left _ ht) y hy
  refine ⟨h2, fun hm => ?_⟩
  have := h3 hm
  by_cases e : t.1 = u
  · rw [e] at this ⊢; rw [updI_eq]; omega
  · rw [updI_ne e]; exact this
/-- Behind a part that was told, the one that is above leads as low as it did. -/
theorem FI.same {w : List (Int × Nat)} {u v : Int} {i k : Nat} (h : FI n nx ix lo on st cnt P ((w ++ [(u, i)]) ++ [(v, k)])) (heq : lo.getD v.toNat 0 = ix.getD v.toNat 0) : lo.set u.toNat (min (lo.getD u.toNat 0) (lo.getD v.toNat 0)) = lo := by
  have htj := h.tj
  rw [List.map_append, List.map_append] at htj
  have huW : u ∈ (w.map (·.1) ++ [u] ++ [v]) := by simp
  have hvW : v ∈ (w.map (·.1) ++ [u] ++ [v]) := by simp
  have hun := htj.node u (htj.sub.subset huW)
  have hvn := htj.node v (htj.sub.subset hvW)
  have h1 := (htj.low u huW).1
  have h2 := last_max htj.inc htj.sub u (by simp)
  rw [gI_at hun.1, gI_at hun.1] at h1
  rw [gI_at hun.1, gI_at hvn.1] at h2
  rw [show min (lo.getD u.toNat 0) (lo.getD v.toNat 0) = lo.getD u.toNat 0 by omega]
  exact set_self
theorem FI.one {v : Int} {k : Nat} (h : FI n nx ix lo on st cnt P [(v, k)]) : lo.getD v.toNat 0 = ix.getD v.toNat 0 := by
  have hvn := h.tj.node v (h.tj.sub.subset (by simp))
  have := h.tj.first
  rw [gI_at hvn.1, gI_at hvn.1] at this
  exact this
theorem FI.mem {w : List (Int × Nat)} {v : Int} {k : Nat} (h : FI n nx ix lo on st cnt P (w ++ [(v, k)])) : v ∈ st := h.tj.sub.subset (by simp)
end Go.Proofs.YtljbnigceammdaaGreatDoor
