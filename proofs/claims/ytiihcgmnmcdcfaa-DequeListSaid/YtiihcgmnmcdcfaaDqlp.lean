/-
  DequeList: a deque's list, read; ops, one behind the other. Plain.
-/
import Derived.Test.YtiihcgmnmcdcfaaDqlw
namespace Go.Proofs.Ytiihcgmnmcdcfaa
open Go.RowKit
theorem rep_list {cap : Int} {ws : List Int} {t b : Nat} {l : List Int} (h : RepD cap ws t b l) : listD 0 cap ws = l := by
  have h1 := h.hb
  have h2 := h.hr
  have h3 := h.big
  have e : lenD 0 cap ws = l.length := by
    unfold lenD
    rw [h.ld1, h.ld0, wr_small (by omega), wr_small (by omega)]
    omega
  unfold listD
  rw [e]
  have hT : takeD 0 cap ws l.length = (List.range l.length).map fun i => mLoad ws (placeD 0 cap (wu (wr (mLoad ws 0) + (i : Nat)))) := rfl
  rw [hT]
  refine List.ext_getElem (by simp) fun i hi1 hi2 => ?_
  rw [List.getElem_map, List.getElem_range, h.ld0, wr_small (by omega), show ((t : Int) + (i : Nat)) = ((t + i : Nat) : Int) by omega, wu_small (by omega), place_at (by omega)]
  exact (load_hit (a := 2 + (t + i) % rm cap)).trans (h.ring i hi2)
/-- What a list is behind an op. -/
def opL (cap k n : Int) (l : List Int) : List Int := if k = 1 then (if l.length < rm cap then l ++ [n] else l) else if k = 2 then l.take (l.length - 1) else l.drop 1
def okL (cap k : Int) (l : List Int) : Bool := if k = 1 then decide (l.length < rm cap) else decide (0 < l.length)
def tellL (k n : Int) (l : List Int) : Int := if k = 1 then n else if k = 2 then l.getD (l.length - 1) 0 else l.getD 0 0
def argL (k n : Int) : Int := if k = 1 then n else 0
theorem op_list {cap k n : Int} {ws : List Int} {t b : Nat} {l : List Int} (h : RepD cap ws t b l) (hn : 0 ≤ n) (hb : b < 100000) (kk : Int) (hk : (k = 1 ∧ kk = 1) ∨ (k = 2 ∧ kk = 2) ∨ (¬ k = 1 ∧ ¬ k = 2 ∧ kk = 3)) :
    ∃ ws' t' b' at_ xb xt x, iterD kk 7 (⟨0, cap, argL kk n, false, false, 0, 0, 0, 0⟩, ws) = (⟨0, cap, tellL kk n l, okL cap kk l, true, at_, xb, xt, x⟩, ws') ∧ b' ≤ b + 1 ∧ RepD cap ws' t' b' (opL cap kk n l) := by
  rcases hk with ⟨_, rfl⟩ | ⟨_, rfl⟩ | ⟨_, _, rfl⟩
  · by_cases hf : l.length < rm cap
    · obtain ⟨ws', e1, e2⟩ := push_room h hn hf hb
      refine ⟨ws', t, b + 1, 4, b, t, 0, ?_, Nat.le_refl _, ?_⟩
      · simpa [argL, tellL, okL, hf] using e1
      · simpa [opL, hf] using e2
    · refine ⟨ws, t, b, 2, b, t, 0, ?_, by omega, ?_⟩
      · simpa [argL, tellL, okL, hf] using push_full (n := n) h hf
      · simpa [opL, hf] using h
  · rcases List.eq_nil_or_concat l with rfl | ⟨l', x, rfl⟩
    · obtain ⟨ws', e1, e2⟩ := pop_none h
      refine ⟨ws', t, b, 4, ((b - 1 : Nat) : Int), t, 0, ?_, by omega, ?_⟩
      · simpa [argL, tellL, okL] using e1
      · simpa [opL] using e2
    · rw [List.concat_eq_append] at h ⊢
      by_cases h0 : 0 < l'.length
      · obtain ⟨ws', e1, e2⟩ := pop_more h h0
        refine ⟨ws', t, b - 1, 4, ((b - 1 : Nat) : Int), t, x, ?_, by omega, ?_⟩
        · simpa [argL, tellL, okL] using e1
        · simpa [opL] using e2
      · obtain rfl : l' = [] := List.length_eq_zero_iff.1 (by omega)
        obtain ⟨ws', e1, e2⟩ := pop_last h
        refine ⟨ws', t + 1, b, 6, ((b - 1 : Nat) : Int), t, x, ?_, by omega, ?_⟩
        · simpa [argL, tellL, okL] using e1
        · simpa [opL] using e2
  · cases l with
    | nil =>
      refine ⟨ws, t, b, 2, b, t, 0, ?_, by omega, ?_⟩
      · simpa [argL, tellL, okL] using steal_none h
      · simpa [opL] using h
    | cons x l =>
      obtain ⟨ws', e1, e2⟩ := steal_some h
      refine ⟨ws', t + 1, b, 4, b, t, x, ?_, by omega, ?_⟩
      · simpa [argL, tellL, okL] using e1
      · simpa [opL] using e2
theorem rep_first {cap : Int} : RepD cap (mStore (mStore (List.replicate (2 + rm cap) 0) 0 1) (botD 0) 1) 1 1 [] := by
  obtain ⟨h1, h2⟩ := rm_ok cap
  have e : mStore (mStore (List.replicate (2 + rm cap) 0) 0 1) (botD 0) 1 = ((List.replicate (2 + rm cap) (0 : Int)).set 0 1).set 1 1 := by
    rw [bot0]
    exact (congrArg (fun z => mStore z 1 1) (store_hit (a := 0) _)).trans (store_hit (a := 1) _)
  rw [e]
  refine ⟨by simp, ?_, ?_, Nat.le_refl _, rfl, Nat.zero_le _, by decide, (fun k hk => by cases hk), set_nn (set_nn (fun z hz => by rw [List.eq_of_mem_replicate hz]; exact Int.le_refl _) _ (by decide)) _ (by decide)⟩
  · rw [getD_setI, if_neg (by omega), getD_setI, if_pos ⟨rfl, by simp; omega⟩]; rfl
  · rw [getD_setI, if_pos ⟨rfl, by simp; omega⟩]; rfl
end Go.Proofs.Ytiihcgmnmcdcfaa
