/-
  DequeList: what seven Steps of an op make of a deque that nobody else touches. Plain. 
-/
import Derived.Test.YtiihcgmnmcdcfaaDqm
namespace Go.Proofs.Ytiihcgmnmcdcfaa
open Go.RowKit
/-- Seven Steps, one behind the other. -/
def iterD (k : Int) : Nat → DQ × List Int → DQ × List Int
  | 0, x => x
  | n + 1, x => iterD k n ((dqStep k listOps x.1 x.2).1, (dqStep k listOps x.1 x.2).2.1)
/-- A deque's words: top, bottom, and the ring. -/
structure RepD (cap : Int) (ws : List Int) (t b : Nat) (l : List Int) : Prop where
  len : ws.length = 2 + rm cap
  top : ws.getD 0 0 = t
  bot : ws.getD 1 0 = b
  ht : 1 ≤ t
  hb : t + l.length = b
  hr : l.length ≤ rm cap
  big : b ≤ 100000
  ring : ∀ k, (h : k < l.length) → ws.getD (2 + (t + k) % rm cap) 0 = l[k]
  nn : NN ws
theorem place_at {cap : Int} {i : Nat} (h : i ≤ 100001) : placeD 0 cap i = ((2 + i % rm cap : Nat) : Int) := by
  obtain ⟨h1, h2⟩ := rm_ok cap
  have h3 : i % rm cap < rm cap := Nat.mod_lt _ (by omega)
  show IntKind.i64.wrap (IntKind.i64.wrap (0 + 2) + IntKind.i64.wrap ((i : Int) % (rm cap : Int))) = _
  rw [show ((i : Int) % (rm cap : Int)) = ((i % rm cap : Nat) : Int) by rw [Int.natCast_emod]]
  rw [IntKind.wrap_i64, IntKind.wrap_i64, IntKind.wrap_i64]
  omega
theorem wu_small {n : Nat} (h : n ≤ 1000000) : wu (n : Int) = n := by
  show IntKind.u64.wrap _ = _
  rw [IntKind.wrap_u64]; omega
theorem wr_small {n : Nat} (h : n ≤ 1000000) : wr (n : Int) = n := by
  show IntKind.i64.wrap _ = _
  rw [IntKind.wrap_i64]; omega
theorem iter_end {k : Int} {q : DQ} {ws : List Int} (h : q.ended = true) : ∀ n, iterD k n (q, ws) = (q, ws)
  | 0 => rfl
  | n + 1 => by
    have e : dqStep k listOps q ws = (q, ws, true) := by
      unfold dqStep pushStep popStep stealStep
      rw [h]
      simp only [if_true]
      repeat' split
      all_goals rfl
    unfold iterD
    dsimp only
    rw [e]
    exact iter_end h n
theorem iter_next {k : Int} {n : Nat} {q q' : DQ} {ws ws' : List Int} {b : Bool} (h : dqStep k listOps q ws = (q', ws', b)) : iterD k (n + 1) (q, ws) = iterD k n (q', ws') := by
  unfold iterD
  dsimp only
  rw [h]
  cases n <;> rfl
theorem bot0 : botD 0 = 1 := by decide
theorem RepD.ld0 {cap : Int} {ws : List Int} {t b : Nat} {l : List Int} (h : RepD cap ws t b l) : mLoad ws 0 = t := (load_hit (a := 0)).trans h.top
theorem RepD.ld1 {cap : Int} {ws : List Int} {t b : Nat} {l : List Int} (h : RepD cap ws t b l) : mLoad ws (botD 0) = b := by rw [bot0]; exact (load_hit (a := 1)).trans h.bot
theorem push_full {cap n : Int} {ws : List Int} {t b : Nat} {l : List Int} (h : RepD cap ws t b l) (hf : ¬ l.length < rm cap) : iterD 1 7 (⟨0, cap, n, false, false, 0, 0, 0, 0⟩, ws) = (⟨0, cap, n, false, true, 2, b, t, 0⟩, ws) := by
  have h1 := h.hb
  have h2 := h.hr
  have h3 := h.big
  have s1 : dqStep 1 listOps ⟨0, cap, n, false, false, 0, 0, 0, 0⟩ ws = (⟨0, cap, n, false, false, 1, b, 0, 0⟩, ws, false) := by
    unfold dqStep pushStep
    simp [h.ld1]
  have s2 : dqStep 1 listOps ⟨0, cap, n, false, false, 1, b, 0, 0⟩ ws = (⟨0, cap, n, false, true, 2, b, t, 0⟩, ws, true) := by
    have e : wr (wu ((b : Int) - (t : Int))) = ((l.length : Nat) : Int) := by
      rw [show ((b : Int) - (t : Int)) = ((l.length : Nat) : Int) by omega, wu_small (by omega), wr_small (by omega)]
    unfold dqStep pushStep
    simp [h.ld0, e, show rm cap ≤ l.length by omega]
  rw [iter_next s1, iter_next s2, iter_end rfl]
theorem getD_setI (l : List Int) (i j : Nat) (x d : Int) : (l.set i x).getD j d = if i = j ∧ j < l.length then x else l.getD j d := by
  rw [List.getD_eq_getElem?_getD, List.getElem?_set, List.getD_eq_getElem?_getD]
  by_cases h : i = j
  · subst h
    by_cases h2 : i < l.length
    · simp [h2]
    · simp [h2]
  · simp [h]
theorem mod_ne {a c m : Nat} (h1 : a < c) (h2 : c - a < m) (h : a % m = c % m) : False := by
  have h3 := Nat.sub_mod_eq_zero_of_mod_eq h.symm
  have h4 := Nat.le_of_dvd (by omega) (Nat.dvd_of_mod_eq_zero h3)
  omega
theorem set_nn {ws : List Int} (h : NN ws) (i : Nat) {x : Int} (hx : 0 ≤ x) : NN (ws.set i x) := by
  intro z hz
  rcases List.mem_or_eq_of_mem_set hz with hz | rfl
  · exact h z hz
  · exact hx
theorem push_room {cap n : Int} {ws : List Int} {t b : Nat} {l : List Int} (h : RepD cap ws t b l) (hn : 0 ≤ n) (hf : l.length < rm cap) (hb2 : b < 100000) : ∃ ws', iterD 1 7 (⟨0, cap, n, false, false, 0, 0, 0, 0⟩, ws) = (⟨0, cap, n, true, true, 4, b, t, 0⟩, ws') ∧ RepD cap ws' t (b + 1) (l ++ [n]) := by
  have h1 := h.hb
  have h2 := h.hr
  have hr := rm_ok cap
  have s1 : dqStep 1 listOps ⟨0, cap, n, false, false, 0, 0, 0, 0⟩ ws = (⟨0, cap, n, false, false, 1, b, 0, 0⟩, ws, false) := by
    unfold dqStep pushStep
    simp [h.ld1]
  have s2 : dqStep 1 listOps ⟨0, cap, n, false, false, 1, b, 0, 0⟩ ws = (⟨0, cap, n, false, false, 2, b, t, 0⟩, ws, false) := by
    have e : wr (wu ((b : Int) - (t : Int))) = ((l.length : Nat) : Int) := by
      rw [show ((b : Int) - (t : Int)) = ((l.length : Nat) : Int) by omega, wu_small (by omega), wr_small (by omega)]
    unfold dqStep pushStep
    simp [h.ld0, e, show ¬ rm cap ≤ l.length by omega]
  have s3 : dqStep 1 listOps ⟨0, cap, n, false, false, 2, b, t, 0⟩ ws = (⟨0, cap, n, false, false, 3, b, t, 0⟩, ws.set (2 + b % rm cap) n, false) := by
    unfold dqStep pushStep
    simp [place_at (cap := cap) (i := b) (by omega)]
    exact store_hit _
  have s4 : dqStep 1 listOps ⟨0, cap, n, false, false, 3, b, t, 0⟩ (ws.set (2 + b % rm cap) n) = (⟨0, cap, n, true, true, 4, b, t, 0⟩, (ws.set (2 + b % rm cap) n).set 1 ((b + 1 : Nat) : Int), true) := by
    have e : wu ((b : Int) + 1) = ((b + 1 : Nat) : Int) := wu_small (n := b + 1) (by omega)
    unfold dqStep pushStep
    simp [bot0, e]
    exact store_hit (a := 1) _
  refine ⟨_, by rw [iter_next s1, iter_next s2, iter_next s3, iter_next s4, iter_end rfl], ?_⟩
  have hm : b % rm cap < rm cap := Nat.mod_lt _ (by omega)
  have hlen := h.len
  refine ⟨by simp [h.len], ?_, ?_, h.ht, by simp; omega, by simp; omega, by omega, fun k hk => ?_, ?_⟩
  · rw [getD_setI, if_neg (by omega), getD_setI, if_neg (by omega)]; exact h.top
  · rw [getD_setI, if_pos ⟨rfl, by simp; omega⟩]
  · have hk : k < (l ++ [n]).length := hk
    simp only [List.length_append, List.length_singleton] at hk
    have hkm : (t + k) % rm cap < rm cap := Nat.mod_lt _ (by omega)
    rw [getD_setI, if_neg (by omega), getD_setI]
    by_cases hkl : k < l.length
    · rw [if_neg (fun h5 => mod_ne (a := t + k) (c := b) (m := rm cap) (by omega) (by omega) (by omega)), List.getElem_append_left hkl]
      exact h.ring k hkl
    · have e : t + k = b := by omega
      rw [e, if_pos ⟨rfl, by omega⟩]
      have e2 : k = l.length := by omega
      subst e2
      simp
  · exact set_nn (set_nn h.nn _ hn) _ (by omega)
theorem steal_none {cap : Int} {ws : List Int} {t b : Nat} (h : RepD cap ws t b []) : iterD 3 7 (⟨0, cap, 0, false, false, 0, 0, 0, 0⟩, ws) = (⟨0, cap, 0, false, true, 2, b, t, 0⟩, ws) := by
  have h1 : t + 0 = b := h.hb
  have h3 := h.big
  have s1 : dqStep 3 listOps ⟨0, cap, 0, false, false, 0, 0, 0, 0⟩ ws = (⟨0, cap, 0, false, false, 1, 0, t, 0⟩, ws, false) := by
    unfold dqStep stealStep
    simp [h.ld0]
  have s2 : dqStep 3 listOps ⟨0, cap, 0, false, false, 1, 0, t, 0⟩ ws = (⟨0, cap, 0, false, true, 2, b, t, 0⟩, ws, true) := by
    unfold dqStep stealStep
    simp [h.ld1, wr_small (n := b) (by omega), wr_small (n := t) (by omega), show b ≤ t by omega]
  rw [iter_next s1, iter_next s2, iter_end rfl]
theorem steal_some {cap : Int} {ws : List Int} {t b : Nat} {x : Int} {l : List Int} (h : RepD cap ws t b (x :: l)) : ∃ ws', iterD 3 7 (⟨0, cap, 0, false, false, 0, 0, 0, 0⟩, ws) = (⟨0, cap, x, true, true, 4, b, t, x⟩, ws') ∧ RepD cap ws' (t + 1) b l := by
  have h1 : t + (l.length + 1) = b := h.hb
  have h2 : l.length + 1 ≤ rm cap := h.hr
  have h3 := h.big
  have hx : ws.getD (2 + t % rm cap) 0 = x := h.ring 0 (Nat.succ_pos _)
  have hlen := h.len
  have s1 : dqStep 3 listOps ⟨0, cap, 0, false, false, 0, 0, 0, 0⟩ ws = (⟨0, cap, 0, false, false, 1, 0, t, 0⟩, ws, false) := by
    unfold dqStep stealStep
    simp [h.ld0]
  have s2 : dqStep 3 listOps ⟨0, cap, 0, false, false, 1, 0, t, 0⟩ ws = (⟨0, cap, 0, false, false, 2, b, t, 0⟩, ws, false) := by
    unfold dqStep stealStep
    simp [h.ld1, wr_small (n := b) (by omega), wr_small (n := t) (by omega), show ¬ b ≤ t by omega]
  have s3 : dqStep 3 listOps ⟨0, cap, 0, false, false, 2, b, t, 0⟩ ws = (⟨0, cap, 0, false, false, 3, b, t, x⟩, ws, false) := by
    have e : mLoad ws (placeD 0 cap t) = x := by rw [place_at (by omega)]; exact (load_hit (a := 2 + t % rm cap)).trans hx
    unfold dqStep stealStep
    simp [e]
  have hc : mCas ws 0 t = true := by
    unfold mCas
    rw [h.ld0]
    rw [mHas_true (by omega) (by omega)]; simp
  have s4 : dqStep 3 listOps ⟨0, cap, 0, false, false, 3, b, t, x⟩ ws = (⟨0, cap, x, true, true, 4, b, t, x⟩, ws.set 0 ((t + 1 : Nat) : Int), true) := by
    have e : wu ((t : Int) + 1) = ((t + 1 : Nat) : Int) := wu_small (n := t + 1) (by omega)
    unfold dqStep stealStep
    simp [hc, e, mCasTo]
    exact store_hit (a := 0) _
  refine ⟨_, by rw [iter_next s1, iter_next s2, iter_next s3, iter_next s4, iter_end rfl], ?_⟩
  refine ⟨by simp [h.len], ?_, ?_, by omega, by omega, by omega, h3, fun k hk => ?_, ?_⟩
  · rw [getD_setI, if_pos ⟨rfl, by omega⟩]
  · rw [getD_setI, if_neg (by omega)]; exact h.bot
  · rw [getD_setI, if_neg (by omega)]
    have := h.ring (k + 1) (Nat.succ_lt_succ hk)
    rw [show t + 1 + k = t + (k + 1) by omega]
    exact this
  · exact set_nn h.nn _ (by omega)
theorem pop_none {cap : Int} {ws : List Int} {t b : Nat} (h : RepD cap ws t b []) : ∃ ws', iterD 2 7 (⟨0, cap, 0, false, false, 0, 0, 0, 0⟩, ws) = (⟨0, cap, 0, false, true, 4, ((b - 1 : Nat) : Int), t, 0⟩, ws') ∧ RepD cap ws' t b [] := by
  have h1 : t + 0 = b := h.hb
  have h3 := h.big
  have ht := h.ht
  have hr := rm_ok cap
  have hlen := h.len
  have s1 : dqStep 2 listOps ⟨0, cap, 0, false, false, 0, 0, 0, 0⟩ ws = (⟨0, cap, 0, false, false, 1, ((b - 1 : Nat) : Int), 0, 0⟩, ws, false) := by
    have e : wu ((b : Int) - 1) = ((b - 1 : Nat) : Int) := by rw [show (b : Int) - 1 = ((b - 1 : Nat) : Int) by omega]; exact wu_small (by omega)
    unfold dqStep popStep
    simp [h.ld1, e]
  have s2 : dqStep 2 listOps ⟨0, cap, 0, false, false, 1, ((b - 1 : Nat) : Int), 0, 0⟩ ws = (⟨0, cap, 0, false, false, 2, ((b - 1 : Nat) : Int), 0, 0⟩, ws.set 1 ((b - 1 : Nat) : Int), false) := by
    unfold dqStep popStep
    simp [bot0]
    exact store_hit (a := 1) _
  have l0 : mLoad (ws.set 1 ((b - 1 : Nat) : Int)) 0 = t := (load_hit (a := 0)).trans (by rw [getD_setI, if_neg (by omega)]; exact h.top)
  have s3 : dqStep 2 listOps ⟨0, cap, 0, false, false, 2, ((b - 1 : Nat) : Int), 0, 0⟩ (ws.set 1 ((b - 1 : Nat) : Int)) = (⟨0, cap, 0, false, false, 3, ((b - 1 : Nat) : Int), t, 0⟩, ws.set 1 ((b - 1 : Nat) : Int), false) := by
    unfold dqStep popStep
    simp [l0]
  have s4 : dqStep 2 listOps ⟨0, cap, 0, false, false, 3, ((b - 1 : Nat) : Int), t, 0⟩ (ws.set 1 ((b - 1 : Nat) : Int)) = (⟨0, cap, 0, false, true, 4, ((b - 1 : Nat) : Int), t, 0⟩, (ws.set 1 ((b - 1 : Nat) : Int)).set 1 ((b : Nat) : Int), true) := by
    have e : wu (((b - 1 : Nat) : Int) + 1) = (b : Int) := by rw [show ((b - 1 : Nat) : Int) + 1 = ((b : Nat) : Int) by omega]; exact wu_small (by omega)
    unfold dqStep popStep
    simp [bot0, e, wr_small (n := b - 1) (by omega), wr_small (n := t) (by omega), show b - 1 < t by omega]
    exact (store_hit (a := 1) _).trans (by simp)
  refine ⟨_, by rw [iter_next s1, iter_next s2, iter_next s3, iter_next s4, iter_end rfl], ?_⟩
  refine ⟨by simp [h.len], ?_, ?_, ht, by simp; omega, by simp, h3, (fun k hk => by cases hk), set_nn (set_nn h.nn _ (by omega)) _ (by omega)⟩
  · rw [getD_setI, if_neg (by omega), getD_setI, if_neg (by omega)]; exact h.top
  · rw [getD_setI, if_pos ⟨rfl, by simp; omega⟩]
theorem pop_more {cap x : Int} {ws : List Int} {t b : Nat} {l : List Int} (h : RepD cap ws t b (l ++ [x])) (h0 : 0 < l.length) : ∃ ws', iterD 2 7 (⟨0, cap, 0, false, false, 0, 0, 0, 0⟩, ws) = (⟨0, cap, x, true, true, 4, ((b - 1 : Nat) : Int), t, x⟩, ws') ∧ RepD cap ws' t (b - 1) l := by
  have h1 : t + (l ++ [x]).length = b := h.hb
  have h2 : (l ++ [x]).length ≤ rm cap := h.hr
  simp only [List.length_append, List.length_singleton] at h1 h2
  have h3 := h.big
  have ht := h.ht
  have hr := rm_ok cap
  have hlen := h.len
  have hx : ws.getD (2 + (b - 1) % rm cap) 0 = x := by
    have := h.ring l.length (by simp)
    rw [show t + l.length = b - 1 by omega] at this
    rw [this]; simp
  have s1 : dqStep 2 listOps ⟨0, cap, 0, false, false, 0, 0, 0, 0⟩ ws = (⟨0, cap, 0, false, false, 1, ((b - 1 : Nat) : Int), 0, 0⟩, ws, false) := by
    have e : wu ((b : Int) - 1) = ((b - 1 : Nat) : Int) := by rw [show (b : Int) - 1 = ((b - 1 : Nat) : Int) by omega]; exact wu_small (by omega)
    unfold dqStep popStep
    simp [h.ld1, e]
  have s2 : dqStep 2 listOps ⟨0, cap, 0, false, false, 1, ((b - 1 : Nat) : Int), 0, 0⟩ ws = (⟨0, cap, 0, false, false, 2, ((b - 1 : Nat) : Int), 0, 0⟩, ws.set 1 ((b - 1 : Nat) : Int), false) := by
    unfold dqStep popStep
    simp [bot0]
    exact store_hit (a := 1) _
  have l0 : mLoad (ws.set 1 ((b - 1 : Nat) : Int)) 0 = t := (load_hit (a := 0)).trans (by rw [getD_setI, if_neg (by omega)]; exact h.top)
  have lx : mLoad (ws.set 1 ((b - 1 : Nat) : Int)) (placeD 0 cap ((b - 1 : Nat) : Int)) = x := by
    rw [place_at (by omega)]
    exact (load_hit (a := 2 + (b - 1) % rm cap)).trans (by rw [getD_setI, if_neg (by omega)]; exact hx)
  have s3 : dqStep 2 listOps ⟨0, cap, 0, false, false, 2, ((b - 1 : Nat) : Int), 0, 0⟩ (ws.set 1 ((b - 1 : Nat) : Int)) = (⟨0, cap, 0, false, false, 3, ((b - 1 : Nat) : Int), t, 0⟩, ws.set 1 ((b - 1 : Nat) : Int), false) := by
    unfold dqStep popStep
    simp [l0]
  have s4 : dqStep 2 listOps ⟨0, cap, 0, false, false, 3, ((b - 1 : Nat) : Int), t, 0⟩ (ws.set 1 ((b - 1 : Nat) : Int)) = (⟨0, cap, x, true, true, 4, ((b - 1 : Nat) : Int), t, x⟩, ws.set 1 ((b - 1 : Nat) : Int), true) := by
    unfold dqStep popStep
    simp [wr_small (n := b - 1) (by omega), wr_small (n := t) (by omega), show ¬ b - 1 < t by omega, show t < b - 1 by omega, lx]
  refine ⟨_, by rw [iter_next s1, iter_next s2, iter_next s3, iter_next s4, iter_end rfl], ?_⟩
  refine ⟨by simp [h.len], ?_, ?_, ht, by omega, by omega, by omega, fun k hk => ?_, set_nn h.nn _ (by omega)⟩
  · rw [getD_setI, if_neg (by omega)]; exact h.top
  · rw [getD_setI, if_pos ⟨rfl, by omega⟩]
  · rw [getD_setI, if_neg (by omega)]
    have := h.ring k (by simp; omega)
    rw [this, List.getElem_append_left hk]
theorem pop_last {cap x : Int} {ws : List Int} {t b : Nat} (h : RepD cap ws t b [x]) : ∃ ws', iterD 2 7 (⟨0, cap, 0, false, false, 0, 0, 0, 0⟩, ws) = (⟨0, cap, x, true, true, 6, ((b - 1 : Nat) : Int), t, x⟩, ws') ∧ RepD cap ws' (t + 1) b [] := by
  have h1 : t + 1 = b := h.hb
  have h3 := h.big
  have ht := h.ht
  have hr := rm_ok cap
  have hlen := h.len
  have hx : ws.getD (2 + (b - 1) % rm cap) 0 = x := by
    have := h.ring 0 (Nat.succ_pos _)
    rw [show t + 0 = b - 1 by omega] at this
    exact this
  have s1 : dqStep 2 listOps ⟨0, cap, 0, false, false, 0, 0, 0, 0⟩ ws = (⟨0, cap, 0, false, false, 1, ((b - 1 : Nat) : Int), 0, 0⟩, ws, false) := by
    have e : wu ((b : Int) - 1) = ((b - 1 : Nat) : Int) := by rw [show (b : Int) - 1 = ((b - 1 : Nat) : Int) by omega]; exact wu_small (by omega)
    unfold dqStep popStep
    simp [h.ld1, e]
  have s2 : dqStep 2 listOps ⟨0, cap, 0, false, false, 1, ((b - 1 : Nat) : Int), 0, 0⟩ ws = (⟨0, cap, 0, false, false, 2, ((b - 1 : Nat) : Int), 0, 0⟩, ws.set 1 ((b - 1 : Nat) : Int), false) := by
    unfold dqStep popStep
    simp [bot0]
    exact store_hit (a := 1) _
  have l0 : mLoad (ws.set 1 ((b - 1 : Nat) : Int)) 0 = t := (load_hit (a := 0)).trans (by rw [getD_setI, if_neg (by omega)]; exact h.top)
  have lx : mLoad (ws.set 1 ((b - 1 : Nat) : Int)) (placeD 0 cap ((b - 1 : Nat) : Int)) = x := by
    rw [place_at (by omega)]
    exact (load_hit (a := 2 + (b - 1) % rm cap)).trans (by rw [getD_setI, if_neg (by omega)]; exact hx)
  have s3 : dqStep 2 listOps ⟨0, cap, 0, false, false, 2, ((b - 1 : Nat) : Int), 0, 0⟩ (ws.set 1 ((b - 1 : Nat) : Int)) = (⟨0, cap, 0, false, false, 3, ((b - 1 : Nat) : Int), t, 0⟩, ws.set 1 ((b - 1 : Nat) : Int), false) := by
    unfold dqStep popStep
    simp [l0]
  have s4 : dqStep 2 listOps ⟨0, cap, 0, false, false, 3, ((b - 1 : Nat) : Int), t, 0⟩ (ws.set 1 ((b - 1 : Nat) : Int)) = (⟨0, cap, 0, false, false, 4, ((b - 1 : Nat) : Int), t, x⟩, ws.set 1 ((b - 1 : Nat) : Int), false) := by
    unfold dqStep popStep
    simp [wr_small (n := b - 1) (by omega), wr_small (n := t) (by omega), show ¬ b - 1 < t by omega, show ¬ t < b - 1 by omega, lx]
  have hc : mCas (ws.set 1 ((b - 1 : Nat) : Int)) 0 t = true := by
    unfold mCas
    rw [l0, mHas_true (by omega) (by simp; omega)]; simp
  have s5 : dqStep 2 listOps ⟨0, cap, 0, false, false, 4, ((b - 1 : Nat) : Int), t, x⟩ (ws.set 1 ((b - 1 : Nat) : Int)) = (⟨0, cap, 0, true, false, 5, ((b - 1 : Nat) : Int), t, x⟩, (ws.set 1 ((b - 1 : Nat) : Int)).set 0 ((t + 1 : Nat) : Int), false) := by
    have e : wu ((t : Int) + 1) = ((t + 1 : Nat) : Int) := wu_small (n := t + 1) (by omega)
    unfold dqStep popStep
    simp [hc, e, mCasTo]
    exact store_hit (a := 0) _
  have s6 : dqStep 2 listOps ⟨0, cap, 0, true, false, 5, ((b - 1 : Nat) : Int), t, x⟩ ((ws.set 1 ((b - 1 : Nat) : Int)).set 0 ((t + 1 : Nat) : Int)) = (⟨0, cap, x, true, true, 6, ((b - 1 : Nat) : Int), t, x⟩, mStore ((ws.set 1 ((b - 1 : Nat) : Int)).set 0 ((t + 1 : Nat) : Int)) 1 ((b : Nat) : Int), true) := by
    have e : wu (((b - 1 : Nat) : Int) + 1) = (b : Int) := by rw [show ((b - 1 : Nat) : Int) + 1 = ((b : Nat) : Int) by omega]; exact wu_small (by omega)
    unfold dqStep popStep
    simp [bot0, e]
  refine ⟨_, by rw [iter_next s1, iter_next s2, iter_next s3, iter_next s4, iter_next s5, iter_next s6, iter_end rfl], ?_⟩
  rw [show mStore ((ws.set 1 ((b - 1 : Nat) : Int)).set 0 ((t + 1 : Nat) : Int)) 1 ((b : Nat) : Int) = ((ws.set 1 ((b - 1 : Nat) : Int)).set 0 ((t + 1 : Nat) : Int)).set 1 ((b : Nat) : Int) from store_hit (a := 1) _]
  refine ⟨by simp [h.len], ?_, ?_, by omega, by simp; omega, by simp, h3, (fun k hk => by cases hk), set_nn (set_nn (set_nn h.nn _ (by omega)) _ (by omega)) _ (by omega)⟩
  · rw [getD_setI, if_neg (by omega), getD_setI, if_pos ⟨rfl, by simp; omega⟩]
  · rw [getD_setI, if_pos ⟨rfl, by simp; omega⟩]
end Go.Proofs.Ytiihcgmnmcdcfaa
