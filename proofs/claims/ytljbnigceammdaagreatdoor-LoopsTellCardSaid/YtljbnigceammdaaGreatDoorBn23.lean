/-
  Tg: what the claim uses of them.
-/
import Derived.Test.YtljbnigceammdaaGreatDoorBn22
namespace Go.Proofs.YtljbnigceammdaaGreatDoor
open Go.RowKit
theorem word_ext {x y : Int} (hx : W64 x) (hy : W64 y) (h : ∀ k, k < 64 → x.toNat.testBit k = y.toNat.testBit k) : x = y := by
  have e : x.toNat = y.toNat := by
    refine Nat.eq_of_testBit_eq fun k => ?_
    rcases Nat.lt_or_ge k 64 with hk | hk
    · exact h k hk
    · rw [Nat.testBit_lt_two_pow (Nat.lt_of_lt_of_le (lt_w hx) (Nat.pow_le_pow_right (by decide : 0 < 2) hk)), Nat.testBit_lt_two_pow (Nat.lt_of_lt_of_le (lt_w hy) (Nat.pow_le_pow_right (by decide : 0 < 2) hk))]
  have h1 := toNat_w hx
  have h2 := toNat_w hy
  omega
/-- A row's bit. -/
def bitW (a : List Int) (i k : Nat) : Bool := (wd a i).toNat.testBit k
theorem row_ext {a b : List Int} (ha : A64 a) (hb : A64 b) (hl : a.length = b.length) (h : ∀ i k, i < a.length → k < 64 → bitW a i k = bitW b i k) : a = b :=
  wd_ext hl fun i hi => word_ext (wd_64 ha i) (wd_64 hb i) fun k hk => h i k hi hk
theorem zero_bit (k : Nat) : (0 : Int).toNat.testBit k = false := Nat.zero_testBit k
theorem or_64 (a b : List Int) : A64 (bothW orW a b) := A64_map fun _ _ => orW_64 _ _
theorem or_bit {a b : List Int} (ha : A64 a) (hb : A64 b) (i k : Nat) : bitW (bothW orW a b) i k = (bitW a i k || bitW b i k) := by
  unfold bitW
  rcases Nat.lt_or_ge i (max a.length b.length) with h | h
  · rw [bothW_wd _ _ _ h, orW_bit (wd_64 ha i) (wd_64 hb i)]
  · rw [wd_none (by rw [bothW_length]; exact h), wd_none (a := a) (by omega), wd_none (a := b) (by omega), zero_bit]; rfl
theorem an_bit {a b : List Int} (ha : A64 a) (hb : A64 b) (i : Nat) {k : Nat} (hk : k < 64) : bitW (bothW anW a b) i k = (bitW a i k && !bitW b i k) := by
  unfold bitW
  rcases Nat.lt_or_ge i (max a.length b.length) with h | h
  · rw [bothW_wd _ _ _ h, anW_bit (wd_64 ha i) (wd_64 hb i) hk]
  · rw [wd_none (by rw [bothW_length]; exact h), wd_none (a := a) (by omega), zero_bit]; rfl
theorem fits_len {a : List Int} {w : Int} (h : fitsW a w = true) : a.length = sizeW w := by
  unfold fitsW at h; rw [Bool.and_eq_true] at h; exact of_decide_eq_true h.1
theorem fits_bit {a : List Int} {w : Int} (ha : A64 a) (hl : a.length = sizeW w) : fitsW a w = true ↔ ∀ i k, i < a.length → k < 64 → cutW w ≤ 64 * i + k → bitW a i k = false := by
  rw [fits_none ha hl]
  unfold hasB bitW
  constructor
  · intro h i k hi hk hc
    have := h (64 * i + k) hc (by omega)
    rw [show (64 * i + k) / 64 = i by omega, show (64 * i + k) % 64 = k by omega] at this
    exact this
  · intro h n h1 h2
    exact h (n / 64) (n % 64) (by omega) (by omega) (by omega)
theorem or_fits {a b : List Int} {w : Int} (ha : A64 a) (hb : A64 b) (fa : fitsW a w = true) (fb : fitsW b w = true) : fitsW (bothW orW a b) w = true := by
  have la := fits_len fa
  have lb := fits_len fb
  have hl : (bothW orW a b).length = sizeW w := by rw [bothW_length]; omega
  rw [fits_bit (or_64 _ _) hl]
  intro i k hi hk hc
  rw [or_bit ha hb, (fits_bit ha la).1 fa i k (by omega) hk hc, (fits_bit hb lb).1 fb i k (by omega) hk hc]; rfl
theorem an_fits {a b : List Int} {w : Int} (ha : A64 a) (hb : A64 b) (fa : fitsW a w = true) (lb : b.length ≤ sizeW w) : fitsW (bothW anW a b) w = true := by
  have la := fits_len fa
  have hl : (bothW anW a b).length = sizeW w := by rw [bothW_length]; omega
  rw [fits_bit (minus_64 _ _) hl]
  intro i k hi hk hc
  rw [an_bit ha hb i hk, (fits_bit ha la).1 fa i k (by omega) hk hc]; rfl
/-- A value of words, without a zero. -/
def NZ (a : List Int) : Prop := ∀ z ∈ a, normW z = z ∧ z ≠ 0
theorem wd_mem {a : List Int} {i : Nat} (h : i < a.length) : wd a i ∈ a := by rw [wd_get a h]; exact List.getElem_mem h
theorem ofP_norm (x y : Int) : normW (ofP x y) = ofP x y ∧ ofP x y ≠ 0 := ⟨norm_num (ofP_ok x y), by have := ofP_lo x y; omega⟩
theorem valR_nz {a : List Int} (h : NZ a) {r : RefT} (hr : refOk a.length r = true) : normW (valR a r) = valR a r ∧ valR a r ≠ 0 := by
  unfold valR
  split
  · exact ofP_norm _ _
  · rename_i h1
    have hv := refOk_var hr h1
    exact h _ (wd_mem (by omega))
theorem norm_one : normW 1 = 1 := rfl
theorem resP_nz (op a b : Int) : normW (resP op a b) = resP op a b ∧ resP op a b ≠ 0 := by
  unfold resP
  split
  · exact ofP_norm _ _
  · exact ⟨rfl, by decide⟩
theorem opW2_nz (op : Int) {a b : Int} (ha : normW a ≠ 0) (hb : normW b ≠ 0) : normW (opW2 op a b) = opW2 op a b ∧ opW2 op a b ≠ 0 := by
  unfold opW2
  rw [if_neg (by omega)]
  split
  · exact ⟨rfl, by decide⟩
  · exact resP_nz _ _ _
theorem opK_nz (op : Int) {a b : Int} (ha : normW a ≠ 0) (hb : normW b ≠ 0) : normW (opK op a b) = opK op a b ∧ opK op a b ≠ 0 := by
  unfold opK
  split
  · exact opW2_nz _ ha (by rw [norm_two]; decide)
  · exact opW2_nz _ ha hb
theorem newR_nz {a : List Int} (h : NZ a) {c : CodeT} (hc : codeR a.length c = true) : normW (newR a c) = newR a c ∧ newR a c ≠ 0 := by
  unfold newR
  split
  · exact ⟨rfl, by decide⟩
  · rename_i h1
    have ho := (codeR_op hc).2 h1
    have h1 := valR_nz h ho.1
    have h2 := valR_nz h ho.2
    exact opK_nz _ (by rw [h1.1]; exact h1.2) (by rw [h2.1]; exact h2.2)
theorem stepR_nz {a : List Int} (h : NZ a) {c : CodeT} (hc : codeR a.length c = true) : NZ (stepR a c) := fun z hz => by
  rcases List.mem_or_eq_of_mem_set hz with h' | rfl
  · exact h z h'
  · exact newR_nz h hc
theorem doR_cons (a : List Int) (c : CodeT) (l : List CodeT) : doR a (c :: l) = doR (stepR a c) l := rfl
theorem all_cons {α : Type} {p : α → Bool} {c : α} {l : List α} (h : (c :: l).all p = true) : p c = true ∧ l.all p = true := by
  rw [List.all_cons, Bool.and_eq_true] at h; exact h
theorem doR_nz : ∀ {l : List CodeT} {a : List Int}, NZ a → l.all (codeR a.length) = true → NZ (doR a l)
  | [], _, h, _ => h
  | c :: l, a, h, hl => by
    have hl := all_cons hl
    rw [doR_cons]
    exact doR_nz (stepR_nz h hl.1) (by rw [stepR_length]; exact hl.2)
/-- As much, or anything. -/
def upW (a b : List Int) : Prop := a.length = b.length ∧ ∀ i, i < a.length → wd a i = wd b i ∨ wd b i = 1
theorem valR_up {a b : List Int} (h : upW a b) {r : RefT} (hr : refOk a.length r = true) : valR a r = valR b r ∨ valR b r = 1 := by
  unfold valR
  by_cases h1 : r.1 = -1
  · rw [if_pos h1, if_pos h1]; exact .inl rfl
  · have hv := refOk_var hr h1
    rw [if_neg h1, if_neg h1]
    exact h.2 _ (by omega)
theorem opW2_up (op : Int) {a b a' b' : Int} (ha' : normW a' ≠ 0) (hb' : normW b' ≠ 0) (h1 : a = a' ∨ a' = 1) (h2 : b = b' ∨ b' = 1) : opW2 op a b = opW2 op a' b' ∨ opW2 op a' b' = 1 := by
  by_cases c : normW a' = 1 ∨ normW b' = 1
  · exact .inr (by unfold opW2; rw [if_neg (by omega), if_pos c])
  · rcases h1 with rfl | rfl
    · rcases h2 with rfl | rfl
      · exact .inl rfl
      · exact absurd (Or.inr norm_one) c
    · exact absurd (Or.inl norm_one) c
theorem opK_up (op : Int) {a b a' b' : Int} (ha' : normW a' ≠ 0) (hb' : normW b' ≠ 0) (h1 : a = a' ∨ a' = 1) (h2 : b = b' ∨ b' = 1) : opK op a b = opK op a' b' ∨ opK op a' b' = 1 := by
  unfold opK
  split
  · exact opW2_up op ha' (by rw [norm_two]; decide) h1 (.inl rfl)
  · exact opW2_up op ha' hb' h1 h2
theorem newR_up {a b : List Int} (hb : NZ b) (h : upW a b) {c : CodeT} (hc : codeR a.length c = true) : newR a c = newR b c ∨ newR b c = 1 := by
  unfold newR
  by_cases h1 : c.2.1 = -1
  · rw [if_pos h1, if_pos h1]; exact .inl rfl
  · have ho := (codeR_op hc).2 h1
    rw [if_neg h1, if_neg h1]
    have hl : (a.length : Int) = b.length := by rw [h.1]
    have n1 := valR_nz hb (hl ▸ ho.1)
    have n2 := valR_nz hb (hl ▸ ho.2)
    exact opK_up _ (by rw [n1.1]; exact n1.2) (by rw [n2.1]; exact n2.2) (valR_up h ho.1) (valR_up h ho.2)
theorem wd_set {a : List Int} {i j : Nat} (h : i < a.length) (z : Int) : wd (a.set i z) j = if i = j then z else wd a j := by
  unfold wd
  split
  · rename_i e; subst e; rw [List.getElem?_set_self h]; rfl
  · rename_i e; rw [List.getElem?_set_ne e]
theorem stepR_up {a b : List Int} (hb : NZ b) (h : upW a b) {c : CodeT} (hc : codeR a.length c = true) : upW (stepR a c) (stepR b c) := by
  have hv := codeR_var hc
  have hl := h.1
  refine ⟨by rw [stepR_length, stepR_length]; exact h.1, fun i hi => ?_⟩
  rw [stepR_length] at hi
  unfold stepR
  rw [wd_set (by omega), wd_set (by omega)]
  split
  · exact newR_up hb h hc
  · exact h.2 i hi
theorem doR_up : ∀ {l : List CodeT} {a b : List Int}, NZ b → upW a b → l.all (codeR a.length) = true → upW (doR a l) (doR b l)
  | [], _, _, _, h, _ => h
  | c :: l, a, b, hb, h, hl => by
    have hl := all_cons hl
    rw [doR_cons, doR_cons]
    exact doR_up (stepR_nz hb (h.1 ▸ hl.1)) (stepR_up hb h hl.1) (by rw [stepR_length]; exact hl.2)
theorem checkT_ok {what w : Int} {g k : List Int} {l : List CodeT} (hi : is12 what w = true) (ht : trOk what w g k l = true) : checkT what w g k l = 0 := (chk0 hi ht).symm
theorem tr_set {what w : Int} {g k : List Int} {l : List CodeT} (h : checkT what w g k l = 0) (h3 : ¬ what = 3) : fitsW g w = true ∧ fitsW k w = true ∧ l = [] := by
  have h := (chk_zero h).2
  rw [trS h3, Bool.and_eq_true, Bool.and_eq_true] at h
  exact ⟨h.1.2, h.2, List.length_eq_zero_iff.1 (of_decide_eq_true h.1.1)⟩
theorem tr_flat {what w : Int} {g k : List Int} {l : List CodeT} (h : checkT what w g k l = 0) (h3 : what = 3) : g = [] ∧ k = [] ∧ l.all (codeR w) = true := by
  have h := (chk_zero h).2
  rw [trN h3, Bool.and_eq_true] at h
  have h0 := of_decide_eq_true h.1
  exact ⟨List.length_eq_zero_iff.1 (by omega), List.length_eq_zero_iff.1 (by omega), h.2⟩
theorem words_set {what w : Int} (hi : is12 what w = true) (h3 : ¬ what = 3) : wordsL what w = sizeW w := by unfold wordsL; rw [if_pos hi, if_neg h3]
theorem words_flat {what w : Int} (hi : is12 what w = true) (h3 : what = 3) : wordsL what w = w := by unfold wordsL; rw [if_pos hi, if_pos h3]
theorem val_is {what w : Int} {a : List Int} (h : valL what w a = true) : is12 what w = true := by unfold valL at h; rw [Bool.and_eq_true, Bool.and_eq_true] at h; exact h.1.1
theorem val_set {what w : Int} {a : List Int} (hi : is12 what w = true) (h3 : ¬ what = 3) : valL what w a = true ↔ fitsW a w = true := by
  unfold valL
  rw [if_neg h3, hi, Bool.true_and, Bool.and_eq_true, words_set hi h3]
  refine ⟨fun h => h.2, fun h => ⟨decide_eq_true ?_, h⟩⟩
  rw [fits_len h]
theorem val_flat {what w : Int} {a : List Int} (hi : is12 what w = true) (h3 : what = 3) : valL what w a = true ↔ (a.length : Int) = w ∧ okW a = true := by
  unfold valL
  rw [if_pos h3, hi, Bool.true_and, Bool.and_eq_true, words_flat hi h3, decide_eq_true_eq]
theorem okW_iff {a : List Int} : okW a = true ↔ ∀ z ∈ a, normW z = z := by unfold okW; rw [List.all_eq_true]; exact forall₂_congr fun _ _ => decide_eq_true_iff
theorem any_zero {a : List Int} : (a.any fun z => decide (0 = z)) = true ↔ 0 ∈ a := by
  rw [List.any_eq_true]
  exact ⟨fun ⟨z, hz, h⟩ => (of_decide_eq_true h) ▸ hz, fun h => ⟨0, h, decide_eq_true rfl⟩⟩
theorem nz_of {a : List Int} (h : okW a = true) (h0 : (a.any fun z => decide (0 = z)) = false) : NZ a := fun z hz => ⟨okW_iff.1 h z hz, fun e => by subst e; rw [any_zero.2 hz] at h0; exact Bool.noConfusion h0⟩
theorem nz_no {a : List Int} (h : NZ a) : (a.any fun z => decide (0 = z)) = false := by
  cases hb : a.any fun z => decide (0 = z) with
  | false => rfl
  | true => exact absurd rfl (h 0 (any_zero.1 hb)).2
theorem okW_zero (n : Nat) : okW (List.replicate n 0) = true := okW_iff.2 fun z hz => by rw [(List.mem_replicate.1 hz).2]; rfl
theorem rep_64 (n : Nat) : A64 (List.replicate n (0 : Int)) := fun z hz => by rw [(List.mem_replicate.1 hz).2]; exact ⟨by omega, by omega⟩
theorem applyR_64 {what : Int} {g k : List Int} {l : List CodeT} {a : List Int} (ha : A64 a) : A64 (applyR what g k l a) := by
  unfold applyR
  split
  · split
    · exact rep_64 _
    · exact doR_64 ha l
  · exact or_64 _ _
theorem applyR_length {what w : Int} {g k : List Int} {l : List CodeT} {a : List Int} (hc : checkT what w g k l = 0) (hv : valL what w a = true) : (applyR what g k l a).length = a.length := by
  unfold applyR
  split
  · split
    · exact List.length_replicate
    · exact doR_length _ _
  · rename_i h3
    have hf := tr_set hc h3
    have h1 := fits_len hf.1
    have h2 := fits_len hf.2.1
    have h3 := fits_len ((val_set (val_is hv) h3).1 hv)
    rw [bothW_length, bothW_length]; omega
/-- A transfer makes values of values. -/
theorem apply_val {what w : Int} {g k : List Int} {l : List CodeT} {a : List Int} (hg : A64 g) (hk : A64 k) (ha : A64 a) (hc : checkT what w g k l = 0) (hv : valL what w a = true) : valL what w (applyR what g k l a) = true := by
  have hi := val_is hv
  by_cases h3 : what = 3
  · have hv' := (val_flat hi h3).1 hv
    rw [val_flat hi h3, applyR_length hc hv]
    refine ⟨hv'.1, ?_⟩
    have hl := (tr_flat hc h3).2.2
    cases hz : a.any fun z => decide (0 = z) with
    | true => rw [applyR_zero h3 hz]; exact okW_zero _
    | false =>
      rw [applyR_do h3 hz]
      exact okW_iff.2 fun z hm => (doR_nz (nz_of hv'.2 hz) (by rw [hv'.1]; exact hl) z hm).1
  · have hf := tr_set hc h3
    have hv' := (val_set hi h3).1 hv
    rw [val_set hi h3, applyR_set h3]
    exact or_fits (minus_64 _ _) hg (an_fits ha hk hv' (Nat.le_of_eq (fits_len hf.2.1))) hf.1
/-- What is below. -/
def leL (a b : List Int) : Prop := a.length = b.length ∧ ∀ i, i < a.length → wd a i = wd b i ∨ wd a i = 0 ∨ wd b i = 1
theorem join_wd {what : Int} {a b : List Int} {i : Nat} (h : i < a.length) (h2 : i < b.length) : wd (join12 what a b) i = wordW what (wd a i) (wd b i) := by
  have hj : i < (join12 what a b).length := by unfold join12; rw [List.length_zipWith]; omega
  rw [wd_get _ hj, wd_get _ h, wd_get _ h2]
  simp [join12]
theorem joinW_norm (a b : Int) : normW (joinW a b) = joinW a b := by
  have hn : ∀ w, normW (normW w) = normW w := fun w => by
    unfold normW
    by_cases h0 : w = 0
    · simp [h0]
    · by_cases h1 : w = 1
      · simp [h1]
      · cases hk : numOk w with
        | true => simp [h0, h1, hk]
        | false => simp [h0, h1]
  unfold joinW
  split
  · exact hn _
  · split
    · exact hn _
    · rfl
theorem word3 (a b : Int) : wordW 3 a b = joinW a b := rfl
theorem join_len {what : Int} {a b : List Int} (h : a.length = b.length) : (join12 what a b).length = a.length := by unfold join12; rw [List.length_zipWith]; omega
theorem join_ok3 {a b : List Int} : okW (join12 3 a b) = true := okW_iff.2 fun z hz => by
  obtain ⟨i, hi, rfl⟩ := List.mem_iff_getElem.1 hz
  simp only [join12, List.getElem_zipWith]
  exact joinW_norm _ _
theorem norm_wd {a : List Int} (h : okW a = true) {i : Nat} (hi : i < a.length) : normW (wd a i) = wd a i := okW_iff.1 h _ (wd_mem hi)
theorem join_ub {a b : List Int} (ha : okW a = true) (hb : okW b = true) (hl : a.length = b.length) : leL a (join12 3 a b) ∧ leL b (join12 3 a b) := by
  refine ⟨⟨(join_len hl).symm, fun i hi => ?_⟩, ⟨by rw [join_len hl]; exact hl.symm, fun i hi => ?_⟩⟩
  · rw [join_wd hi (by omega), word3]
    have h1 := norm_wd ha hi
    unfold joinW
    rw [h1]
    split
    · exact .inl rfl
    · split
      · rename_i h; exact .inr (.inl h)
      · exact .inr (.inr rfl)
  · rw [join_wd (by omega) hi, word3]
    have h1 := norm_wd ha (i := i) (by omega)
    have h2 := norm_wd hb hi
    unfold joinW
    rw [h1, h2]
    split
    · rename_i h
      rcases h with h | h
      · exact .inl h.symm
      · exact .inr (.inl h)
    · split
      · exact .inl rfl
      · exact .inr (.inr rfl)
theorem le_join3 {a b : List Int} (ha : okW a = true) (hb : okW b = true) (h : leL a b) : join12 3 a b = b := by
  refine wd_ext ((join_len h.1).trans h.1) fun i hi => ?_
  rw [join_len h.1] at hi
  have h1 := norm_wd ha hi
  have h2 := norm_wd hb (i := i) (by have := h.1; omega)
  rw [join_wd hi (by have := h.1; omega), word3]
  unfold joinW
  rw [h1, h2]
  rcases h.2 i hi with e | e | e
  · rw [if_pos (.inl e), e]
  · rw [e]
    by_cases hc : (0 : Int) = wd b i ∨ wd b i = 0
    · rw [if_pos hc]; omega
    · rw [if_neg hc, if_pos rfl]
  · rw [e]
    by_cases hc : wd a i = 1 ∨ (1 : Int) = 0
    · rw [if_pos hc]; omega
    · rw [if_neg hc]; split <;> rfl
theorem apply_le3 {w : Int} {g k : List Int} {l : List CodeT} {a b : List Int} (hc : checkT 3 w g k l = 0) (ha : valL 3 w a = true) (hb : valL 3 w b = true) (h : leL a b) : leL (applyR 3 g k l a) (applyR 3 g k l b) := by
  have hi := val_is ha
  have va := (val_flat hi rfl).1 ha
  have vb := (val_flat hi rfl).1 hb
  refine ⟨by rw [applyR_length hc ha, applyR_length hc hb]; exact h.1, fun i hlt => ?_⟩
  rw [applyR_length hc ha] at hlt
  cases hz : a.any fun z => decide (0 = z) with
  | true =>
    rw [applyR_zero rfl hz]
    refine .inr (.inl ?_)
    rw [wd_get _ (by rw [List.length_replicate]; exact hlt), List.getElem_replicate]
  | false =>
    have na := nz_of va.2 hz
    have hl := h.1
    have up : upW a b := ⟨hl, fun j hj => by
      rcases h.2 j hj with e | e | e
      · exact .inl e
      · exact absurd e (na _ (wd_mem hj)).2
      · exact .inr e⟩
    have nb : NZ b := fun z hz => by
      refine ⟨okW_iff.1 vb.2 z hz, fun e => ?_⟩
      obtain ⟨j, hj, rfl⟩ := List.mem_iff_getElem.1 hz
      have e : wd b j = 0 := by rw [wd_get _ hj]; exact e
      rcases up.2 j (by omega) with e2 | e2
      · exact (na _ (wd_mem (i := j) (by omega))).2 (e2.trans e)
      · rw [e2] at e; exact absurd e (by decide)
    rw [applyR_do rfl hz, applyR_do rfl (nz_no nb)]
    have := doR_up nb up (by rw [va.1]; exact (tr_flat hc rfl).2.2)
    rcases this.2 i (by rw [doR_length]; exact hlt) with e | e
    · exact .inl e
    · exact .inr (.inr e)
/-- A lattice of sets: either, or both. -/
def opB (what : Int) (x y : Bool) : Bool := if what = 1 then x || y else x && y
theorem aW_bit {x y : Int} (hx : W64 x) (hy : W64 y) (k : Nat) : (bits .and .u64 x y).toNat.testBit k = (x.toNat.testBit k && y.toNat.testBit k) := by
  have e : bits .and .u64 x y = ((BitVec.ofInt 64 x &&& BitVec.ofInt 64 y).toNat : Int) := by
    show IntKind.u64.wrap _ = _
    exact wrap_n (BitVec.isLt _)
  rw [e, Int.toNat_natCast, BitVec.toNat_and, Nat.testBit_and, toNat_ofInt hx, toNat_ofInt hy]
theorem is_set {what w : Int} (hi : is12 what w = true) (h3 : ¬ what = 3) : what = 1 ∨ what = 2 := by
  unfold is12 at hi; simp at hi; omega
theorem join_bit {what : Int} (h : what = 1 ∨ what = 2) {a b : List Int} (ha : A64 a) (hb : A64 b) (hl : a.length = b.length) (i k : Nat) (hi : i < a.length) : bitW (join12 what a b) i k = opB what (bitW a i k) (bitW b i k) := by
  unfold bitW opB
  rw [join_wd hi (by omega)]
  rcases h with rfl | rfl
  · rw [if_pos rfl]
    exact orW_bit (wd_64 ha i) (wd_64 hb i) k
  · rw [if_neg (by decide)]
    exact aW_bit (wd_64 ha i) (wd_64 hb i) k
theorem opB_dist (what : Int) (x y g k : Bool) : opB what ((x && !k) || g) ((y && !k) || g) = ((opB what x y && !k) || g) := by
  unfold opB; split <;> cases x <;> cases y <;> cases g <;> cases k <;> rfl
theorem opB_up (what : Int) (x y : Bool) : opB what x (opB what x y) = opB what x y ∧ opB what y (opB what x y) = opB what x y ∧ opB what x x = x := by
  unfold opB; split <;> cases x <;> cases y <;> exact ⟨rfl, rfl, rfl⟩
theorem join_fits {what w : Int} (h : what = 1 ∨ what = 2) {a b : List Int} (ha : A64 a) (hb : A64 b) (fa : fitsW a w = true) (fb : fitsW b w = true) : fitsW (join12 what a b) w = true := by
  have la := fits_len fa
  have lb := fits_len fb
  have hl := join_len (what := what) (la.trans lb.symm)
  rw [fits_bit (join_64 ha hb) (hl.trans la)]
  intro i k hi hk hc
  rw [hl] at hi
  rw [join_bit h ha hb (la.trans lb.symm) i k hi, (fits_bit ha la).1 fa i k hi hk hc, (fits_bit hb lb).1 fb i k (by omega) hk hc]
  unfold opB; split <;> rfl
/-- Values put together are values. -/
theorem join_val {what w : Int} {a b : List Int} (ha : A64 a) (hb : A64 b) (va : valL what w a = true) (vb : valL what w b = true) : valL what w (join12 what a b) = true := by
  have hi := val_is va
  by_cases h3 : what = 3
  · subst h3
    have v1 := (val_flat hi rfl).1 va
    have v2 := (val_flat hi rfl).1 vb
    rw [val_flat hi rfl, join_len (by omega)]
    exact ⟨v1.1, join_ok3⟩
  · rw [val_set hi h3]
    exact join_fits (is_set hi h3) ha hb ((val_set hi h3).1 va) ((val_set hi h3).1 vb)
theorem checkL_ok {what w : Int} {a b : List Int} (va : valL what w a = true) (vb : valL what w b = true) : checkL what w [a, b] = 0 := by
  unfold checkL
  rw [if_pos (val_is va)]
  simp [va, vb]
theorem belowL_ok {what w : Int} {a b : List Int} (va : valL what w a = true) (vb : valL what w b = true) (h : join12 what a b = b) : belowL what w a b = true := by
  unfold belowL
  rw [checkL_ok va vb, h]; simp
theorem below_iff {what w : Int} {a b : List Int} : belowL what w a b = true ↔ valL what w a = true ∧ valL what w b = true ∧ join12 what a b = b := by
  constructor
  · intro h
    unfold belowL at h
    rw [Bool.and_eq_true] at h
    have hc := check_two (of_decide_eq_true h.1)
    exact ⟨hc.1, hc.2, of_decide_eq_true h.2⟩
  · exact fun h => belowL_ok h.1 h.2.1 h.2.2
/-- Of what is below a transfer makes what is below. -/
theorem rises {what w : Int} {g k a b : List Int} {l : List CodeT} (hg : A64 g) (hk : A64 k) (ha : A64 a) (hb : A64 b) (hc : checkT what w g k l = 0) (va : valL what w a = true) (vb : valL what w b = true) :
    belowL what w (applyR what g k l a) (applyR what g k l (join12 what a b)) = true ∧ belowL what w (applyR what g k l b) (applyR what g k l (join12 what a b)) = true ∧ (¬ what = 3 → join12 what (applyR what g k l a) (applyR what g k l b) = applyR what g k l (join12 what a b)) := by
  have hi := val_is va
  have hj64 : A64 (join12 what a b) := join_64 ha hb
  have vj := join_val ha hb va vb
  have vx := apply_val hg hk ha hc va
  have vy := apply_val hg hk hb hc vb
  have vz := apply_val hg hk hj64 hc vj
  have hab : a.length = b.length := by have h1 := val_len va; have h2 := val_len vb; omega
  by_cases h3 : what = 3
  · subst h3
    have v1 := (val_flat hi rfl).1 va
    have v2 := (val_flat hi rfl).1 vb
    have hu := join_ub v1.2 v2.2 hab
    have o : ∀ {x : List Int}, valL 3 w x = true → okW x = true := fun h => ((val_flat hi rfl).1 h).2
    exact ⟨belowL_ok vx vz (le_join3 (o vx) (o vz) (apply_le3 hc va vj hu.1)), belowL_ok vy vz (le_join3 (o vy) (o vz) (apply_le3 hc vb vj hu.2)), fun h => absurd rfl h⟩
  · have hs := is_set hi h3
    have hf := tr_set hc h3
    have lx := applyR_length hc va
    have ly := applyR_length hc vb
    have lz := applyR_length hc vj
    have lj := join_len (what := what) hab
    have x64 : A64 (applyR what g k l a) := applyR_64 ha
    have y64 : A64 (applyR what g k l b) := applyR_64 hb
    have z64 : A64 (applyR what g k l (join12 what a b)) := applyR_64 hj64
    have bx : ∀ {c : List Int}, A64 c → ∀ i k', k' < 64 → bitW (applyR what g k l c) i k' = ((bitW c i k' && !bitW k i k') || bitW g i k') := fun hc i k' hk' => by
      rw [applyR_set h3, or_bit (minus_64 _ _) hg, an_bit hc hk i hk']
    have hz : ∀ i k', i < a.length → k' < 64 → bitW (applyR what g k l (join12 what a b)) i k' = opB what (bitW (applyR what g k l a) i k') (bitW (applyR what g k l b) i k') := fun i k' hi' hk' => by
      rw [bx hj64 i k' hk', bx ha i k' hk', bx hb i k' hk', join_bit hs ha hb hab i k' hi', opB_dist]
    refine ⟨belowL_ok vx vz ?_, belowL_ok vy vz ?_, fun _ => ?_⟩
    · refine row_ext (join_64 x64 z64) z64 (by rw [join_len (by omega)]; omega) fun i k' hi' hk' => ?_
      rw [join_len (by omega)] at hi'
      rw [join_bit hs x64 z64 (by omega) i k' hi', hz i k' (by omega) hk', (opB_up ..).1]
    · refine row_ext (join_64 y64 z64) z64 (by rw [join_len (by omega)]; omega) fun i k' hi' hk' => ?_
      rw [join_len (by omega)] at hi'
      rw [join_bit hs y64 z64 (by omega) i k' hi', hz i k' (by omega) hk', (opB_up ..).2.1]
    · refine row_ext (join_64 x64 y64) z64 (by rw [join_len (by omega)]; omega) fun i k' hi' hk' => ?_
      rw [join_len (by omega)] at hi'
      rw [join_bit hs x64 y64 (by omega) i k' hi', hz i k' (by omega) hk']
end Go.Proofs.YtljbnigceammdaaGreatDoor
