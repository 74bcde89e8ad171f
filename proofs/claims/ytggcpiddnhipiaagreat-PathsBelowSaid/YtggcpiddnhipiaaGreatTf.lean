/-
  Transfers of sets, by bits; of words, by codes. Plain.
-/
import Derived.Test.YtggcpiddnhipiaaGreatTb
namespace Go.Proofs.YtggcpiddnhipiaaGreat
open Go.RowKit
theorem word_ext {x y : Int} (hx : W64 x) (hy : W64 y) (h : ∀ k, k < 64 → x.toNat.testBit k = y.toNat.testBit k) : x = y := by
  have e : x.toNat = y.toNat := by
    refine Nat.eq_of_testBit_eq fun k => ?_
    rcases Nat.lt_or_ge k 64 with hk | hk
    · exact h k hk
    · rw [Nat.testBit_lt_two_pow (Nat.lt_of_lt_of_le (lt_w hx) (Nat.pow_le_pow_right (by decide : 0 < 2) hk)), Nat.testBit_lt_two_pow (Nat.lt_of_lt_of_le (lt_w hy) (Nat.pow_le_pow_right (by decide : 0 < 2) hk))]
  have h1 := toNat_w hx
  have h2 := toNat_w hy
  omega
/-- A row's bit. -/
def bitW (a : List Int) (i k : Nat) : Bool := (wd a i).toNat.testBit k
theorem row_ext {a b : List Int} (ha : A64 a) (hb : A64 b) (hl : a.length = b.length) (h : ∀ i k, i < a.length → k < 64 → bitW a i k = bitW b i k) : a = b :=
  wd_ext hl fun i hi => word_ext (wd_64 ha i) (wd_64 hb i) fun k hk => h i k hi hk
theorem zero_bit (k : Nat) : (0 : Int).toNat.testBit k = false := Nat.zero_testBit k
theorem or_64 (a b : List Int) : A64 (bothW orW a b) := A64_map fun _ _ => orW_64 _ _
theorem or_bit {a b : List Int} (ha : A64 a) (hb : A64 b) (i k : Nat) : bitW (bothW orW a b) i k = (bitW a i k || bitW b i k) := by
  unfold bitW
  rcases Nat.lt_or_ge i (max a.length b.length) with h | h
  · rw [bothW_wd _ _ _ h, orW_bit (wd_64 ha i) (wd_64 hb i)]
  · rw [wd_none (by rw [bothW_length]; exact h), wd_none (a := a) (by omega), wd_none (a := b) (by omega), zero_bit]; rfl
theorem an_bit {a b : List Int} (ha : A64 a) (hb : A64 b) (i : Nat) {k : Nat} (hk : k < 64) : bitW (bothW anW a b) i k = (bitW a i k && !bitW b i k) := by
  unfold bitW
  rcases Nat.lt_or_ge i (max a.length b.length) with h | h
  · rw [bothW_wd _ _ _ h, anW_bit (wd_64 ha i) (wd_64 hb i) hk]
  · rw [wd_none (by rw [bothW_length]; exact h), wd_none (a := a) (by omega), zero_bit]; rfl
theorem or_comm10 {a b : List Int} (ha : A64 a) (hb : A64 b) : bothW orW a b = bothW orW b a := by
  refine row_ext (or_64 _ _) (or_64 _ _) (by rw [bothW_length, bothW_length, Nat.max_comm]) fun i k _ _ => ?_
  rw [or_bit ha hb, or_bit hb ha, Bool.or_comm]
/-- What a transfer of sets and then another one make, and take. -/
def thenG (g1 g2 k2 : List Int) : List Int := bothW orW (bothW anW g1 k2) g2
def thenK (g1 k1 g2 k2 : List Int) : List Int := bothW anW (bothW orW k1 k2) (thenG g1 g2 k2)
theorem then_set {a g1 k1 g2 k2 : List Int} {n : Nat} (ha : A64 a) (hg1 : A64 g1) (hk1 : A64 k1) (hg2 : A64 g2) (hk2 : A64 k2) (la : a.length = n) (lg1 : g1.length = n) (lk1 : k1.length = n) (lg2 : g2.length = n) (lk2 : k2.length = n) :
    bothW orW (bothW anW (bothW orW (bothW anW a k1) g1) k2) g2 = bothW orW (bothW anW a (thenK g1 k1 g2 k2)) (thenG g1 g2 k2) := by
  unfold thenK thenG
  refine row_ext (or_64 _ _) (or_64 _ _) (by simp only [bothW_length]; omega) fun i k _ hk => ?_
  rw [or_bit (minus_64 _ _) hg2, an_bit (or_64 _ _) hk2 i hk, or_bit (minus_64 _ _) hg1, an_bit ha hk1 i hk, or_bit (minus_64 _ _) (or_64 _ _), an_bit ha (minus_64 _ _) i hk, an_bit (or_64 _ _) (or_64 _ _) i hk, or_bit hk1 hk2, or_bit (minus_64 _ _) hg2, an_bit hg1 hk2 i hk]
  cases bitW a i k <;> cases bitW g1 i k <;> cases bitW k1 i k <;> cases bitW g2 i k <;> cases bitW k2 i k <;> rfl
theorem fits_len {a : List Int} {w : Int} (h : fitsW a w = true) : a.length = sizeW w := by
  unfold fitsW at h; rw [Bool.and_eq_true] at h; exact of_decide_eq_true h.1
theorem fits_bit {a : List Int} {w : Int} (ha : A64 a) (hl : a.length = sizeW w) : fitsW a w = true ↔ ∀ i k, i < a.length → k < 64 → cutW w ≤ 64 * i + k → bitW a i k = false := by
  rw [fits_none ha hl]
  unfold hasB bitW
  constructor
  · intro h i k hi hk hc
    have := h (64 * i + k) hc (by omega)
    rw [show (64 * i + k) / 64 = i by omega, show (64 * i + k) % 64 = k by omega] at this
    exact this
  · intro h n h1 h2
    exact h (n / 64) (n % 64) (by omega) (by omega) (by omega)
theorem or_fits {a b : List Int} {w : Int} (ha : A64 a) (hb : A64 b) (fa : fitsW a w = true) (fb : fitsW b w = true) : fitsW (bothW orW a b) w = true := by
  have la := fits_len fa
  have lb := fits_len fb
  have hl : (bothW orW a b).length = sizeW w := by rw [bothW_length]; omega
  rw [fits_bit (or_64 _ _) hl]
  intro i k hi hk hc
  rw [or_bit ha hb, (fits_bit ha la).1 fa i k (by omega) hk hc, (fits_bit hb lb).1 fb i k (by omega) hk hc]; rfl
theorem an_fits {a b : List Int} {w : Int} (ha : A64 a) (hb : A64 b) (fa : fitsW a w = true) (lb : b.length ≤ sizeW w) : fitsW (bothW anW a b) w = true := by
  have la := fits_len fa
  have hl : (bothW anW a b).length = sizeW w := by rw [bothW_length]; omega
  rw [fits_bit (minus_64 _ _) hl]
  intro i k hi hk hc
  rw [an_bit ha hb i hk, (fits_bit ha la).1 fa i k (by omega) hk hc]; rfl
/-- A value of words, without a zero. -/
def NZ (a : List Int) : Prop := ∀ z ∈ a, normW z = z ∧ z ≠ 0
theorem wd_mem {a : List Int} {i : Nat} (h : i < a.length) : wd a i ∈ a := by rw [wd_get a h]; exact List.getElem_mem h
theorem ofP_norm (x y : Int) : normW (ofP x y) = ofP x y ∧ ofP x y ≠ 0 := ⟨norm_num (ofP_ok x y), by have := ofP_lo x y; omega⟩
theorem valR_nz {a : List Int} (h : NZ a) {r : RefT} (hr : refOk a.length r = true) : normW (valR a r) = valR a r ∧ valR a r ≠ 0 := by
  unfold valR
  split
  · exact ofP_norm _ _
  · rename_i h1
    have hv := refOk_var hr h1
    exact h _ (wd_mem (by omega))
theorem norm_one : normW 1 = 1 := rfl
theorem resP_nz (op a b : Int) : normW (resP op a b) = resP op a b ∧ resP op a b ≠ 0 := by
  unfold resP
  split
  · exact ofP_norm _ _
  · exact ⟨rfl, by decide⟩
theorem opW2_nz (op : Int) {a b : Int} (ha : normW a ≠ 0) (hb : normW b ≠ 0) : normW (opW2 op a b) = opW2 op a b ∧ opW2 op a b ≠ 0 := by
  unfold opW2
  rw [if_neg (by omega)]
  split
  · exact ⟨rfl, by decide⟩
  · exact resP_nz _ _ _
theorem opK_nz (op : Int) {a b : Int} (ha : normW a ≠ 0) (hb : normW b ≠ 0) : normW (opK op a b) = opK op a b ∧ opK op a b ≠ 0 := by
  unfold opK
  split
  · exact opW2_nz _ ha (by rw [norm_two]; decide)
  · exact opW2_nz _ ha hb
theorem newR_nz {a : List Int} (h : NZ a) {c : CodeT} (hc : codeR a.length c = true) : normW (newR a c) = newR a c ∧ newR a c ≠ 0 := by
  unfold newR
  split
  · exact ⟨rfl, by decide⟩
  · rename_i h1
    have ho := (codeR_op hc).2 h1
    have h1 := valR_nz h ho.1
    have h2 := valR_nz h ho.2
    exact opK_nz _ (by rw [h1.1]; exact h1.2) (by rw [h2.1]; exact h2.2)
theorem stepR_nz {a : List Int} (h : NZ a) {c : CodeT} (hc : codeR a.length c = true) : NZ (stepR a c) := fun z hz => by
  rcases List.mem_or_eq_of_mem_set hz with h' | rfl
  · exact h z h'
  · exact newR_nz h hc
theorem doR_cons (a : List Int) (c : CodeT) (l : List CodeT) : doR a (c :: l) = doR (stepR a c) l := rfl
theorem doR_append (a : List Int) (l m : List CodeT) : doR a (l ++ m) = doR (doR a l) m := by unfold doR; rw [List.foldl_append]
theorem all_cons {α : Type} {p : α → Bool} {c : α} {l : List α} (h : (c :: l).all p = true) : p c = true ∧ l.all p = true := by
  rw [List.all_cons, Bool.and_eq_true] at h; exact h
theorem doR_nz : ∀ {l : List CodeT} {a : List Int}, NZ a → l.all (codeR a.length) = true → NZ (doR a l)
  | [], _, h, _ => h
  | c :: l, a, h, hl => by
    have hl := all_cons hl
    rw [doR_cons]
    exact doR_nz (stepR_nz h hl.1) (by rw [stepR_length]; exact hl.2)
/-- As much, or anything. -/
def upW (a b : List Int) : Prop := a.length = b.length ∧ ∀ i, i < a.length → wd a i = wd b i ∨ wd b i = 1
theorem valR_up {a b : List Int} (h : upW a b) {r : RefT} (hr : refOk a.length r = true) : valR a r = valR b r ∨ valR b r = 1 := by
  unfold valR
  by_cases h1 : r.1 = -1
  · rw [if_pos h1, if_pos h1]; exact .inl rfl
  · have hv := refOk_var hr h1
    rw [if_neg h1, if_neg h1]
    exact h.2 _ (by omega)
theorem opW2_up (op : Int) {a b a' b' : Int} (ha' : normW a' ≠ 0) (hb' : normW b' ≠ 0) (h1 : a = a' ∨ a' = 1) (h2 : b = b' ∨ b' = 1) : opW2 op a b = opW2 op a' b' ∨ opW2 op a' b' = 1 := by
  by_cases c : normW a' = 1 ∨ normW b' = 1
  · exact .inr (by unfold opW2; rw [if_neg (by omega), if_pos c])
  · rcases h1 with rfl | rfl
    · rcases h2 with rfl | rfl
      · exact .inl rfl
      · exact absurd (Or.inr norm_one) c
    · exact absurd (Or.inl norm_one) c
theorem opK_up (op : Int) {a b a' b' : Int} (ha' : normW a' ≠ 0) (hb' : normW b' ≠ 0) (h1 : a = a' ∨ a' = 1) (h2 : b = b' ∨ b' = 1) : opK op a b = opK op a' b' ∨ opK op a' b' = 1 := by
  unfold opK
  split
  · exact opW2_up op ha' (by rw [norm_two]; decide) h1 (.inl rfl)
  · exact opW2_up op ha' hb' h1 h2
theorem newR_up {a b : List Int} (hb : NZ b) (h : upW a b) {c : CodeT} (hc : codeR a.length c = true) : newR a c = newR b c ∨ newR b c = 1 := by
  unfold newR
  by_cases h1 : c.2.1 = -1
  · rw [if_pos h1, if_pos h1]; exact .inl rfl
  · have ho := (codeR_op hc).2 h1
    rw [if_neg h1, if_neg h1]
    have hl : (a.length : Int) = b.length := by rw [h.1]
    have n1 := valR_nz hb (hl ▸ ho.1)
    have n2 := valR_nz hb (hl ▸ ho.2)
    exact opK_up _ (by rw [n1.1]; exact n1.2) (by rw [n2.1]; exact n2.2) (valR_up h ho.1) (valR_up h ho.2)
theorem wd_set {a : List Int} {i j : Nat} (h : i < a.length) (z : Int) : wd (a.set i z) j = if i = j then z else wd a j := by
  unfold wd
  split
  · rename_i e; subst e; rw [List.getElem?_set_self h]; rfl
  · rename_i e; rw [List.getElem?_set_ne e]
theorem stepR_up {a b : List Int} (hb : NZ b) (h : upW a b) {c : CodeT} (hc : codeR a.length c = true) : upW (stepR a c) (stepR b c) := by
  have hv := codeR_var hc
  have hl := h.1
  refine ⟨by rw [stepR_length, stepR_length]; exact h.1, fun i hi => ?_⟩
  rw [stepR_length] at hi
  unfold stepR
  rw [wd_set (by omega), wd_set (by omega)]
  split
  · exact newR_up hb h hc
  · exact h.2 i hi
theorem doR_up : ∀ {l : List CodeT} {a b : List Int}, NZ b → upW a b → l.all (codeR a.length) = true → upW (doR a l) (doR b l)
  | [], _, _, _, h, _ => h
  | c :: l, a, b, hb, h, hl => by
    have hl := all_cons hl
    rw [doR_cons, doR_cons]
    exact doR_up (stepR_nz hb (h.1 ▸ hl.1)) (stepR_up hb h hl.1) (by rw [stepR_length]; exact hl.2)
end Go.Proofs.YtggcpiddnhipiaaGreat
