/-
  Words of lattices: constant's and lattice's Join of words, and the references': the same function, by the abstract walk.
-/
import Derived.Test.YtphifpfndhfdfaaAids
namespace Go.Proofs.Ytphifpfndhfdfaa
open Go.RowKit
set_option maxRecDepth 100000
/-- A row of words, in cells. -/
def woC (ws : List Int) : List AV := ws.map (.int .u64)
theorem rep_woC (n : Nat) : repC [.int .u64 0] n = woC (List.replicate n 0) := by
  unfold woC
  induction n with
  | zero => rfl
  | succ n ih => simp [repC, ih, List.replicate_succ]
theorem woC_flat : ∀ (ws : List Int), woC ws = ws.flatMap (Sh.cells (.int .u64))
  | [] => rfl
  | z :: ws => congrArg (AV.int .u64 z :: ·) (woC_flat ws)
theorem shr_lit {w : Int} {k m : Nat} (hk : min (Int.toNat (k : Int)) IntKind.u64.bits = m) : w.fdiv (2 ^ min (Int.toNat (k : Int)) IntKind.u64.bits) = w / 2 ^ m := by
  rw [hk]; exact Int.fdiv_eq_ediv_of_nonneg _ (Int.le_of_lt (Int.pow_pos (by decide)))
theorem and3u (w : Int) : bits .and .u64 w 3 = w % 4 := by
  show IntKind.u64.wrap ((BitVec.ofInt 64 w &&& BitVec.ofInt 64 3).toNat : Int) = _
  have h3 : (BitVec.ofInt 64 3 : BitVec 64).toNat = 2 ^ 2 - 1 := by decide
  rw [BitVec.toNat_and, h3, Nat.and_two_pow_sub_one_eq_mod, BitVec.toNat_ofInt, IntKind.wrap_u64]
  omega
/-- A word that is a number's. -/
def numOk (w : Int) : Bool := decide (w % 4 = 2) && decide (0 ≤ w ∧ w < 17179869184)
/-- The word that counts. -/
def normW (w : Int) : Int := if w = 0 then 0 else if w = 1 then 1 else if numOk w then w else 1
theorem numOk_ne {w : Int} (h : numOk w = true) : w ≠ 0 ∧ w ≠ 1 := by
  unfold numOk at h; simp at h; omega
/-- What is less known of two words. -/
def joinW (a b : Int) : Int := if normW a = normW b ∨ normW b = 0 then normW a else if normW a = 0 then normW b else 1
/-- Two words put together. -/
def wordW (what a b : Int) : Int := if what = 1 then bits .or .u64 a b else if what = 2 then bits .and .u64 a b else if what = 3 then joinW a b else 0
/-! ### The reference -/
/-- A list's word; 0: there is none. -/
def wd (a : List Int) (i : Nat) : Int := (a[i]?).getD 0
def W64 (z : Int) : Prop := 0 ≤ z ∧ z < 18446744073709551616
def A64 (l : List Int) : Prop := ∀ z ∈ l, W64 z
theorem wrap_64 (n : Int) : W64 (IntKind.u64.wrap n) := by rw [IntKind.wrap_u64]; unfold W64; omega
theorem norm_64 {w : Int} (h : W64 w) : W64 (normW w) := by
  unfold normW
  split
  · exact ⟨by decide, by decide⟩
  · split
    · exact ⟨by decide, by decide⟩
    · split
      · exact h
      · exact ⟨by decide, by decide⟩
theorem word_64 {what a b : Int} (ha : W64 a) (hb : W64 b) : W64 (wordW what a b) := by
  unfold wordW
  split
  · exact wrap_64 _
  · split
    · exact wrap_64 _
    · split
      · unfold joinW
        split
        · exact norm_64 ha
        · split
          · exact norm_64 hb
          · exact ⟨by decide, by decide⟩
      · exact ⟨by decide, by decide⟩
theorem wd_64 {l : List Int} (h : A64 l) (i : Nat) : W64 (wd l i) := by
  unfold wd
  cases hq : l[i]? with
  | none => exact ⟨by decide, by decide⟩
  | some x => exact h x (List.mem_of_getElem? hq)
end Go.Proofs.Ytphifpfndhfdfaa
