/-
  package transfer: do; a row of words, held open, and codes.
  soughref16.word, Apply; transfer.Apply.
  transfer.Apply.
-/
import Derived.Test.YtegpahamenjiaaaTr
namespace Go.Proofs.Ytegpahamenjiaaa
open Go.RowKit
set_option maxRecDepth 100000
/-- What a reference stands for. -/
def valR (a : List Int) (r : RefT) : Int := if r.1 = -1 then ofP r.2.1.1 r.2.1.2.1 else wd a r.1.toNat
/-- What a code makes of a variable. -/
def newR (a : List Int) (c : CodeT) : Int := if c.2.1 = -1 then 1 else opK c.2.1 (valR a c.2.2.1) (valR a c.2.2.2.1)
def stepR (a : List Int) (c : CodeT) : List Int := a.set c.1.toNat (newR a c)
def doR (a : List Int) (l : List CodeT) : List Int := l.foldl stepR a
theorem stepR_length (a : List Int) (c : CodeT) : (stepR a c).length = a.length := List.length_set ..
theorem doR_length (a : List Int) (l : List CodeT) : (doR a l).length = a.length := by
  unfold doR
  induction l generalizing a with
  | nil => rfl
  | cons c l ih => exact (ih _).trans (stepR_length a c)
theorem doR_snoc (a : List Int) (l : List CodeT) (c : CodeT) : doR a (l ++ [c]) = stepR (doR a l) c := by
  unfold doR; rw [List.foldl_append]; rfl
theorem ofP_64 (x y : Int) : W64 (ofP x y) := by
  have h1 := wordP_lo x y
  have h2 := wordP_hi x y
  unfold W64 ofP; omega
theorem valR_64 {a : List Int} (ha : A64 a) (r : RefT) : W64 (valR a r) := by
  unfold valR; split
  · exact ofP_64 _ _
  · exact wd_64 ha _
theorem opW2_64 (op a b : Int) : W64 (opW2 op a b) := by
  unfold opW2 resP
  split
  · exact ⟨by omega, by omega⟩
  · split
    · exact ⟨by omega, by omega⟩
    · split
      · exact ofP_64 _ _
      · exact ⟨by omega, by omega⟩
theorem opK_64 (op a b : Int) : W64 (opK op a b) := by unfold opK; split <;> exact opW2_64 _ _ _
theorem newR_64 (a : List Int) (c : CodeT) : W64 (newR a c) := by
  unfold newR; split
  · exact ⟨by omega, by omega⟩
  · exact opK_64 _ _ _
theorem set_64 {a : List Int} (ha : A64 a) {i : Nat} {z : Int} (hz : W64 z) : A64 (a.set i z) := fun x hx => by
  rcases List.mem_or_eq_of_mem_set hx with h | rfl
  · exact ha x h
  · exact hz
theorem doR_64 {a : List Int} (ha : A64 a) (l : List CodeT) : A64 (doR a l) := by
  unfold doR
  induction l generalizing a with
  | nil => exact ha
  | cons c l ih => exact ih (set_64 ha (newR_64 a c))
/-- What codeR tells. -/
theorem codeR_var {w : Int} {c : CodeT} (h : codeR w c = true) : 0 ≤ c.1 ∧ c.1 < w := by
  unfold codeR at h
  by_cases h1 : c.1 < 0
  · rw [if_pos h1] at h; exact absurd h (by decide)
  · by_cases h2 : w ≤ c.1
    · rw [if_neg h1, if_pos h2] at h; exact absurd h (by decide)
    · omega
theorem codeR_op {w : Int} {c : CodeT} (h : codeR w c = true) : -1 ≤ c.2.1 ∧ (¬ c.2.1 = -1 → refOk w c.2.2.1 = true ∧ refOk w c.2.2.2.1 = true) := by
  have hv := codeR_var h
  unfold codeR at h
  rw [if_neg (by omega), if_neg (by omega)] at h
  by_cases h1 : c.2.1 < -1
  · rw [if_pos h1] at h; exact absurd h (by decide)
  · rw [if_neg h1] at h
    by_cases h2 : 4 < c.2.1
    · rw [if_pos h2] at h; exact absurd h (by decide)
    · rw [if_neg h2] at h
      refine ⟨by omega, fun h3 => ?_⟩
      rw [if_neg h3] at h
      exact Bool.and_eq_true_iff.1 h
theorem refOk_var {w : Int} {r : RefT} (h : refOk w r = true) (h1 : ¬ r.1 = -1) : 0 ≤ r.1 ∧ r.1 < w := by
  unfold refOk at h
  rw [if_neg h1] at h
  simp at h
  exact h.1
end Go.Proofs.Ytegpahamenjiaaa
namespace Go.Proofs.Ytegpahamenjiaaa
open Go.RowKit
set_option maxRecDepth 100000
/-- What a transfer makes of a value. -/
def applyR (what : Int) (g k : List Int) (l : List CodeT) (a : List Int) : List Int :=
  if what = 3 then (if (a.any fun z => decide (0 = z)) = true then List.replicate a.length 0 else doR a l) else bothW orW (bothW anW a k) g
theorem applyR_set {what : Int} (h : ¬ what = 3) (g k : List Int) (l : List CodeT) (a : List Int) : applyR what g k l a = bothW orW (bothW anW a k) g := if_neg h
theorem applyR_zero {what : Int} (h : what = 3) {a : List Int} (h0 : (a.any fun z => decide (0 = z)) = true) (g k : List Int) (l : List CodeT) : applyR what g k l a = List.replicate a.length 0 := by unfold applyR; rw [if_pos h, if_pos h0]
theorem applyR_do {what : Int} (h : what = 3) {a : List Int} (h0 : (a.any fun z => decide (0 = z)) = false) (g k : List Int) (l : List CodeT) : applyR what g k l a = doR a l := by unfold applyR; rw [if_pos h, h0]; rfl
end Go.Proofs.Ytegpahamenjiaaa
namespace Go.Proofs.Ytegpahamenjiaaa
open Go.RowKit
set_option maxRecDepth 100000
/-- What Apply tells. -/
def errA (what w : Int) (g k : List Int) (l : List CodeT) (a : List Int) : Int := if checkT what w g k l = 0 then (if valL what w a = true then 0 else 2) else checkT what w g k l
theorem errA_chk {what w : Int} {g k : List Int} {l : List CodeT} {a : List Int} (h : ¬ checkT what w g k l = 0) : errA what w g k l a = checkT what w g k l := if_neg h
theorem errA_ok {what w : Int} {g k : List Int} {l : List CodeT} {a : List Int} (h : checkT what w g k l = 0) (hv : valL what w a = true) : errA what w g k l a = 0 := by unfold errA; rw [if_pos h, if_pos hv]
theorem errA_val {what w : Int} {g k : List Int} {l : List CodeT} {a : List Int} (h : checkT what w g k l = 0) (hv : valL what w a = false) : errA what w g k l a = 2 := by unfold errA; rw [if_pos h, hv]; rfl
theorem chk_zero {what w : Int} {g k : List Int} {l : List CodeT} (h : checkT what w g k l = 0) : is12 what w = true ∧ trOk what w g k l = true := by
  unfold checkT at h
  cases hi : is12 what w with
  | false => rw [hi] at h; exact absurd h (by simp)
  | true =>
    rw [hi, if_pos rfl] at h
    cases ht : trOk what w g k l with
    | false => rw [ht] at h; exact absurd h (by simp)
    | true => exact ⟨rfl, rfl⟩
/-- A value of numbers is as long as it is wide. -/
theorem val_width {what w : Int} {a : List Int} (h : valL what w a = true) (h3 : what = 3) : (a.length : Int) = w := by
  have hl := val_len h
  have hi : is12 what w = true := by unfold valL at h; simp at h; exact h.1.1
  rw [hl]; unfold wordsL; rw [if_pos hi, if_pos h3]
theorem bot_zero {what w : Int} {a : List Int} (h : valL what w a = true) (h3 : what = 3) : botL what w = List.replicate a.length 0 := by
  unfold botL
  rw [if_neg (fun h => by omega), ← val_len h, Int.toNat_natCast]
end Go.Proofs.Ytegpahamenjiaaa
