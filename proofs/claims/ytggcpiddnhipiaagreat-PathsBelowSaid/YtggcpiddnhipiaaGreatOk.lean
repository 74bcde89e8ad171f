/-
  constant.Op and soughref11.Op: the same, exact.
-/
import Derived.Test.YtggcpiddnhipiaaGreatGs
namespace Go.Proofs.YtggcpiddnhipiaaGreat
open Go.RowKit
set_option maxRecDepth 100000
/-- What words' operands allow: 0 never, 1 anything, 2 a number. -/
def leastW (l : List Int) : Int := if (l.any fun w => decide (normW w = 0)) then 0 else if (l.any fun w => decide (normW w = 1)) then 1 else 2
theorem leastW_snoc (l : List Int) (w : Int) (h : (l.any fun w => decide (normW w = 0)) = false) : leastW (l ++ [w]) = if normW w = 0 then 0 else if normW w = 1 then 1 else leastW l := by
  unfold leastW
  rw [List.any_append, List.any_append, h]
  by_cases h0 : normW w = 0
  · simp [h0]
  · by_cases h1 : normW w = 1
    · simp [h1]
    · simp [h0, h1]
theorem leastW_zero (l : List Int) {w : Int} (hm : w ∈ l) (h : normW w = 0) : leastW l = 0 := by
  unfold leastW
  rw [if_pos]
  exact List.any_eq_true.2 ⟨w, hm, decide_eq_true h⟩
theorem aLeast (l : List Int) (σ : Hp) (hl : l.length ≤ 100000) : ACalls Tryz.prog 188 [.fsl (.int .u64) l] σ (Ret (.int .u64 (leastW l)) σ) := by
  refine okF Tryz.func188 (by kernel_rfl) ?_
  refine loopS (S := Nat) (fun s => [(3, .int .u64 (leastW (l.take s))), (6, .fsl (.int .u64) l), (7, .int .i64 l.length), (8, .int .i64 s)]) (fun _ => σ) (fun s => s ≤ l.length ∧ ((l.take s).any fun w => decide (normW w = 0)) = false) (fun s => l.length - s) 0 ⟨⟨Nat.zero_le _, rfl⟩, ⟨rfl, rfl, rfl, rfl, trivial⟩, rfl⟩ ?_
  rintro k g ⟨hk0, hz0⟩
  have hk : k ≤ l.length := hk0
  have hz : ((l.take k).any fun w => decide (normW w = 0)) = false := hz0
  clear hk0 hz0
  refine bcond_dec (fun hlt => ?_) (fun hge => ?_)
  · have hlt : k < l.length := by have hlt : (k : Int) < l.length := hlt; omega
    have hs := leastW_snoc (l.take k) l[k] hz
    rw [← List.take_succ_eq_append_getElem hlt] at hs
    have hz2 : ((l.take (k + 1)).any fun w => decide (normW w = 0)) = decide (normW l[k] = 0) := by
      rw [List.take_succ_eq_append_getElem hlt, List.any_append, hz]; simp
    refine With.mk rfl (IdxF.mk l[k] (by omega) (get_some hlt) ?_)
    refine callR [] (aNorm l[k] _) ?_
    refine bcond_dec (fun c1 => ?_) (fun c1 => ?_)
    · have c1 : normW l[k] = 0 := c1
      refine .fwd 1 ?_
      rw [leastW_zero l (List.getElem_mem hlt) c1]
      exact .done ⟨rfl, rfl⟩
    · have c1 : ¬ (normW l[k] = 0) := c1
      refine bcond_dec (fun c2 => ?_) (fun c2 => ?_)
      · have c2 : normW l[k] = 1 := c2
        refine nextS (k + 1) (by show l.length - (k + 1) < l.length - k; omega) ⟨hlt, by rw [hz2]; exact decide_eq_false c1⟩ ⟨?_, rfl, rfl, inc64 (by omega), trivial⟩ (.refl _)
        rw [hs, if_neg c1, if_pos c2]
        rfl
      · have c2 : ¬ (normW l[k] = 1) := c2
        refine nextS (k + 1) (by show l.length - (k + 1) < l.length - k; omega) ⟨hlt, by rw [hz2]; exact decide_eq_false c1⟩ ⟨?_, rfl, rfl, inc64 (by omega), trivial⟩ (.refl _)
        rw [hs, if_neg c1, if_neg c2]
        rfl
  · have hge : k = l.length := by have hge : ¬ (k : Int) < l.length := hge; omega
    subst hge
    rw [List.take_length]
    exact .done ⟨rfl, rfl⟩
theorem numOk_of {w : Int} (h0 : normW w ≠ 0) (h1 : normW w ≠ 1) : numOk w = true ∧ normW w = w := by
  unfold normW at *
  by_cases a : w = 0
  · rw [if_pos a] at h0; exact absurd rfl h0
  · rw [if_neg a] at h0 h1 ⊢
    by_cases b : w = 1
    · rw [if_pos b] at h1; exact absurd rfl h1
    · rw [if_neg b] at h0 h1 ⊢
      cases c : numOk w with
      | true => exact ⟨rfl, rfl⟩
      | false => rw [c] at h1; exact absurd rfl h1
theorem opP_04 {op : Int} (h : op = 0 ∨ op = 4) (a b c d c2 d2 : Int) : opP op a b c d = opP op a b c2 d2 := by
  rcases h with rfl | rfl <;> rfl
def resP (op a b : Int) : Int := match opP op (numRe a) (numIm a) (numRe b) (numIm b) with | some (x, y) => ofP x y | none => 1
/-- What an operation makes of two words. -/
def opW2 (op a b : Int) : Int := if normW a = 0 ∨ normW b = 0 then 0 else if normW a = 1 ∨ normW b = 1 then 1 else resP op a b
def opK (op a b : Int) : Int := if op = 0 ∨ op = 4 then opW2 op a 2 else opW2 op a b
theorem ofP_lo (x y : Int) : 2 ≤ ofP x y := by have := wordP_lo x y; unfold ofP; omega
theorem ofP_ok (x y : Int) : numOk (ofP x y) = true := by
  have h1 := wordP_lo x y
  have h2 := wordP_hi x y
  unfold numOk ofP; simp; omega
theorem norm_num {w : Int} (h : numOk w = true) : normW w = w := by
  have := numOk_ne h
  unfold normW
  rw [if_neg this.1, if_neg this.2, if_pos h]
end Go.Proofs.YtggcpiddnhipiaaGreat
