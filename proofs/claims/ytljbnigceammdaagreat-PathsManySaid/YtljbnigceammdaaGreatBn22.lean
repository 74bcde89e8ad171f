/-
  SameTest: what the claim uses of them.
-/
import Derived.Test.YtljbnigceammdaaGreatBn13
namespace Go.Proofs.YtljbnigceammdaaGreat
set_option maxRecDepth 100000 in
theorem same10 (xs ys : List Int) (σ : Hp) (h1 : xs.length ≤ 1000000) : ACalls Tryz.prog 14 [.fsl (.int .u64) xs, .fsl (.int .u64) ys] σ (fun r σ' => r = .bool (decide (xs = ys)) ∧ σ' = σ) := by
  refine okF Tryz.func14 (by kernel_rfl) ?_
  refine bcond_split (fun hl => ?_) (fun hl => ?_)
  · have : xs ≠ ys := by rintro rfl; simp at hl
    exact .done ⟨by simp [this]; rfl, rfl⟩
  · have hl : (!decide ((xs.length : Int) = (ys.length : Int))) = false := hl
    have hlen : xs.length = ys.length := by simp at hl; omega
    refine loopS (S := Nat) (fun k => [(0, .fsl (.int .u64) xs), (1, .fsl (.int .u64) ys), (12, .int .i64 xs.length), (13, .int .i64 k)]) (fun _ => σ) (fun k => k ≤ xs.length ∧ xs.take k = ys.take k) (fun k => xs.length - k) 0 ⟨⟨Nat.zero_le _, rfl⟩, ⟨rfl, rfl, rfl, rfl, trivial⟩, rfl⟩ ?_
    rintro k g ⟨hk, htk⟩
    refine bcond_dec (fun hlt => ?_) (fun hge => ?_)
    · have hk' : k < xs.length := by omega
      have hk'' : k < ys.length := by omega
      refine DrawW.quiet (by kernel_rfl) ?_
      refine With.mk rfl (IdxF.mk xs[k] (by omega) (get_some hk') ?_)
      refine With.mk rfl (IdxF.mk ys[k] (by omega) (get_some hk'') ?_)
      refine bcond_split (fun hx => ?_) (fun hx => ?_)
      · have : xs ≠ ys := by rintro rfl; simp at hx
        exact .done ⟨by simp [this]; rfl, rfl⟩
      · have hx' : xs[k] = ys[k] := by simpa using hx
        refine next (k + 1) (Nat.sub_lt_sub_left hk' (Nat.lt_succ_self k)) ⟨hk', ?_⟩ ⟨rfl, rfl, rfl, inc64 (by omega), trivial⟩ rfl
        rw [List.take_succ_eq_append_getElem hk', List.take_succ_eq_append_getElem hk'', htk, hx']
    · obtain rfl : k = xs.length := by omega
      have : xs = ys := by
        rw [List.take_length] at htk
        rw [htk, hlen, List.take_length]
      exact .done ⟨by simp [this]; rfl, rfl⟩
end Go.Proofs.YtljbnigceammdaaGreat
