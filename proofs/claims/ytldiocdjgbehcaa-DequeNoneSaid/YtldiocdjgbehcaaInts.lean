/-
  soughref07.Ints of two slices that read as one list gives true and turns nothing.
-/
import Derived.Test.YtldiocdjgbehcaaBase
namespace Go.Proofs.Ytldiocdjgbehcaa
open Go.RowKit
set_option maxHeartbeats 400000 in
set_option maxRecDepth 100000 in
theorem ints_any (v u : Value) (zs : List Int) (w : World) (hv : IntRow w .i64 v zs) (hu : IntRow w .i64 u zs) :
    Calls Try.prog 26 #[v, u] w fun e w' => e = .returned (.bool true) ∧ ∃ n, w' = w.drewN n := by
  obtain ⟨a, c, rfl, hm, ha⟩ := hv
  obtain ⟨a', c', rfl, _, ha'⟩ := hu
  unfold maxLen at hm
  by_cases hz : zs = []
  · subst hz
    clear ha ha'
    go_enter Try.func26, Try.ntmps26
    go_wp2
    refine wp_loop_rounds 1 ?_
    rw [rounds_succ]
    go_wp2
    go_ret
    exact ⟨rfl, 0, rfl⟩
  · obtain ⟨b, o, rfl, hc⟩ := ha hz
    obtain ⟨b', o', rfl, hc'⟩ := ha' hz
    clear ha ha' hz
    have HC := hid hc
    have HC' := hid hc'
    clear hc hc'
    go_enter Try.func26, Try.ntmps26
    go_wp2
    go_loopw [5, 13] (fun _ i wr => ∃ k : Nat, k ≤ zs.length ∧ i = .int .i64 k ∧ ∃ n, wr = w.drewN n) (fun _ i _ => zs.length - (intOf i).toNat)
    case atStart => exact ⟨0, Nat.zero_le _, rfl, 0, rfl⟩
    case round =>
      obtain ⟨k, hk, rfl, n, rfl⟩ := hrel
      by_cases hlt : k < zs.length
      · have h1 := HC.out k hlt
        have h2 := HC'.out k hlt
        have i1 : (k : Int) < (zs.length : Int) := by omega
        generalize zs[k] = z at *
        go_wp2
        go_quiet (fail)
        go_wp2
        go_roundw
        case rel => exact ⟨k + 1, by omega, by go_num, _, rfl⟩
        case measure => simp [intOf]; omega
      · go_wp2
        go_ret
        exact ⟨rfl, _, rfl⟩

end Go.Proofs.Ytldiocdjgbehcaa
