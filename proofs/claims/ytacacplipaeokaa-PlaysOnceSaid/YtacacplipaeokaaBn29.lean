/-
  Dqlw: what the claim uses of them.
-/
import Derived.Test.YtacacplipaeokaaBn28
namespace Go.Proofs.Ytacacplipaeokaa
open Go.RowKit
theorem place_at {cap : Int} {i : Nat} (_h : i ≤ 100001) : placeD 0 cap i = ((2 + i % rm cap : Nat) : Int) := by
  obtain ⟨h1, h2⟩ := rm_ok cap
  have h3 : i % rm cap < rm cap := Nat.mod_lt _ (by omega)
  show IntKind.i64.wrap (IntKind.i64.wrap (0 + 2) + IntKind.i64.wrap ((i : Int) % (rm cap : Int))) = _
  rw [show ((i : Int) % (rm cap : Int)) = ((i % rm cap : Nat) : Int) by rw [Int.natCast_emod]]
  rw [IntKind.wrap_i64, IntKind.wrap_i64, IntKind.wrap_i64]
  omega
theorem wu_small {n : Nat} (h : n ≤ 1000000) : wu (n : Int) = n := by
  show IntKind.u64.wrap _ = _
  rw [IntKind.wrap_u64]; omega
theorem wr_small {n : Nat} (h : n ≤ 1000000) : wr (n : Int) = n := by
  show IntKind.i64.wrap _ = _
  rw [IntKind.wrap_i64]; omega
end Go.Proofs.Ytacacplipaeokaa
