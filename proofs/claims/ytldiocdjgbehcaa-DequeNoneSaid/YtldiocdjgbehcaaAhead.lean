/-
  Calls through an interface that holds a Plain: the nil checks ahead of them, as closed facts (rules of the walk).
-/
import Derived.Test.YtldiocdjgbehcaaAll
import Derived.Deep.RegionHeld3
namespace Go.Proofs.Ytldiocdjgbehcaa
theorem ahead_Load (a : Addr) (w : World) : (nilAhead 432 28 (.pointer (some a)) "Load").run Try.prog w = .ok (some false) w := by kernel_rfl
theorem ahead_Store (a : Addr) (w : World) : (nilAhead 432 28 (.pointer (some a)) "Store").run Try.prog w = .ok (some false) w := by kernel_rfl
theorem ahead_CAS (a : Addr) (w : World) : (nilAhead 432 28 (.pointer (some a)) "CAS").run Try.prog w = .ok (some false) w := by kernel_rfl
theorem ahead_Add (a : Addr) (w : World) : (nilAhead 432 28 (.pointer (some a)) "Add").run Try.prog w = .ok (some false) w := by kernel_rfl
theorem ahead_Len (a : Addr) (w : World) : (nilAhead 432 28 (.pointer (some a)) "Len").run Try.prog w = .ok (some false) w := by kernel_rfl
attribute [go_sem] ahead_Load ahead_Store ahead_CAS ahead_Add ahead_Len
end Go.Proofs.Ytldiocdjgbehcaa
