/-
  LaysT: what the claim uses of them.
-/
import Derived.Shelf.Spec.TrailingZeros
import Derived.Test.YtljbnigceammdaaGreatDoorBn13
namespace Go.Proofs.YtljbnigceammdaaGreatDoor
open Go.Shelf
def lays7t_ren : Go.Shelf.Ren := ⟨fun | 29 => 105 | n => n, fun | 22 => 99 | 3 => 3 | 4 => 4 | 25 => 118 | 54 => 158 | 0 => 0 | 5 => 5 | n => n, fun | 1 => 0 | n => n⟩
theorem lays7t : Go.Proofs.Lays7.n29 Tryz.prog lays7t_ren := {
  mixed := by kernel_rfl
  f29 := Tryz.func105.trans (congrArg some (by kernel_rfl))
  t0 := Tryz.underlying0
  a0 := Tryz.isAgg0
  z0 := Tryz.sizeOf0
  v0 := Tryz.zeroValue0
  i0 := by kernel_rfl
  t3 := Tryz.underlying3
  a3 := Tryz.isAgg3
  z3 := Tryz.sizeOf3
  v3 := Tryz.zeroValue3
  i3 := by kernel_rfl
  t4 := Tryz.underlying4
  a4 := Tryz.isAgg4
  z4 := Tryz.sizeOf4
  v4 := Tryz.zeroValue4
  i4 := by kernel_rfl
  t5 := Tryz.underlying5
  a5 := Tryz.isAgg5
  z5 := Tryz.sizeOf5
  v5 := Tryz.zeroValue5
  i5 := by kernel_rfl
  t22 := Tryz.underlying99
  a22 := Tryz.isAgg99
  z22 := Tryz.sizeOf99
  v22 := Tryz.zeroValue99
  i22 := by kernel_rfl
  t25 := Tryz.underlying118
  a25 := Tryz.isAgg118
  z25 := Tryz.sizeOf118
  v25 := Tryz.zeroValue118
  i25 := by kernel_rfl
  t54 := Tryz.underlying158
  a54 := Tryz.isAgg158
  z54 := Tryz.sizeOf158
  g1 := by kernel_rfl }
end Go.Proofs.YtljbnigceammdaaGreatDoor
