/-
  package step, in plain Lean: a machine's state, and what an instruction does. slices.Clone, step.New, Done, At, Regs, by the abstract walk.
-/
import Derived.Test.YtphifpfndhfdfaaMm
import Derived.Test.YtphifpfndhfdfaaBre22
namespace Go.Proofs.Ytphifpfndhfdfaa
open Go.RowKit
theorem and3 (R : Int) : bits .and .i64 R 3 = R % 4 := by
  show IntKind.i64.wrap ((BitVec.ofInt 64 R &&& BitVec.ofInt 64 3).toNat : Int) = _
  have h3 : (BitVec.ofInt 64 3 : BitVec 64).toNat = 2 ^ 2 - 1 := by decide
  rw [BitVec.toNat_and, h3, Nat.and_two_pow_sub_one_eq_mod, BitVec.toNat_ofInt, IntKind.wrap_i64]
  omega

def instrSh : Sh := .field (.int .i64) (.field (.int .i64) (.field (.int .i64) (.field (.int .u64) .nil)))
abbrev Ins : Type := Int × Int × Int × Int × Unit
def insC (d : Ins) : List AV := [.int .i64 d.1, .int .i64 d.2.1, .int .i64 d.2.2.1, .int .u64 d.2.2.2.1]
/-- A machine's state: its registers, and where it is. -/
structure PS where
  r0 : Int
  r1 : Int
  r2 : Int
  r3 : Int
  at_ : Int
def PS.get (s : PS) (i : Int) : Int := if i = 0 then s.r0 else if i = 1 then s.r1 else if i = 2 then s.r2 else s.r3
def PS.set (s : PS) (i x : Int) : PS := if i = 0 then { s with r0 := x } else if i = 1 then { s with r1 := x } else if i = 2 then { s with r2 := x } else { s with r3 := x }
/-- Is a machine done? -/
def psDone (l : List Ins) (a : Int) : Bool := decide (a < 0) || decide ((l.length : Int) ≤ a) || (((l[a.toNat]?).map (·.1)).getD 0 == 0)
def insAt (l : List Ins) (a : Int) : Ins := (l[a.toNat]?).getD (0, 0, 0, 0, ())
def PS.next (s : PS) : PS := { s with at_ := s.at_ + 1 }
/-- What the instruction i does, of a machine that isn't done. -/
def psDo (O : MOps) (i : Ins) (s : PS) (a : O.A) (d : Int) : PS × O.A :=
  let k := i.2.1 % 4
  let w := s.get k
  if i.1 = 1 then ((s.set k (O.ld a i.2.2.1).1).next, (O.ld a i.2.2.1).2)
  else if i.1 = 2 then (s.next, O.st a i.2.2.1 w)
  else if i.1 = 3 then ((s.set k (if (O.cs a i.2.2.1 w (s.get ((k + 1) % 4))).1 then 1 else 0)).next, (O.cs a i.2.2.1 w (s.get ((k + 1) % 4))).2)
  else if i.1 = 4 then ((s.set k (O.ad a i.2.2.1 i.2.2.2.1).1).next, (O.ad a i.2.2.1 i.2.2.2.1).2)
  else if i.1 = 5 then ((s.set k i.2.2.2.1).next, a)
  else if i.1 = 6 then ((s.set k ((w + i.2.2.2.1) % 18446744073709551616)).next, a)
  else if i.1 = 9 then ((s.set k (d % 18446744073709551616)).next, a)
  else if i.1 = 7 then ({ s with at_ := i.2.2.1 }, a)
  else if i.1 = 8 then (if w = 0 then ({ s with at_ := i.2.2.1 }, a) else (s.next, a))
  else (s.next, a)
/-- A machine's next Step. -/
def psStep (O : MOps) (l : List Ins) (s : PS) (a : O.A) (d : Int) : PS × O.A × Bool :=
  if psDone l s.at_ then (s, a, true)
  else ((psDo O (insAt l s.at_) s a d).1, (psDo O (insAt l s.at_) s a d).2, psDone l (psDo O (insAt l s.at_) s a d).1.at_)
theorem PS.get_nil (s : PS) : s.get 0 = s.r0 := rfl
theorem PS.set_at (s : PS) (i x : Int) : (s.set i x).at_ = s.at_ := by unfold PS.set; split; rfl; split; rfl; split <;> rfl

/-- A machine's block. -/
def pgC (l : List Ins) (s : PS) : List AV := [.fsl instrSh l, .int .u64 s.r0, .int .u64 s.r1, .int .u64 s.r2, .int .u64 s.r3, .int .i64 s.at_]
theorem mod4 (R : Int) : R % 4 = 0 ∨ R % 4 = 1 ∨ R % 4 = 2 ∨ R % 4 = 3 := by omega
theorem regGet (l : List Ins) (s : PS) (R : Int) : (pgC l s)[0 + 1 + (bits .and .i64 R 3).toNat * 1]? = some (.int .u64 (s.get (R % 4))) := by
  rw [and3]
  rcases mod4 R with h | h | h | h <;> rw [h] <;> rfl
theorem regPut (l : List Ins) (s : PS) (R x : Int) : writeAs ⟨.int .u64, 1, 8, [.int .u64 0]⟩ (pgC l s) (0 + 1 + (bits .and .i64 R 3).toNat * 1) (.int .u64 x) = some (pgC l (s.set (R % 4) x)) := by
  rw [and3]
  rcases mod4 R with h | h | h | h <;> rw [h] <;> rfl
theorem and3r (R : Int) : 0 ≤ bits .and .i64 R 3 ∧ bits .and .i64 R 3 < 4 := by rw [and3]; omega
set_option maxRecDepth 100000

theorem insC_flat : ∀ (l : List Ins), l.flatMap insC = l.flatMap (Sh.cells instrSh) := fun _ => rfl

end Go.Proofs.Ytphifpfndhfdfaa
