/-
  Facts; Laws: what the claim uses of them.
-/
import Derived.Below
import Derived.ChangeOld
import Derived.OpenShut
import Derived.ProofKit
import Derived.Test.YtljbnigceammdaaGreatRows
import Derived.WalkKit
import Derived.Test.YtljbnigceammdaaGreatBn13
namespace Go.Proofs.YtljbnigceammdaaGreat
open Go.ChangeShapes Go.WideShapes Go.ChangeAt Go.RowKit
theorem andI {a b : Bool} (ha : a = true) (hb : b = true) : (a && b) = true := by rw [ha, hb]; rfl
theorem fk2 : laidOutB Tryz.prog = true := by kernel_rfl
theorem fk3 : mapsRowed Tryz.prog = true := by kernel_rfl
theorem fk7 : (Tryz.prog.stops == []) = true := by kernel_rfl
theorem fk9 : (Tryz.prog.stopKnobs == []) = true := by kernel_rfl
theorem fk23 : (Rows.pathsManyRow.plainKeys == Tryz.prog.plainKeys) = true := by kernel_rfl
theorem fk25 : Tryz.prog.stopsHeard = true := by kernel_rfl
theorem fk26 : Tryz.prog.mayEnter = true := by kernel_rfl
theorem fk27 : (Rows.pathsManyRow.lifted == Tryz.prog.liftsFinal) = true := by kernel_rfl
theorem fk28 : (Tryz.prog.make == some Rows.pathsManyRow.make) = true := by kernel_rfl
theorem fown : ownKnob Tryz.prog.godebug = none := by kernel_rfl
end Go.Proofs.YtljbnigceammdaaGreat
namespace Go.Proofs.YtljbnigceammdaaGreat
open Go.RowKit
theorem va {F : Nat → Prop} {w : World} {x : AV} {xs : List AV} {v : Value} {vs : List Value} (h : VRel F w x v) (t : VRels F w xs vs.toArray) : VRels F w (x :: xs) (v :: vs).toArray := by
  refine ⟨by have := t.1; simp at this ⊢; exact this, fun i y hy => ?_⟩
  cases i with
  | zero => simp at hy; subst hy; simpa [Array.getD] using h
  | succ i =>
    have := t.2 i y (by simpa using hy)
    rw [Array.getD_eq_getD_getElem?] at this ⊢
    simpa using this
theorem vn {F : Nat → Prop} {w : World} : VRels F w [] ([] : List Value).toArray := ⟨rfl, fun i y hy => by simp at hy⟩
theorem vi {F : Nat → Prop} {w : World} {k : IntKind} {n : Int} : VRel F w (.int k n) (.int k n) := .int k n
theorem vg {w : World} {s : Sh} {cs : Array Value} {d : s.T} (hp : s.pos = true) (h : Reads w s (Value.agg cs).cells.toList d) : VRel (fun b => b < w.heap.size) w (.agg (s.cells d)) (.agg cs) := by
  obtain ⟨h1, h2⟩ := FReads.cells s _ d (freads_of s _ d hp h)
  refine .agg _ _ (by rw [h1]; rfl) (fun i x hx => (h2 i x hx).1) (fun i x hx => ?_)
  have := (h2 i x hx).2
  rw [List.getD_eq_getElem?_getD, Array.getElem?_toList, ← Array.getD_eq_getD_getElem?] at this
  exact this
theorem reads_each {w : World} {e : Sh} {cs : List Value} {l : List e.T} (h : Reads w (.slice e) cs l) : ∀ x ∈ l, ∃ cs', Reads w e cs' x := by
  obtain ⟨a, c, _, _, _, _, h3⟩ := h
  intro x hx
  obtain ⟨i, hi, rfl⟩ := List.mem_iff_getElem.1 hx
  obtain ⟨b, o, _, h4⟩ := h3 (List.ne_nil_of_mem hx)
  obtain ⟨cs', _, _, h5⟩ := h4 i hi
  exact ⟨cs', h5⟩
theorem reads_w64 {w : World} {cs : List Value} {l : List Int} (h : Reads w (.slice (.int .u64)) cs l) : ∀ z ∈ l, 0 ≤ z ∧ z < 18446744073709551616 := fun z hz => by
  obtain ⟨cs', h1, h2⟩ := reads_each h z hz
  exact wf_u64 h2
theorem reads_trans {w : World} {e : Sh} {cs : List Value} {x : List Int × List Int × e.T × Unit} (h : Reads w (.field (.slice (.int .u64)) (.field (.slice (.int .u64)) (.field e .nil))) cs x) : (∀ z ∈ x.1, 0 ≤ z ∧ z < 18446744073709551616) ∧ (∀ z ∈ x.2.1, 0 ≤ z ∧ z < 18446744073709551616) := by
  obtain ⟨c1, c2, _, _, h1, d1, d2, _, _, h2, _⟩ := h
  exact ⟨reads_w64 h1, reads_w64 h2⟩
theorem reads_sys {w : World} {c1 e1 : Sh} {cs : List Value} {x : Int × Int × Int × c1.slice.T × List Int × List Int × List (List Int × List Int × e1.T × Unit) × Unit} (h : Reads w (.field (.int .i64) (.field (.int .i64) (.field (.int .i64) (.field (.slice c1) (.field (.slice (.int .i64)) (.field (.slice (.int .u64)) (.field (.slice (.field (.slice (.int .u64)) (.field (.slice (.int .u64)) (.field e1 .nil)))) .nil))))))) cs x) : (∀ z ∈ x.2.2.2.2.2.1, 0 ≤ z ∧ z < 18446744073709551616) ∧ ∀ t ∈ x.2.2.2.2.2.2.1, (∀ z ∈ t.1, 0 ≤ z ∧ z < 18446744073709551616) ∧ (∀ z ∈ t.2.1, 0 ≤ z ∧ z < 18446744073709551616) := by
  obtain ⟨_, _, _, _, _, _, _, _, _, _, _, _, _, _, _, _, _, _, _, _, _, _, _, _, _, _, _, _, _, h6, _, _, _, _, h7, _⟩ := h
  refine ⟨reads_w64 h6, fun t ht => ?_⟩
  obtain ⟨cs', h1⟩ := reads_each h7 t ht
  exact reads_trans h1
end Go.Proofs.YtljbnigceammdaaGreat
