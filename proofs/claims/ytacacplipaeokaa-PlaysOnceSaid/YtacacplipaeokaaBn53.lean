/-
  Laws: what the claim uses of them.
-/
import Derived.Test.YtacacplipaeokaaBn13
namespace Go.Proofs.Ytacacplipaeokaa
open Go.RowKit
theorem va {F : Nat → Prop} {w : World} {x : AV} {xs : List AV} {v : Value} {vs : List Value} (h : VRel F w x v) (t : VRels F w xs vs.toArray) : VRels F w (x :: xs) (v :: vs).toArray := by
  refine ⟨by have := t.1; simp at this ⊢; exact this, fun i y hy => ?_⟩
  cases i with
  | zero => simp at hy; subst hy; simpa [Array.getD] using h
  | succ i =>
    have := t.2 i y (by simpa using hy)
    rw [Array.getD_eq_getD_getElem?] at this ⊢
    simpa using this
theorem vn {F : Nat → Prop} {w : World} : VRels F w [] ([] : List Value).toArray := ⟨rfl, fun i y hy => by simp at hy⟩
theorem vi {F : Nat → Prop} {w : World} {k : IntKind} {n : Int} : VRel F w (.int k n) (.int k n) := .int k n
theorem vl {w : World} {e : Sh} {a : Option Addr} {n c : Nat} {l : List e.T} (hp : (Sh.slice e).pos = true) (h : Reads w (.slice e) (Value.slice a n c).cells.toList l) : VRel (fun b => b < w.heap.size) w (.fsl e l) (.slice a n c) :=
  .fsl e l _ (freads_of (.slice e) _ l hp h)
end Go.Proofs.Ytacacplipaeokaa
