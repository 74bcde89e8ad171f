/-
  package system: start, values, Below, Bottom.
-/
import Derived.Test.YtegpahamenjiaaaYa
namespace Go.Proofs.Ytegpahamenjiaaa
open Go.RowKit
set_option maxRecDepth 100000
/-- What is known of a node from the beginning. -/
def startS (s : Sy) (v : Int) : List Int := if (s.entry.any fun z => decide (v = z)) = true then s.init else botL s.what s.w
/-- Are lists one value a node? -/
def valsS (s : Sy) (a : List (List Int)) : Bool := decide ((a.length : Int) = s.n) && a.all (valL s.what s.w)
def okLL (a : List (List Int)) : Prop := a.length ≤ 100000 ∧ ∀ x ∈ a, A64 x ∧ x.length ≤ 10000
theorem all_v {what w : Int} (l : List (List Int)) {b : Bool} (h : (l.any fun x => !valL what w x) = b) : l.all (valL what w) = !b := by rw [all_not, h]
/-- Of two lists, one by one. -/
def allTwo (p : List Int → List Int → Bool) (a b : List (List Int)) : Bool := decide (a.length = b.length) && (List.zipWith p a b).all id
theorem allTwo_len {p : List Int → List Int → Bool} {a b : List (List Int)} (h : ¬ a.length = b.length) : allTwo p a b = false := by unfold allTwo; rw [decide_eq_false h]; rfl
theorem allTwo_iff {p : List Int → List Int → Bool} {a b : List (List Int)} : allTwo p a b = true ↔ a.length = b.length ∧ ∀ i (h : i < a.length) (h2 : i < b.length), p a[i] b[i] = true := by
  unfold allTwo
  rw [Bool.and_eq_true, decide_eq_true_eq, List.all_eq_true]
  constructor
  · rintro ⟨h1, h2⟩
    refine ⟨h1, fun i hi hi2 => ?_⟩
    exact h2 _ (List.mem_iff_getElem.2 ⟨i, by rw [List.length_zipWith]; omega, by rw [List.getElem_zipWith]⟩)
  · rintro ⟨h1, h2⟩
    refine ⟨h1, fun x hx => ?_⟩
    obtain ⟨i, hi, rfl⟩ := List.mem_iff_getElem.1 hx
    rw [List.length_zipWith] at hi
    rw [List.getElem_zipWith]
    exact h2 i (by omega) (by omega)
theorem allTwo_succ {p : List Int → List Int → Bool} {a b : List (List Int)} {k : Nat} (h1 : k < a.length) (h2 : k < b.length) (ht : allTwo p (a.take k) (b.take k) = true) (hc : p a[k] b[k] = true) : allTwo p (a.take (k + 1)) (b.take (k + 1)) = true := by
  rw [allTwo_iff] at ht ⊢
  obtain ⟨_, q⟩ := ht
  refine ⟨by simp; omega, fun i hi hi2 => ?_⟩
  rw [List.getElem_take, List.getElem_take]
  by_cases e : i = k
  · subst e; exact hc
  · have := q i (by simp at hi ⊢; omega) (by simp at hi ⊢; omega)
    rw [List.getElem_take, List.getElem_take] at this
    exact this
theorem allTwo_no {p : List Int → List Int → Bool} {a b : List (List Int)} {k : Nat} (h1 : k < a.length) (h2 : k < b.length) (hc : p a[k] b[k] = false) : allTwo p a b = false := by
  cases h : allTwo p a b with
  | false => rfl
  | true => rw [(allTwo_iff.1 h).2 k h1 h2] at hc; cases hc
def belowS (s : Sy) (a b : List (List Int)) : Bool := decide (checkS s = 0) && valsS s a && valsS s b && allTwo (belowL s.what s.w) a b
end Go.Proofs.Ytegpahamenjiaaa
