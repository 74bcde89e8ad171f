/-
  soughref24's Step, over the reference's memory, by the abstract walk.
-/
import Derived.Test.YtiihcgmnmcdcfaaRst
namespace Go.Proofs.Ytiihcgmnmcdcfaa
open Go.RowKit
set_option maxRecDepth 100000
/-- What a Step of the reference leads to. -/
def RPost (r m q : Nat) (l : List Ins) (s : PS) (ws : List Int) (d : Int) (σ : Hp) : AV → Hp → Prop :=
  Ret (.bool (psStep listOps l s ws d).2.2) ((r, pgC l (psStep listOps l s ws d).1) :: reH m q (psStep listOps l s ws d).2.1 σ)
theorem rPost {r m q : Nat} {l : List Ins} {s : PS} {ws ws' : List Int} {d : Int} {σ : Hp} {X : PS} {i : Ins} (h0 : psDone l s.at_ = false) (h1 : l[s.at_.toNat]? = some i) (h : psDo listOps i s ws d = (X, ws')) : RPost r m q l s ws d σ (.bool (psDone l X.at_)) ((r, pgC l X) :: reH m q ws' σ) := by
  have e : psStep listOps l s ws d = (X, ws', psDone l X.at_) := by simp [psStep, h0, insAt, h1, h]
  unfold RPost Ret
  rw [e]
  exact ⟨rfl, rfl⟩
theorem doNext (s : PS) (k x : Int) : (s.next.set k x) = (s.set k x).next := by
  unfold PS.set PS.next
  split
  · rfl
  · split
    · rfl
    · split <;> rfl
theorem getNext (s : PS) (k : Int) : s.next.get k = s.get k := rfl

end Go.Proofs.Ytiihcgmnmcdcfaa
