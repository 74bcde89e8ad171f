/-
  In: what the claim uses of them.
-/
import Derived.Test.YtacacplipaeokaaBn13
namespace Go.Proofs.Ytacacplipaeokaa
open Go.RowKit
set_option maxRecDepth 100000
theorem aRIn (l : List Int) (x : Int) (σ : Hp) (hl : l.length ≤ 1000000) : ACalls Try.prog 54 [.fsl (.int .i64) l, .int .i64 x] σ (Ret (.bool (l.any fun z => decide (x = z))) σ) := by
  refine okF Try.func54 (by kernel_rfl) ?_
  refine loopS (S := Nat) (fun k => [(1, .int .i64 x), (7, .fsl (.int .i64) l), (8, .int .i64 l.length), (9, .int .i64 k)]) (fun _ => σ) (fun k => k ≤ l.length ∧ ((l.take k).any fun z => decide (x = z)) = false) (fun k => l.length - k) 0 ⟨⟨Nat.zero_le _, rfl⟩, ⟨rfl, rfl, rfl, rfl, trivial⟩, rfl⟩ ?_
  rintro k g ⟨hk0, ha0⟩
  have hk : k ≤ l.length := hk0
  have ha : ((l.take k).any fun z => decide (x = z)) = false := ha0
  clear hk0 ha0
  refine bcond_dec (fun hlt => ?_) (fun hge => ?_)
  · have hlt : k < l.length := by have hlt : (k : Int) < l.length := hlt; omega
    have hs := any_take hlt fun z : Int => decide (x = z)
    rw [ha, Bool.false_or] at hs
    refine With.mk rfl (IdxF.mk l[k] (by omega) (get_some hlt) ?_)
    refine bcond_dec (p := l[k] = x) (fun d1 => ?_) (fun d1 => ?_)
    · exact .done ⟨av_bool (List.any_eq_true.2 ⟨l[k], List.getElem_mem hlt, decide_eq_true d1.symm⟩).symm, rfl⟩
    · exact nextS (k + 1) (by show l.length - (k + 1) < l.length - k; omega) ⟨hlt, hs.trans (decide_eq_false fun h => d1 h.symm)⟩ ⟨rfl, rfl, rfl, inc64 (by omega), trivial⟩ (.refl _)
  · have hge : k = l.length := by have hge : ¬ (k : Int) < l.length := hge; omega
    subst hge
    rw [List.take_length] at ha
    exact .done ⟨av_bool ha.symm, rfl⟩
end Go.Proofs.Ytacacplipaeokaa
