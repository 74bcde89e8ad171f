/-
  soughlaw24: the walk of StepOnce: a Step asks the memory once at most.
-/
import Derived.Test.YtiihcgmnmcdcfaaSplays
import Derived.Test.YtiihcgmnmcdcfaaLog
namespace Go.Proofs.Ytiihcgmnmcdcfaa
open Go.RowKit
set_option maxRecDepth 100000
theorem ACalls.perm2 {P : Program} {f : FuncId} {xs : List AV} {σ σ2 σ3 σ4 : Hp} {x : AV} (h : ACalls P f xs σ2 (Ret x σ3)) (hp : σ2.Perm σ) (hq : σ4.Perm σ3) : ACalls P f xs σ (Ret x σ4) :=
  callAt_get (.perm _ hp h fun _ _ h' => ⟨σ4, h'.2 ▸ hq, h'.1, rfl⟩)
theorem aCountAt (M : AMem) (r : Nat) (s : LogS M) (fr σ : Hp) (hl : s.es.length ≤ 1000000) : ACalls Try.prog 22 [.ptr r 0] (fr ++ ((logM M r).B s ++ σ)) (Ret (.int .i64 s.es.length) (fr ++ ((logM M r).B s ++ σ))) := by
  have h := aCount M r s (M.B s.m ++ (fr ++ σ)) hl
  have e : (r, [M.v, s.c]) :: (s.acc ++ (M.B s.m ++ (fr ++ σ))) = (logM M r).B s ++ (fr ++ σ) := by
    show _ = ((r, [M.v, s.c]) :: (s.acc ++ M.B s.m)) ++ (fr ++ σ)
    simp
  rw [e] at h
  exact h.perm2 (front_perm' fr _ σ) (front_perm' fr _ σ).symm
theorem psDo_once (O : MOps) (i : Ins) (s : PS) (a : O.A) (es : List Ev) (d : Int) : (psDo (logOps O) i s (a, es) d).2.2.length ≤ es.length + 1 := by
  unfold psDo logOps
  dsimp only
  repeat' split
  all_goals simp
theorem psStep_once (O : MOps) (l : List Ins) (s : PS) (a : O.A) (es : List Ev) (d : Int) : (psStep (logOps O) l s (a, es) d).2.1.2.length ≤ es.length + 1 := by
  unfold psStep
  split
  · show es.length ≤ es.length + 1; omega
  · exact psDo_once O _ s a es d

end Go.Proofs.Ytiihcgmnmcdcfaa
