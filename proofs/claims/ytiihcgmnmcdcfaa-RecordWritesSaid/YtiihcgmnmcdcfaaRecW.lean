/-
  soughlaw23: awake; what is noted tells, asked again, the same.
-/
import Derived.Test.YtiihcgmnmcdcfaaRecT
namespace Go.Proofs.Ytiihcgmnmcdcfaa
open Go.RowKit
set_option maxRecDepth 100000
theorem ask_again (ws : List Int) (k t x y : Int) (hk : 1 ≤ k ∧ k ≤ 4) : ∀ e, e = (askOp listOps ws k t x y).1 → kindB e.d = true ∧ askOp listOps ws e.kind e.at_ e.a e.b = askOp listOps ws k t x y := by
  rintro e rfl
  rcases (show k = 1 ∨ k = 2 ∨ k = 3 ∨ k = 4 by omega) with rfl | rfl | rfl | rfl <;> exact ⟨rfl, rfl⟩
theorem replay_more {zs : List Int} {es : List Ev} {ws : List Int} {k t x y : Int} (hk : 1 ≤ k ∧ k ≤ 4) (h : replay zs (es.map Ev.d) = (es, ws)) : replay zs ((es ++ [(askOp listOps ws k t x y).1]).map Ev.d) = (es ++ [(askOp listOps ws k t x y).1], (askOp listOps ws k t x y).2) := by
  obtain ⟨_, h2⟩ := ask_again ws k t x y hk _ rfl
  unfold replay at h ⊢
  rw [List.map_append, List.foldl_append, h]
  show (es ++ [(askOp listOps ws _ _ _ _).1], (askOp listOps ws _ _ _ _).2) = _
  exact congrArg (fun r : Ev × List Int => (es ++ [r.1], r.2)) h2

theorem awake23a : ACalls Try.prog 11 [] [] (Ret (.bool true) []) := by
  refine okF Try.func11 (by kernel_rfl) ?_
  refine .mk [] _ (aNew 1 []) ?_
  rintro _ _ ⟨p, q, rfl, rfl⟩
  refine .mk [] _ (aLogNew (plainM p q) _) ?_
  rintro _ _ ⟨r, rfl, rfl⟩
  refine .mk [] _ (aLogStore (plainM p q) r ⟨([0] : List Int), [], .nils, [], .nil⟩ 0 5 [] trivial (by show 0 < 1000000; decide)) ?_
  rintro _ _ ⟨s, e1, e2, rfl, rfl⟩
  refine .mk [] _ (aLogLoad (plainM p q) r s 0 [] trivial (by rw [e2]; show 1 < 1000000; decide)) ?_
  rintro _ _ ⟨s', f1, f2, rfl, rfl⟩
  have hs : s.m = ([5] : List Int) := e1
  have hg : ((plainM p q).O.ld ((plainM p q).abs s.m) 0).1 = 5 := by
    show mLoad s.m 0 = 5
    rw [hs]; rfl
  rw [hg, e2] at f2
  have hev := aEventsF (plainM p q) r s' ((plainM p q).B s'.m ++ []) (by rw [f2]; show 2 ≤ 1000000; decide)
  rw [f2] at hev
  refine callR [] hev ?_
  refine With.mk rfl (IdxF.mk (⟨1, 0, 0, 0, 5, false⟩ : Ev).d (by decide) rfl ?_)
  refine With.mk rfl (IdxF.mk (⟨1, 0, 0, 0, 5, false⟩ : Ev).d (by decide) rfl ?_)
  have h := fin_dropL (R := Ret (.bool true) []) (x := .bool true) (σ := []) ((r, [(plainM p q).v, s'.c]) :: (s'.acc ++ (plainM p q).B s'.m)) (.done ⟨rfl, rfl⟩)
  simp only [List.cons_append, List.append_assoc] at h
  exact h
end Go.Proofs.Ytiihcgmnmcdcfaa
