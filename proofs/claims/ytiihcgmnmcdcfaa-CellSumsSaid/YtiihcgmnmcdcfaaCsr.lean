/-
  CellSums: Joins of a cell, run.
-/
import Derived.Test.YtiihcgmnmcdcfaaCs
import Derived.Test.YtiihcgmnmcdcfaaL12
namespace Go.Proofs.Ytiihcgmnmcdcfaa
open Go.RowKit
set_option maxRecDepth 100000
set_option maxHeartbeats 4000000
abbrev jn0 (what n : Int) (b : List Int) : Jn := ⟨0, what, n, b, false, false, 0, 0, false, 0⟩
theorem jn_keep {j : Jn} {ws : List Int} (h : j.at_ ≤ cw j.words) : (jnStep listOps j ws).1.at_ ≤ cw (jnStep listOps j ws).1.words := by
  unfold jnStep jnNext
  repeat' split
  all_goals first | exact h | skip
  all_goals dsimp only at *
  all_goals omega
/-- The Joins of a run. -/
abbrev joinK (p q : Nat) : Kind p q where
  X := Jn
  C := jnC
  T := 90
  g := 90
  me := fun a w => by kernel_rfl
  stp x ws _ := jnStep listOps x ws
  good x := x.at_ ≤ cw x.words
  keep _ _ _ h := jn_keep h
  call r x ws d σ h := ofMPost (aJoin (plainM p q) r x ws d σ trivial (Nat.le_trans h (Nat.le_trans (cw_le _) (by decide)))) rfl
theorem cs_first {what : Int} {a : List Int} {l : List (List Int)} (hw : isL what) (ha : ∀ i, LD what (wd a i)) (hb : ∀ x ∈ l, ∀ i, LD what (wd x i)) : CSums what a l (l.map (jn0 what a.length)) a := by
  refine ⟨by simp, rfl, ha, fun i => lle_refl hw (ha i), fun i hi => ((sum_hi hw l a ha hb).2 i hi).1, fun i h h2 => ?_⟩
  rw [List.getElem_map]
  exact ⟨rfl, rfl, rfl, rfl, Nat.zero_le _, (fun k hk => absurd hk (Nat.not_lt_zero k)), (fun h => by cases h), (fun h => by cases h), (fun h => by cases h)⟩
theorem cs_run (p q : Nat) {what : Int} {a : List Int} {l : List (List Int)} (hw : isL what) (ha : ∀ i, LD what (wd a i)) (hb : ∀ x ∈ l, ∀ i, LD what (wd x i)) (h1024 : a.length ≤ 1024) (hn : 0 < l.length) (scr : List (Int × Int × Unit)) (rs : List Nat) (hr : rs.length = l.length) : ∀ R, R = ((joinK p q).world rs).run scr (l.map (jn0 what a.length), a) → R.dn = R.a.1.map Jn.ended ∧ CSums what a l R.a.1 R.a.2 := by
  intro R hR
  have hl : (((joinK p q).world rs).L).length = l.length := by show (rs.map _).length = l.length; rw [List.length_map, hr]
  have h := goS_inv (step := (joinK p q).step) (tell := fun a _ => a) (n := l.length) (fun y dn => dn = y.1.map Jn.ended ∧ CSums what a l y.1 y.2) (fun _ _ => rfl) hn ?_ scr ⟨(l.map (jn0 what a.length), a), List.replicate l.length 0, List.replicate l.length false, 0⟩ (by simp) ?_
  · have e : R = goS (joinK p q).step (fun a _ => a) l.length scr ⟨(l.map (jn0 what a.length), a), List.replicate l.length 0, List.replicate l.length false, 0⟩ := by
      rw [hR]
      unfold AWorld.run
      rw [hl]
      unfold AWorld.init
      rw [hl]
      have : (((joinK p q).world rs).L).map isNil = List.replicate l.length false := by
        rw [← hr]
        refine List.ext_getElem (by simp [Kind.world]) fun i h1 h2 => ?_
        simp [Kind.world, isNil]
      rw [this]
      rfl
    rw [← e] at h
    exact h.2
  · intro y dn i d hi hdn h12 hf
    obtain ⟨L, ws⟩ : List Jn × List Int := y
    have h12 : dn = L.map Jn.ended ∧ CSums what a l L ws := h12
    obtain ⟨h2, h3⟩ := h12
    have hiL : i < L.length := by rw [h3.hl]; exact hi
    have he : L[i].ended = false := by
      rw [h2, List.getElem?_map, List.getElem?_eq_getElem hiL] at hf
      exact Option.some.inj hf
    obtain ⟨g1, g2⟩ := cs_step hw h3 ha hb h1024 hiL he
    rw [Kind.step_at (joinK p q) (L := L) hiL]
    refine ⟨?_, g1⟩
    show dn.set i (jnStep listOps L[i] ws).2.2 = (L.set i (jnStep listOps L[i] ws).1).map Jn.ended
    rw [g2, h2, List.map_set]
  · show List.replicate l.length false = (l.map (jn0 what a.length)).map Jn.ended ∧ CSums what a l (l.map (jn0 what a.length)) a
    refine ⟨?_, cs_first hw ha hb⟩
    rw [List.map_map]
    exact (List.eq_replicate_of_mem (by intro b hb; obtain ⟨x, _, rfl⟩ := List.mem_map.1 hb; rfl) |>.trans (by simp)).symm
end Go.Proofs.Ytiihcgmnmcdcfaa
