/-
  Lpt: what the claim uses of them.
-/
import Derived.Test.YtljbnigceammdaaGreatDoorBn49
namespace Go.Proofs.YtljbnigceammdaaGreatDoor
open Go.RowKit
set_option maxRecDepth 100000
/-- An edge of a right graph goes back just if its end is over its start. -/
theorem back_overR {N R : Nat} {l : List EdgeT} (d : DG N R l) {x : PrT} (hx : x ∈ l) : overR N l R x.2.1 x.1 = decide (x.2.1 ∈ domRow N l R x.1.toNat) := by
  have hri := d.ri
  unfold rightE at hri
  simp only [Bool.and_eq_true, List.all_eq_true] at hri
  have := hri.2 x hx
  have h1 := node_iff.1 this.1
  have h2 := node_iff.1 this.2
  have h3 : 0 ≤ x.2.1 ∧ x.2.1 < (N : Int) ∧ 0 ≤ x.1 ∧ x.1 < (N : Int) := ⟨h2.1, h2.2, h1.1, h1.2⟩
  obtain ⟨_, q⟩ := over_yes (N := N) (r := R) (l := l) d h3
  rw [q]
  unfold overB
  rw [decide_eq_true h3, Bool.true_and]
theorem back_takeS {N R : Nat} {l : List EdgeT} (d : DG N R l) {k : Nat} (h : k < (sortedE l).length) : ((sortedE l).take (k + 1)).filter (fun x => decide (x.2.1 ∈ domRow N l R x.1.toNat)) = ((sortedE l).take k).filter (fun x => decide (x.2.1 ∈ domRow N l R x.1.toNat)) ++ if overR N l R (sortedE l)[k].2.1 (sortedE l)[k].1 = true then [(sortedE l)[k]] else [] := by
  rw [back_overR d ((sortedE_mem l _).1 (List.getElem_mem h)), List.take_add_one, List.getElem?_eq_getElem h, List.filter_append]
  congr 1
  show List.filter _ [(sortedE l)[k]] = _
  rw [List.filter_cons, List.filter_nil]
theorem aR52Back (N R : Nat) (l : List EdgeT) (σ : Hp) (d : DG N R l) : ACalls Tryz.prog 35 [.int .i64 N, .fsl edgeSh l, .int .i64 R] σ (Ret (.fsl edgeSh (backP N l R)) σ) := by
  have hl := d.hl
  have h8 := d.h8
  have hsl : (sortedE l).length ≤ 1000 := Nat.le_trans (by rw [← insK_all]; exact insK_len l _ (Nat.le_refl _)) hl
  have hO : ∀ (a b : Int) ρ, ACalls Tryz.prog 21 [.int .i64 N, .fsl edgeSh l, .int .i64 R, .int .i64 a, .int .i64 b] ρ (Ret (.bool (overR N l R a b)) ρ) := fun a b ρ => aROver N R a b l ρ (by omega) hl
  refine okF Tryz.func35 (by kernel_rfl) ?_
  refine callR [] (aRSortedE l _ (by omega)) ?_
  obtain ⟨T, hT⟩ : ∃ T : Nat → List PrT, T = fun k => ((sortedE l).take k).filter (fun x => decide (x.2.1 ∈ domRow N l R x.1.toNat)) := ⟨_, rfl⟩
  have hTS : ∀ k (h : k < (sortedE l).length), T (k + 1) = T k ++ if overR N l R (sortedE l)[k].2.1 (sortedE l)[k].1 = true then [(sortedE l)[k]] else [] := fun k h => by rw [hT]; exact back_takeS d h
  have hTe : T (sortedE l).length = backP N l R := by rw [hT]; show List.filter _ ((sortedE l).take _) = _; rw [List.take_length]; rfl
  have hT0 : T 0 = [] := by rw [hT]; rfl
  have hTl : ∀ k, (T k).length ≤ 1000 := fun k => by rw [hT]; exact Nat.le_trans (List.length_filter_le _ _) (by rw [List.length_take]; omega)
  clear hT
  rw [← hTe]
  refine loopS (S := Nat × AV × Hp) (fun x => [(0, .int .i64 N), (1, .fsl edgeSh l), (2, .int .i64 R), (7, x.2.1), (11, .fsl edgeSh (sortedE l)), (12, .int .i64 (sortedE l).length), (13, .int .i64 x.1)]) (fun x => x.2.2 ++ σ) (fun x => x.1 ≤ (sortedE l).length ∧ Acc 2 (T x.1).length x.2.1 x.2.2 ((T x.1).flatMap cellE)) (fun x => (sortedE l).length - x.1) (0, .nils, []) ⟨⟨Nat.zero_le _, by rw [hT0]; exact .nil⟩, ⟨rfl, rfl, rfl, rfl, rfl, rfl, rfl, trivial⟩, rfl⟩ ?_
  rintro ⟨k, v, acc⟩ g ⟨hk0, hA0⟩
  have hk : k ≤ (sortedE l).length := hk0
  have hB : Acc 2 (T k).length v acc ((T k).flatMap cellE) := hA0
  clear hk0 hA0
  refine bcond_dec (p := (k : Int) < (sortedE l).length) (fun hlt => ?_) (fun hge => ?_)
  · have hlt : k < (sortedE l).length := by omega
    obtain ⟨x, hx⟩ : ∃ x, (sortedE l)[k] = x := ⟨_, rfl⟩
    have hst := hTS k hlt
    rw [hx] at hst
    have hkl := hTl k
    obtain ⟨x1, x2, xu⟩ := x
    refine With.mk rfl (IdxF.mk (x1, x2, xu) (by omega) ((get_some hlt).trans (congrArg some hx)) ?_)
    intro bl1
    refine StoreAt.mk 0 _ _ rfl rfl ?_
    refine LoadAt.mk 0 _ _ rfl rfl ?_
    refine LoadAt.mk 0 _ _ rfl rfl ?_
    refine callB [] (hO x2 x1 _) (fun c1 => ?_) (fun c1 => ?_)
    · rw [if_pos c1] at hst
      have hnl : (T (k + 1)).length = (T k).length + 1 := by rw [hst, List.length_append]; rfl
      have hnw : (T (k + 1)).flatMap cellE = (T k).flatMap cellE ++ [.int .i64 x1, .int .i64 x2] := by rw [hst]; exact List.flatMap_append
      have hgo : ∀ b5, Acc 2 ((T k).length + 1) (.mref b5 0 ((T k).length + 1) 2) [(b5, (T k).flatMap cellE ++ [.int .i64 x1, .int .i64 x2])] ((T k).flatMap cellE ++ [.int .i64 x1, .int .i64 x2]) → Acc 2 (T (k + 1)).length (.mref b5 0 ((T k).length + 1) 2) [(b5, (T k).flatMap cellE ++ [.int .i64 x1, .int .i64 x2])] ((T (k + 1)).flatMap cellE) := fun b5 h => by rw [hnl, hnw]; exact h
      generalize (T k).flatMap cellE = cs at hB hgo
      generalize (T k).length = q at hB hgo hkl
      rcases acc_val hB with ⟨rfl, rfl, hj0, hc0⟩ | ⟨b2, rfl, rfl⟩
      · subst hj0; subst hc0
        refine LoadAt.mk 0 _ _ rfl rfl ?_
        intro bl3
        refine append_accV (i := ⟨_, 2, 16, [.int .i64 0, .int .i64 0]⟩) (k := 0) (cs := []) [_, _] .nil (.mref 0 bl3 0 1 _ rfl (Nat.le_of_ble_eq_true rfl)) rfl (by decide) (by decide) (by decide) (fun v' acc' h' => ?_)
        obtain ⟨b5, rfl, rfl⟩ := acc_one (by omega) h'
        exact nextS (k + 1, .mref b5 0 (0 + 1) 2, [(b5, [] ++ [.int .i64 x1, .int .i64 x2])]) (by show (sortedE l).length - (k + 1) < (sortedE l).length - k; omega) ⟨hlt, hgo b5 h'⟩ ⟨rfl, rfl, rfl, rfl, rfl, rfl, inc64 (by omega), trivial⟩ (.drop 0 2 (shed_eq rfl))
      · refine LoadAt.mk 0 _ _ rfl rfl ?_
        intro bl3
        refine append_accV (i := ⟨_, 2, 16, [.int .i64 0, .int .i64 0]⟩) [_, _] hB (.mref 0 bl3 0 1 _ rfl (Nat.le_of_ble_eq_true rfl)) rfl (by omega) (by decide) (by decide) (fun v' acc' h' => ?_)
        obtain ⟨b5, rfl, rfl⟩ := acc_one (by omega) h'
        exact nextS (k + 1, .mref b5 0 (q + 1) 2, [(b5, cs ++ [.int .i64 x1, .int .i64 x2])]) (by show (sortedE l).length - (k + 1) < (sortedE l).length - k; omega) ⟨hlt, hgo b5 h'⟩ ⟨rfl, rfl, rfl, rfl, rfl, rfl, inc64 (by omega), trivial⟩ (.drop 0 2 (shed_eq rfl))
    · rw [if_neg (by rw [c1]; decide), List.append_nil] at hst
      exact nextS (k + 1, v, acc) (by show (sortedE l).length - (k + 1) < (sortedE l).length - k; omega) ⟨hlt, by show Acc 2 (T (k + 1)).length v acc ((T (k + 1)).flatMap cellE); rw [hst]; exact hB⟩ ⟨rfl, rfl, rfl, rfl, rfl, rfl, inc64 (by omega), trivial⟩ (.drop 0 1 (.refl _))
  · have hge : k = (sortedE l).length := by omega
    subst hge
    rcases acc_val hB with ⟨rfl, rfl, hj0, hc0⟩ | ⟨b2, rfl, rfl⟩
    · exact .nil (.nil edgeSh) (.done ⟨by rw [List.length_eq_zero_iff.1 hj0]; rfl, rfl⟩)
    · exact .frz (r' := .fsl edgeSh (T (sortedE l).length)) 0 b2 0 _ 2 _ edgeSh (T (sortedE l).length) rfl (by rw [List.drop_zero]; exact List.take_of_length_le (Nat.le_of_eq hB.length)) ⟨rfl, rfl, by decide⟩ .here (.done ⟨rfl, rfl⟩)
end Go.Proofs.YtljbnigceammdaaGreatDoor
