/-
  Dh; Laws: what the claim uses of them.
-/
import Derived.Test.YtljbnigceammdaaGreatDoorBn47
import Derived.Test.YtljbnigceammdaaGreatDoorBn13
namespace Go.Proofs.YtljbnigceammdaaGreatDoor
open Go.RowKit
set_option maxRecDepth 100000
def dRow (A : List Int) (j : Nat) : List Int := (List.range j).map (depthV A)
theorem dRow_succ (A : List Int) (j : Nat) : dRow A (j + 1) = dRow A j ++ [depthV A j] := by unfold dRow; rw [List.range_succ, List.map_append]; rfl
theorem dRow_length (A : List Int) (j : Nat) : (dRow A j).length = j := by unfold dRow; simp
theorem depth_cut {A : List Int} {j n : Nat} {at' : Int} (hn : n ≤ A.length + 1) (hs : depthV A j = (let n := (stepsOut A (A.length + 2 - n) at' n).2; if n ≤ A.length then (n : Int) else -1)) (h : ¬ (0 ≤ at' ∧ at' < A.length ∧ n ≤ A.length)) : depthV A j = if n ≤ A.length then (n : Int) else -1 := by
  rw [hs, show A.length + 2 - n = (A.length + 1 - n) + 1 by omega, so_no h]
theorem aRDepth (A : List Int) (σ : Hp) (hl : A.length ≤ 100000) : ACalls Tryz.prog 23 [.fsl (.int .i64) A] σ (Ret (.fsl (.int .i64) ((List.range A.length).map (depthV A))) σ) := by
  refine okF Tryz.func23 (by kernel_rfl) ?_
  refine .wrap 3 _ rfl rfl ?_
  refine loopS (S := Nat × AV × Hp) (fun s => [(0, .fsl (.int .i64) A), (3, .via s.2.1), (8, .int .i64 A.length), (9, .int .i64 s.1)]) (fun s => s.2.2 ++ σ) (fun s => s.1 ≤ A.length ∧ Acc 1 s.1 s.2.1 s.2.2 (inC (dRow A s.1))) (fun s => A.length - s.1) (0, .nils, []) ⟨⟨Nat.zero_le _, .nil⟩, ⟨rfl, rfl, rfl, rfl, trivial⟩, rfl⟩ ?_
  rintro ⟨j, v, acc⟩ g ⟨hj0, hacc0⟩
  have hj : j ≤ A.length := hj0
  have hacc : Acc 1 j v acc (inC (dRow A j)) := hacc0
  clear hj0 hacc0
  refine bcond_dec (p := (j : Int) < A.length) (fun hlt => ?_) (fun hge => ?_)
  · have hlt : j < A.length := by omega
    refine loopS (S := Int × Nat) (fun s => [(0, .fsl (.int .i64) A), (3, .via v), (5, .int .i64 s.2), (6, .int .i64 s.1), (8, .int .i64 A.length), (9, .int .i64 j)]) (fun _ => acc ++ σ) (fun s => s.2 ≤ A.length + 1 ∧ depthV A j = (let n := (stepsOut A (A.length + 2 - s.2) s.1 s.2).2; if n ≤ A.length then (n : Int) else -1)) (fun s => A.length + 1 - s.2) (j, 0) ⟨⟨Nat.zero_le _, rfl⟩, ⟨rfl, rfl, rfl, rfl, rfl, rfl, trivial⟩, rfl⟩ ?_
    rintro ⟨x, n⟩ g2 ⟨hn0, hs0⟩
    have hn : n ≤ A.length + 1 := hn0
    have hs : depthV A j = (let n := (stepsOut A (A.length + 2 - n) x n).2; if n ≤ A.length then (n : Int) else -1) := hs0
    clear hn0 hs0
    have hnext : ∀ {y : Int} {v' : AV} {acc' : Hp}, depthV A j = y → Acc 1 (j + 1) v' acc' (inC (dRow A j) ++ [.int .i64 y]) → Acc 1 (j + 1) v' acc' (inC (dRow A (j + 1))) := fun h h' => by
      rw [dRow_succ, h, inC, List.map_append]
      exact h'
    refine bcond_dec (fun c1 => ?_) (fun c1 => ?_)
    · have c1 : 0 ≤ x := c1
      refine bcond_dec (fun c2 => ?_) (fun c2 => ?_)
      · have c2 : x < (↑A.length : Int) := c2
        refine bcond_dec (fun c3 => ?_) (fun c3 => ?_)
        · have c3 : (↑n : Int) ≤ (↑A.length : Int) := c3
          refine With.mk rfl ?_
          have c1' : 0 ≤ x := by assumption
          obtain ⟨y, hy⟩ : ∃ y, A.getD x.toNat 0 = y := ⟨_, rfl⟩
          have hgx := gzD (way := A) (j := x.toNat) (by omega) (i := x) (by omega)
          rw [hy] at hgx
          refine IdxF.mk y (by omega) hgx ?_
          rw [show A.length + 2 - n = (A.length + 1 - n) + 1 by omega, so_yes (by omega) (by omega) (by omega), hy] at hs
          exact nextS (y, n + 1) (by show A.length + 1 - (n + 1) < A.length + 1 - n; omega) ⟨by show n + 1 ≤ A.length + 1; omega, by rw [hs, show A.length + 2 - (n + 1) = A.length + 1 - n by omega]⟩ ⟨rfl, rfl, inc64 (by omega), rfl, rfl, rfl, trivial⟩ (.refl _)
        · have c3 : ¬ ((↑n : Int) ≤ (↑A.length : Int)) := c3
          refine bcond_dec (fun c4 => ?_) (fun c4 => ?_)
          · have c4 : (↑A.length : Int) < (↑n : Int) := c4
            intro bl5
            refine append_acc [_] hacc (.mref 0 bl5 0 1 _ rfl (Nat.le_of_ble_eq_true rfl)) rfl (by omega) (by decide) (by decide) (fun v' acc' h' => ?_)
            exact nextS (j + 1, v', acc') (by show A.length - (j + 1) < A.length - j; omega) ⟨hlt, hnext ((depth_cut hn hs (by omega)).trans (if_neg (by omega))) h'⟩ ⟨rfl, rfl, rfl, inc64 (by omega), trivial⟩ (.drop 0 1 (shed_eq rfl))
          · have c4 : ¬ ((↑A.length : Int) < (↑n : Int)) := c4
            intro bl6
            refine append_acc [_] hacc (.mref 0 bl6 0 1 _ rfl (Nat.le_of_ble_eq_true rfl)) rfl (by omega) (by decide) (by decide) (fun v' acc' h' => ?_)
            exact nextS (j + 1, v', acc') (by show A.length - (j + 1) < A.length - j; omega) ⟨hlt, hnext ((depth_cut hn hs (by omega)).trans (if_pos (by omega))) h'⟩ ⟨rfl, rfl, rfl, inc64 (by omega), trivial⟩ (.drop 0 1 (shed_eq rfl))
      · have c2 : ¬ (x < (↑A.length : Int)) := c2
        refine bcond_dec (fun c7 => ?_) (fun c7 => ?_)
        · have c7 : (↑A.length : Int) < (↑n : Int) := c7
          intro bl8
          refine append_acc [_] hacc (.mref 0 bl8 0 1 _ rfl (Nat.le_of_ble_eq_true rfl)) rfl (by omega) (by decide) (by decide) (fun v' acc' h' => ?_)
          exact nextS (j + 1, v', acc') (by show A.length - (j + 1) < A.length - j; omega) ⟨hlt, hnext ((depth_cut hn hs (by omega)).trans (if_neg (by omega))) h'⟩ ⟨rfl, rfl, rfl, inc64 (by omega), trivial⟩ (.drop 0 1 (shed_eq rfl))
        · have c7 : ¬ ((↑A.length : Int) < (↑n : Int)) := c7
          intro bl9
          refine append_acc [_] hacc (.mref 0 bl9 0 1 _ rfl (Nat.le_of_ble_eq_true rfl)) rfl (by omega) (by decide) (by decide) (fun v' acc' h' => ?_)
          exact nextS (j + 1, v', acc') (by show A.length - (j + 1) < A.length - j; omega) ⟨hlt, hnext ((depth_cut hn hs (by omega)).trans (if_pos (by omega))) h'⟩ ⟨rfl, rfl, rfl, inc64 (by omega), trivial⟩ (.drop 0 1 (shed_eq rfl))
    · have c1 : ¬ (0 ≤ x) := c1
      refine bcond_dec (fun c10 => ?_) (fun c10 => ?_)
      · have c10 : (↑A.length : Int) < (↑n : Int) := c10
        intro bl11
        refine append_acc [_] hacc (.mref 0 bl11 0 1 _ rfl (Nat.le_of_ble_eq_true rfl)) rfl (by omega) (by decide) (by decide) (fun v' acc' h' => ?_)
        exact nextS (j + 1, v', acc') (by show A.length - (j + 1) < A.length - j; omega) ⟨hlt, hnext ((depth_cut hn hs (by omega)).trans (if_neg (by omega))) h'⟩ ⟨rfl, rfl, rfl, inc64 (by omega), trivial⟩ (.drop 0 1 (shed_eq rfl))
      · have c10 : ¬ ((↑A.length : Int) < (↑n : Int)) := c10
        intro bl12
        refine append_acc [_] hacc (.mref 0 bl12 0 1 _ rfl (Nat.le_of_ble_eq_true rfl)) rfl (by omega) (by decide) (by decide) (fun v' acc' h' => ?_)
        exact nextS (j + 1, v', acc') (by show A.length - (j + 1) < A.length - j; omega) ⟨hlt, hnext ((depth_cut hn hs (by omega)).trans (if_pos (by omega))) h'⟩ ⟨rfl, rfl, rfl, inc64 (by omega), trivial⟩ (.drop 0 1 (shed_eq rfl))
  · have hge : j = A.length := by omega
    subst hge
    exact fin_acc (s := .int .i64) [] hacc (dRow_length A _).symm (inC_flat _) (by decide) (.done ⟨rfl, rfl⟩)
def awE51 : List EdgeT := [(0, 1, ()), (1, 2, ())]
theorem awAll : domAll 3 awE51 0 = [[0], [0, 1], [0, 1, 2]] := by
  have h : ∀ v, v < 3 → domRow 3 awE51 0 v = rowR 3 awE51 0 v := fun v hv => row_eq (by decide) (by decide) (by decide) (by decide +kernel) (by decide) hv
  unfold domAll
  show [domRow 3 awE51 0 0, domRow 3 awE51 0 1, domRow 3 awE51 0 2] = _
  rw [h 0 (by decide), h 1 (by decide), h 2 (by decide)]
  decide +kernel
theorem awAbove : domAbove 3 awE51 0 = [-1, 0, 1] := by
  have hA := awAll
  have h : ∀ v, v < 3 → domRow 3 awE51 0 v = rowR 3 awE51 0 v := fun v hv => row_eq (by decide) (by decide) (by decide) (by decide +kernel) (by decide) hv
  show [aboveV 3 awE51 0 0, aboveV 3 awE51 0 1, aboveV 3 awE51 0 2] = _
  unfold aboveV
  rw [hA, h 0 (by decide), h 1 (by decide), h 2 (by decide)]
  decide +kernel
theorem aAwake51 (σ : Hp) (hg : (gT, tabT) ∈ σ) : ACalls Tryz.prog 8 [] σ (Ret (.bool true) σ) := by
  refine okF Tryz.func8 (by kernel_rfl) ?_
  intro bl1
  refine .frz (args' := [.int .i64 3, .fsl edgeSh awE51, .int .i64 0]) 0 bl1 0 2 2 _ edgeSh awE51 rfl rfl ⟨rfl, rfl, by decide⟩ (frz_cons (.refl _) (frz_cons .here (.refl _))) ?_
  obtain ⟨z, hz⟩ : ∃ z : Int, z = 0 := ⟨_, rfl⟩
  have hA : ∀ σ, (gT, tabT) ∈ σ → ACalls Tryz.prog 12 [.int .i64 3, .fsl edgeSh awE51, .int .i64 0] σ (Ret (.tup [.fsl (.int .i64) ([-1, 0, 1] : List Int), .int .i64 z]) σ) := fun σ h => by
    have h2 := aDomAbove 3 0 awE51 σ (by decide) (by decide) (by decide) (by decide +kernel) (by decide) h
    rw [awAbove] at h2
    rw [hz]
    exact h2
  refine callR [] (hA _ hg) ?_
  refine bcond_dec (fun c1 => ?_) (fun c1 => ?_)
  · have c1 : z = 0 := c1
    intro bl2
    refine .frz (args' := [.fsl (.int .i64) ([-1, 0, 1] : List Int), .fsl (.int .i64) ([-1, 0, 1] : List Int)]) 0 bl2 0 3 1 _ (.int .i64) ([-1, 0, 1] : List Int) rfl rfl ⟨rfl, rfl, by decide⟩ (frz_cons (.refl _) (frz_cons .here (.refl _))) ?_
    refine callR [] (aRInts20 [-1, 0, 1] _ (show 3 ≤ 1000000 by decide)) ?_
    exact .done ⟨rfl, rfl⟩
  · have c1 : ¬ (z = 0) := c1
    exact absurd hz c1
theorem domDepth_walk (A : List Int) (σ : Hp) (hg : (gT, tabT) ∈ σ) : ACalls Tryz.prog 4 [.fsl (.int .i64) A] σ (Ret (.bool true) σ) := by
  refine okF Tryz.func4 (by kernel_rfl) ?_
  refine callR [] (aAwake51 _ hg) ?_
  refine bcond_dec (p := (40 : Int) < A.length) (fun c1 => ?_) (fun c1 => ?_)
  · exact .done ⟨rfl, rfl⟩
  · have hl : A.length ≤ 40 := by omega
    have hd : ((List.range A.length).map (depthV A)).length = A.length := by simp
    refine callR [] (aDomDepth A _ (by omega)) ?_
    refine callR [] (aRDepth A _ (by omega)) ?_
    refine callR [] (aRInts20 ((List.range A.length).map (depthV A)) _ (Nat.le_trans (Nat.le_of_eq hd) (by omega))) ?_
    exact .done ⟨rfl, rfl⟩
end Go.Proofs.YtljbnigceammdaaGreatDoor
namespace Go.Proofs.YtljbnigceammdaaGreatDoor
open Go.RowKit
theorem va {F : Nat → Prop} {w : World} {x : AV} {xs : List AV} {v : Value} {vs : List Value} (h : VRel F w x v) (t : VRels F w xs vs.toArray) : VRels F w (x :: xs) (v :: vs).toArray := by
  refine ⟨by have := t.1; simp at this ⊢; exact this, fun i y hy => ?_⟩
  cases i with
  | zero => simp at hy; subst hy; simpa [Array.getD] using h
  | succ i =>
    have := t.2 i y (by simpa using hy)
    rw [Array.getD_eq_getD_getElem?] at this ⊢
    simpa using this
theorem vn {F : Nat → Prop} {w : World} : VRels F w [] ([] : List Value).toArray := ⟨rfl, fun i y hy => by simp at hy⟩
theorem vi {F : Nat → Prop} {w : World} {k : IntKind} {n : Int} : VRel F w (.int k n) (.int k n) := .int k n
end Go.Proofs.YtljbnigceammdaaGreatDoor
