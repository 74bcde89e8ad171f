/-
  Dj; Laws: what the claim uses of them.
-/
import Derived.Test.YtljbnigceammdaaGreatDoorBn45
import Derived.Test.YtljbnigceammdaaGreatDoorBn31
import Derived.Test.YtljbnigceammdaaGreatDoorBn13
namespace Go.Proofs.YtljbnigceammdaaGreatDoor
open Go.RowKit
set_option maxRecDepth 100000
theorem without_take {l : List EdgeT} {a : Int} {k : Nat} (h : k < l.length) {x : EdgeT} (hx : l[k] = x) : withoutE (l.take (k + 1)) a = withoutE (l.take k) a ++ if x.1 ≠ a ∧ x.2.1 ≠ a then [x] else [] := by
  unfold withoutE
  rw [List.take_succ_eq_append_getElem h, List.filter_append, hx]
  congr 1
  by_cases c : x.1 ≠ a ∧ x.2.1 ≠ a
  · rw [if_pos c, List.filter_cons_of_pos (by rw [decide_eq_true c.1, decide_eq_true c.2]; rfl)]; rfl
  · rw [if_neg c, List.filter_cons_of_neg (by rw [Bool.and_eq_true, decide_eq_true_eq, decide_eq_true_eq]; exact c)]; rfl
theorem without_length (l : List EdgeT) (a : Int) : (withoutE l a).length ≤ l.length := List.length_filter_le ..
theorem aRWithout (l : List EdgeT) (a : Int) (σ : Hp) (hl : l.length ≤ 100000) : ACalls Tryz.prog 25 [.fsl edgeSh l, .int .i64 a] σ (Ret (.fsl edgeSh (withoutE l a)) σ) := by
  refine okF Tryz.func25 (by kernel_rfl) ?_
  refine .wrap 5 _ rfl rfl ?_
  refine loopS (S := Nat × AV × Hp) (fun x => [(1, .int .i64 a), (5, .via x.2.1), (8, .fsl edgeSh l), (9, .int .i64 l.length), (10, .int .i64 x.1)]) (fun x => x.2.2 ++ σ) (fun x => x.1 ≤ l.length ∧ Acc 2 (withoutE (l.take x.1) a).length x.2.1 x.2.2 (prC (withoutE (l.take x.1) a))) (fun x => l.length - x.1) (0, .nils, []) ⟨⟨Nat.zero_le _, .nil⟩, ⟨rfl, rfl, rfl, rfl, rfl, trivial⟩, rfl⟩ ?_
  rintro ⟨k, v, acc⟩ g ⟨hk0, hacc0⟩
  have hk : k ≤ l.length := hk0
  have hacc : Acc 2 (withoutE (l.take k) a).length v acc (prC (withoutE (l.take k) a)) := hacc0
  clear hk0 hacc0
  refine bcond_dec (p := (k : Int) < l.length) (fun hlt => ?_) (fun hge => ?_)
  · have hlt : k < l.length := by omega
    obtain ⟨x, hx⟩ : ∃ x, l[k] = x := ⟨_, rfl⟩
    have hst := without_take (a := a) hlt hx
    have hle := without_length (l.take k) a
    rw [List.length_take, Nat.min_eq_left hk] at hle
    obtain ⟨x1, x2, xu⟩ := x
    refine With.mk rfl (IdxF.mk (x1, x2, xu) (by omega) ((get_some hlt).trans (congrArg some hx)) ?_)
    intro bl1
    refine StoreAt.mk 0 _ _ rfl rfl ?_
    refine LoadAt.mk 0 _ _ rfl rfl ?_
    refine bcond_split (fun c2 => ?_) (fun c2 => ?_)
    · have c2 : ¬ (x1 = a) := by simpa using c2
      refine LoadAt.mk 0 _ _ rfl rfl ?_
      refine bcond_split (fun c3 => ?_) (fun c3 => ?_)
      · have c3 : ¬ (x2 = a) := by simpa using c3
        refine LoadAt.mk 0 _ _ rfl rfl ?_
        intro bl4
        refine append_acc [_, _] hacc (.mref 0 bl4 0 1 _ rfl (Nat.le_of_ble_eq_true rfl)) rfl (by omega) (by decide) (by decide) (fun v' acc' h' => ?_)
        rw [if_pos ⟨c2, c3⟩] at hst
        refine nextS (k + 1, v', acc') (by show l.length - (k + 1) < l.length - k; omega) ⟨hlt, ?_⟩ ⟨rfl, rfl, rfl, rfl, inc64 (by omega), trivial⟩ (.drop 0 2 (shed_eq rfl))
        show Acc 2 (withoutE (l.take (k + 1)) a).length v' acc' (prC (withoutE (l.take (k + 1)) a))
        rw [hst, List.length_append, prC_app]; exact h'
      · have c3 : x2 = a := by simpa using c3
        rw [if_neg (fun h => h.2 c3), List.append_nil] at hst
        exact nextS (k + 1, v, acc) (by show l.length - (k + 1) < l.length - k; omega) ⟨hlt, by show Acc 2 (withoutE (l.take (k + 1)) a).length v acc (prC (withoutE (l.take (k + 1)) a)); rw [hst]; exact hacc⟩ ⟨rfl, rfl, rfl, rfl, inc64 (by omega), trivial⟩ (.drop 0 1 (shed_eq rfl))
    · have c2 : x1 = a := by simpa using c2
      rw [if_neg (fun h => h.1 c2), List.append_nil] at hst
      exact nextS (k + 1, v, acc) (by show l.length - (k + 1) < l.length - k; omega) ⟨hlt, by show Acc 2 (withoutE (l.take (k + 1)) a).length v acc (prC (withoutE (l.take (k + 1)) a)); rw [hst]; exact hacc⟩ ⟨rfl, rfl, rfl, rfl, inc64 (by omega), trivial⟩ (.drop 0 1 (shed_eq rfl))
  · have hge : k = l.length := by omega
    subst hge
    rw [List.take_length] at hacc
    exact fin_acc (s := edgeSh) [] hacc rfl rfl (by decide) (.done ⟨rfl, rfl⟩)
theorem overR_not {N : Nat} {l : List EdgeT} {r : Nat} {a b : Int} (h : b ∉ reachR N l [(r : Int)]) : overR N l r a b = false := by unfold overR; rw [decide_eq_false h]; rfl
theorem overR_one {N : Nat} {l : List EdgeT} {r : Nat} {a b : Int} (h : b ∈ reachR N l [(r : Int)]) (h2 : a = b ∨ a = r) : overR N l r a b = true := by unfold overR; rw [decide_eq_true h]; rcases h2 with h2 | h2 <;> simp [h2]
theorem overR_two {N : Nat} {l : List EdgeT} {r : Nat} {a b : Int} (h : b ∈ reachR N l [(r : Int)]) (h2 : ¬ a = b) (h3 : ¬ a = r) : overR N l r a b = !decide (b ∈ reachR N (withoutE l a) [(r : Int)]) := by unfold overR; rw [decide_eq_true h, decide_eq_false h2, decide_eq_false h3]; rfl
theorem aROver (N r : Nat) (a b : Int) (l : List EdgeT) (σ : Hp) (hN : N ≤ 10000) (hl : l.length ≤ 1000) : ACalls Tryz.prog 21 [.int .i64 N, .fsl edgeSh l, .int .i64 r, .int .i64 a, .int .i64 b] σ (Ret (.bool (overR N l r a b)) σ) := by
  have hRe : ∀ (l : List EdgeT) (σ : Hp), l.length ≤ 1000 → ACalls Tryz.prog 51 [.int .i64 N, .fsl edgeSh l, .fsl (.int .i64) ([(r : Int)] : List Int)] σ (Ret (.fsl (.int .i64) (reachR N l [(r : Int)])) σ) := fun l σ h => aRReached N l [(r : Int)] σ (by omega) (by omega) (show 1 ≤ 100000 by decide)
  have hIn : ∀ (l : List EdgeT) (σ : Hp), ACalls Tryz.prog 26 [.fsl (.int .i64) (reachR N l [(r : Int)]), .int .i64 b] σ (Ret (.bool (decide (b ∈ reachR N l [(r : Int)]))) σ) := fun l σ => acalls_eq (aRIn _ b σ (Nat.le_trans (reachR_length N l _) (by omega))) (av_bool (any_inD _ _))
  have hwl := without_length l a
  refine okF Tryz.func21 (by kernel_rfl) ?_
  intro bl1
  refine .frz (args' := [.int .i64 N, .fsl edgeSh l, .fsl (.int .i64) ([(r : Int)] : List Int)]) 0 bl1 0 1 1 _ (.int .i64) ([(r : Int)] : List Int) rfl rfl ⟨rfl, rfl, by decide⟩ (frz_cons (.refl _) (frz_cons (.refl _) (frz_cons .here (.refl _)))) ?_
  refine callR [] (hRe l _ hl) ?_
  refine callB [] (hIn l _) (fun c1 => ?_) (fun c1 => ?_)
  rotate_left
  · exact .done ⟨av_bool (overR_not (of_decide_eq_false c1)).symm, rfl⟩
  have hb := of_decide_eq_true c1
  refine bcond_dec (fun c1 => ?_) (fun c1 => ?_)
  · have c1 : a = b := c1
    exact .done ⟨av_bool (overR_one hb (.inl c1)).symm, rfl⟩
  · have c1 : ¬ (a = b) := c1
    refine bcond_dec (fun c2 => ?_) (fun c2 => ?_)
    · have c2 : a = (↑r : Int) := c2
      exact .done ⟨av_bool (overR_one hb (.inr c2)).symm, rfl⟩
    · have c2 : ¬ (a = (↑r : Int)) := c2
      refine callR [] (aRWithout l a _ (by omega)) ?_
      intro bl2
      refine .frz (args' := [.int .i64 N, .fsl edgeSh (withoutE l a), .fsl (.int .i64) ([(r : Int)] : List Int)]) 0 bl2 0 1 1 _ (.int .i64) ([(r : Int)] : List Int) rfl rfl ⟨rfl, rfl, by decide⟩ (frz_cons (.refl _) (frz_cons (.refl _) (frz_cons .here (.refl _)))) ?_
      refine callR [] (hRe (withoutE l a) _ (by omega)) ?_
      refine callR [] (hIn (withoutE l a) _) ?_
      exact .done ⟨av_bool (overR_two hb c1 c2).symm, rfl⟩
end Go.Proofs.YtljbnigceammdaaGreatDoor
namespace Go.Proofs.YtljbnigceammdaaGreatDoor
open Go.RowKit
theorem va {F : Nat → Prop} {w : World} {x : AV} {xs : List AV} {v : Value} {vs : List Value} (h : VRel F w x v) (t : VRels F w xs vs.toArray) : VRels F w (x :: xs) (v :: vs).toArray := by
  refine ⟨by have := t.1; simp at this ⊢; exact this, fun i y hy => ?_⟩
  cases i with
  | zero => simp at hy; subst hy; simpa [Array.getD] using h
  | succ i =>
    have := t.2 i y (by simpa using hy)
    rw [Array.getD_eq_getD_getElem?] at this ⊢
    simpa using this
theorem vn {F : Nat → Prop} {w : World} : VRels F w [] ([] : List Value).toArray := ⟨rfl, fun i y hy => by simp at hy⟩
theorem vi {F : Nat → Prop} {w : World} {k : IntKind} {n : Int} : VRel F w (.int k n) (.int k n) := .int k n
end Go.Proofs.YtljbnigceammdaaGreatDoor
