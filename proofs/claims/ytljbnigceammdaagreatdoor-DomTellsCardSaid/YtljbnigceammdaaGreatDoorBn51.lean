/-
  Dj: what the claim uses of them.
-/
import Derived.Test.YtljbnigceammdaaGreatDoorBn48
import Derived.Test.YtljbnigceammdaaGreatDoorBn50
namespace Go.Proofs.YtljbnigceammdaaGreatDoor
open Go.RowKit
set_option maxRecDepth 100000
theorem without_take {l : List EdgeT} {a : Int} {k : Nat} (h : k < l.length) {x : EdgeT} (hx : l[k] = x) : withoutE (l.take (k + 1)) a = withoutE (l.take k) a ++ if x.1 ≠ a ∧ x.2.1 ≠ a then [x] else [] := by
  unfold withoutE
  rw [List.take_succ_eq_append_getElem h, List.filter_append, hx]
  congr 1
  by_cases c : x.1 ≠ a ∧ x.2.1 ≠ a
  · rw [if_pos c, List.filter_cons_of_pos (by rw [decide_eq_true c.1, decide_eq_true c.2]; rfl)]; rfl
  · rw [if_neg c, List.filter_cons_of_neg (by rw [Bool.and_eq_true, decide_eq_true_eq, decide_eq_true_eq]; exact c)]; rfl
theorem without_length (l : List EdgeT) (a : Int) : (withoutE l a).length ≤ l.length := List.length_filter_le ..
theorem aRWithout (l : List EdgeT) (a : Int) (σ : Hp) (hl : l.length ≤ 100000) : ACalls Tryz.prog 25 [.fsl edgeSh l, .int .i64 a] σ (Ret (.fsl edgeSh (withoutE l a)) σ) := by
  refine okF Tryz.func25 (by kernel_rfl) ?_
  refine .wrap 5 _ rfl rfl ?_
  refine loopS (S := Nat × AV × Hp) (fun x => [(1, .int .i64 a), (5, .via x.2.1), (8, .fsl edgeSh l), (9, .int .i64 l.length), (10, .int .i64 x.1)]) (fun x => x.2.2 ++ σ) (fun x => x.1 ≤ l.length ∧ Acc 2 (withoutE (l.take x.1) a).length x.2.1 x.2.2 (prC (withoutE (l.take x.1) a))) (fun x => l.length - x.1) (0, .nils, []) ⟨⟨Nat.zero_le _, .nil⟩, ⟨rfl, rfl, rfl, rfl, rfl, trivial⟩, rfl⟩ ?_
  rintro ⟨k, v, acc⟩ g ⟨hk0, hacc0⟩
  have hk : k ≤ l.length := hk0
  have hacc : Acc 2 (withoutE (l.take k) a).length v acc (prC (withoutE (l.take k) a)) := hacc0
  clear hk0 hacc0
  refine bcond_dec (p := (k : Int) < l.length) (fun hlt => ?_) (fun hge => ?_)
  · have hlt : k < l.length := by omega
    obtain ⟨x, hx⟩ : ∃ x, l[k] = x := ⟨_, rfl⟩
    have hst := without_take (a := a) hlt hx
    have hle := without_length (l.take k) a
    rw [List.length_take, Nat.min_eq_left hk] at hle
    obtain ⟨x1, x2, xu⟩ := x
    refine With.mk rfl (IdxF.mk (x1, x2, xu) (by omega) ((get_some hlt).trans (congrArg some hx)) ?_)
    intro bl1
    refine StoreAt.mk 0 _ _ rfl rfl ?_
    refine LoadAt.mk 0 _ _ rfl rfl ?_
    refine bcond_split (fun c2 => ?_) (fun c2 => ?_)
    · have c2 : ¬ (x1 = a) := by simpa using c2
      refine LoadAt.mk 0 _ _ rfl rfl ?_
      refine bcond_split (fun c3 => ?_) (fun c3 => ?_)
      · have c3 : ¬ (x2 = a) := by simpa using c3
        refine LoadAt.mk 0 _ _ rfl rfl ?_
        intro bl4
        refine append_acc [_, _] hacc (.mref 0 bl4 0 1 _ rfl (Nat.le_of_ble_eq_true rfl)) rfl (by omega) (by decide) (by decide) (fun v' acc' h' => ?_)
        rw [if_pos ⟨c2, c3⟩] at hst
        refine nextS (k + 1, v', acc') (by show l.length - (k + 1) < l.length - k; omega) ⟨hlt, ?_⟩ ⟨rfl, rfl, rfl, rfl, inc64 (by omega), trivial⟩ (.drop 0 2 (shed_eq rfl))
        show Acc 2 (withoutE (l.take (k + 1)) a).length v' acc' (prC (withoutE (l.take (k + 1)) a))
        rw [hst, List.length_append, prC_app]; exact h'
      · have c3 : x2 = a := by simpa using c3
        rw [if_neg (fun h => h.2 c3), List.append_nil] at hst
        exact nextS (k + 1, v, acc) (by show l.length - (k + 1) < l.length - k; omega) ⟨hlt, by show Acc 2 (withoutE (l.take (k + 1)) a).length v acc (prC (withoutE (l.take (k + 1)) a)); rw [hst]; exact hacc⟩ ⟨rfl, rfl, rfl, rfl, inc64 (by omega), trivial⟩ (.drop 0 1 (shed_eq rfl))
    · have c2 : x1 = a := by simpa using c2
      rw [if_neg (fun h => h.1 c2), List.append_nil] at hst
      exact nextS (k + 1, v, acc) (by show l.length - (k + 1) < l.length - k; omega) ⟨hlt, by show Acc 2 (withoutE (l.take (k + 1)) a).length v acc (prC (withoutE (l.take (k + 1)) a)); rw [hst]; exact hacc⟩ ⟨rfl, rfl, rfl, rfl, inc64 (by omega), trivial⟩ (.drop 0 1 (shed_eq rfl))
  · have hge : k = l.length := by omega
    subst hge
    rw [List.take_length] at hacc
    exact fin_acc (s := edgeSh) [] hacc rfl rfl (by decide) (.done ⟨rfl, rfl⟩)
theorem overR_not {N : Nat} {l : List EdgeT} {r : Nat} {a b : Int} (h : b ∉ reachR N l [(r : Int)]) : overR N l r a b = false := by unfold overR; rw [decide_eq_false h]; rfl
theorem overR_one {N : Nat} {l : List EdgeT} {r : Nat} {a b : Int} (h : b ∈ reachR N l [(r : Int)]) (h2 : a = b ∨ a = r) : overR N l r a b = true := by unfold overR; rw [decide_eq_true h]; rcases h2 with h2 | h2 <;> simp [h2]
theorem overR_two {N : Nat} {l : List EdgeT} {r : Nat} {a b : Int} (h : b ∈ reachR N l [(r : Int)]) (h2 : ¬ a = b) (h3 : ¬ a = r) : overR N l r a b = !decide (b ∈ reachR N (withoutE l a) [(r : Int)]) := by unfold overR; rw [decide_eq_true h, decide_eq_false h2, decide_eq_false h3]; rfl
theorem aROver (N r : Nat) (a b : Int) (l : List EdgeT) (σ : Hp) (hN : N ≤ 10000) (hl : l.length ≤ 1000) : ACalls Tryz.prog 21 [.int .i64 N, .fsl edgeSh l, .int .i64 r, .int .i64 a, .int .i64 b] σ (Ret (.bool (overR N l r a b)) σ) := by
  have hRe : ∀ (l : List EdgeT) (σ : Hp), l.length ≤ 1000 → ACalls Tryz.prog 51 [.int .i64 N, .fsl edgeSh l, .fsl (.int .i64) ([(r : Int)] : List Int)] σ (Ret (.fsl (.int .i64) (reachR N l [(r : Int)])) σ) := fun l σ h => aRReached N l [(r : Int)] σ (by omega) (by omega) (show 1 ≤ 100000 by decide)
  have hIn : ∀ (l : List EdgeT) (σ : Hp), ACalls Tryz.prog 26 [.fsl (.int .i64) (reachR N l [(r : Int)]), .int .i64 b] σ (Ret (.bool (decide (b ∈ reachR N l [(r : Int)]))) σ) := fun l σ => acalls_eq (aRIn _ b σ (Nat.le_trans (reachR_length N l _) (by omega))) (av_bool (any_inD _ _))
  have hwl := without_length l a
  refine okF Tryz.func21 (by kernel_rfl) ?_
  intro bl1
  refine .frz (args' := [.int .i64 N, .fsl edgeSh l, .fsl (.int .i64) ([(r : Int)] : List Int)]) 0 bl1 0 1 1 _ (.int .i64) ([(r : Int)] : List Int) rfl rfl ⟨rfl, rfl, by decide⟩ (frz_cons (.refl _) (frz_cons (.refl _) (frz_cons .here (.refl _)))) ?_
  refine callR [] (hRe l _ hl) ?_
  refine callB [] (hIn l _) (fun c1 => ?_) (fun c1 => ?_)
  rotate_left
  · exact .done ⟨av_bool (overR_not (of_decide_eq_false c1)).symm, rfl⟩
  have hb := of_decide_eq_true c1
  refine bcond_dec (fun c1 => ?_) (fun c1 => ?_)
  · have c1 : a = b := c1
    exact .done ⟨av_bool (overR_one hb (.inl c1)).symm, rfl⟩
  · have c1 : ¬ (a = b) := c1
    refine bcond_dec (fun c2 => ?_) (fun c2 => ?_)
    · have c2 : a = (↑r : Int) := c2
      exact .done ⟨av_bool (overR_one hb (.inr c2)).symm, rfl⟩
    · have c2 : ¬ (a = (↑r : Int)) := c2
      refine callR [] (aRWithout l a _ (by omega)) ?_
      intro bl2
      refine .frz (args' := [.int .i64 N, .fsl edgeSh (withoutE l a), .fsl (.int .i64) ([(r : Int)] : List Int)]) 0 bl2 0 1 1 _ (.int .i64) ([(r : Int)] : List Int) rfl rfl ⟨rfl, rfl, by decide⟩ (frz_cons (.refl _) (frz_cons (.refl _) (frz_cons .here (.refl _)))) ?_
      refine callR [] (hRe (withoutE l a) _ (by omega)) ?_
      refine callR [] (hIn (withoutE l a) _) ?_
      exact .done ⟨av_bool (overR_two hb c1 c2).symm, rfl⟩
/-- The document's rows. -/
def rowsR (N : Nat) (l : List EdgeT) (r k : Nat) : List (List Int) := (List.range k).map fun b : Nat => rowR N l r b
theorem rowsR_succ (N : Nat) (l : List EdgeT) (r k : Nat) : rowsR N l r (k + 1) = rowsR N l r k ++ [rowR N l r k] := by unfold rowsR; rw [List.range_succ, List.map_append]; rfl
theorem rowsR_length (N : Nat) (l : List EdgeT) (r k : Nat) : (rowsR N l r k).length = k := by unfold rowsR; simp
def rowUp (N : Nat) (l : List EdgeT) (r : Nat) (b : Int) (k : Nat) : List Int := ((List.range k).map fun a : Nat => (a : Int)).filter fun a => overR N l r a b
theorem rowUp_succ (N : Nat) (l : List EdgeT) (r : Nat) (b : Int) (k : Nat) : rowUp N l r b (k + 1) = rowUp N l r b k ++ if overR N l r k b = true then [(k : Int)] else [] := by
  unfold rowUp
  rw [List.range_succ, List.map_append, List.filter_append]
  congr 1
  show List.filter _ [(k : Int)] = _
  by_cases c : overR N l r k b = true
  · rw [if_pos c]; exact List.filter_cons_of_pos (p := fun a => overR N l r a b) c
  · rw [if_neg c]; exact List.filter_cons_of_neg (p := fun a => overR N l r a b) c
theorem rowUp_length (N : Nat) (l : List EdgeT) (r : Nat) (b : Int) (k : Nat) : (rowUp N l r b k).length ≤ k := by
  unfold rowUp
  exact Nat.le_trans (List.length_filter_le ..) (by simp)
theorem nil_snoc {l : List AV} {e : Sh} : ∀ (i : Nat) (x y : AV), (l ++ [AV.nils])[i]? = some x → (l ++ [AV.fsl e []])[i]? = some y → x = y ∨ (x = .nils ∧ ∃ e : Sh, y = .fsl e []) := by
  intro i x y hx hy
  by_cases c : i < l.length
  · rw [List.getElem?_append_left c] at hx hy
    rw [hx] at hy
    exact .inl (Option.some.inj hy)
  · rw [List.getElem?_append_right (by omega)] at hx hy
    by_cases e2 : i - l.length = 0
    · rw [e2] at hx hy
      exact .inr ⟨(Option.some.inj hx).symm, e, (Option.some.inj hy).symm⟩
    · rw [List.getElem?_eq_none (by rw [List.length_singleton]; omega)] at hx; cases hx
theorem aRAll51 (N r : Nat) (l : List EdgeT) (σ : Hp) (hN : N ≤ 10000) (hl : l.length ≤ 1000) : ACalls Tryz.prog 18 [.int .i64 N, .fsl edgeSh l, .int .i64 r] σ (Ret (.fsl (.slice (.int .i64)) (rowsR N l r N)) σ) := by
  refine okF Tryz.func18 (by kernel_rfl) ?_
  refine .wrap 7 _ rfl rfl ?_
  refine loopS (S := Nat × AV × Hp) (fun x => [(0, .int .i64 N), (1, .fsl edgeSh l), (2, .int .i64 r), (7, .via x.2.1), (8, .int .i64 x.1)]) (fun x => x.2.2 ++ σ) (fun x => x.1 ≤ N ∧ Acc 1 x.1 x.2.1 x.2.2 (iiC (rowsR N l r x.1))) (fun x => N - x.1) (0, .nils, []) ⟨⟨Nat.zero_le _, .nil⟩, ⟨rfl, rfl, rfl, rfl, rfl, trivial⟩, rfl⟩ ?_
  rintro ⟨b, v, acc⟩ g ⟨hb0, hacc0⟩
  have hb : b ≤ N := hb0
  have hacc : Acc 1 b v acc (iiC (rowsR N l r b)) := hacc0
  clear hb0 hacc0
  refine bcond_dec (p := (b : Int) < N) (fun hlt => ?_) (fun hge => ?_)
  · have hlt : b < N := by omega
    refine loopS (S := Nat × AV × Hp) (fun x => [(0, .int .i64 N), (1, .fsl edgeSh l), (2, .int .i64 r), (7, .via v), (8, .int .i64 b), (9, x.2.1), (10, .int .i64 x.1)]) (fun x => x.2.2 ++ (acc ++ σ)) (fun x => x.1 ≤ N ∧ Acc 1 (rowUp N l r b x.1).length x.2.1 x.2.2 (inC (rowUp N l r b x.1))) (fun x => N - x.1) (0, .nils, []) ⟨⟨Nat.zero_le _, .nil⟩, ⟨rfl, rfl, rfl, rfl, rfl, rfl, rfl, trivial⟩, rfl⟩ ?_
    rintro ⟨k, v2, acc2⟩ g2 ⟨hk0, hacc0⟩
    have hk : k ≤ N := hk0
    have hacc2 : Acc 1 (rowUp N l r b k).length v2 acc2 (inC (rowUp N l r b k)) := hacc0
    clear hk0 hacc0
    have hle := rowUp_length N l r b k
    refine bcond_dec (p := (k : Int) < N) (fun hlt2 => ?_) (fun hge2 => ?_)
    · have hlt2 : k < N := by omega
      have hst := rowUp_succ N l r b k
      refine callB [] (aROver N r k b l _ hN hl) (fun c1 => ?_) (fun c1 => ?_)
      · rw [if_pos c1] at hst
        have hfin : ∀ v' acc', Acc 1 ((rowUp N l r b k).length + 1) v' acc' (inC (rowUp N l r b k) ++ [.int .i64 (k : Int)]) → Acc 1 (rowUp N l r b (k + 1)).length v' acc' (inC (rowUp N l r b (k + 1))) := fun v' acc' h' => by
          rw [hst, List.length_append, show inC (rowUp N l r b k ++ [(k : Int)]) = inC (rowUp N l r b k) ++ [.int .i64 (k : Int)] from List.map_append]; exact h'
        generalize inC (rowUp N l r b k) = cs at hacc2 hfin
        generalize (rowUp N l r b k).length = q at hacc2 hfin hle
        cases hacc2 with
        | nil =>
          intro bl1
          refine append_accV [_] .nil (.mref 0 bl1 0 1 _ rfl (Nat.le_of_ble_eq_true rfl)) rfl (by omega) (by decide) (by decide) (fun v' acc' h' => ?_)
          obtain ⟨b5, rfl, rfl⟩ := accA_one (by omega) h'
          exact nextS (k + 1, .mref b5 0 (0 + 1) 1, [(b5, [] ++ [.int .i64 (k : Int)])]) (by show N - (k + 1) < N - k; omega) ⟨hlt2, hfin _ _ h'⟩ ⟨rfl, rfl, rfl, rfl, rfl, rfl, inc64 (by omega), trivial⟩ (.drop 0 1 (shed_eq rfl))
        | mref br q cs h =>
          intro bl1
          refine append_accV [_] (.mref br q cs h) (.mref 0 bl1 0 1 _ rfl (Nat.le_of_ble_eq_true rfl)) rfl (by omega) (by decide) (by decide) (fun v' acc' h' => ?_)
          obtain ⟨b5, rfl, rfl⟩ := accA_one (by omega) h'
          exact nextS (k + 1, .mref b5 0 (q + 1) 1, [(b5, cs ++ [.int .i64 (k : Int)])]) (by show N - (k + 1) < N - k; omega) ⟨hlt2, hfin _ _ h'⟩ ⟨rfl, rfl, rfl, rfl, rfl, rfl, inc64 (by omega), trivial⟩ (.drop 0 1 (shed_eq rfl))
      · rw [if_neg (by rw [c1]; decide), List.append_nil] at hst
        exact nextS (k + 1, v2, acc2) (by show N - (k + 1) < N - k; omega) ⟨hlt2, by show Acc 1 (rowUp N l r b (k + 1)).length v2 acc2 (inC (rowUp N l r b (k + 1))); rw [hst]; exact hacc2⟩ ⟨rfl, rfl, rfl, rfl, rfl, rfl, inc64 (by omega), trivial⟩ (.refl _)
    · have hge2 : k = N := by omega
      subst hge2
      have hrow : rowUp k l r b k = rowR k l r b := rfl
      rw [hrow] at hacc2 hle
      obtain ⟨Q, hQ⟩ : ∃ Q, Q = rowR k l r b := ⟨_, rfl⟩
      rw [← hQ] at hacc2 hle
      obtain ⟨q, hq⟩ : ∃ q, Q.length = q := ⟨_, rfl⟩
      obtain ⟨cs, hcs⟩ : ∃ cs, inC Q = cs := ⟨_, rfl⟩
      rw [hq, hcs] at hacc2
      have hkl : (iiC (rowsR k l r b)).length = b := by rw [iiC_length, rowsR_length]
      have hnx : ∀ Q : List Int, Q = rowR k l r b → iiC (rowsR k l r b) ++ [.fsl (.int .i64) Q] = iiC (rowsR k l r (b + 1)) := fun Q hQ => by rw [iiC_snoc, rowsR_succ, hQ]
      cases hacc2 with
      | nil =>
        obtain rfl := List.length_eq_zero_iff.1 hq
        intro bl1
        refine append_acc [_] hacc (.mref 0 bl1 0 1 _ rfl (Nat.le_of_ble_eq_true rfl)) rfl (by omega) (by decide) (by decide) (fun v' acc' h' => ?_)
        obtain ⟨b5, rfl, rfl⟩ := accA_one (by omega) h'
        refine nextS (b + 1, .mref b5 0 (b + 1) 1, [(b5, iiC (rowsR k l r (b + 1)))]) (by show k - (b + 1) < k - b; omega) ⟨hlt, .mref b5 (b + 1) _ (by rw [iiC_length, rowsR_length, Nat.mul_one])⟩ ⟨rfl, rfl, rfl, rfl, inc64 (by omega), trivial⟩ (.drop 0 1 (.nilc 0 b5 (iiC (rowsR k l r b) ++ [.nils]) (iiC (rowsR k l r (b + 1))) rfl (by rw [iiC_length, rowsR_length, List.length_append, hkl]; rfl) (by rw [← hnx [] hQ]; exact nil_snoc) (.refl _)))
      | mref br q cs h =>
        intro bl1
        refine append_acc [_, _] hacc (.mref 0 bl1 0 1 _ rfl (Nat.le_of_ble_eq_true rfl)) rfl (by omega) (by decide) (by decide) (fun v' acc' h' => ?_)
        obtain ⟨b5, rfl, rfl⟩ := accA_one (by omega) h'
        refine .frzc 1 br 0 q 1 _ (.int .i64) Q rfl (by rw [List.drop_zero, List.take_of_length_le (Nat.le_of_eq h), ← hcs]; exact inC_flat _) ⟨hq, rfl, by decide⟩ 1 b b5 _ rfl (get_snoc _ _ hkl.symm) ?_
        refine nextS (b + 1, .mref b5 0 (b + 1) 1, [(b5, iiC (rowsR k l r (b + 1)))]) (by show k - (b + 1) < k - b; omega) ⟨hlt, .mref b5 (b + 1) _ (by rw [iiC_length, rowsR_length, Nat.mul_one])⟩ ⟨rfl, rfl, rfl, rfl, inc64 (by omega), trivial⟩ (.drop 0 1 (shed_eq ?_))
        have e := (set_snoc (iiC (rowsR k l r b)) (AV.mref br 0 q 1) (.fsl (.int .i64) Q) hkl.symm).trans (hnx Q hQ)
        exact congrArg (fun c => (b5, c) :: σ) e
  · have hge : b = N := by omega
    subst hge
    exact fin_acc (s := .slice (.int .i64)) [] hacc (rowsR_length _ _ _ _).symm (iiC_flat _) (by decide) (.done ⟨rfl, rfl⟩)
theorem rows_eq {N r : Nat} {l : List EdgeT} (g : DG N r l) : rowsR N l r N = domAll N l r := by
  unfold rowsR domAll
  refine List.map_congr_left fun v hv => ?_
  exact (row_eq g.h1 g.h8 g.hl g.ri g.hr (List.mem_range.1 hv)).symm
def nearT (N : Nat) (l : List EdgeT) (r : Nat) (v a : Int) (L : List Int) : Bool := decide (a ≠ v) && L.all fun c => decide (c = v) || decide (c ∈ domRow N l r a.toNat)
theorem nearT_snoc (N : Nat) (l : List EdgeT) (r : Nat) (v a c : Int) (L : List Int) : nearT N l r v a (L ++ [c]) = (nearT N l r v a L && (decide (c = v) || decide (c ∈ domRow N l r a.toNat))) := by
  unfold nearT
  rw [List.all_append, Bool.and_assoc]; simp
def foldR (N : Nat) (l : List EdgeT) (r : Nat) (v : Int) (o : Int) (L : List Int) : Int := L.foldl (fun o a => if nearR N l r v a = true then a else o) o
theorem foldR_snoc (N : Nat) (l : List EdgeT) (r : Nat) (v o a : Int) (L : List Int) : foldR N l r v o (L ++ [a]) = if nearR N l r v a = true then a else foldR N l r v o L := by
  unfold foldR
  rw [List.foldl_append]; rfl
theorem aRAbove (N r : Nat) (l : List EdgeT) (σ : Hp) (d : DG N r l) : ACalls Tryz.prog 20 [.int .i64 N, .fsl edgeSh l, .int .i64 r] σ (Ret (.fsl (.int .i64) (domAbove N l r)) σ) := by
  have h8 := d.h8
  have hA : ∀ σ, ACalls Tryz.prog 18 [.int .i64 N, .fsl edgeSh l, .int .i64 r] σ (Ret (.fsl (.slice (.int .i64)) (domAll N l r)) σ) := fun σ => rows_eq d ▸ aRAll51 N r l σ (by omega) d.hl
  have hlen := domAll_length N l r
  have hNt : ((N : Nat) : Int).toNat = N := Int.toNat_natCast N
  refine okF Tryz.func20 (by kernel_rfl) ?_
  refine callR [] (hA _) ?_
  refine With.mk ⟨by omega, by omega, by omega, by decide⟩ ?_
  intro bo
  refine loopS (S := Nat) (fun j => [(7, .fsl (.slice (.int .i64)) (domAll N l r)), (8, .mref bo 0 N 1), (22, .fsl (.slice (.int .i64)) (domAll N l r)), (23, .int .i64 (domAll N l r).length), (24, .int .i64 j)]) (fun j => (bo, inC (upA N l r j)) :: σ) (fun j => j ≤ N) (fun j => N - j) 0 ⟨Nat.zero_le _, ⟨rfl, by rw [← hNt]; rfl, rfl, rfl, rfl, trivial⟩, by show _ = (bo, inC (List.replicate N 0)) :: _; rw [← rep_inC0]; rfl⟩ ?_
  intro j g hj0
  have hj : j ≤ N := hj0
  clear hj0
  refine bcond_dec (p := (j : Int) < (domAll N l r).length) (fun hlt => ?_) (fun hge => ?_)
  · have hlt : j < N := by omega
    have hup := upA_length l r hj
    have hgj := domAll_get (l := l) (r := r) hlt
    have hov := domRow_small N l r j
    have hab := above_eq d hlt
    have hdr : domRow N l r ((j : Int)).toNat = domRow N l r j := by rw [Int.toNat_natCast]
    have hne := fun x hx => domRow_in d.h1 d.h8 d.hl d.ri d.hr (v := j) x hx
    unfold aboveR at hab
    rw [hdr] at hab
    have hnr : ∀ a, nearR N l r j a = nearT N l r j a (domRow N l r j) := fun a => by unfold nearR nearT; rw [hdr]
    generalize domRow N l r j = ov at hgj hov hab hne hnr
    obtain ⟨J, hJ⟩ : ∃ J : Int, J = j := ⟨_, rfl⟩
    rw [← hJ] at hgj ⊢
    refine With.mk rfl (IdxF.mk ov (by omega) hgj ?_)
    refine With.mk ⟨rfl, by omega, by omega⟩ ?_
    refine StoreAt.mk 0 _ _ rfl (inC_writeK rfl (-1) hJ (by omega)) ?_
    refine bcond_dec (p := (ov.length : Int) = 0) (fun c1 => ?_) (fun c1 => ?_)
    rotate_left
    · rw [if_neg (by omega)] at hab
      refine loopS (S := Nat) (fun i => [(7, .fsl (.slice (.int .i64)) (domAll N l r)), (8, .mref bo 0 N 1), (9, .int .i64 J), (10, .fsl (.int .i64) ov), (22, .fsl (.slice (.int .i64)) (domAll N l r)), (23, .int .i64 (domAll N l r).length), (24, .int .i64 J), (38, .fsl (.int .i64) ov), (39, .int .i64 ov.length), (40, .int .i64 i)]) (fun i => (bo, inC ((upA N l r j).set j (foldR N l r j (-1) (ov.take i)))) :: σ) (fun i => i ≤ ov.length) (fun i => ov.length - i) 0 ⟨Nat.zero_le _, ⟨rfl, rfl, rfl, rfl, rfl, rfl, rfl, rfl, rfl, rfl, trivial⟩, rfl⟩ ?_
      intro i g2 hi0
      have hi : i ≤ ov.length := hi0
      clear hi0
      refine bcond_dec (p := (i : Int) < ov.length) (fun hlt2 => ?_) (fun hge2 => ?_)
      · have hlt2 : i < ov.length := by omega
        obtain ⟨a, ha⟩ : ∃ a, ov[i] = a := ⟨_, rfl⟩
        have han := hne a (ha ▸ List.getElem_mem hlt2)
        rw [hlen] at han
        have htk : ov.take (i + 1) = ov.take i ++ [a] := by rw [List.take_succ_eq_append_getElem hlt2, ha]
        have hfo := foldR_snoc N l r j (-1) a (ov.take i)
        rw [← htk, hnr] at hfo
        refine With.mk rfl (IdxF.mk a (by omega) ((get_some hlt2).trans (congrArg some ha)) ?_)
        refine bcond_split (fun c1 => ?_) (fun c1 => ?_)
        · have c1 : ¬ (a = J) := by simpa using c1
          have h0 : true = nearT N l r j a [] := by unfold nearT; rw [decide_eq_true (show a ≠ (j : Int) from fun e => c1 (e.trans hJ.symm))]; rfl
          refine loopS (S := Nat × Bool) (fun x => [(7, .fsl (.slice (.int .i64)) (domAll N l r)), (8, .mref bo 0 N 1), (9, .int .i64 J), (10, .fsl (.int .i64) ov), (12, .int .i64 a), (13, .bool x.2), (22, .fsl (.slice (.int .i64)) (domAll N l r)), (23, .int .i64 (domAll N l r).length), (24, .int .i64 J), (38, .fsl (.int .i64) ov), (39, .int .i64 ov.length), (40, .int .i64 i), (47, .fsl (.int .i64) ov), (48, .int .i64 ov.length), (49, .int .i64 x.1)]) (fun _ => (bo, inC ((upA N l r j).set j (foldR N l r j (-1) (ov.take i)))) :: σ) (fun x => x.1 ≤ ov.length ∧ x.2 = nearT N l r j a (ov.take x.1)) (fun x => ov.length - x.1) (0, true) ⟨⟨Nat.zero_le _, h0⟩, ⟨rfl, rfl, rfl, rfl, rfl, rfl, rfl, rfl, rfl, rfl, rfl, rfl, rfl, rfl, rfl, trivial⟩, rfl⟩ ?_
          rintro ⟨k, nr⟩ g3 ⟨hk0, hn0⟩
          have hk : k ≤ ov.length := hk0
          have hn : nr = nearT N l r j a (ov.take k) := hn0
          clear hk0 hn0
          refine bcond_dec (p := (k : Int) < ov.length) (fun hlt3 => ?_) (fun hge3 => ?_)
          · have hlt3 : k < ov.length := by omega
            obtain ⟨c, hc⟩ : ∃ c, ov[k] = c := ⟨_, rfl⟩
            have htk3 : ov.take (k + 1) = ov.take k ++ [c] := by rw [List.take_succ_eq_append_getElem hlt3, hc]
            have hst := nearT_snoc N l r j a c (ov.take k)
            rw [← htk3, ← hn] at hst
            have hga := domAll_get (l := l) (r := r) (show a.toNat < N by omega)
            rw [Int.toNat_natCast] at hga
            have hsm := domRow_small N l r a.toNat
            refine With.mk rfl (IdxF.mk c (by omega) ((get_some hlt3).trans (congrArg some hc)) ?_)
            cases nr with
            | false =>
              exact nextS (k + 1, false) (by show ov.length - (k + 1) < ov.length - k; omega) ⟨hlt3, hst.symm⟩ ⟨rfl, rfl, rfl, rfl, rfl, rfl, rfl, rfl, rfl, rfl, rfl, rfl, rfl, rfl, inc64 (by omega), trivial⟩ (.refl _)
            | true =>
              rw [Bool.true_and] at hst
              refine bcond_dec (fun c1 => ?_) (fun c1 => ?_)
              · have c1 : c = J := c1
                exact nextS (k + 1, true) (by show ov.length - (k + 1) < ov.length - k; omega) ⟨hlt3, (hst.trans (by rw [decide_eq_true (c1.trans hJ)]; rfl)).symm⟩ ⟨rfl, rfl, rfl, rfl, rfl, rfl, rfl, rfl, rfl, rfl, rfl, rfl, rfl, rfl, inc64 (by omega), trivial⟩ (.refl _)
              · have c1 : ¬ (c = J) := c1
                refine With.mk rfl ?_
                refine IdxF.mk (domRow N l r a.toNat) (by omega) hga ?_
                refine callR [] (acalls_eq (aRIn (domRow N l r a.toNat) c _ (by omega)) (av_bool (any_inD _ _))) ?_
                exact nextS (k + 1, decide (c ∈ domRow N l r a.toNat)) (by show ov.length - (k + 1) < ov.length - k; omega) ⟨hlt3, (hst.trans (by rw [decide_eq_false (fun e => c1 (e.trans hJ.symm))]; rfl)).symm⟩ ⟨rfl, rfl, rfl, rfl, rfl, rfl, rfl, rfl, rfl, rfl, rfl, rfl, rfl, rfl, inc64 (by omega), trivial⟩ (.refl _)
          · have hge3 : k = ov.length := by omega
            subst hge3
            rw [List.take_length] at hn
            rw [← hn] at hfo
            cases nr with
            | false =>
              rw [if_neg (by decide)] at hfo
              exact nextS (i + 1) (by show ov.length - (i + 1) < ov.length - i; omega) hlt2 ⟨rfl, rfl, rfl, rfl, rfl, rfl, rfl, rfl, rfl, inc64 (by omega), trivial⟩ (shed_eq (by rw [hfo]))
            | true =>
              refine With.mk ⟨rfl, by omega, by omega⟩ ?_
              rw [if_pos rfl] at hfo
              refine StoreAt.mk 0 _ _ rfl (inC_writeK rfl a hJ (by rw [List.length_set]; omega)) ?_
              exact nextS (i + 1) (by show ov.length - (i + 1) < ov.length - i; omega) hlt2 ⟨rfl, rfl, rfl, rfl, rfl, rfl, rfl, rfl, rfl, inc64 (by omega), trivial⟩ (shed_eq (by rw [List.set_set, hfo]; rfl))
        · have c1 : a = J := by simpa using c1
          have hf : nearT N l r j a ov = false := by unfold nearT; rw [decide_eq_false (show ¬ (a ≠ (j : Int)) from fun h => h (c1.trans hJ))]; rfl
          rw [hf, if_neg (by decide)] at hfo
          refine loopS (S := Nat) (fun x => [(7, .fsl (.slice (.int .i64)) (domAll N l r)), (8, .mref bo 0 N 1), (9, .int .i64 J), (10, .fsl (.int .i64) ov), (12, .int .i64 a), (13, .bool false), (22, .fsl (.slice (.int .i64)) (domAll N l r)), (23, .int .i64 (domAll N l r).length), (24, .int .i64 J), (38, .fsl (.int .i64) ov), (39, .int .i64 ov.length), (40, .int .i64 i), (47, .fsl (.int .i64) ov), (48, .int .i64 ov.length), (49, .int .i64 x)]) (fun _ => (bo, inC ((upA N l r j).set j (foldR N l r j (-1) (ov.take i)))) :: σ) (fun x => x ≤ ov.length) (fun x => ov.length - x) 0 ⟨Nat.zero_le _, ⟨rfl, rfl, rfl, rfl, rfl, rfl, rfl, rfl, rfl, rfl, rfl, rfl, rfl, rfl, rfl, trivial⟩, rfl⟩ ?_
          intro k g3 hk0
          have hk : k ≤ ov.length := hk0
          clear hk0
          refine bcond_dec (p := (k : Int) < ov.length) (fun hlt3 => ?_) (fun hge3 => ?_)
          · have hlt3 : k < ov.length := by omega
            obtain ⟨c, hc⟩ : ∃ c, ov[k] = c := ⟨_, rfl⟩
            refine With.mk rfl (IdxF.mk c (by omega) ((get_some hlt3).trans (congrArg some hc)) ?_)
            exact nextS (k + 1) (by show ov.length - (k + 1) < ov.length - k; omega) hlt3 ⟨rfl, rfl, rfl, rfl, rfl, rfl, rfl, rfl, rfl, rfl, rfl, rfl, rfl, rfl, inc64 (by omega), trivial⟩ (.refl _)
          · exact nextS (i + 1) (by show ov.length - (i + 1) < ov.length - i; omega) hlt2 ⟨rfl, rfl, rfl, rfl, rfl, rfl, rfl, rfl, rfl, inc64 (by omega), trivial⟩ (shed_eq (by rw [hfo]))
      · have hge2 : i = ov.length := by omega
        subst hge2
        exact nextS (j + 1) (by show N - (j + 1) < N - j; omega) hlt ⟨rfl, rfl, rfl, rfl, by rw [hJ]; exact inc64 (by omega), trivial⟩ (shed_eq (by rw [List.take_length, show foldR N l r j (-1) ov = aboveV N l r j from hab, upA_succ l r hlt]))
    · refine With.mk ⟨rfl, by omega, by omega⟩ ?_
      rw [if_pos (by omega), show ov = [] from List.length_eq_zero_iff.1 (by omega)] at hab
      have hab : -2 = aboveV N l r j := hab
      refine StoreAt.mk 0 _ _ rfl (inC_writeK rfl (-2) hJ (by rw [List.length_set]; omega)) ?_
      refine loopS (S := Unit) (fun _ => [(7, .fsl (.slice (.int .i64)) (domAll N l r)), (8, .mref bo 0 N 1), (9, .int .i64 J), (10, .fsl (.int .i64) ov), (22, .fsl (.slice (.int .i64)) (domAll N l r)), (23, .int .i64 (domAll N l r).length), (24, .int .i64 J), (38, .fsl (.int .i64) ov), (39, .int .i64 ov.length), (40, .int .i64 0)]) (fun _ => (bo, inC (((upA N l r j).set j (-1)).set j (-2))) :: σ) (fun _ => True) (fun _ => 0) () ⟨trivial, ⟨rfl, rfl, rfl, rfl, rfl, rfl, rfl, rfl, rfl, rfl, trivial⟩, rfl⟩ ?_
      intro _ g2 _
      refine bcond_dec (p := ((0 : Int) < ov.length)) (fun hlt2 => ?_) (fun hge2 => ?_)
      · omega
      · exact nextS (j + 1) (by show N - (j + 1) < N - j; omega) hlt ⟨rfl, rfl, rfl, rfl, by rw [hJ]; exact inc64 (by omega), trivial⟩ (shed_eq (by rw [List.set_set, hab, upA_succ l r hlt]))
  · have hge : j = N := by omega
    subst hge
    exact .frz 0 bo 0 j 1 _ (.int .i64) (domAbove j l r) rfl (by rw [List.drop_zero, upA_all, List.take_of_length_le (by rw [inC_length, domAbove_length, Nat.mul_one]; exact Nat.le_refl _)]; exact inC_flat _) ⟨domAbove_length j l r, rfl, by decide⟩ .here (.done ⟨rfl, rfl⟩)
end Go.Proofs.YtljbnigceammdaaGreatDoor
