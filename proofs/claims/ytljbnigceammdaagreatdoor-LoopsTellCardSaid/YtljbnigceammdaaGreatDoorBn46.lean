/-
  Lpe; Dj; Laws: what the claim uses of them.
-/
import Derived.Test.YtljbnigceammdaaGreatDoorBn31
import Derived.Test.YtljbnigceammdaaGreatDoorBn45
import Derived.Test.YtljbnigceammdaaGreatDoorBn40
import Derived.Test.YtljbnigceammdaaGreatDoorBn27
import Derived.Test.YtljbnigceammdaaGreatDoorBn12
namespace Go.Proofs.YtljbnigceammdaaGreatDoor
open Go.RowKit
set_option maxRecDepth 100000
theorem frzVm {t t' : Tm} {b off len es : Nat} {e : Sh} {l : List e.T} (k : Nat) (h : t k = .mref b off len es) (h' : t' = upd t [(k, .fsl e l)]) (i : Nat) : FrzRel b off len es e l (t i) (t' i) := by
  subst h'
  show FrzRel b off len es e l (t i) (match Nat.beq i k with | true => .fsl e l | false => t i)
  cases hb : Nat.beq i k with
  | true => rw [Nat.eq_of_beq_eq_true hb, h]; exact .here
  | false => exact .refl _
theorem acc_one {e k : Nat} {v : AV} {acc : Hp} {cs : List AV} (hk : 0 < k) (h : Acc e k v acc cs) : ∃ b, v = .mref b 0 k e ∧ acc = [(b, cs)] := by
  cases h with
  | nil => omega
  | mref b => exact ⟨b, rfl, rfl⟩
theorem acc_val {e k : Nat} {v : AV} {acc : Hp} {cs : List AV} (h : Acc e k v acc cs) : (v = .nils ∧ acc = [] ∧ k = 0 ∧ cs = []) ∨ ∃ b, v = .mref b 0 k e ∧ acc = [(b, cs)] := by
  cases h with
  | nil => exact .inl ⟨rfl, rfl, rfl, rfl⟩
  | mref b => exact .inr ⟨b, rfl, rfl⟩
/-- A loop. -/
abbrev loopSh : Sh := .field (.int .i64) (.field (.slice (.int .i64)) .nil)
abbrev LoopT := loopSh.T
theorem aOf1 (b : Nat) (h : Int) (x : EdgeT) (σ A : Hp) : ACalls Tryz.prog 57 (.agg (cellE x) :: [.ptr b 0]) (A ++ ((b, [.int .i64 h]) :: σ)) (Ret (.bool (decide (x.2.1 = h))) (A ++ ((b, [.int .i64 h]) :: σ))) := by
  obtain ⟨x1, x2, xu⟩ := x
  have key : ACalls Tryz.prog 57 (.agg (cellE (x1, x2, xu)) :: [.ptr b 0]) ((b, [.int .i64 h]) :: (A ++ σ)) (Ret (.bool (decide (x2 = h))) ((b, [.int .i64 h]) :: (A ++ σ))) := by
    refine okF Tryz.func57 (by kernel_rfl) ?_
    intro bx
    refine LoadAt.mk 0 _ _ rfl rfl ?_
    refine LoadAt.mk 1 _ _ rfl rfl ?_
    refine bcond_dec (fun c1 => ?_) (fun c1 => ?_)
    · have c1 : x2 = h := c1
      exact .drop 0 1 (.done ⟨av_bool (decide_eq_true (by assumption)).symm, rfl⟩)
    · have c1 : ¬ (x2 = h) := c1
      exact .drop 0 1 (.done ⟨av_bool (decide_eq_false (by assumption)).symm, rfl⟩)
  exact acalls_permR key List.perm_middle.symm List.perm_middle
theorem aLoopsOfNo (n r : Int) (l : List EdgeT) (σ : Hp) (hl : l.length ≤ 1000000) (h : ¬ (rightE n l = true ∧ 0 ≤ r ∧ r < n)) : ACalls Tryz.prog 29 [.int .i64 n, .fsl edgeSh l, .int .i64 r] σ (Ret (.tup [.fsl loopSh ([] : List LoopT), .int .i64 1]) σ) := by
  refine okF Tryz.func29 (by kernel_rfl) ?_
  refine callR [] (aLoopsBackNo n r l _ hl h) ?_
  exact .nil (frz_cons (.nil _) (.refl _)) (.done ⟨rfl, rfl⟩)
theorem aLoopsOf (N r : Nat) (l : List EdgeT) (σ : Hp) (d : DG N r l) (hg : (gT, tabT) ∈ σ) : ACalls Tryz.prog 29 [.int .i64 N, .fsl edgeSh l, .int .i64 r] σ (Ret (.tup [.fsl loopSh (loopsP N l r N), .int .i64 0]) σ) := by
  obtain ⟨z, hz⟩ : ∃ z : Int, z = 0 := ⟨_, rfl⟩
  have hA : ∀ ρ, (gT, tabT) ∈ ρ → ACalls Tryz.prog 30 [.int .i64 N, .fsl edgeSh l, .int .i64 r] ρ (Ret (.tup [.fsl edgeSh (backP N l r), .int .i64 z]) ρ) := fun ρ hm => hz ▸ aLoopsBack N r l ρ d hm
  have hl := d.hl
  have h8 := d.h8
  have hbl : (backP N l r).length ≤ 1000 := by
    unfold backP
    exact Nat.le_trans (List.length_filter_le _ _) (Nat.le_trans (by rw [← insK_all]; exact insK_len l _ (Nat.le_refl _)) hl)
  have hRl : (reachR N l [(r : Int)]).length ≤ 1000 := by
    have := reachR_length N l [(r : Int)]
    omega
  refine okF Tryz.func29 (by kernel_rfl) ?_
  refine callR [] (hA _ hg) ?_
  refine bcond_split (fun c1 => absurd hz (by simpa using c1)) (fun c1 => ?_)
  intro bl1
  refine .frz (args' := [.int .i64 N, .fsl edgeSh l, .fsl (.int .i64) ([(r : Int)] : List Int)]) 0 bl1 0 1 1 _ (.int .i64) ([(r : Int)] : List Int) rfl rfl ⟨rfl, rfl, by decide⟩ (frz_cons (.refl _) (frz_cons (.refl _) (frz_cons .here (.refl _)))) ?_
  refine callR [] (aReached N l [(r : Int)] _ (by omega) (by omega) (by show 1 ≤ 100000; decide)) ?_
  refine loopS (S := Nat × AV × Hp) (fun x => [(0, .int .i64 N), (1, .fsl edgeSh l), (8, .fsl edgeSh (backP N l r)), (10, .fsl (.int .i64) (reachR N l [(r : Int)])), (11, x.2.1), (31, .int .i64 N), (32, .int .i64 x.1)]) (fun x => x.2.2 ++ σ) (fun x => x.1 ≤ N ∧ Acc 2 (loopsP N l r x.1).length x.2.1 x.2.2 ((loopsP N l r x.1).flatMap loopSh.cells)) (fun x => N - x.1) (0, .nils, []) ⟨⟨Nat.zero_le _, .nil⟩, ⟨rfl, rfl, rfl, rfl, rfl, rfl, rfl, trivial⟩, rfl⟩ ?_
  rintro ⟨k, v, acc⟩ g ⟨hk0, hA0⟩
  have hk : k ≤ N := hk0
  have hO : Acc 2 (loopsP N l r k).length v acc ((loopsP N l r k).flatMap loopSh.cells) := hA0
  clear hk0 hA0
  refine bcond_dec (p := (k : Int) < N) (fun hlt => ?_) (fun hge => ?_)
  · have hlt : k < N := by omega
    intro bl1
    refine StoreAt.mk 0 _ _ rfl rfl ?_
    obtain ⟨E, hE⟩ : ∃ E, (backP N l r).filter (fun x => decide (x.2.1 = (k : Int))) = E := ⟨_, rfl⟩
    have hEl : E.length ≤ 1000 := by rw [← hE]; exact Nat.le_trans (List.length_filter_le _ _) hbl
    have hF : fromP (backP N l r) k = E.map (·.1) := by rw [← hE]; rfl
    refine callR [] (acalls_eq (aKeptE 57 [.ptr bl1 0] (backP N l r) (fun x => decide (x.2.1 = (k : Int))) ((bl1, [.int .i64 (k : Int)]) :: (acc ++ σ)) (by omega) (fun x _ A => aOf1 bl1 k x (acc ++ σ) A)) (congrArg (AV.fsl edgeSh) hE)) ?_
    refine loopS (S := Nat × AV × Hp) (fun x => [(0, .int .i64 N), (1, .fsl edgeSh l), (8, .fsl edgeSh (backP N l r)), (10, .fsl (.int .i64) (reachR N l [(r : Int)])), (11, v), (12, .ptr bl1 0), (13, x.2.1), (31, .int .i64 N), (32, .int .i64 k), (37, .fsl edgeSh E), (38, .int .i64 E.length), (39, .int .i64 x.1)]) (fun x => x.2.2 ++ ((bl1, [.int .i64 (k : Int)]) :: (acc ++ σ))) (fun x => x.1 ≤ E.length ∧ Acc 1 x.1 x.2.1 x.2.2 (inC ((E.map (·.1)).take x.1))) (fun x => E.length - x.1) (0, .nils, []) ⟨⟨Nat.zero_le _, .nil⟩, ⟨rfl, rfl, rfl, rfl, rfl, rfl, rfl, rfl, rfl, rfl, rfl, rfl, trivial⟩, rfl⟩ ?_
    rintro ⟨j, v2, acc2⟩ g2 ⟨hj0, hA0⟩
    have hj : j ≤ E.length := hj0
    have hB : Acc 1 j v2 acc2 (inC ((E.map (·.1)).take j)) := hA0
    clear hj0 hA0
    refine bcond_dec (p := (j : Int) < E.length) (fun hl2 => ?_) (fun hg2 => ?_)
    · have hl2 : j < E.length := by omega
      obtain ⟨x, hx⟩ : ∃ x, E[j] = x := ⟨_, rfl⟩
      have hst : inC ((E.map (·.1)).take (j + 1)) = inC ((E.map (·.1)).take j) ++ [.int .i64 x.1] := by
        have : (E.map (·.1)).take (j + 1) = (E.map (·.1)).take j ++ [x.1] := by
          rw [List.take_add_one, List.getElem?_map, List.getElem?_eq_getElem hl2, hx]; rfl
        rw [this]; exact List.map_append
      obtain ⟨x1, x2, xu⟩ := x
      refine With.mk rfl (IdxF.mk (x1, x2, xu) (by omega) ((get_some hl2).trans (congrArg some hx)) ?_)
      intro bl2
      refine StoreAt.mk 0 _ _ rfl rfl ?_
      rcases acc_val hB with ⟨rfl, rfl, hj0, hc0⟩ | ⟨b2, rfl, rfl⟩
      · refine LoadAt.mk 0 _ _ rfl rfl ?_
        intro bl3
        subst hj0
        refine append_accV (i := ⟨.int .i64, 1, 8, [.int .i64 0]⟩) (k := 0) (cs := []) [_, _] .nil (.mref 0 bl3 0 1 _ rfl (Nat.le_of_ble_eq_true rfl)) rfl (by decide) (by decide) (by decide) (fun v' acc' h' => ?_)
        obtain ⟨b5, rfl, rfl⟩ := accA_one (by omega) h'
        exact nextS (0 + 1, .mref b5 0 (0 + 1) 1, [(b5, [] ++ [.int .i64 x1])]) (by show E.length - (0 + 1) < E.length - 0; omega) ⟨hl2, by show Acc 1 (0 + 1) _ _ (inC ((E.map (·.1)).take (0 + 1))); rw [hst, hc0]; exact h'⟩ ⟨rfl, rfl, rfl, rfl, rfl, rfl, rfl, rfl, rfl, rfl, rfl, inc64 (by omega), trivial⟩ (.drop 0 2 (shed_eq rfl))
      · refine LoadAt.mk 0 _ _ rfl rfl ?_
        intro bl3
        have hB' : Acc 1 j (.mref b2 0 j 1) [(b2, inC ((E.map (·.1)).take j))] (inC ((E.map (·.1)).take j)) := hB
        refine append_accV (i := ⟨.int .i64, 1, 8, [.int .i64 0]⟩) [_, _] hB' (.mref 0 bl3 0 1 _ rfl (Nat.le_of_ble_eq_true rfl)) rfl (by omega) (by decide) (by decide) (fun v' acc' h' => ?_)
        obtain ⟨b5, rfl, rfl⟩ := accA_one (by omega) h'
        exact nextS (j + 1, .mref b5 0 (j + 1) 1, [(b5, inC ((E.map (·.1)).take j) ++ [.int .i64 x1])]) (by show E.length - (j + 1) < E.length - j; omega) ⟨hl2, by show Acc 1 (j + 1) _ _ (inC ((E.map (·.1)).take (j + 1))); rw [hst]; exact h'⟩ ⟨rfl, rfl, rfl, rfl, rfl, rfl, rfl, rfl, rfl, rfl, rfl, inc64 (by omega), trivial⟩ (.drop 0 2 (shed_eq rfl))
    · have hg2 : j = E.length := by omega
      have hsc := loopsP_succ N l r k
      rcases acc_val hB with ⟨rfl, rfl, hj0, hc0⟩ | ⟨b2, rfl, rfl⟩
      · have hE0 : E = [] := List.length_eq_zero_iff.1 (by omega)
        rw [hF, hE0] at hsc
        have hsc : loopsP N l r (k + 1) = loopsP N l r k := hsc.trans (List.append_nil _)
        exact nextS (k + 1, v, acc) (by show N - (k + 1) < N - k; omega) ⟨hlt, by show Acc 2 (loopsP N l r (k + 1)).length v acc ((loopsP N l r (k + 1)).flatMap loopSh.cells); rw [hsc]; exact hO⟩ ⟨rfl, rfl, rfl, rfl, rfl, rfl, inc64 (by omega), trivial⟩ (.drop 0 1 (.refl _))
      · subst hg2
        refine bcond_dec (p := (0 : Int) < E.length) (fun c1 => ?_) (fun c1 => ?_)
        · rw [hF] at hsc
          have hEn : (E.map (·.1)).isEmpty = false := by
            cases E with
            | nil => exact absurd c1 (by decide)
            | cons x t => rfl
          rw [if_neg (by rw [hEn]; decide)] at hsc
          have hfn : E.map (·.1) ≠ [] := fun h => by rw [h] at hEn; exact absurd hEn (by decide)
          refine .frz 0 b2 0 E.length 1 _ (.int .i64) (E.map (·.1)) rfl (by rw [List.drop_zero, List.take_of_length_le (by rw [inC_length, List.length_take, List.length_map]; omega), List.take_of_length_le (by rw [List.length_map]; exact Nat.le_refl _)]; exact inC_flat _) ⟨List.length_map .., rfl, by decide⟩ (frzVm 13 rfl rfl) ?_
          have hBd : ∀ ρ, ACalls Tryz.prog 58 [.int .i64 N, .fsl edgeSh l, .int .i64 k, .fsl (.int .i64) (E.map (·.1)), .fsl (.int .i64) (reachR N l [(r : Int)])] ρ (Ret (.fsl (.int .i64) (bodyP N l k (E.map (·.1)) (reachR N l [(r : Int)]))) ρ) := fun ρ => aBody N l k (E.map (·.1)) (reachR N l [(r : Int)]) ρ h8 hl (by omega) (fun f hf => from_node d (hF ▸ hf)) hfn (by rw [List.length_map]; exact hEl) hRl
          have hnw : (loopsP N l r (k + 1)).flatMap loopSh.cells = (loopsP N l r k).flatMap loopSh.cells ++ [.int .i64 k, .fsl (.int .i64) (bodyP N l k (E.map (·.1)) (reachR N l [(r : Int)]))] := by rw [hsc]; exact List.flatMap_append (f := loopSh.cells) (xs := (loopsP N l r k : List LoopT)) (ys := [((k : Int), bodyP N l k (E.map (·.1)) (reachR N l [(r : Int)]), ())])
          have hnl : (loopsP N l r (k + 1)).length = (loopsP N l r k).length + 1 := by rw [hsc, List.length_append]; rfl
          have hll : (loopsP N l r k).length ≤ k := by
            unfold loopsP
            rw [List.length_map]
            exact Nat.le_trans (List.length_filter_le _ _) (by rw [List.length_range]; exact Nat.le_refl _)
          rcases acc_val hO with ⟨rfl, rfl, hj0, hc0⟩ | ⟨b2, rfl, rfl⟩
          · refine .sched [7] (upto [7] 12 0) (by kernel_rfl) ?_
            refine LoadAt.mk 0 _ _ rfl rfl ?_
            refine LoadAt.mk 0 _ _ rfl rfl ?_
            refine callQ [] (hBd _) ?_
            intro bl3
            refine append_accV (i := ⟨_, 2, 32, [.int .i64 0, .nils]⟩) (k := 0) (cs := []) [_, _] .nil (.mref 0 bl3 0 1 _ rfl (Nat.le_of_ble_eq_true rfl)) rfl (by decide) (by decide) (by decide) (fun v' acc' h' => ?_)
            obtain ⟨b5, rfl, rfl⟩ := acc_one (by omega) h'
            exact nextS (k + 1, .mref b5 0 (0 + 1) 2, [(b5, [] ++ [.int .i64 k, .fsl (.int .i64) (bodyP N l k (E.map (·.1)) (reachR N l [(r : Int)]))])]) (by show N - (k + 1) < N - k; omega) ⟨hlt, by show Acc 2 (loopsP N l r (k + 1)).length _ _ ((loopsP N l r (k + 1)).flatMap loopSh.cells); rw [hnl, hnw, hj0, hc0]; exact h'⟩ ⟨rfl, rfl, rfl, rfl, rfl, rfl, inc64 (by omega), trivial⟩ (.drop 0 2 (shed_eq rfl))
          · refine .sched [7] (upto [7] 12 0) (by kernel_rfl) ?_
            refine LoadAt.mk 0 _ _ rfl rfl ?_
            refine LoadAt.mk 0 _ _ rfl rfl ?_
            refine callQ [] (hBd _) ?_
            intro bl3
            obtain ⟨q, hq⟩ : ∃ q, (loopsP N l r k).length = q := ⟨_, rfl⟩
            obtain ⟨cs, hcs⟩ : ∃ cs, (loopsP N l r k).flatMap loopSh.cells = cs := ⟨_, rfl⟩
            have hO' : Acc 2 q (.mref b2 0 q 2) [(b2, cs)] cs := by rw [← hq, ← hcs]; exact hO
            rw [hcs, hq]
            refine append_accV (i := ⟨_, 2, 32, [.int .i64 0, .nils]⟩) [_, _] hO' (.mref 0 bl3 0 1 _ rfl (Nat.le_of_ble_eq_true rfl)) rfl (by omega) (by decide) (by decide) (fun v' acc' h' => ?_)
            obtain ⟨b5, rfl, rfl⟩ := acc_one (by omega) h'
            exact nextS (k + 1, .mref b5 0 (q + 1) 2, [(b5, cs ++ [.int .i64 k, .fsl (.int .i64) (bodyP N l k (E.map (·.1)) (reachR N l [(r : Int)]))])]) (by show N - (k + 1) < N - k; omega) ⟨hlt, by show Acc 2 (loopsP N l r (k + 1)).length _ _ ((loopsP N l r (k + 1)).flatMap loopSh.cells); rw [hnl, hnw, hq, hcs]; exact h'⟩ ⟨rfl, rfl, rfl, rfl, rfl, rfl, inc64 (by omega), trivial⟩ (.drop 0 2 (shed_eq rfl))
        · have hE0 : E = [] := List.length_eq_zero_iff.1 (by omega)
          rw [hF, hE0] at hsc
          have hsc : loopsP N l r (k + 1) = loopsP N l r k := hsc.trans (List.append_nil _)
          exact nextS (k + 1, v, acc) (by show N - (k + 1) < N - k; omega) ⟨hlt, by show Acc 2 (loopsP N l r (k + 1)).length v acc ((loopsP N l r (k + 1)).flatMap loopSh.cells); rw [hsc]; exact hO⟩ ⟨rfl, rfl, rfl, rfl, rfl, rfl, inc64 (by omega), trivial⟩ (.drop 0 2 (.refl _))
  · have hge : k = N := by omega
    subst hge
    rcases acc_val hO with ⟨rfl, rfl, hj0, hc0⟩ | ⟨b2, rfl, rfl⟩
    · exact .nil (frz_cons (.nil loopSh) (.refl _)) (.done ⟨by rw [List.length_eq_zero_iff.1 hj0]; rfl, rfl⟩)
    · refine .frz (r' := .tup [.fsl loopSh (loopsP k l r k), .int .i64 0]) 0 b2 0 _ 2 _ loopSh (loopsP k l r k) rfl (by rw [List.drop_zero]; exact List.take_of_length_le (Nat.le_of_eq hO.length)) ⟨rfl, rfl, by decide⟩ (frz_cons .here (.refl _)) (.done ⟨rfl, rfl⟩)
end Go.Proofs.YtljbnigceammdaaGreatDoor
namespace Go.Proofs.YtljbnigceammdaaGreatDoor
open Go.RowKit
set_option maxRecDepth 100000
theorem without_take {l : List EdgeT} {a : Int} {k : Nat} (h : k < l.length) {x : EdgeT} (hx : l[k] = x) : withoutE (l.take (k + 1)) a = withoutE (l.take k) a ++ if x.1 ≠ a ∧ x.2.1 ≠ a then [x] else [] := by
  unfold withoutE
  rw [List.take_succ_eq_append_getElem h, List.filter_append, hx]
  congr 1
  by_cases c : x.1 ≠ a ∧ x.2.1 ≠ a
  · rw [if_pos c, List.filter_cons_of_pos (by rw [decide_eq_true c.1, decide_eq_true c.2]; rfl)]; rfl
  · rw [if_neg c, List.filter_cons_of_neg (by rw [Bool.and_eq_true, decide_eq_true_eq, decide_eq_true_eq]; exact c)]; rfl
theorem without_length (l : List EdgeT) (a : Int) : (withoutE l a).length ≤ l.length := List.length_filter_le ..
theorem aRWithout (l : List EdgeT) (a : Int) (σ : Hp) (hl : l.length ≤ 100000) : ACalls Tryz.prog 25 [.fsl edgeSh l, .int .i64 a] σ (Ret (.fsl edgeSh (withoutE l a)) σ) := by
  refine okF Tryz.func25 (by kernel_rfl) ?_
  refine .wrap 5 _ rfl rfl ?_
  refine loopS (S := Nat × AV × Hp) (fun x => [(1, .int .i64 a), (5, .via x.2.1), (8, .fsl edgeSh l), (9, .int .i64 l.length), (10, .int .i64 x.1)]) (fun x => x.2.2 ++ σ) (fun x => x.1 ≤ l.length ∧ Acc 2 (withoutE (l.take x.1) a).length x.2.1 x.2.2 (prC (withoutE (l.take x.1) a))) (fun x => l.length - x.1) (0, .nils, []) ⟨⟨Nat.zero_le _, .nil⟩, ⟨rfl, rfl, rfl, rfl, rfl, trivial⟩, rfl⟩ ?_
  rintro ⟨k, v, acc⟩ g ⟨hk0, hacc0⟩
  have hk : k ≤ l.length := hk0
  have hacc : Acc 2 (withoutE (l.take k) a).length v acc (prC (withoutE (l.take k) a)) := hacc0
  clear hk0 hacc0
  refine bcond_dec (p := (k : Int) < l.length) (fun hlt => ?_) (fun hge => ?_)
  · have hlt : k < l.length := by omega
    obtain ⟨x, hx⟩ : ∃ x, l[k] = x := ⟨_, rfl⟩
    have hst := without_take (a := a) hlt hx
    have hle := without_length (l.take k) a
    rw [List.length_take, Nat.min_eq_left hk] at hle
    obtain ⟨x1, x2, xu⟩ := x
    refine With.mk rfl (IdxF.mk (x1, x2, xu) (by omega) ((get_some hlt).trans (congrArg some hx)) ?_)
    intro bl1
    refine StoreAt.mk 0 _ _ rfl rfl ?_
    refine LoadAt.mk 0 _ _ rfl rfl ?_
    refine bcond_split (fun c2 => ?_) (fun c2 => ?_)
    · have c2 : ¬ (x1 = a) := by simpa using c2
      refine LoadAt.mk 0 _ _ rfl rfl ?_
      refine bcond_split (fun c3 => ?_) (fun c3 => ?_)
      · have c3 : ¬ (x2 = a) := by simpa using c3
        refine LoadAt.mk 0 _ _ rfl rfl ?_
        intro bl4
        refine append_acc [_, _] hacc (.mref 0 bl4 0 1 _ rfl (Nat.le_of_ble_eq_true rfl)) rfl (by omega) (by decide) (by decide) (fun v' acc' h' => ?_)
        rw [if_pos ⟨c2, c3⟩] at hst
        refine nextS (k + 1, v', acc') (by show l.length - (k + 1) < l.length - k; omega) ⟨hlt, ?_⟩ ⟨rfl, rfl, rfl, rfl, inc64 (by omega), trivial⟩ (.drop 0 2 (shed_eq rfl))
        show Acc 2 (withoutE (l.take (k + 1)) a).length v' acc' (prC (withoutE (l.take (k + 1)) a))
        rw [hst, List.length_append, prC_app]; exact h'
      · have c3 : x2 = a := by simpa using c3
        rw [if_neg (fun h => h.2 c3), List.append_nil] at hst
        exact nextS (k + 1, v, acc) (by show l.length - (k + 1) < l.length - k; omega) ⟨hlt, by show Acc 2 (withoutE (l.take (k + 1)) a).length v acc (prC (withoutE (l.take (k + 1)) a)); rw [hst]; exact hacc⟩ ⟨rfl, rfl, rfl, rfl, inc64 (by omega), trivial⟩ (.drop 0 1 (shed_eq rfl))
    · have c2 : x1 = a := by simpa using c2
      rw [if_neg (fun h => h.1 c2), List.append_nil] at hst
      exact nextS (k + 1, v, acc) (by show l.length - (k + 1) < l.length - k; omega) ⟨hlt, by show Acc 2 (withoutE (l.take (k + 1)) a).length v acc (prC (withoutE (l.take (k + 1)) a)); rw [hst]; exact hacc⟩ ⟨rfl, rfl, rfl, rfl, inc64 (by omega), trivial⟩ (.drop 0 1 (shed_eq rfl))
  · have hge : k = l.length := by omega
    subst hge
    rw [List.take_length] at hacc
    exact fin_acc (s := edgeSh) [] hacc rfl rfl (by decide) (.done ⟨rfl, rfl⟩)
theorem overR_not {N : Nat} {l : List EdgeT} {r : Nat} {a b : Int} (h : b ∉ reachR N l [(r : Int)]) : overR N l r a b = false := by unfold overR; rw [decide_eq_false h]; rfl
theorem overR_one {N : Nat} {l : List EdgeT} {r : Nat} {a b : Int} (h : b ∈ reachR N l [(r : Int)]) (h2 : a = b ∨ a = r) : overR N l r a b = true := by unfold overR; rw [decide_eq_true h]; rcases h2 with h2 | h2 <;> simp [h2]
theorem overR_two {N : Nat} {l : List EdgeT} {r : Nat} {a b : Int} (h : b ∈ reachR N l [(r : Int)]) (h2 : ¬ a = b) (h3 : ¬ a = r) : overR N l r a b = !decide (b ∈ reachR N (withoutE l a) [(r : Int)]) := by unfold overR; rw [decide_eq_true h, decide_eq_false h2, decide_eq_false h3]; rfl
theorem aROver (N r : Nat) (a b : Int) (l : List EdgeT) (σ : Hp) (hN : N ≤ 10000) (hl : l.length ≤ 1000) : ACalls Tryz.prog 21 [.int .i64 N, .fsl edgeSh l, .int .i64 r, .int .i64 a, .int .i64 b] σ (Ret (.bool (overR N l r a b)) σ) := by
  have hRe : ∀ (l : List EdgeT) (σ : Hp), l.length ≤ 1000 → ACalls Tryz.prog 51 [.int .i64 N, .fsl edgeSh l, .fsl (.int .i64) ([(r : Int)] : List Int)] σ (Ret (.fsl (.int .i64) (reachR N l [(r : Int)])) σ) := fun l σ h => aRReached N l [(r : Int)] σ (by omega) (by omega) (show 1 ≤ 100000 by decide)
  have hIn : ∀ (l : List EdgeT) (σ : Hp), ACalls Tryz.prog 26 [.fsl (.int .i64) (reachR N l [(r : Int)]), .int .i64 b] σ (Ret (.bool (decide (b ∈ reachR N l [(r : Int)]))) σ) := fun l σ => acalls_eq (aRIn _ b σ (Nat.le_trans (reachR_length N l _) (by omega))) (av_bool (any_inD _ _))
  have hwl := without_length l a
  refine okF Tryz.func21 (by kernel_rfl) ?_
  intro bl1
  refine .frz (args' := [.int .i64 N, .fsl edgeSh l, .fsl (.int .i64) ([(r : Int)] : List Int)]) 0 bl1 0 1 1 _ (.int .i64) ([(r : Int)] : List Int) rfl rfl ⟨rfl, rfl, by decide⟩ (frz_cons (.refl _) (frz_cons (.refl _) (frz_cons .here (.refl _)))) ?_
  refine callR [] (hRe l _ hl) ?_
  refine callB [] (hIn l _) (fun c1 => ?_) (fun c1 => ?_)
  rotate_left
  · exact .done ⟨av_bool (overR_not (of_decide_eq_false c1)).symm, rfl⟩
  have hb := of_decide_eq_true c1
  refine bcond_dec (fun c1 => ?_) (fun c1 => ?_)
  · have c1 : a = b := c1
    exact .done ⟨av_bool (overR_one hb (.inl c1)).symm, rfl⟩
  · have c1 : ¬ (a = b) := c1
    refine bcond_dec (fun c2 => ?_) (fun c2 => ?_)
    · have c2 : a = (↑r : Int) := c2
      exact .done ⟨av_bool (overR_one hb (.inr c2)).symm, rfl⟩
    · have c2 : ¬ (a = (↑r : Int)) := c2
      refine callR [] (aRWithout l a _ (by omega)) ?_
      intro bl2
      refine .frz (args' := [.int .i64 N, .fsl edgeSh (withoutE l a), .fsl (.int .i64) ([(r : Int)] : List Int)]) 0 bl2 0 1 1 _ (.int .i64) ([(r : Int)] : List Int) rfl rfl ⟨rfl, rfl, by decide⟩ (frz_cons (.refl _) (frz_cons (.refl _) (frz_cons .here (.refl _)))) ?_
      refine callR [] (hRe (withoutE l a) _ (by omega)) ?_
      refine callR [] (hIn (withoutE l a) _) ?_
      exact .done ⟨av_bool (overR_two hb c1 c2).symm, rfl⟩
end Go.Proofs.YtljbnigceammdaaGreatDoor
namespace Go.Proofs.YtljbnigceammdaaGreatDoor
open Go.RowKit
theorem va {F : Nat → Prop} {w : World} {x : AV} {xs : List AV} {v : Value} {vs : List Value} (h : VRel F w x v) (t : VRels F w xs vs.toArray) : VRels F w (x :: xs) (v :: vs).toArray := by
  refine ⟨by have := t.1; simp at this ⊢; exact this, fun i y hy => ?_⟩
  cases i with
  | zero => simp at hy; subst hy; simpa [Array.getD] using h
  | succ i =>
    have := t.2 i y (by simpa using hy)
    rw [Array.getD_eq_getD_getElem?] at this ⊢
    simpa using this
theorem vn {F : Nat → Prop} {w : World} : VRels F w [] ([] : List Value).toArray := ⟨rfl, fun i y hy => by simp at hy⟩
theorem vi {F : Nat → Prop} {w : World} {k : IntKind} {n : Int} : VRel F w (.int k n) (.int k n) := .int k n
end Go.Proofs.YtljbnigceammdaaGreatDoor
