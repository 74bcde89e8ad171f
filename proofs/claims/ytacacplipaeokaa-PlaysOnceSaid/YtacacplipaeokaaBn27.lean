/-
  Dql: what the claim uses of them.
-/
import Derived.Test.YtacacplipaeokaaBn13
import Derived.Test.YtacacplipaeokaaBn20
import Derived.Test.YtacacplipaeokaaBn24
namespace Go.Proofs.Ytacacplipaeokaa
open Go.RowKit
set_option maxRecDepth 100000
set_option maxHeartbeats 4000000
theorem aTopD (p q : Nat) (ws : List Int) (b c : Int) (σ : Hp) : ACalls Try.prog 62 [.agg [.int .i64 b, .int .i64 c], plI p] (plH p q ws σ) (Ret (.int .i64 (wr (mLoad ws b))) (plH p q ws σ)) := by
  refine okF Try.func62 (by kernel_rfl) ?_
  intro bl1
  refine .sched [1] (upto [1] 7 0) (by kernel_rfl) ?_
  refine callQ [] (aOr _ _ _) ?_
  refine LoadAt.mk 0 _ _ rfl rfl ?_
  refine ⟨_, mLoad_, ?_⟩
  refine callR [2, 2] (aLoad p q _ _ _) ?_
  exact .drop 2 1 (.done ⟨rfl, rfl⟩)
theorem aBottomD (p q : Nat) (ws : List Int) (b c : Int) (σ : Hp) : ACalls Try.prog 63 [.agg [.int .i64 b, .int .i64 c], plI p] (plH p q ws σ) (Ret (.int .i64 (wr (mLoad ws (botD b)))) (plH p q ws σ)) := by
  refine okF Try.func63 (by kernel_rfl) ?_
  intro bl1
  refine .sched [1, 3] (upto [1, 3] 10 0) (by kernel_rfl) ?_
  refine callQ [] (aOr _ _ _) ?_
  refine LoadAt.mk 0 _ _ rfl rfl ?_
  refine callQ [] (aBottom _ _ _) ?_
  refine AheadAt.mk hLoad_ ?_
  refine ⟨_, mLoad_, ?_⟩
  refine callR [2, 2] (aLoad p q _ _ _) ?_
  exact .drop 2 1 (.done ⟨rfl, rfl⟩)
/-- How many numbers a deque tells. -/
def lenD (b c : Int) (ws : List Int) : Nat := min (rm c) (wr (mLoad ws (botD b)) - wr (mLoad ws b)).toNat
def takeD (b c : Int) (ws : List Int) (k : Nat) : List Int := (List.range k).map fun i => mLoad ws (placeD b c (wu (wr (mLoad ws b) + (i : Nat))))
def listD (b c : Int) (ws : List Int) : List Int := takeD b c ws (lenD b c ws)
theorem takeD_length (b c : Int) (ws : List Int) (k : Nat) : (takeD b c ws k).length = k := by simp [takeD]
theorem takeD_succ (b c : Int) (ws : List Int) (k : Nat) : takeD b c ws (k + 1) = takeD b c ws k ++ [mLoad ws (placeD b c (wu (wr (mLoad ws b) + (k : Nat))))] := by unfold takeD; rw [List.range_succ, List.map_append]; rfl
theorem wr_range (n : Int) : -9223372036854775808 ≤ wr n ∧ wr n ≤ 9223372036854775807 := by show _ ≤ IntKind.i64.wrap n ∧ IntKind.i64.wrap n ≤ _; rw [IntKind.wrap_i64]; omega
theorem wu_nn (n : Int) : 0 ≤ wu n := by show 0 ≤ IntKind.u64.wrap n; rw [IntKind.wrap_u64]; omega
theorem aListD (p q : Nat) (ws : List Int) (b c : Int) (σ : Hp) : ACalls Try.prog 43 [.agg [.int .i64 b, .int .i64 c], plI p] (plH p q ws σ) (Ret (.fsl (.int .u64) (listD b c ws)) (plH p q ws σ)) := by
  refine okF Try.func43 (by kernel_rfl) ?_
  intro bl1
  refine callR [] (aOr _ _ _) ?_
  refine LoadAt.mk 0 _ _ rfl rfl ?_
  refine callR [2, 2] (aTopD p q _ _ _ _) ?_
  obtain ⟨hr1, hr2⟩ := rm_ok c
  have ht := wr_range (mLoad ws b)
  have hb := wr_range (mLoad ws (botD b))
  refine .wrap 5 _ rfl rfl ?_
  refine loopS (S := Nat × AV × Hp) (fun s => [(1, plI p), (2, .ptr bl1 0), (5, .via s.2.1), (6, .int .i64 (wr (mLoad ws b) + (s.1 : Nat)))]) (fun s => plH p q ws ((bl1, [.int .i64 b, .int .i64 c]) :: (s.2.2 ++ σ))) (fun s => s.1 ≤ lenD b c ws ∧ Acc 1 s.1 s.2.1 s.2.2 (woC (takeD b c ws s.1))) (fun s => lenD b c ws - s.1) (0, .nils, []) ⟨⟨Nat.zero_le _, .nil⟩, ⟨rfl, rfl, rfl, av_int (by show wr _ = wr _ + (0 : Int); omega), trivial⟩, rfl⟩ ?_
  rintro ⟨k, v, acc⟩ g ⟨hk, hacc⟩
  have hk : k ≤ lenD b c ws := hk
  have hl : lenD b c ws = min (rm c) (wr (mLoad ws (botD b)) - wr (mLoad ws b)).toNat := rfl
  have hacc : Acc 1 k v acc (woC (takeD b c ws k)) := hacc
  refine LoadAt.mk 2 _ _ rfl rfl ?_
  refine callR [] (aBottomD p q _ _ _ _) ?_
  refine bcond_dec (fun c1 => ?_) (fun c1 => ?_)
  · have c1 : wr (mLoad ws b) + (↑k : Int) < wr (mLoad ws (botD b)) := c1
    have hacc2 := hacc
    generalize hcs : woC (takeD b c ws k) = cs at hacc2
    cases hacc2 with
    | nil =>
      refine LoadAt.mk 2 _ _ rfl rfl ?_
      refine callR [] (aRoom _ _) ?_
      refine bcond_dec (fun c1 => ?_) (fun c1 => ?_)
      · have c1 : 0 < (↑(rm c) : Int) := c1
        refine .sched [5] (upto [5] 13 0) (by kernel_rfl) ?_
        refine LoadAt.mk 2 _ _ rfl rfl ?_
        refine callQ [] (aPlace _ _ _ _ (wu_nn _)) ?_
        refine AheadAt.mk hLoad_ ?_
        refine ⟨_, mLoad_, ?_⟩
        refine callR [] (aLoad p q _ _ _) ?_
        intro bl1
        refine append_acc (i := ⟨.int .u64, 1, 8, [.int .u64 0]⟩) (n := 1) [_, _, _, _] hacc (.mref 0 bl1 0 1 _ rfl (Nat.le_of_ble_eq_true rfl)) rfl (by omega) (by decide) (by decide) (fun v' acc' h' => ?_)
        refine nextS (0 + 1, v', acc') ?_ ⟨?_, ?_⟩ ⟨rfl, rfl, rfl, ?_, trivial⟩ (.drop 0 1 (shed_eq rfl))
        · show lenD b c ws - (0 + 1) < lenD b c ws - 0; omega
        · show 0 + 1 ≤ lenD b c ws; omega
        · show Acc 1 (0 + 1) v' acc' (woC (takeD b c ws (0 + 1)))
          rw [takeD_succ, woC, List.map_append]
          exact h'
        · refine av_int ?_
          show IntKind.i64.wrap (wr (mLoad ws b) + ((0 : Nat) : Int) + 1) = wr (mLoad ws b) + ((0 + 1 : Nat) : Int)
          rw [IntKind.wrap_i64]; omega
      · have c1 : ¬ (0 < (↑(rm c) : Int)) := c1
        refine .drop 2 1 ?_
        have hkE : 0 = lenD b c ws := by omega
        have hLE : takeD b c ws 0 = listD b c ws := by unfold listD; rw [← hkE]
        rw [hLE] at hacc
        exact fin_acc (s := .int .u64) (l := listD b c ws) [_, _] hacc (show 0 = (listD b c ws).length by rw [← hLE]; exact (takeD_length b c ws _).symm) (by rw [woC_flat]) (by decide) (.done ⟨rfl, rfl⟩)
    | mref vb k cs hlen =>
      refine LoadAt.mk 2 _ _ rfl rfl ?_
      refine callR [] (aRoom _ _) ?_
      refine bcond_dec (fun c1 => ?_) (fun c1 => ?_)
      · have c1 : (↑k : Int) < (↑(rm c) : Int) := c1
        refine .sched [5] (upto [5] 13 0) (by kernel_rfl) ?_
        refine LoadAt.mk 2 _ _ rfl rfl ?_
        refine callQ [] (aPlace _ _ _ _ (wu_nn _)) ?_
        refine AheadAt.mk hLoad_ ?_
        refine ⟨_, mLoad_, ?_⟩
        refine callR [] (aLoad p q _ _ _) ?_
        intro bl1
        refine append_acc (i := ⟨.int .u64, 1, 8, [.int .u64 0]⟩) (n := 1) [_, _, _, _] hacc (.mref 0 bl1 0 1 _ rfl (Nat.le_of_ble_eq_true rfl)) rfl (by omega) (by decide) (by decide) (fun v' acc' h' => ?_)
        refine nextS (k + 1, v', acc') ?_ ⟨?_, ?_⟩ ⟨rfl, rfl, rfl, ?_, trivial⟩ (.drop 0 1 (shed_eq rfl))
        · show lenD b c ws - (k + 1) < lenD b c ws - k; omega
        · show k + 1 ≤ lenD b c ws; omega
        · show Acc 1 (k + 1) v' acc' (woC (takeD b c ws (k + 1)))
          rw [takeD_succ, woC, List.map_append]
          exact h'
        · refine av_int ?_
          show IntKind.i64.wrap (wr (mLoad ws b) + ((k : Nat) : Int) + 1) = wr (mLoad ws b) + ((k + 1 : Nat) : Int)
          rw [IntKind.wrap_i64]; omega
      · have c1 : ¬ ((↑k : Int) < (↑(rm c) : Int)) := c1
        refine .drop 2 1 ?_
        have hkE : k = lenD b c ws := by omega
        have hLE : takeD b c ws k = listD b c ws := by unfold listD; rw [← hkE]
        rw [hLE] at hacc
        exact fin_acc (s := .int .u64) (l := listD b c ws) [_, _] hacc (show k = (listD b c ws).length by rw [← hLE]; exact (takeD_length b c ws _).symm) (by rw [woC_flat]) (by decide) (.done ⟨rfl, rfl⟩)
  · have c1 : ¬ (wr (mLoad ws b) + (↑k : Int) < wr (mLoad ws (botD b))) := c1
    refine .drop 2 1 ?_
    have hkE : k = lenD b c ws := by omega
    have hLE : takeD b c ws k = listD b c ws := by unfold listD; rw [← hkE]
    rw [hLE] at hacc
    exact fin_acc (s := .int .u64) (l := listD b c ws) [_, _] hacc (show k = (listD b c ws).length by rw [← hLE]; exact (takeD_length b c ws _).symm) (by rw [woC_flat]) (by decide) (.done ⟨rfl, rfl⟩)
end Go.Proofs.Ytacacplipaeokaa
