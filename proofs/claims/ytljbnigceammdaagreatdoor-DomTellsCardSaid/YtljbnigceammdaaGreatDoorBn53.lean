/-
  Dn: what the claim uses of them.
-/
import Derived.Test.YtljbnigceammdaaGreatDoorBn49
import Derived.Test.YtljbnigceammdaaGreatDoorBn52
namespace Go.Proofs.YtljbnigceammdaaGreatDoor
open Go.RowKit
set_option maxRecDepth 100000
theorem aR10OfM (N : Nat) (h1 : 1 ≤ N) (h8 : N ≤ 8) (b v : Nat) (hv : v < N) (σ : Hp) : ACalls Tryz.prog 50 [.int .i64 N, .mref b 0 1 1] ((b, [.int .i64 v]) :: σ) (Ret (.fsl (.int .u64) ([((2 ^ v : Nat) : Int)] : List Int)) ((b, [.int .i64 v]) :: σ)) := by
  refine okF Tryz.func50 (by kernel_rfl) ?_
  refine callR [] (aR10Size N _ h1 h8) ?_
  refine With.mk ⟨by decide, by decide, by decide, by decide⟩ ?_
  intro bq
  obtain ⟨one, hone⟩ : ∃ one : Nat, one = 1 := ⟨_, rfl⟩
  refine loopS (S := Nat × Nat) (fun x => [(0, .int .i64 N), (5, .mref x.2 0 1 1), (11, .mref b 0 1 1), (12, .int .i64 one), (13, .int .i64 x.1)]) (fun x => (x.2, woC [((if x.1 = 0 then 0 else 2 ^ v : Nat) : Int)]) :: (b, [.int .i64 v]) :: σ) (fun x => x.1 ≤ 1) (fun x => 1 - x.1) (0, bq) ⟨Nat.zero_le _, ⟨rfl, rfl, rfl, by rw [hone]; rfl, rfl, trivial⟩, rfl⟩ ?_
  rintro ⟨k, q⟩ g hk0
  have hk : k ≤ 1 := hk0
  clear hk0
  refine bcond_dec (p := (k : Int) < one) (fun hlt => ?_) (fun hge => ?_)
  · have hk0 : k = 0 := by omega
    subst hk0
    refine With.mk ⟨rfl, by omega, by omega⟩ ?_
    refine LoadAt.mk 1 _ _ rfl rfl ?_
    obtain ⟨V, hV⟩ : ∃ V : Int, V = v := ⟨_, rfl⟩
    have hWi : ∀ ρ, ACalls Tryz.prog 83 [.mref q 0 1 1, .int .i64 V] ((q, woC [((0 : Nat) : Int)]) :: ρ) (fun x σ' => ∃ b', x = .mref b' 0 1 1 ∧ σ' = (b', woC [((0 ||| 2 ^ v : Nat) : Int)]) :: (q, woC [((0 : Nat) : Int)]) :: ρ) := fun ρ => by rw [hV]; exact aR10With q 0 v ρ (by decide) (by omega)
    rw [← hV]
    refine bcond_dec (p := 0 ≤ V) (fun c1 => ?_) (fun c1 => absurd c1 (by omega))
    refine callR [] (aR10Width N _ h8) ?_
    refine bcond_dec (p := V < (N : Int)) (fun c2 => ?_) (fun c2 => absurd c2 (by omega))
    refine .mk [] _ (hWi _) ?_
    rintro _ _ ⟨b', rfl, rfl⟩
    exact nextS (1, b') (by show 1 - 1 < 1 - 0; decide) (Nat.le_refl 1) ⟨rfl, rfl, rfl, rfl, rfl, trivial⟩ (.drop 1 1 (shed_eq (by rw [hV, Nat.zero_or]; rfl)))
  · have hge : k = 1 := by omega
    subst hge
    exact .frz 0 q 0 1 1 _ (.int .u64) ([((2 ^ v : Nat) : Int)] : List Int) rfl rfl ⟨rfl, rfl, by decide⟩ .here (.done ⟨rfl, rfl⟩)
theorem aRSys51 (N r : Nat) (l : List EdgeT) (σ : Hp) (h1 : 1 ≤ N) (h8 : N ≤ 8) (hl : l.length ≤ 1000) (hri : rightE N l = true) (hr : r < N) : ACalls Tryz.prog 16 [.int .i64 N, .fsl edgeSh l, .int .i64 r] σ (Ret (.agg (sysC (domS N l r))) σ) := by
  have hO := fun (a : List Int) (ha : a.length ≤ 100000) σ => aR10Of N h1 h8 a σ ha
  have hOn : ∀ σ, ACalls Tryz.prog 50 [.int .i64 N, .nils] σ (Ret (.fsl (.int .u64) ([0] : List Int)) σ) := fun σ => acalls_nil (frz_cons (.refl _) (frz_cons (.nil (.int .i64)) (.refl _))) (hO [] (Nat.zero_le _) σ)
  refine okF Tryz.func16 (by kernel_rfl) ?_
  intro bl1
  refine callR [] (aRSortedE l _ (by omega)) ?_
  intro bl2
  refine callR [] (hOn _) ?_
  intro bl3
  refine StoreAt.mk 0 _ _ rfl rfl ?_
  obtain ⟨E, hE⟩ : ∃ E, sortedE l = E := ⟨_, rfl⟩
  have hfin : domS N l r = ⟨2, N, N, E, [(r : Int)], [0], (List.range N).map domT⟩ := by rw [← hE]; rfl
  rw [hfin]
  refine .shed (.pull [0] (shed_eq (σ2 := (bl3, [.int .i64 2, .int .i64 N, .int .i64 N, .fsl edgeSh E, .mref bl2 0 1 1, .fsl (.int .u64) ([0] : List Int), .nils]) :: (bl2, [.int .i64 r]) :: (bl1, [.int .i64 0, .int .i64 0, .int .i64 0, .nils, .nils, .nils, .nils]) :: ([] ++ σ)) (by rw [← hE]; rfl))) ?_
  refine loopS (S := Nat × AV × Hp) (fun x => [(0, .int .i64 N), (6, .ptr bl1 0), (7, .ptr bl3 0), (8, .int .i64 x.1)]) (fun x => (bl3, [.int .i64 2, .int .i64 N, .int .i64 N, .fsl edgeSh E, .mref bl2 0 1 1, .fsl (.int .u64) ([0] : List Int), x.2.1]) :: (bl2, [.int .i64 r]) :: (bl1, [.int .i64 0, .int .i64 0, .int .i64 0, .nils, .nils, .nils, .nils]) :: (x.2.2 ++ σ)) (fun x => x.1 ≤ N ∧ Acc 3 x.1 x.2.1 x.2.2 (domC x.1)) (fun x => N - x.1) (0, .nils, []) ⟨⟨Nat.zero_le _, .nil⟩, ⟨rfl, rfl, rfl, rfl, trivial⟩, rfl⟩ ?_
  rintro ⟨j, vT, acc⟩ g ⟨hj0, hT0⟩
  have hj : j ≤ N := hj0
  have hT : Acc 3 j vT acc (domC j) := hT0
  clear hj0 hT0
  refine bcond_dec (p := (j : Int) < N) (fun hlt => ?_) (fun hge => ?_)
  · have hlt : j < N := by omega
    have hOj := hO [(j : Int)] (show 1 ≤ 100000 by decide)
    rw [ofB_one hlt] at hOj
    refine .sched [5, 7] (.one 0 false (.one 2 false (.one 3 false (.one 6 false (.alt 1 (.one 4 false (.one 5 true (.one 7 true (.one 8 false (.one 9 false (.one 10 false (.one 11 false (.one 12 false .stop)))))))) (.one 4 false (.one 5 true (.one 7 true (.one 8 false (.alt 1 (.one 9 false (.one 10 false (.one 11 false (.one 12 false .stop)))) (.one 9 false (.one 1 false (.one 10 false (.one 11 false (.one 12 false .stop))))))))))))))) (by kernel_rfl) ?_
    refine And.intro ?_ ?_
    · refine LoadAt.mk 0 _ _ rfl rfl ?_
      intro be
      refine callQ [] (aR10OfM N h1 h8 _ j hlt _) ?_
      refine callQ [] (hOn _) ?_
      intro be
      refine append_accV [_, _, _, _, _] hT.unv (.mref 0 _ 0 1 _ rfl (Nat.le_of_ble_eq_true rfl)) rfl (by omega) (by decide) (by decide) (fun v' acc' h' => ?_)
      obtain ⟨bT, rfl, rfl⟩ := accE_one (by omega) h'
      refine StoreAt.mk 2 _ _ rfl rfl ?_
      exact nextS (j + 1, .mref bT 0 (j + 1) 3, [(bT, domC (j + 1))]) (by show N - (j + 1) < N - j; omega) ⟨hlt, .mref bT (j + 1) _ (domC_length (j + 1))⟩ ⟨rfl, rfl, rfl, inc64 (by omega), trivial⟩ (.drop 0 2 (shed_eq (by rw [domC_succ]; rfl)))
    · intro bf
      refine callQ [] (aR10OfM N h1 h8 _ j hlt _) ?_
      refine callQ [] (hOn _) ?_
      refine And.intro ?_ ?_
      · refine LoadAt.mk 1 _ _ rfl rfl ?_
        intro be
        refine append_accV [_, _, _, _, _] hT.unv (.mref 0 _ 0 1 _ rfl (Nat.le_of_ble_eq_true rfl)) rfl (by omega) (by decide) (by decide) (fun v' acc' h' => ?_)
        obtain ⟨bT, rfl, rfl⟩ := accE_one (by omega) h'
        refine StoreAt.mk 2 _ _ rfl rfl ?_
        exact nextS (j + 1, .mref bT 0 (j + 1) 3, [(bT, domC (j + 1))]) (by show N - (j + 1) < N - j; omega) ⟨hlt, .mref bT (j + 1) _ (domC_length (j + 1))⟩ ⟨rfl, rfl, rfl, inc64 (by omega), trivial⟩ (.drop 0 2 (shed_eq (by rw [domC_succ]; rfl)))
      · intro bf
        refine LoadAt.mk 2 _ _ rfl rfl ?_
        refine append_accV [_, _, _, _, _] hT.unv (.mref 0 _ 0 1 _ rfl (Nat.le_of_ble_eq_true rfl)) rfl (by omega) (by decide) (by decide) (fun v' acc' h' => ?_)
        obtain ⟨bT, rfl, rfl⟩ := accE_one (by omega) h'
        refine StoreAt.mk 2 _ _ rfl rfl ?_
        exact nextS (j + 1, .mref bT 0 (j + 1) 3, [(bT, domC (j + 1))]) (by show N - (j + 1) < N - j; omega) ⟨hlt, .mref bT (j + 1) _ (domC_length (j + 1))⟩ ⟨rfl, rfl, rfl, inc64 (by omega), trivial⟩ (.drop 0 2 (shed_eq (by rw [domC_succ]; rfl)))
  · have hge : j = N := by omega
    subst hge
    obtain ⟨bT, rfl, rfl⟩ := accE_one (by omega) hT
    have hl0 : ((List.range j).map domT).length = j := by rw [List.length_map, List.length_range]
    refine LoadAt.mk 0 _ _ rfl rfl ?_
    refine StoreAt.mk 2 _ _ rfl rfl ?_
    refine LoadAt.mk 2 _ _ rfl rfl ?_
    refine .shed (.nilc 3 bT (domC j) (domCC j) rfl (by rw [domCC_length, domC_length]) (domC_nils j) (.refl _)) ?_
    refine .frz (r' := .agg [.int .i64 2, .int .i64 j, .int .i64 j, .fsl edgeSh E, .fsl (.int .i64) ([(r : Int)] : List Int), .fsl (.int .u64) ([0] : List Int), .mref bT 0 j 3]) 1 bl2 0 1 1 _ (.int .i64) ([(r : Int)] : List Int) rfl rfl ⟨rfl, rfl, by decide⟩ (frz_agg (frz_cons (.refl _) (frz_cons (.refl _) (frz_cons (.refl _) (frz_cons (.refl _) (frz_cons .here (frz_cons (.refl _) (frz_cons (.refl _) (.refl _)))))))) rfl) ?_
    refine .frz (r' := .agg [.int .i64 2, .int .i64 j, .int .i64 j, .fsl edgeSh E, .fsl (.int .i64) ([(r : Int)] : List Int), .fsl (.int .u64) ([0] : List Int), .fsl transSh ((List.range j).map domT)]) 2 bT 0 j 3 _ transSh ((List.range j).map domT) rfl (by rw [List.drop_zero]; exact List.take_of_length_le (Nat.le_of_eq (domCC_length j))) ⟨hl0, rfl, by decide⟩ (frz_agg (frz_cons (.refl _) (frz_cons (.refl _) (frz_cons (.refl _) (frz_cons (.refl _) (frz_cons (.refl _) (frz_cons (.refl _) (frz_cons .here (.refl _)))))))) rfl) ?_
    exact .drop 0 2 (.done ⟨rfl, rfl⟩)
theorem aRSameE51 (l : List PrT) (σ : Hp) (hl : l.length ≤ 1000000) : ACalls Tryz.prog 34 [.fsl prSh l, .fsl prSh l] σ (Ret (.bool true) σ) := by
  refine okF Tryz.func34 (by kernel_rfl) ?_
  refine bcond_split (fun c => absurd c (by simp)) (fun c => ?_)
  refine loopS (S := Nat) (fun k => [(0, .fsl prSh l), (1, .fsl prSh l), (12, .int .i64 l.length), (13, .int .i64 k)]) (fun _ => σ) (fun k => k ≤ l.length) (fun k => l.length - k) 0 ⟨Nat.zero_le _, ⟨rfl, rfl, rfl, rfl, trivial⟩, rfl⟩ ?_
  rintro k g hk0
  have hk : k ≤ l.length := hk0
  refine bcond_dec (fun hlt => ?_) (fun hge => ?_)
  · have hlt : k < l.length := by have hlt : (k : Int) < l.length := hlt; omega
    obtain ⟨x, hx⟩ : ∃ x : PrT, l[k] = x := ⟨_, rfl⟩
    obtain ⟨x1, x2, xu⟩ := x
    refine DrawW.quiet (by kernel_rfl) ?_
    refine With.mk rfl (IdxF.mk (x1, x2, xu) (by omega) ((get_some hlt).trans (congrArg some hx)) ?_)
    refine With.mk rfl (IdxF.mk (x1, x2, xu) (by omega) ((get_some hlt).trans (congrArg some hx)) ?_)
    refine .mk (by kernel_rfl) (by kernel_rfl) ?_
    refine bcond_split (fun c => ?_) (fun c => ?_)
    · have c : (!allB [decide (x1 = x1), decide (x2 = x2)]) = true := c
      simp [allB] at c
    exact nextS (k + 1) (by show l.length - (k + 1) < l.length - k; omega) hlt ⟨rfl, rfl, rfl, inc64 (by omega), trivial⟩ (.refl _)
  · exact .done ⟨rfl, rfl⟩
theorem aRAlike51 (s : Sy) (σ : Hp) (hf : Fit s) : ACalls Tryz.prog 15 [.agg (sysC s), .agg (sysC s)] σ (Ret (.bool true) σ) := by
  refine okF Tryz.func15 (by kernel_rfl) ?_
  intro bl1
  intro bl2
  refine LoadAt.mk 1 _ _ rfl rfl ?_
  refine LoadAt.mk 0 _ _ rfl rfl ?_
  refine bcond_split (fun c => absurd c (by simp)) (fun c => ?_)
  refine LoadAt.mk 1 _ _ rfl rfl ?_
  refine LoadAt.mk 0 _ _ rfl rfl ?_
  refine bcond_split (fun c => absurd c (by simp)) (fun c => ?_)
  refine LoadAt.mk 1 _ _ rfl rfl ?_
  refine LoadAt.mk 0 _ _ rfl rfl ?_
  refine bcond_split (fun c => absurd c (by simp)) (fun c => ?_)
  refine LoadAt.mk 1 _ _ rfl rfl ?_
  refine LoadAt.mk 0 _ _ rfl rfl ?_
  refine callR [] (aRSameE51 s.edges _ (Nat.le_trans hf.elen (by decide))) ?_
  refine LoadAt.mk 1 _ _ rfl rfl ?_
  refine LoadAt.mk 0 _ _ rfl rfl ?_
  refine callR [] (aRInts20 s.entry _ (Nat.le_trans hf.nlen (by decide))) ?_
  refine LoadAt.mk 1 _ _ rfl rfl ?_
  refine LoadAt.mk 0 _ _ rfl rfl ?_
  refine callR [] (acalls_eq (same10 s.init s.init _ (Nat.le_trans hf.ilen (by decide))) (av_bool (decide_eq_true rfl))) ?_
  refine LoadAt.mk 1 _ _ rfl rfl ?_
  refine LoadAt.mk 0 _ _ rfl rfl ?_
  refine bcond_split (fun c => absurd c (by simp)) (fun c => ?_)
  refine LoadAt.mk 1 _ _ rfl rfl ?_
  refine loopS (S := Nat) (fun k => [(2, .ptr bl1 0), (3, .ptr bl2 0), (60, .int .i64 s.T.length), (61, .int .i64 k)]) (fun _ => (bl2, sysC s) :: (bl1, sysC s) :: σ) (fun k => k ≤ s.T.length) (fun k => s.T.length - k) 0 ⟨Nat.zero_le _, ⟨rfl, rfl, rfl, rfl, trivial⟩, rfl⟩ ?_
  rintro k g hk0
  have hk : k ≤ s.T.length := hk0
  have hT := hf.tlen
  refine bcond_dec (fun hlt => ?_) (fun hge => ?_)
  · have hlt : k < s.T.length := by have hlt : (k : Int) < s.T.length := hlt; omega
    have htr := hf.ts _ (List.getElem_mem hlt)
    obtain ⟨t, ht⟩ : ∃ t : TrT, s.T[k] = t := ⟨_, rfl⟩
    rw [ht] at htr
    obtain ⟨t1, t2, t3, tu⟩ := t
    obtain ⟨_, _, l1, l2, l3⟩ := htr
    have l1 : t1.length ≤ 10000 := l1
    have l2 : t2.length ≤ 10000 := l2
    have l3 : t3.length ≤ 100000 := l3
    refine DrawW.quiet (by kernel_rfl) ?_
    refine LoadAt.mk 1 _ _ rfl rfl ?_
    refine With.mk rfl (IdxF.mk (t1, t2, t3, tu) (by omega) ((get_some hlt).trans (congrArg some ht)) ?_)
    refine LoadAt.mk 0 _ _ rfl rfl ?_
    refine With.mk rfl (IdxF.mk (t1, t2, t3, tu) (by omega) ((get_some hlt).trans (congrArg some ht)) ?_)
    refine callQ [] (acalls_eq (aRSame16 t1 t2 t3 t1 t2 t3 _ (Nat.le_trans l1 (by decide)) (Nat.le_trans l2 (by decide)) (Nat.le_trans l3 (by decide))) (av_bool (sameT_refl _ _ _))) ?_
    exact nextS (k + 1) (by show s.T.length - (k + 1) < s.T.length - k; omega) hlt ⟨rfl, rfl, rfl, inc64 (by omega), trivial⟩ (.refl _)
  · exact .drop 0 2 (.done ⟨rfl, rfl⟩)
def fewB (n : Int) (l : List EdgeT) : Bool := (decide (n ≤ 8) || decide (256 < n)) && decide (l.length ≤ 20)
theorem aFew51 (n : Int) (l : List EdgeT) (σ : Hp) : ACalls Tryz.prog 9 [.int .i64 n, .fsl edgeSh l] σ (Ret (.bool (fewB n l)) σ) := by
  refine okF Tryz.func9 (by kernel_rfl) ?_
  have hE : ∀ x : Bool, (decide (n ≤ 8) || decide (256 < n)) = x → fewB n l = (x && decide (l.length ≤ 20)) := fun x hx => by unfold fewB; rw [hx]
  have h1 : (l.length : Int) ≤ 20 → decide (l.length ≤ 20) = true := fun h => decide_eq_true (by omega)
  have h0 : ¬ (l.length : Int) ≤ 20 → decide (l.length ≤ 20) = false := fun h => decide_eq_false (by omega)
  refine bcond_dec (p := n ≤ 8) (fun c1 => ?_) (fun c1 => ?_)
  · have hx := hE true (by rw [decide_eq_true c1]; rfl)
    refine bcond_dec (p := (l.length : Int) ≤ 20) (fun c3 => ?_) (fun c3 => ?_)
    · exact .done ⟨av_bool (by rw [hx, h1 c3]; rfl), rfl⟩
    · exact .done ⟨av_bool (by rw [hx, h0 c3]; rfl), rfl⟩
  · refine bcond_dec (p := 256 < n) (fun c2 => ?_) (fun c2 => ?_)
    · have hx := hE true (by rw [decide_eq_true c2, Bool.or_true])
      refine bcond_dec (p := (l.length : Int) ≤ 20) (fun c3 => ?_) (fun c3 => ?_)
      · exact .done ⟨av_bool (by rw [hx, h1 c3]; rfl), rfl⟩
      · exact .done ⟨av_bool (by rw [hx, h0 c3]; rfl), rfl⟩
    · exact .done ⟨av_bool (hE false (by rw [decide_eq_false c1, decide_eq_false c2]; rfl)).symm, rfl⟩
/-- What a graph is that is right, and few. -/
theorem few_dg {n r : Int} {l : List EdgeT} (hf : fewB n l = true) (h : rightE n l = true ∧ 0 ≤ r ∧ r < n) : ∃ N R : Nat, n = N ∧ r = R ∧ DG N R l := by
  unfold fewB at hf
  rw [Bool.and_eq_true, Bool.or_eq_true, decide_eq_true_eq, decide_eq_true_eq, decide_eq_true_eq] at hf
  have hri := h.1
  unfold rightE at hri
  simp only [Bool.and_eq_true, decide_eq_true_eq] at hri
  refine ⟨n.toNat, r.toNat, by omega, by omega, by omega, by omega, by omega, ?_, by omega⟩
  rw [Int.toNat_of_nonneg (by omega)]; exact h.1
theorem few_len {n : Int} {l : List EdgeT} (hf : fewB n l = true) : l.length ≤ 20 := by
  unfold fewB at hf
  rw [Bool.and_eq_true, decide_eq_true_eq] at hf
  exact hf.2
theorem over_no {N : Nat} {l : List EdgeT} {r : Nat} {a b : Int} (h : ¬ (0 ≤ a ∧ a < N ∧ 0 ≤ b ∧ b < N)) : overE N a b = 2 ∧ overB N l r a b = false := by
  unfold overE overB
  rw [if_neg h, decide_eq_false h]; exact ⟨rfl, rfl⟩
theorem over_yes {N r : Nat} {l : List EdgeT} {a b : Int} (d : DG N r l) (h : 0 ≤ a ∧ a < N ∧ 0 ≤ b ∧ b < N) : overE N a b = 0 ∧ overR N l r a b = overB N l r a b := by
  unfold overE overB
  rw [if_pos h, decide_eq_true h, Bool.true_and]
  refine ⟨rfl, Bool.eq_iff_iff.2 ?_⟩
  rw [decide_eq_true_eq, row_eq d.h1 d.h8 d.hl d.ri d.hr (by omega), Int.toNat_of_nonneg h.2.2.1]
  unfold rowR
  rw [List.mem_filter, List.mem_map]
  exact ⟨fun h2 => ⟨⟨a.toNat, List.mem_range.2 (by omega), by omega⟩, h2⟩, fun h2 => h2.2⟩
theorem domTells_walk (n r a b : Int) (l : List EdgeT) (σ : Hp) (hg : (gT, tabT) ∈ σ) : ACalls Tryz.prog 3 [.int .i64 n, .fsl edgeSh l, .int .i64 r, .int .i64 a, .int .i64 b] σ (Ret (.bool true) σ) := by
  refine okF Tryz.func3 (by kernel_rfl) ?_
  refine callR [] (aAwake51 _ hg) ?_
  refine callB [] (aFew51 n l _) (fun c1 => ?_) (fun c1 => .done ⟨rfl, rfl⟩)
  have hl := few_len c1
  by_cases h : rightE n l = true ∧ 0 ≤ r ∧ r < n
  · obtain ⟨N, R, rfl, rfl, d⟩ := few_dg c1 h
    obtain ⟨z, hz⟩ : ∃ z : Int, z = 0 := ⟨_, rfl⟩
    have hS : ∀ ρ, ACalls Tryz.prog 10 [.int .i64 N, .fsl edgeSh l, .int .i64 R] ρ (Ret (.tup [.agg (sysC (domS N l R)), .int .i64 z]) ρ) := fun ρ => hz ▸ aDomSys N R l ρ d.h1 d.h8 d.hl d.ri d.hr
    have hA : ∀ ρ, (gT, tabT) ∈ ρ → ACalls Tryz.prog 11 [.int .i64 N, .fsl edgeSh l, .int .i64 R] ρ (Ret (.tup [.fsl (.slice (.int .i64)) (domAll N l R), .int .i64 z]) ρ) := fun ρ hm => hz ▸ aDomAll N R l ρ d.h1 d.h8 d.hl d.ri d.hr hm
    have hB : ∀ ρ, (gT, tabT) ∈ ρ → ACalls Tryz.prog 12 [.int .i64 N, .fsl edgeSh l, .int .i64 R] ρ (Ret (.tup [.fsl (.int .i64) (domAbove N l R), .int .i64 z]) ρ) := fun ρ hm => hz ▸ aDomAbove N R l ρ d.h1 d.h8 d.hl d.ri d.hr hm
    have hO := fun ρ hm => aDomOver N R a b l ρ d.h1 d.h8 d.hl d.ri d.hr hm
    refine callR [] (hS _) ?_
    intro bl1
    refine StoreAt.mk 0 _ _ rfl rfl ?_
    refine callR [] (hA _ (.tail _ hg)) ?_
    refine callR [] (hB _ (.tail _ hg)) ?_
    refine callR [] (hO _ (.tail _ hg)) ?_
    refine callR [] (acalls_eq (aRRight N l _ (by omega)) (av_bool d.ri)) ?_
    refine bcond_dec (p := (N : Int) ≤ (R : Int)) (fun c1 => absurd d.hr (by omega)) (fun c1 => ?_)
    refine .quiet (by kernel_rfl) ?_
    refine bcond_split (fun c6 => absurd hz (by simpa using c6)) (fun c6 => ?_)
    refine bcond_split (fun c7 => absurd hz (by simpa using c7)) (fun c7 => ?_)
    refine bcond_split (fun c8 => absurd hz (by simpa using c8)) (fun c8 => ?_)
    clear c6 c7 c8
    have hri := d.ri
    have hee : ∀ e ∈ l, (0 ≤ e.1 ∧ e.1 < (N : Int)) ∧ 0 ≤ e.2.1 ∧ e.2.1 < (N : Int) := fun e he => by
      unfold rightE at hri
      simp only [Bool.and_eq_true, List.all_eq_true] at hri
      have := hri.2 e he
      exact ⟨node_iff.1 this.1, node_iff.1 this.2⟩
    have hAll : ∀ ρ, ACalls Tryz.prog 18 [.int .i64 N, .fsl edgeSh l, .int .i64 R] ρ (Ret (.fsl (.slice (.int .i64)) (domAll N l R)) ρ) := fun ρ => rows_eq d ▸ aRAll51 N R l ρ (by have := d.h8; omega) d.hl
    refine LoadAt.mk 0 _ _ rfl rfl ?_
    refine callQ [] (aRSys51 N R l _ d.h1 d.h8 d.hl d.ri d.hr) ?_
    refine callQ [] (aRAlike51 (domS N l R) _ (dom_fit d.h1 d.h8 (by omega) hee d.hr)) ?_
    refine callQ [] (hAll _) ?_
    refine callQ [] (aRSame09 (domAll N l R) _ (by rw [domAll_length]; have := d.h8; omega) (fun w hw => by
      unfold domAll at hw
      obtain ⟨v, _, rfl⟩ := List.mem_map.1 hw
      exact Nat.le_trans (domRow_small N l R v) (by decide))) ?_
    refine callQ [] (aRAbove N R l _ d) ?_
    refine callQ [] (aRInts20 (domAbove N l R) _ (by rw [domAbove_length]; have := d.h8; omega)) ?_
    refine bcond_dec (fun c1 => ?_) (fun c1 => ?_)
    · have c1 : a < 0 := c1
      refine bcond_dec (fun c2 => ?_) (fun c2 => ?_)
      · have c2 : overE N a b = 2 := c2
        exact .drop 0 1 (.done ⟨av_bool (by rw [(over_no (l := l) (r := R) (show ¬ (0 ≤ a ∧ a < (N : Int) ∧ 0 ≤ b ∧ b < (N : Int)) by omega)).2]; rfl), rfl⟩)
      · have c2 : ¬ (overE N a b = 2) := c2
        exact absurd (over_no (l := l) (r := R) (show ¬ (0 ≤ a ∧ a < (N : Int) ∧ 0 ≤ b ∧ b < (N : Int)) by omega)).1 (by assumption)
    · have c1 : ¬ (a < 0) := c1
      refine bcond_dec (fun c3 => ?_) (fun c3 => ?_)
      · have c3 : (↑N : Int) ≤ a := c3
        refine bcond_dec (fun c4 => ?_) (fun c4 => ?_)
        · have c4 : overE N a b = 2 := c4
          exact .drop 0 1 (.done ⟨av_bool (by rw [(over_no (l := l) (r := R) (show ¬ (0 ≤ a ∧ a < (N : Int) ∧ 0 ≤ b ∧ b < (N : Int)) by omega)).2]; rfl), rfl⟩)
        · have c4 : ¬ (overE N a b = 2) := c4
          exact absurd (over_no (l := l) (r := R) (show ¬ (0 ≤ a ∧ a < (N : Int) ∧ 0 ≤ b ∧ b < (N : Int)) by omega)).1 (by assumption)
      · have c3 : ¬ ((↑N : Int) ≤ a) := c3
        refine bcond_dec (fun c5 => ?_) (fun c5 => ?_)
        · have c5 : b < 0 := c5
          refine bcond_dec (fun c6 => ?_) (fun c6 => ?_)
          · have c6 : overE N a b = 2 := c6
            exact .drop 0 1 (.done ⟨av_bool (by rw [(over_no (l := l) (r := R) (show ¬ (0 ≤ a ∧ a < (N : Int) ∧ 0 ≤ b ∧ b < (N : Int)) by omega)).2]; rfl), rfl⟩)
          · have c6 : ¬ (overE N a b = 2) := c6
            exact absurd (over_no (l := l) (r := R) (show ¬ (0 ≤ a ∧ a < (N : Int) ∧ 0 ≤ b ∧ b < (N : Int)) by omega)).1 (by assumption)
        · have c5 : ¬ (b < 0) := c5
          refine bcond_dec (fun c7 => ?_) (fun c7 => ?_)
          · have c7 : (↑N : Int) ≤ b := c7
            refine bcond_dec (fun c8 => ?_) (fun c8 => ?_)
            · have c8 : overE N a b = 2 := c8
              exact .drop 0 1 (.done ⟨av_bool (by rw [(over_no (l := l) (r := R) (show ¬ (0 ≤ a ∧ a < (N : Int) ∧ 0 ≤ b ∧ b < (N : Int)) by omega)).2]; rfl), rfl⟩)
            · have c8 : ¬ (overE N a b = 2) := c8
              exact absurd (over_no (l := l) (r := R) (show ¬ (0 ≤ a ∧ a < (N : Int) ∧ 0 ≤ b ∧ b < (N : Int)) by omega)).1 (by assumption)
          · have c7 : ¬ ((↑N : Int) ≤ b) := c7
            refine bcond_dec (fun c9 => ?_) (fun c9 => ?_)
            · have c9 : overE N a b = 0 := c9
              obtain ⟨e1, e2⟩ := over_yes d (show 0 ≤ a ∧ a < (N : Int) ∧ 0 ≤ b ∧ b < (N : Int) by omega)
              refine callR [] (acalls_eq (aROver N R a b l _ (by have := d.h8; omega) d.hl) (av_bool e2)) ?_
              refine bcond_split (fun c1 => .drop 0 1 (.done ⟨rfl, rfl⟩)) (fun c1 => ?_)
              · have c1 : (overB N l R a b == overB N l R a b) = false := c1
                rw [beq_self_eq_true] at c1
                cases c1
            · have c9 : ¬ (overE N a b = 0) := c9
              exact absurd (over_yes d (show 0 ≤ a ∧ a < (N : Int) ∧ 0 ≤ b ∧ b < (N : Int) by omega)).1 (by assumption)
  · refine callR [] (aDomSysNo n r l _ (by omega) h) ?_
    intro bl1
    refine StoreAt.mk 0 _ _ rfl rfl ?_
    refine callR [] (aDomAllNo n r l _ (by omega) h) ?_
    refine callR [] (aDomAboveNo n r l _ (by omega) h) ?_
    refine callR [] (aDomOverNo n r a b l _ (by omega) h) ?_
    refine callB [] (aRRight n l _ (by omega)) (fun c2 => ?_) (fun c2 => ?_)
    · refine bcond_dec (fun c1 => ?_) (fun c1 => ?_)
      · have c1 : r < 0 := c1
        refine LoadAt.mk 0 _ _ rfl rfl ?_
        exact .drop 0 1 (.done ⟨rfl, rfl⟩)
      · have c1 : ¬ (r < 0) := c1
        refine bcond_dec (fun c2 => ?_) (fun c2 => ?_)
        · have c2 : n ≤ r := c2
          refine LoadAt.mk 0 _ _ rfl rfl ?_
          exact .drop 0 1 (.done ⟨rfl, rfl⟩)
        · have c2 : ¬ (n ≤ r) := c2
          exact absurd ⟨‹rightE n l = true›, by omega, by omega⟩ h
    · refine LoadAt.mk 0 _ _ rfl rfl ?_
      exact .drop 0 1 (.done ⟨rfl, rfl⟩)
theorem domWays_walk (n r : Int) (l : List EdgeT) (σ : Hp) (hg : (gT, tabT) ∈ σ) : ACalls Tryz.prog 5 [.int .i64 n, .fsl edgeSh l, .int .i64 r] σ (Ret (.bool true) σ) := by
  refine okF Tryz.func5 (by kernel_rfl) ?_
  refine callR [] (aAwake51 _ hg) ?_
  refine callB [] (aFew51 n l _) (fun c1 => ?_) (fun c1 => .done ⟨rfl, rfl⟩)
  have hl := few_len c1
  by_cases h : rightE n l = true ∧ 0 ≤ r ∧ r < n
  · obtain ⟨N, R, rfl, rfl, d⟩ := few_dg c1 h
    obtain ⟨z, hz⟩ : ∃ z : Int, z = 0 := ⟨_, rfl⟩
    have hA : ∀ ρ, (gT, tabT) ∈ ρ → ACalls Tryz.prog 11 [.int .i64 N, .fsl edgeSh l, .int .i64 R] ρ (Ret (.tup [.fsl (.slice (.int .i64)) (domAll N l R), .int .i64 z]) ρ) := fun ρ hm => hz ▸ aDomAll N R l ρ d.h1 d.h8 d.hl d.ri d.hr hm
    have hB : ∀ ρ, (gT, tabT) ∈ ρ → ACalls Tryz.prog 12 [.int .i64 N, .fsl edgeSh l, .int .i64 R] ρ (Ret (.tup [.fsl (.int .i64) (domAbove N l R), .int .i64 z]) ρ) := fun ρ hm => hz ▸ aDomAbove N R l ρ d.h1 d.h8 d.hl d.ri d.hr hm
    refine callR [] (hA _ hg) ?_
    refine callR [] (hB _ hg) ?_
    refine bcond_split (fun c1 => absurd hz (by simpa using c1)) (fun c1 => ?_)
    refine bcond_split (fun c4 => absurd hz (by simpa using c4)) (fun c4 => ?_)
    clear c1 c4
    have hN8 := d.h8
    have hRe : ∀ (l : List EdgeT) ρ, l.length ≤ 100000 → ACalls Tryz.prog 24 [.int .i64 N, .fsl edgeSh l, .fsl (.int .i64) ([(R : Int)] : List Int)] ρ (Ret (.fsl (.int .i64) (reachR N l [(R : Int)])) ρ) := fun l ρ h => aReached N l [(R : Int)] ρ h (by omega) (show 1 ≤ 100000 by decide)
    intro bl7
    refine .frz (args' := [.int .i64 N, .fsl edgeSh l, .fsl (.int .i64) ([(R : Int)] : List Int)]) 0 bl7 0 1 1 _ (.int .i64) ([(R : Int)] : List Int) rfl rfl ⟨rfl, rfl, by decide⟩ (frz_cons (.refl _) (frz_cons (.refl _) (frz_cons .here (.refl _)))) ?_
    refine callR [] (hRe l _ (by omega)) ?_
    obtain ⟨I, hI⟩ : ∃ I, reachR N l [(R : Int)] = I := ⟨_, rfl⟩
    rw [hI]
    have hIr : ∀ x, x ∈ I ↔ Rch N l [(R : Int)] x := fun x => by rw [← hI]; exact mem_reachR x
    have hIn : ∀ x ∈ I, 0 ≤ x ∧ x < (N : Int) := fun x hx => ((hIr x).1 hx).node
    have hIl : I.length ≤ N := by rw [← hI]; exact reachR_length N l _
    have hAg : ∀ v : Int, 0 ≤ v ∧ v < N → (domAll N l R)[v.toNat]? = some (domRow N l R v.toNat) := fun v hv => by
      have := domAll_get (l := l) (r := R) (show v.toNat < N by omega)
      rwa [Int.toNat_natCast] at this
    have hIx : ∀ (L : List Int) (x : Int) ρ, L.length ≤ 1000000 → ACalls Tryz.prog 26 [.fsl (.int .i64) L, .int .i64 x] ρ (Ret (.bool (decide (x ∈ L))) ρ) := fun L x ρ h => acalls_eq (aRIn L x ρ h) (av_bool (any_inD _ _))
    have hrs := fun v => domRow_small N l R v
    refine loopS (S := Nat) (fun i => [(0, .int .i64 N), (1, .fsl edgeSh l), (2, .int .i64 R), (7, .fsl (.slice (.int .i64)) (domAll N l R)), (9, .fsl (.int .i64) (domAbove N l R)), (11, .fsl (.int .i64) I), (65, .fsl (.int .i64) I), (66, .int .i64 I.length), (67, .int .i64 i)]) (fun _ => σ) (fun i => i ≤ I.length) (fun i => I.length - i) 0 ⟨Nat.zero_le _, ⟨rfl, rfl, rfl, rfl, rfl, rfl, rfl, rfl, rfl, trivial⟩, rfl⟩ ?_
    intro i g hi0
    have hi : i ≤ I.length := hi0
    clear hi0
    refine bcond_dec (p := (i : Int) < I.length) (fun hlt => ?_) (fun hge => ?_)
    · have hlt : i < I.length := by omega
      obtain ⟨b, hb⟩ : ∃ b, I[i] = b := ⟨_, rfl⟩
      have hbI : b ∈ I := hb ▸ List.getElem_mem hlt
      have hbn := hIn b hbI
      have hbr := (hIr b).1 hbI
      refine With.mk rfl (IdxF.mk b (by omega) ((get_some hlt).trans (congrArg some hb)) ?_)
      refine loopS (S := Nat) (fun a => [(0, .int .i64 N), (1, .fsl edgeSh l), (2, .int .i64 R), (7, .fsl (.slice (.int .i64)) (domAll N l R)), (9, .fsl (.int .i64) (domAbove N l R)), (11, .fsl (.int .i64) I), (13, .int .i64 b), (65, .fsl (.int .i64) I), (66, .int .i64 I.length), (67, .int .i64 i), (71, .int .i64 N), (72, .int .i64 a)]) (fun _ => σ) (fun a => a ≤ N) (fun a => N - a) 0 ⟨Nat.zero_le _, ⟨rfl, rfl, rfl, rfl, rfl, rfl, rfl, rfl, rfl, rfl, rfl, rfl, trivial⟩, rfl⟩ ?_
      intro a g2 ha0
      have ha : a ≤ N := ha0
      clear ha0
      refine bcond_dec (p := (a : Int) < N) (fun hlt2 => ?_) (fun hge2 => ?_)
      · have hlt2 : a < N := by omega
        have hwl := without_length l a
        refine bcond_dec (p := (a : Int) = b) (fun c2 => ?_) (fun c2 => ?_)
        · exact nextS (a + 1) (by show N - (a + 1) < N - a; omega) hlt2 ⟨rfl, rfl, rfl, rfl, rfl, rfl, rfl, rfl, rfl, rfl, rfl, inc64 (by omega), trivial⟩ (.refl _)
        · refine bcond_dec (p := (a : Int) = R) (fun c3 => ?_) (fun c3 => ?_)
          · exact nextS (a + 1) (by show N - (a + 1) < N - a; omega) hlt2 ⟨rfl, rfl, rfl, rfl, rfl, rfl, rfl, rfl, rfl, rfl, rfl, inc64 (by omega), trivial⟩ (.refl _)
          · refine callR [] (aRWithout l a _ (by omega)) ?_
            intro bl8
            refine .frz (args' := [.int .i64 N, .fsl edgeSh (withoutE l a), .fsl (.int .i64) ([(R : Int)] : List Int)]) 0 bl8 0 1 1 _ (.int .i64) ([(R : Int)] : List Int) rfl rfl ⟨rfl, rfl, by decide⟩ (frz_cons (.refl _) (frz_cons (.refl _) (frz_cons .here (.refl _)))) ?_
            refine callR [] (hRe (withoutE l a) _ (by omega)) ?_
            have hrw := reachR_length N (withoutE l a) [(R : Int)]
            have hne : (decide ((a : Int) ∈ domRow N l R b.toNat) == decide (b ∈ reachR N (withoutE l a) [(R : Int)])) = false := by
              have e1 : decide ((a : Int) ∈ domRow N l R b.toNat) = !decide (b ∈ reachR N (withoutE l a) [(R : Int)]) := by
                rw [← overR_two (by rw [hI]; exact hbI) c2 c3]
                refine Bool.eq_iff_iff.2 ?_
                rw [decide_eq_true_eq, row_eq d.h1 d.h8 d.hl d.ri d.hr (by omega), Int.toNat_of_nonneg hbn.1]
                unfold rowR
                rw [List.mem_filter, List.mem_map]
                exact ⟨fun h2 => h2.2, fun h2 => ⟨⟨a, List.mem_range.2 hlt2, rfl⟩, h2⟩⟩
              rw [e1]; cases decide (b ∈ reachR N (withoutE l a) [(R : Int)]) <;> rfl
            refine With.mk rfl ?_
            refine IdxF.mk (domRow N l R b.toNat) hbn.1 (hAg b hbn) ?_
            refine callR [] (hIx _ _ _ (by have := hrs b.toNat; omega)) ?_
            refine callR [] (hIx _ _ _ (by omega)) ?_
            refine bcond_split (fun c1 => ?_) (fun c1 => ?_)
            · have c1 : (decide ((↑a : Int) ∈ domRow N l R b.toNat) == decide (b ∈ reachR (↑N : Int) (withoutE l (↑a : Int)) [(↑R : Int)])) = true := c1
              exact absurd (hne.symm.trans (by assumption)) (by decide)
            · have c1 : (decide ((↑a : Int) ∈ domRow N l R b.toNat) == decide (b ∈ reachR (↑N : Int) (withoutE l (↑a : Int)) [(↑R : Int)])) = false := c1
              exact nextS (a + 1) (by show N - (a + 1) < N - a; omega) hlt2 ⟨rfl, rfl, rfl, rfl, rfl, rfl, rfl, rfl, rfl, rfl, rfl, inc64 (by omega), trivial⟩ (.refl _)
      · refine With.mk rfl ?_
        refine IdxF.mk (domRow N l R b.toNat) hbn.1 (hAg b hbn) ?_
        have hbs := hrs b.toNat
        refine loopS (S := Nat) (fun k => [(0, .int .i64 N), (1, .fsl edgeSh l), (2, .int .i64 R), (7, .fsl (.slice (.int .i64)) (domAll N l R)), (9, .fsl (.int .i64) (domAbove N l R)), (11, .fsl (.int .i64) I), (13, .int .i64 b), (65, .fsl (.int .i64) I), (66, .int .i64 I.length), (67, .int .i64 i), (104, .fsl (.int .i64) (domRow N l R b.toNat)), (105, .int .i64 (domRow N l R b.toNat).length), (106, .int .i64 k)]) (fun _ => σ) (fun k => k ≤ (domRow N l R b.toNat).length) (fun k => (domRow N l R b.toNat).length - k) 0 ⟨Nat.zero_le _, ⟨rfl, rfl, rfl, rfl, rfl, rfl, rfl, rfl, rfl, rfl, rfl, rfl, rfl, trivial⟩, rfl⟩ ?_
        intro k g3 hk0
        have hk : k ≤ (domRow N l R b.toNat).length := hk0
        clear hk0
        refine bcond_dec (p := (k : Int) < (domRow N l R b.toNat).length) (fun hlt3 => ?_) (fun hge3 => ?_)
        · have hlt3 : k < (domRow N l R b.toNat).length := by omega
          obtain ⟨x, hx⟩ : ∃ x, (domRow N l R b.toNat)[k] = x := ⟨_, rfl⟩
          have hxm : x ∈ domRow N l R b.toNat := hx ▸ List.getElem_mem hlt3
          have hxo := (row_ov d hbn x).1 hxm
          have hxn := hxo.2.1
          have hxs := hrs x.toNat
          refine With.mk rfl (IdxF.mk x (by omega) ((get_some hlt3).trans (congrArg some hx)) ?_)
          refine With.mk rfl ?_
          refine IdxF.mk (domRow N l R x.toNat) hxn.1 (hAg x hxn) ?_
          refine loopS (S := Nat) (fun m => [(0, .int .i64 N), (1, .fsl edgeSh l), (2, .int .i64 R), (7, .fsl (.slice (.int .i64)) (domAll N l R)), (9, .fsl (.int .i64) (domAbove N l R)), (11, .fsl (.int .i64) I), (13, .int .i64 b), (65, .fsl (.int .i64) I), (66, .int .i64 I.length), (67, .int .i64 i), (104, .fsl (.int .i64) (domRow N l R b.toNat)), (105, .int .i64 (domRow N l R b.toNat).length), (106, .int .i64 k), (113, .fsl (.int .i64) (domRow N l R x.toNat)), (114, .int .i64 (domRow N l R x.toNat).length), (115, .int .i64 m)]) (fun _ => σ) (fun m => m ≤ (domRow N l R x.toNat).length) (fun m => (domRow N l R x.toNat).length - m) 0 ⟨Nat.zero_le _, ⟨rfl, rfl, rfl, rfl, rfl, rfl, rfl, rfl, rfl, rfl, rfl, rfl, rfl, rfl, rfl, rfl, trivial⟩, rfl⟩ ?_
          intro m g4 hm0
          have hm : m ≤ (domRow N l R x.toNat).length := hm0
          clear hm0
          refine bcond_dec (p := (m : Int) < (domRow N l R x.toNat).length) (fun hlt4 => ?_) (fun hge4 => ?_)
          · have hlt4 : m < (domRow N l R x.toNat).length := by omega
            obtain ⟨c, hc⟩ : ∃ c, (domRow N l R x.toNat)[m] = c := ⟨_, rfl⟩
            have hcm : c ∈ domRow N l R x.toNat := hc ▸ List.getElem_mem hlt4
            have hcb : c ∈ domRow N l R b.toNat := (row_ov d hbn c).2 (ov_trans ((row_ov d hxn c).1 hcm) hxo)
            refine With.mk rfl (IdxF.mk c (by omega) ((get_some hlt4).trans (congrArg some hc)) ?_)
            refine With.mk rfl ?_
            refine IdxF.mk (domRow N l R b.toNat) hbn.1 (hAg b hbn) ?_
            refine callR [] (acalls_eq (hIx (domRow N l R b.toNat) c _ (by omega)) (av_bool (decide_eq_true hcb))) ?_
            exact nextS (m + 1) (by show (domRow N l R x.toNat).length - (m + 1) < (domRow N l R x.toNat).length - m; omega) hlt4 ⟨rfl, rfl, rfl, rfl, rfl, rfl, rfl, rfl, rfl, rfl, rfl, rfl, rfl, rfl, rfl, inc64 (by omega), trivial⟩ (.refl _)
          · exact nextS (k + 1) (by show (domRow N l R b.toNat).length - (k + 1) < (domRow N l R b.toNat).length - k; omega) hlt3 ⟨rfl, rfl, rfl, rfl, rfl, rfl, rfl, rfl, rfl, rfl, rfl, rfl, inc64 (by omega), trivial⟩ (.refl _)
        · exact nextS (i + 1) (by show I.length - (i + 1) < I.length - i; omega) hlt ⟨rfl, rfl, rfl, rfl, rfl, rfl, rfl, rfl, inc64 (by omega), trivial⟩ (.refl _)
    · have hal := domAbove_length N l R
      obtain ⟨D, hD⟩ : ∃ D, (List.range (domAbove N l R).length).map (depthV (domAbove N l R)) = D := ⟨_, rfl⟩
      have hDl : D.length = N := by rw [← hD, List.length_map, List.length_range, hal]
      have hDg : ∀ v, v < N → D[v]? = some (depthV (domAbove N l R) v) := fun v hv => by rw [← hD, List.getElem?_map, List.getElem?_range (by omega)]; rfl
      have hDe : ∀ ρ, (domAbove N l R).length ≤ 100000 → ACalls Tryz.prog 22 [.fsl (.int .i64) (domAbove N l R)] ρ (Ret (.fsl (.int .i64) D) ρ) := fun ρ h => by rw [← hD]; exact aDomDepth (domAbove N l R) ρ h
      have hVg : ∀ v, v < N → (domAbove N l R)[v]? = some (aboveV N l R v) := fun v hv => by unfold domAbove; rw [List.getElem?_map, List.getElem?_range hv]; rfl
      refine callR [] (hDe _ (by omega)) ?_
      refine loopS (S := Nat) (fun v => [(0, .int .i64 N), (2, .int .i64 R), (7, .fsl (.slice (.int .i64)) (domAll N l R)), (9, .fsl (.int .i64) (domAbove N l R)), (11, .fsl (.int .i64) I), (20, .fsl (.int .i64) D), (131, .int .i64 N), (132, .int .i64 v)]) (fun _ => σ) (fun v => v ≤ N) (fun v => N - v) 0 ⟨Nat.zero_le _, ⟨rfl, rfl, rfl, rfl, rfl, rfl, rfl, rfl, trivial⟩, rfl⟩ ?_
      intro v g2 hv0
      have hv : v ≤ N := hv0
      clear hv0
      refine bcond_dec (p := (v : Int) < N) (fun hlt2 => ?_) (fun hge2 => ?_)
      · have hlt2 : v < N := by omega
        have hAg' := hAg v (by omega)
        rw [Int.toNat_natCast] at hAg'
        by_cases hm : (v : Int) ∈ I
        · have hrc := (hIr v).1 hm
          have h2 := above_ne d hrc
          have h3 := depth_dom d hrc
          refine callR [] (acalls_eq (hIx I v _ (by omega)) (av_bool (decide_eq_true hm))) ?_
          refine .quiet (by kernel_rfl) ?_
          refine With.mk rfl ?_
          refine IdxF.mk (aboveV N l R v) (by omega) (show (domAbove N l R)[((v : Nat) : Int).toNat]? = some (aboveV N l R v) by rw [Int.toNat_natCast]; exact hVg v hlt2) ?_
          refine bcond_split (fun c1 => ?_) (fun c1 => ?_)
          · have c1 : ¬ (aboveV N l R v = -2) := by simpa using c1
            refine With.mk rfl ?_
            refine IdxF.mk (depthV (domAbove N l R) v) (by omega) (show D[((v : Nat) : Int).toNat]? = some (depthV (domAbove N l R) v) by rw [Int.toNat_natCast]; exact hDg v hlt2) ?_
            refine With.mk rfl ?_
            refine IdxF.mk (domRow N l R v) (by omega) (show (domAll N l R)[((v : Nat) : Int).toNat]? = some (domRow N l R v) by rw [Int.toNat_natCast]; exact hAg') ?_
            refine bcond_split (fun c1 => ?_) (fun c1 => ?_)
            · have c1 : (!decide (depthV (domAbove N l R) v = (↑(domRow N l R v).length : Int))) = true := c1
              rw [decide_eq_true h3] at c1
              cases c1
            · have c1 : (!decide (depthV (domAbove N l R) v = (↑(domRow N l R v).length : Int))) = false := c1
              exact nextS (v + 1) (by show N - (v + 1) < N - v; omega) hlt2 ⟨rfl, rfl, rfl, rfl, rfl, rfl, rfl, inc64 (by omega), trivial⟩ (.refl _)
          · have c1 : aboveV N l R v = -2 := by simpa using c1
            exact absurd c1 h2
        · have hrc : ¬ Rch N l [(R : Int)] v := fun h => hm ((hIr v).2 h)
          obtain ⟨h2, h3⟩ := above_none hrc
          refine callR [] (acalls_eq (hIx I v _ (by omega)) (av_bool (decide_eq_false hm))) ?_
          refine .quiet (by kernel_rfl) ?_
          refine With.mk rfl ?_
          refine IdxF.mk (aboveV N l R v) (by omega) (show (domAbove N l R)[((v : Nat) : Int).toNat]? = some (aboveV N l R v) by rw [Int.toNat_natCast]; exact hVg v hlt2) ?_
          refine bcond_split (fun c1 => ?_) (fun c1 => ?_)
          · have c1 : ¬ (aboveV N l R v = -2) := by simpa using c1
            exact absurd h3 c1
          · have c1 : aboveV N l R v = -2 := by simpa using c1
            refine With.mk rfl ?_
            refine IdxF.mk (domRow N l R v) (by omega) (show (domAll N l R)[((v : Nat) : Int).toNat]? = some (domRow N l R v) by rw [Int.toNat_natCast]; exact hAg') ?_
            refine bcond_dec (fun c1 => ?_) (fun c1 => ?_)
            · have c1 : 0 < (↑(domRow N l R v).length : Int) := c1
              rw [h2] at c1
              exact absurd c1 (by decide)
            · have c1 : ¬ (0 < (↑(domRow N l R v).length : Int)) := c1
              exact nextS (v + 1) (by show N - (v + 1) < N - v; omega) hlt2 ⟨rfl, rfl, rfl, rfl, rfl, rfl, rfl, inc64 (by omega), trivial⟩ (.refl _)
      · have hroot := (above_root d).2
        refine With.mk rfl ?_
        refine IdxF.mk (aboveV N l R R) (by omega) (show (domAbove N l R)[((R : Nat) : Int).toNat]? = some (aboveV N l R R) by rw [Int.toNat_natCast]; exact hVg R d.hr) ?_
        refine bcond_dec (fun c1 => ?_) (fun c1 => ?_)
        · have c1 : aboveV N l R R = -1 := c1
          exact .done ⟨rfl, rfl⟩
        · have c1 : ¬ (aboveV N l R R = -1) := c1
          exact absurd hroot c1
  · refine callR [] (aDomAllNo n r l _ (by omega) h) ?_
    refine callR [] (aDomAboveNo n r l _ (by omega) h) ?_
    exact .done ⟨rfl, rfl⟩
end Go.Proofs.YtljbnigceammdaaGreatDoor
