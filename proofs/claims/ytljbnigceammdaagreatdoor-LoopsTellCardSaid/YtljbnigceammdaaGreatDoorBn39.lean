/-
  De: what the claim uses of them.
-/
import Derived.Test.YtljbnigceammdaaGreatDoorBn38
import Derived.Test.YtljbnigceammdaaGreatDoorBn30
namespace Go.Proofs.YtljbnigceammdaaGreatDoor
open Go.RowKit
set_option maxRecDepth 100000
def zeroS : Sy := ⟨0, 0, 0, [], [], [], []⟩
theorem ofB_one {N v : Nat} (h : v < N) : ofB N [(v : Int)] = 2 ^ v := by
  show setB N 0 (v : Int) = _
  unfold setB
  rw [if_pos (by omega), Nat.zero_or, Int.toNat_natCast]
theorem aDomSysNo (n r : Int) (l : List EdgeT) (σ : Hp) (hl : l.length ≤ 1000000) (h : ¬ (rightE n l = true ∧ 0 ≤ r ∧ r < n)) : ACalls Tryz.prog 10 [.int .i64 n, .fsl edgeSh l, .int .i64 r] σ (Ret (.tup [.agg (sysC zeroS), .int .i64 1]) σ) := by
  refine okF Tryz.func10 (by kernel_rfl) ?_
  intro bl1
  refine callB [] (aRight n l _ hl) (fun cR => ?_) (fun cR => ?_)
  · refine bcond_dec (fun c1 => ?_) (fun c1 => ?_)
    · have c1 : r < 0 := c1
      refine StoreAt.mk 0 _ _ rfl rfl ?_
      refine LoadAt.mk 0 _ _ rfl rfl ?_
      exact .nil (frz_cons (frz_agg (frz_cons (.refl _) (frz_cons (.refl _) (frz_cons (.refl _) (frz_cons (.nil _) (frz_cons (.nil _) (frz_cons (.nil _) (frz_cons (.nil _) (.refl _)))))))) rfl) (.refl _)) (.drop 0 1 (.done ⟨rfl, rfl⟩))
    · have c1 : ¬ (r < 0) := c1
      refine bcond_dec (fun c2 => ?_) (fun c2 => ?_)
      · have c2 : n ≤ r := c2
        refine StoreAt.mk 0 _ _ rfl rfl ?_
        refine LoadAt.mk 0 _ _ rfl rfl ?_
        exact .nil (frz_cons (frz_agg (frz_cons (.refl _) (frz_cons (.refl _) (frz_cons (.refl _) (frz_cons (.nil _) (frz_cons (.nil _) (frz_cons (.nil _) (frz_cons (.nil _) (.refl _)))))))) rfl) (.refl _)) (.drop 0 1 (.done ⟨rfl, rfl⟩))
      · have c2 : ¬ (n ≤ r) := c2
        exact absurd ⟨cR, by omega, by omega⟩ h
  · refine StoreAt.mk 0 _ _ rfl rfl ?_
    refine LoadAt.mk 0 _ _ rfl rfl ?_
    exact .nil (frz_cons (frz_agg (frz_cons (.refl _) (frz_cons (.refl _) (frz_cons (.refl _) (frz_cons (.nil _) (frz_cons (.nil _) (frz_cons (.nil _) (frz_cons (.nil _) (.refl _)))))))) rfl) (.refl _)) (.drop 0 1 (.done ⟨rfl, rfl⟩))
/-- The transfers, as they are put together; and as lists that are there for good. -/
def domC (k : Nat) : List AV := (List.range k).flatMap fun v => [.fsl (.int .u64) ([((2 ^ v : Nat) : Int)] : List Int), .fsl (.int .u64) ([0] : List Int), .nils]
theorem domC_succ (k : Nat) : domC (k + 1) = domC k ++ [.fsl (.int .u64) ([((2 ^ k : Nat) : Int)] : List Int), .fsl (.int .u64) ([0] : List Int), .nils] := by unfold domC; rw [List.range_succ, List.flatMap_append]; simp
theorem domC_length : ∀ k : Nat, (domC k).length = k * 3
  | 0 => rfl
  | k + 1 => by rw [domC_succ, List.length_append, domC_length k]; simp; omega
def domCC (k : Nat) : List AV := ((List.range k).map domT).flatMap transSh.cells
theorem domCC_succ (k : Nat) : domCC (k + 1) = domCC k ++ [.fsl (.int .u64) ([((2 ^ k : Nat) : Int)] : List Int), .fsl (.int .u64) ([0] : List Int), .fsl codeSh []] := by
  unfold domCC; rw [List.range_succ, List.map_append]; exact List.flatMap_append (xs := (List.range k).map domT) (ys := [domT k]) (f := transSh.cells)
theorem domCC_length : ∀ k : Nat, (domCC k).length = k * 3
  | 0 => rfl
  | k + 1 => by rw [domCC_succ, List.length_append, domCC_length k]; simp; omega
theorem domC_nils : ∀ (a k : Nat) (x y : AV), (domC a)[k]? = some x → (domCC a)[k]? = some y → x = y ∨ (x = .nils ∧ ∃ e : Sh, y = .fsl e [])
  | 0, k, x, y, h, _ => by cases h
  | a + 1, k, x, y, hx, hy => by
    rw [domC_succ] at hx
    rw [domCC_succ] at hy
    have h1 := domC_length a
    have h2 := domCC_length a
    by_cases hk : k < a * 3
    · rw [List.getElem?_append_left (by omega)] at hx hy
      exact domC_nils a k x y hx hy
    · rw [List.getElem?_append_right (by omega)] at hx hy
      rw [h1] at hx
      rw [h2] at hy
      rcases Nat.lt_or_ge (k - a * 3) 3 with hlt | hge
      · match hm : k - a * 3 with
        | 0 => rw [hm] at hx hy; cases hx; cases hy; exact .inl rfl
        | 1 => rw [hm] at hx hy; cases hx; cases hy; exact .inl rfl
        | 2 => rw [hm] at hx hy; cases hx; cases hy; exact .inr ⟨rfl, _, rfl⟩
        | m + 3 => omega
      · rw [List.getElem?_eq_none (by simpa using hge)] at hx; cases hx
theorem aDomSys (N r : Nat) (l : List EdgeT) (σ : Hp) (h1 : 1 ≤ N) (h8 : N ≤ 8) (hl : l.length ≤ 1000) (hri : rightE N l = true) (hr : r < N) : ACalls Tryz.prog 10 [.int .i64 N, .fsl edgeSh l, .int .i64 r] σ (Ret (.tup [.agg (sysC (domS N l r)), .int .i64 0]) σ) := by
  have hO := fun (a : List Int) (ha : a.length ≤ 100000) σ => aWsOf N h1 h8 a σ ha
  have hOn : ∀ σ, ACalls Tryz.prog 40 [.int .i64 N, .nils] σ (Ret (.fsl (.int .u64) ([0] : List Int)) σ) := fun σ => acalls_nil (frz_cons (.refl _) (frz_cons (.nil (.int .i64)) (.refl _))) (hO [] (Nat.zero_le _) σ)
  refine okF Tryz.func10 (by kernel_rfl) ?_
  intro bl1
  refine callB [] (aRight N l _ (by omega)) (fun c1 => ?_) (fun c1 => absurd hri (by rw [c1]; decide))
  refine bcond_dec (fun c1 => ?_) (fun c1 => ?_)
  · have c1 : (↑N : Int) ≤ (↑r : Int) := c1
    refine StoreAt.mk 0 _ _ rfl rfl ?_
    refine LoadAt.mk 0 _ _ rfl rfl ?_
    exact absurd hr (by omega)
  · have c1 : ¬ ((↑N : Int) ≤ (↑r : Int)) := c1
    refine callR [] (aFlowSorted l _ (by omega)) ?_
    intro bl2
    refine callR [] (hOn _) ?_
    intro bl3
    refine StoreAt.mk 0 _ _ rfl rfl ?_
    obtain ⟨E, hE⟩ : ∃ E, sortedE l = E := ⟨_, rfl⟩
    have hfin : domS N l r = ⟨2, N, N, E, [(r : Int)], [0], (List.range N).map domT⟩ := by rw [← hE]; rfl
    rw [hfin]
    refine .shed (.pull [0] (shed_eq (σ2 := (bl3, [.int .i64 2, .int .i64 N, .int .i64 N, .fsl edgeSh E, .mref bl2 0 1 1, .fsl (.int .u64) ([0] : List Int), .nils]) :: (bl2, [.int .i64 r]) :: (bl1, [.int .i64 0, .int .i64 0, .int .i64 0, .nils, .nils, .nils, .nils]) :: ([] ++ σ)) (by rw [← hE]; rfl))) ?_
    refine loopS (S := Nat × AV × Hp) (fun x => [(0, .int .i64 N), (6, .ptr bl1 0), (8, .ptr bl3 0), (33, .int .i64 N), (34, .int .i64 x.1)]) (fun x => (bl3, [.int .i64 2, .int .i64 N, .int .i64 N, .fsl edgeSh E, .mref bl2 0 1 1, .fsl (.int .u64) ([0] : List Int), x.2.1]) :: (bl2, [.int .i64 r]) :: (bl1, [.int .i64 0, .int .i64 0, .int .i64 0, .nils, .nils, .nils, .nils]) :: (x.2.2 ++ σ)) (fun x => x.1 ≤ N ∧ Acc 3 x.1 x.2.1 x.2.2 (domC x.1)) (fun x => N - x.1) (0, .nils, []) ⟨⟨Nat.zero_le _, .nil⟩, ⟨rfl, rfl, rfl, rfl, rfl, trivial⟩, rfl⟩ ?_
    rintro ⟨j, vT, acc⟩ g ⟨hj0, hT0⟩
    have hj : j ≤ N := hj0
    have hT : Acc 3 j vT acc (domC j) := hT0
    clear hj0 hT0
    refine bcond_dec (p := (j : Int) < N) (fun hlt => ?_) (fun hge => ?_)
    · have hlt : j < N := by omega
      have hOj := hO [(j : Int)] (show 1 ≤ 100000 by decide)
      rw [ofB_one hlt] at hOj
      refine .sched [5, 7] (.one 0 false (.one 2 false (.one 3 false (.one 6 false (.alt 1 (.one 4 false (.one 5 true (.one 7 true (.one 8 false (.one 9 false (.one 10 false (.one 11 false (.one 12 false .stop)))))))) (.one 4 false (.one 5 true (.one 7 true (.one 8 false (.alt 1 (.one 9 false (.one 10 false (.one 11 false (.one 12 false .stop)))) (.one 9 false (.one 1 false (.one 10 false (.one 11 false (.one 12 false .stop))))))))))))))) (by kernel_rfl) ?_
      refine And.intro ?_ ?_
      · refine LoadAt.mk 0 _ _ rfl rfl ?_
        intro be
        refine callQ [] (aWsOfM N h1 h8 _ j hlt _) ?_
        refine callQ [] (hOn _) ?_
        intro be
        refine append_accV [_, _, _, _, _] hT.unv (.mref 0 _ 0 1 _ rfl (Nat.le_of_ble_eq_true rfl)) rfl (by omega) (by decide) (by decide) (fun v' acc' h' => ?_)
        obtain ⟨bT, rfl, rfl⟩ := accE_one (by omega) h'
        refine StoreAt.mk 2 _ _ rfl rfl ?_
        exact nextS (j + 1, .mref bT 0 (j + 1) 3, [(bT, domC (j + 1))]) (by show N - (j + 1) < N - j; omega) ⟨hlt, .mref bT (j + 1) _ (domC_length (j + 1))⟩ ⟨rfl, rfl, rfl, rfl, inc64 (by omega), trivial⟩ (.drop 0 2 (shed_eq (by rw [domC_succ]; rfl)))
      · intro bf
        refine callQ [] (aWsOfM N h1 h8 _ j hlt _) ?_
        refine callQ [] (hOn _) ?_
        refine And.intro ?_ ?_
        · refine LoadAt.mk 1 _ _ rfl rfl ?_
          intro be
          refine append_accV [_, _, _, _, _] hT.unv (.mref 0 _ 0 1 _ rfl (Nat.le_of_ble_eq_true rfl)) rfl (by omega) (by decide) (by decide) (fun v' acc' h' => ?_)
          obtain ⟨bT, rfl, rfl⟩ := accE_one (by omega) h'
          refine StoreAt.mk 2 _ _ rfl rfl ?_
          exact nextS (j + 1, .mref bT 0 (j + 1) 3, [(bT, domC (j + 1))]) (by show N - (j + 1) < N - j; omega) ⟨hlt, .mref bT (j + 1) _ (domC_length (j + 1))⟩ ⟨rfl, rfl, rfl, rfl, inc64 (by omega), trivial⟩ (.drop 0 2 (shed_eq (by rw [domC_succ]; rfl)))
        · intro bf
          refine LoadAt.mk 2 _ _ rfl rfl ?_
          refine append_accV [_, _, _, _, _] hT.unv (.mref 0 _ 0 1 _ rfl (Nat.le_of_ble_eq_true rfl)) rfl (by omega) (by decide) (by decide) (fun v' acc' h' => ?_)
          obtain ⟨bT, rfl, rfl⟩ := accE_one (by omega) h'
          refine StoreAt.mk 2 _ _ rfl rfl ?_
          exact nextS (j + 1, .mref bT 0 (j + 1) 3, [(bT, domC (j + 1))]) (by show N - (j + 1) < N - j; omega) ⟨hlt, .mref bT (j + 1) _ (domC_length (j + 1))⟩ ⟨rfl, rfl, rfl, rfl, inc64 (by omega), trivial⟩ (.drop 0 2 (shed_eq (by rw [domC_succ]; rfl)))
    · have hge : j = N := by omega
      subst hge
      obtain ⟨bT, rfl, rfl⟩ := accE_one (by omega) hT
      have hl0 : ((List.range j).map domT).length = j := by rw [List.length_map, List.length_range]
      refine LoadAt.mk 0 _ _ rfl rfl ?_
      refine StoreAt.mk 2 _ _ rfl rfl ?_
      refine LoadAt.mk 2 _ _ rfl rfl ?_
      refine .shed (.nilc 3 bT (domC j) (domCC j) rfl (by rw [domCC_length, domC_length]) (domC_nils j) (.refl _)) ?_
      refine .frz (r' := .tup [.agg [.int .i64 2, .int .i64 j, .int .i64 j, .fsl edgeSh E, .fsl (.int .i64) ([(r : Int)] : List Int), .fsl (.int .u64) ([0] : List Int), .mref bT 0 j 3], .int .i64 0]) 1 bl2 0 1 1 _ (.int .i64) ([(r : Int)] : List Int) rfl rfl ⟨rfl, rfl, by decide⟩ (frz_cons (frz_agg (frz_cons (.refl _) (frz_cons (.refl _) (frz_cons (.refl _) (frz_cons (.refl _) (frz_cons .here (frz_cons (.refl _) (frz_cons (.refl _) (.refl _)))))))) rfl) (.refl _)) ?_
      refine .frz (r' := .tup [.agg [.int .i64 2, .int .i64 j, .int .i64 j, .fsl edgeSh E, .fsl (.int .i64) ([(r : Int)] : List Int), .fsl (.int .u64) ([0] : List Int), .fsl transSh ((List.range j).map domT)], .int .i64 0]) 2 bT 0 j 3 _ transSh ((List.range j).map domT) rfl (by rw [List.drop_zero]; exact List.take_of_length_le (Nat.le_of_eq (domCC_length j))) ⟨hl0, rfl, by decide⟩ (frz_cons (frz_agg (frz_cons (.refl _) (frz_cons (.refl _) (frz_cons (.refl _) (frz_cons (.refl _) (frz_cons (.refl _) (frz_cons (.refl _) (frz_cons .here (.refl _)))))))) rfl) (.refl _)) ?_
      exact .drop 0 2 (.done ⟨rfl, rfl⟩)
/-- Whom a node has over it. -/
def domRow (N : Nat) (l : List EdgeT) (r v : Nat) : List Int := if (v : Int) ∈ reachR N l [(r : Int)] then bitsL (domZ N l r v ||| 2 ^ v) else []
def domAll (N : Nat) (l : List EdgeT) (r : Nat) : List (List Int) := (List.range N).map (domRow N l r)
/-- The rows that stand so far: R were told. -/
def cellU (N : Nat) (l : List EdgeT) (r : Nat) (R : List Int) (v : Nat) : AV := if (v : Int) ∈ R then .fsl (.int .i64) (domRow N l r v) else .nils
theorem cellU_yes {N : Nat} {l : List EdgeT} {r : Nat} {R : List Int} {v : Nat} (h : (v : Int) ∈ R) : cellU N l r R v = .fsl (.int .i64) (domRow N l r v) := if_pos h
theorem cellU_no {N : Nat} {l : List EdgeT} {r : Nat} {R : List Int} {v : Nat} (h : (v : Int) ∉ R) : cellU N l r R v = .nils := if_neg h
def rowsU (N : Nat) (l : List EdgeT) (r : Nat) (R : List Int) : List AV := (List.range N).map (cellU N l r R)
theorem rowsU_get (N : Nat) (l : List EdgeT) (r : Nat) (R : List Int) (i : Nat) : (rowsU N l r R)[i]? = if i < N then some (cellU N l r R i) else none := by
  unfold rowsU
  rw [List.getElem?_map]
  by_cases h : i < N
  · rw [if_pos h, List.getElem?_range h]; rfl
  · rw [if_neg h, List.getElem?_eq_none (by rw [List.length_range]; omega)]; rfl
theorem rowsU_length (N : Nat) (l : List EdgeT) (r : Nat) (R : List Int) : (rowsU N l r R).length = N := by unfold rowsU; simp
theorem rowsU_nil (N : Nat) (l : List EdgeT) (r : Nat) : rowsU N l r [] = repC [.nils] N := by
  rw [repN]
  refine List.ext_getElem? fun i => ?_
  rw [rowsU_get, List.getElem?_replicate, cellU_no (by simp)]
theorem rowsU_set {N : Nat} (l : List EdgeT) (r : Nat) (R : List Int) {v : Nat} (hv : v < N) : (rowsU N l r R).set v (.fsl (.int .i64) (domRow N l r v)) = rowsU N l r (R ++ [(v : Int)]) := by
  refine List.ext_getElem? fun i => ?_
  rw [List.getElem?_set, rowsU_get, rowsU_get, rowsU_length]
  by_cases e : v = i
  · subst e; rw [if_pos rfl, if_pos hv, if_pos hv, cellU_yes (by simp)]
  · rw [if_neg e]
    by_cases hi : (i : Int) ∈ R
    · rw [cellU_yes hi, cellU_yes (by simp [hi])]
    · rw [cellU_no hi, cellU_no (by simp [hi]; omega)]
/-- Nobody else is told: all rows stand. -/
theorem rowsU_all {N : Nat} {l : List EdgeT} {r : Nat} {R : List Int} (hR : reachR N l [(r : Int)] = R) (k : Nat) (x y : AV) (hx : (rowsU N l r R)[k]? = some x) (hy : (iiC (domAll N l r))[k]? = some y) : x = y ∨ (x = .nils ∧ ∃ e : Sh, y = .fsl e []) := by
  rw [rowsU_get] at hx
  have hy : ((domAll N l r)[k]?).map (fun w : List Int => AV.fsl (.int .i64) w) = some y := (List.getElem?_map (f := fun w : List Int => AV.fsl (.int .i64) w) (l := domAll N l r) (i := k)).symm.trans hy
  unfold domAll at hy
  rw [List.getElem?_map] at hy
  by_cases h : k < N
  · rw [if_pos h] at hx
    rw [List.getElem?_range h] at hy
    cases hx
    cases hy
    by_cases hk : (k : Int) ∈ R
    · exact .inl (cellU_yes hk)
    · refine .inr ⟨cellU_no hk, .int .i64, congrArg (AV.fsl (.int .i64)) ?_⟩
      unfold domRow; rw [hR, if_neg hk]; rfl
  · rw [if_neg h] at hx; cases hx
theorem domAll_length (N : Nat) (l : List EdgeT) (r : Nat) : (domAll N l r).length = N := by unfold domAll; simp
theorem aDomAllNo (n r : Int) (l : List EdgeT) (σ : Hp) (hl : l.length ≤ 1000000) (h : ¬ (rightE n l = true ∧ 0 ≤ r ∧ r < n)) : ACalls Tryz.prog 11 [.int .i64 n, .fsl edgeSh l, .int .i64 r] σ (Ret (.tup [.fsl (.slice (.int .i64)) ([] : List (List Int)), .int .i64 1]) σ) := by
  refine okF Tryz.func11 (by kernel_rfl) ?_
  refine callR [] (aDomSysNo n r l _ hl h) ?_
  intro bl1
  refine StoreAt.mk 0 _ _ rfl rfl ?_
  exact .nil (frz_cons (.nil _) (.refl _)) (.drop 0 1 (.done ⟨rfl, rfl⟩))
theorem aDomAll (N r : Nat) (l : List EdgeT) (σ : Hp) (h1 : 1 ≤ N) (h8 : N ≤ 8) (hl : l.length ≤ 1000) (hri : rightE N l = true) (hr : r < N) (hg : (gT, tabT) ∈ σ) : ACalls Tryz.prog 11 [.int .i64 N, .fsl edgeSh l, .int .i64 r] σ (Ret (.tup [.fsl (.slice (.int .i64)) (domAll N l r), .int .i64 0]) σ) := by
  have hee : ∀ e ∈ l, (0 ≤ e.1 ∧ e.1 < (N : Int)) ∧ 0 ≤ e.2.1 ∧ e.2.1 < (N : Int) := fun e he => by
    unfold rightE at hri
    simp only [Bool.and_eq_true, List.all_eq_true] at hri
    have := hri.2 e he
    exact ⟨node_iff.1 this.1, node_iff.1 this.2⟩
  have hgd := dom_good (r := r) h1 h8 (by omega) hee hr
  have hft := dom_fit (r := r) h1 h8 (by omega) hee hr
  have hsol := dom_sol (r := r) h1 h8 (by omega) hee hr
  have hSv := fun σ => aSolveOk (domS N l r) σ hft hgd
  have hSl := (sol_least hft hgd).1.len
  generalize (solS (domS N l r)).1 = sol at hsol hSv hSl
  obtain ⟨R, hR⟩ : ∃ R, reachR N l [(r : Int)] = R := ⟨_, rfl⟩
  have hRn : ∀ a ∈ R, 0 ≤ a ∧ a < N := fun a ha => by rw [← hR, mem_reachR] at ha; exact ha.node
  have hRl : R.length ≤ N := by rw [← hR]; unfold reachR listB; rw [List.length_map]; exact Nat.le_trans (List.length_filter_le ..) (by simp)
  have hRc : ∀ σ, ACalls Tryz.prog 24 [.int .i64 N, .fsl edgeSh l, .fsl (.int .i64) ([(r : Int)] : List Int)] σ (Ret (.fsl (.int .i64) R) σ) := fun σ => hR ▸ aReached N l [(r : Int)] σ (by omega) (by omega) (show 1 ≤ 100000 by decide)
  refine okF Tryz.func11 (by kernel_rfl) ?_
  refine callR [] (aDomSys N r l _ h1 h8 hl hri hr) ?_
  intro bl1
  refine StoreAt.mk 0 _ _ rfl rfl ?_
  refine LoadAt.mk 0 _ _ rfl rfl ?_
  refine callR [] (hSv _) ?_
  intro bl2
  refine .frz (args' := [.int .i64 N, .fsl edgeSh l, .fsl (.int .i64) ([(r : Int)] : List Int)]) 0 bl2 0 1 1 _ (.int .i64) ([(r : Int)] : List Int) rfl rfl ⟨rfl, rfl, by decide⟩ (frz_cons (.refl _) (frz_cons (.refl _) (frz_cons .here (.refl _)))) ?_
  refine callR [] (hRc _) ?_
  refine With.mk ⟨by omega, by omega, by omega, by decide⟩ ?_
  intro bo
  refine loopS (S := Nat) (fun j => [(0, .int .i64 N), (10, .fsl (.slice (.int .u64)) sol), (14, .mref bo 0 N 1), (40, .fsl (.int .i64) R), (41, .int .i64 R.length), (42, .int .i64 j)]) (fun j => (bo, rowsU N l r (R.take j)) :: (bl1, sysC (domS N l r)) :: σ) (fun j => j ≤ R.length) (fun j => R.length - j) 0 ⟨Nat.zero_le _, ⟨rfl, rfl, rfl, rfl, rfl, rfl, trivial⟩, by show _ = (bo, rowsU N l r []) :: _; rw [rowsU_nil]; rfl⟩ ?_
  intro j g hj0
  have hj : j ≤ R.length := hj0
  clear hj0
  refine bcond_dec (p := (j : Int) < R.length) (fun hlt => ?_) (fun hge => ?_)
  · have hlt : j < R.length := by omega
    obtain ⟨v, hv⟩ : ∃ v, R[j] = v := ⟨_, rfl⟩
    have hvm : v ∈ R := hv ▸ List.getElem_mem hlt
    have hvn := hRn v hvm
    obtain ⟨V, rfl⟩ : ∃ V : Nat, v = V := ⟨v.toNat, by omega⟩
    have hVN : V < N := by omega
    obtain ⟨q1, q2, q3⟩ := hsol V hVN
    have hz8 := lt_256 h8 q2
    have hor := or_w hz8 (show V < 8 by omega)
    have ho8 := or_256 hz8 (show V < 8 by omega)
    have hUn : ∀ σ, ACalls Tryz.prog 43 [.fsl (.int .u64) ([(domZ N l r V : Int)] : List Int), .fsl (.int .u64) ([((2 ^ V : Nat) : Int)] : List Int)] σ (Ret (.fsl (.int .u64) ([((domZ N l r V ||| 2 ^ V : Nat) : Int)] : List Int)) σ) := fun σ => by rw [← hor]; exact aUnion [(domZ N l r V : Int)] [((2 ^ V : Nat) : Int)] σ (show 1 ≤ 100000 by decide) (show 1 ≤ 100000 by decide)
    have hrow : domRow N l r V = bitsL (domZ N l r V ||| 2 ^ V) := by unfold domRow; rw [if_pos (by rw [hR]; exact hvm)]
    have hset : (rowsU N l r (R.take j)).set (0 + ((V : Int)).toNat * 1) (.fsl (.int .i64) (bitsL (domZ N l r V ||| 2 ^ V))) = rowsU N l r (R.take (j + 1)) := by rw [Nat.zero_add, Nat.mul_one, Int.toNat_natCast, ← hrow, rowsU_set l r _ hVN, List.take_succ_eq_append_getElem hlt, hv]
    refine With.mk rfl (IdxF.mk (V : Int) (by omega) ((get_some hlt).trans (congrArg some hv)) ?_)
    refine .sched [9, 10, 11] (.one 0 false (.one 1 false (.one 2 false (.one 3 false (.one 4 false (.one 6 false (.one 7 false (.alt 5 (.one 8 false (.one 9 true (.one 10 true (.one 11 true (.one 12 false (.one 13 false .stop)))))) (.one 8 false (.one 5 false (.one 9 true (.one 10 true (.one 11 true (.one 12 false (.one 13 false .stop))))))))))))))) (by kernel_rfl) ?_
    refine With.mk rfl ?_
    refine IdxF.mk ([(domZ N l r V : Int)] : List Int) (by omega) ((gzL2 (by have hSl : (sol.length : Int) = N := hSl; omega)).trans (congrArg some q1)) ?_
    refine And.intro ?_ ?_
    · intro bl1
      refine callQ [] (aWsOfM N h1 h8 _ V hVN _) ?_
      refine callQ [] (hUn _) ?_
      refine callQ [] (aWsList _ ho8 _ (.tail _ (.tail _ (.tail _ hg)))) ?_
      refine With.mk ⟨rfl, by omega, by omega⟩ ?_
      refine StoreAt.mk 1 _ _ rfl ((write1 rfl rfl (by rw [rowsU_length]; omega)).trans (congrArg some hset)) ?_
      exact nextS (j + 1) (by show R.length - (j + 1) < R.length - j; omega) hlt ⟨rfl, rfl, rfl, rfl, rfl, inc64 (by omega), trivial⟩ (.drop 0 1 (.refl _))
    · intro bl2
      refine callQ [] (aWsOfM N h1 h8 _ V hVN _) ?_
      refine callQ [] (hUn _) ?_
      refine callQ [] (aWsList _ ho8 _ (.tail _ (.tail _ (.tail _ hg)))) ?_
      refine With.mk ⟨rfl, by omega, by omega⟩ ?_
      refine StoreAt.mk 1 _ _ rfl ((write1 rfl rfl (by rw [rowsU_length]; omega)).trans (congrArg some hset)) ?_
      exact nextS (j + 1) (by show R.length - (j + 1) < R.length - j; omega) hlt ⟨rfl, rfl, rfl, rfl, rfl, inc64 (by omega), trivial⟩ (.drop 0 1 (.refl _))
  · have hge : j = R.length := by omega
    subst hge
    rw [List.take_length]
    exact .shed (.nilc 0 bo (rowsU N l r R) (iiC (domAll N l r)) rfl (by rw [iiC_length, domAll_length, rowsU_length]) (rowsU_all hR) (.refl _)) (.frz 0 bo 0 N 1 _ (.slice (.int .i64)) (domAll N l r) rfl (by rw [List.drop_zero, List.take_of_length_le (by rw [iiC_length, domAll_length, Nat.mul_one]; exact Nat.le_refl _)]; exact iiC_flat _) ⟨domAll_length N l r, rfl, by decide⟩ (frz_cons .here (.refl _)) (.drop 0 1 (.done ⟨rfl, rfl⟩)))
end Go.Proofs.YtljbnigceammdaaGreatDoor
