/-
  Ha: what the claim uses of them.
-/
import Derived.Test.YtljbnigceammdaaGreatBn44
namespace Go.Proofs.YtljbnigceammdaaGreat
open Go.RowKit
set_option maxRecDepth 100000
def lastD (w : List Int) : Int := w.getD (w.length - 1) 0
/-- The ways that begin with w and have k more edges. -/
def extP (s : Sy) : Nat → List Int → List (List Int)
  | 0, w => [w]
  | k + 1, w => (toS s.n s.edges (lastD w)).flatMap fun b => extP s k (w ++ [b])
def isTo (v : Int) (w : List Int) : Bool := decide (lastD w = v)
theorem last_app (w : List Int) (b : Int) : lastD (w ++ [b]) = b := by
  unfold lastD
  rw [List.length_append, List.length_singleton, Nat.add_sub_cancel, List.getD_eq_getElem?_getD, List.getElem?_append_right (Nat.le_refl _), Nat.sub_self]; rfl
theorem toS_le (n : Int) (l : List EdgeT) (a : Int) : (toS n l a).length ≤ n.toNat := by
  unfold toS
  exact Nat.le_trans (List.length_filter_le _ _) (by simp)
theorem accA_one {k : Nat} {v : AV} {acc : Hp} {cs : List AV} (h0 : 0 < k) (h : Acc 1 k v acc cs) : ∃ b, v = .mref b 0 k 1 ∧ acc = [(b, cs)] := by
  cases h with
  | nil => omega
  | mref b k cs h => exact ⟨b, rfl, rfl⟩
abbrev frH (l : Nat) (rd : AV) (be bv by_ bs bf : Nat) (s : Sy) (K : Nat) (v : Int) (τ : Hp) : Hp := (l, [rd]) :: (bf, [.fn (.func 47) [] [.ptr be 0, .ptr bv 0, .ptr by_ 0, .ptr bs 0, .ptr bf 0]]) :: (by_, [.fn (.yield l) [] []]) :: (bs, sysC s) :: (bv, [.int .i64 v]) :: (be, [.int .i64 K]) :: τ
theorem flat_app (w : List Int) (b : Int) : w.flatMap (Sh.cells (.int .i64)) ++ [AV.int .i64 b] = (w ++ [b]).flatMap (Sh.cells (.int .i64)) := by
  rw [← inC_flat, ← inC_flat]; simp [inC]
theorem len_app (w : List Int) (b : Int) : (w ++ [b]).length = w.length + 1 := by simp
theorem perm_in (A τ ρ : Hp) (x : Nat × List AV) : (A ++ (τ ++ (x :: ρ))).Perm (x :: (A ++ (τ ++ ρ))) := by
  rw [← List.append_assoc, ← List.append_assoc]; exact List.perm_middle
abbrev frA (l : Nat) (rd : AV) (be bv by_ bs bf : Nat) (s : Sy) (K : Nat) (v : Int) : Hp := [(l, [rd]), (bf, [.fn (.func 47) [] [.ptr be 0, .ptr bv 0, .ptr by_ 0, .ptr bs 0, .ptr bf 0]]), (by_, [.fn (.yield l) [] []]), (bs, sysC s), (bv, [.int .i64 v]), (be, [.int .i64 K])]
theorem aFrom (l : Nat) (rd : AV) (be bv by_ bs bf : Nat) (s : Sy) (K : Nat) (v : Int) (hf : Fit s) (hn : s.n ≤ 256) (hK : K ≤ 100) (St : List (List Int) → Hp → Prop) (most : Nat)
    (hY : ∀ (L : List (List Int)) (w : List Int) (τ ρ : Hp), St L τ → L.length < most → YCalls Tryz.prog l [.fsl (.int .i64) w] (frH l rd be bv by_ bs bf s K v (τ ++ ρ)) (fun r' σ' => r' = .bool true ∧ ∃ τ', St (L ++ [w]) τ' ∧ σ' = frH l rd be bv by_ bs bf s K v (τ' ++ ρ))) :
    ∀ (k : Nat) (w : List Int) (L : List (List Int)) (τ ρ : Hp), 0 < w.length → w.length + k = K + 1 → St L τ → (L ++ (extP s k w).filter (isTo v)).length ≤ most →
      ACalls Tryz.prog 47 [.fsl (.int .i64) w, .ptr be 0, .ptr bv 0, .ptr by_ 0, .ptr bs 0, .ptr bf 0] (frH l rd be bv by_ bs bf s K v (τ ++ ρ)) (fun r' σ' => r' = .bool true ∧ ∃ τ', St (L ++ (extP s k w).filter (isTo v)) τ' ∧ σ' = frH l rd be bv by_ bs bf s K v (τ' ++ ρ)) := by
  intro k
  induction k with
  | zero =>
    intro w L τ ρ h0 hk hL hm
    have hwl : w.length ≤ 1000000 := by omega
    have hlast : w[((K : Nat) : Int).toNat]? = some (lastD w) := by
      unfold lastD; exact gz (by omega) (by omega)
    have hfil : (extP s 0 w).filter (isTo v) = if lastD w = v then [w] else [] := by
      unfold extP isTo
      by_cases e : lastD w = v
      · rw [if_pos e, List.filter_cons, decide_eq_true e]; rfl
      · rw [if_neg e, List.filter_cons, decide_eq_false e]; rfl
    rw [hfil] at hm ⊢
    refine okF Tryz.func47 (by kernel_rfl) ?_
    refine LoadAt.mk 5 _ _ rfl rfl ?_
    refine bcond_dec (p := (w.length : Int) = IntKind.i64.wrap ((K : Int) + 1)) (fun c1 => ?_) (fun c1 => ?_)
    · refine .sched [9] (upto [9] 13 0) (by kernel_rfl) ?_
      refine LoadAt.mk 5 _ _ rfl rfl ?_
      refine With.mk rfl (IdxF.mk (lastD w) (by omega) hlast ?_)
      refine LoadAt.mk 4 _ _ rfl rfl ?_
      refine bcond_split (fun c1 => ?_) (fun c1 => ?_)
      · have c1 : ¬ (lastD w = v) := by simpa using c1
        exact .done ⟨rfl, τ, by rw [if_neg (by assumption), List.append_nil]; exact hL, rfl⟩
      · have c1 : lastD w = v := by simpa using c1
        refine LoadAt.mk 2 _ _ rfl rfl ?_
        refine callQ [] (aCloneIQ w _ hwl) ?_
        refine YieldAt.mk [] _ (hY L w τ ρ hL (by rw [if_pos (by assumption), List.length_append, List.length_singleton] at hm; omega)) ?_
        rintro r' σ' ⟨rfl, τ', h, rfl⟩
        exact .done ⟨rfl, τ', by rw [if_pos (by assumption)]; exact h, rfl⟩
    · rw [IntKind.wrap_i64] at c1; omega
  | succ k ih =>
    intro w L τ ρ h0 hk hL hm
    have hwl : w.length ≤ 1000000 := by omega
    have hlast : (0 ≤ IntKind.i64.wrap ((w.length : Int) - 1) ∧ IntKind.i64.wrap ((w.length : Int) - 1) < w.length) ∧ w[(IntKind.i64.wrap ((w.length : Int) - 1)).toNat]? = some (lastD w) := by
      have e : IntKind.i64.wrap ((w.length : Int) - 1) = ((w.length - 1 : Nat) : Int) := by rw [IntKind.wrap_i64]; omega
      rw [e]
      exact ⟨by omega, by unfold lastD; exact gz (by omega) rfl⟩
    have hext : extP s (k + 1) w = (toS s.n s.edges (lastD w)).flatMap fun b => extP s k (w ++ [b]) := rfl
    obtain ⟨B, hB⟩ : ∃ B, toS s.n s.edges (lastD w) = B := ⟨_, rfl⟩
    have hBl : B.length ≤ 256 := by have := toS_le s.n s.edges (lastD w); rw [hB] at this; omega
    have hNx : ∀ σ, ACalls Tryz.prog 49 [.int .i64 s.n, .fsl edgeSh s.edges, .int .i64 (lastD w)] σ (Ret (.fsl (.int .i64) B) σ) := fun σ => hB ▸ aNext s.n s.edges (lastD w) σ hf.elen
    rw [hext, hB] at hm ⊢
    refine okF Tryz.func47 (by kernel_rfl) ?_
    refine LoadAt.mk 5 _ _ rfl rfl ?_
    refine bcond_dec (p := (w.length : Int) = IntKind.i64.wrap ((K : Int) + 1)) (fun c1 => ?_) (fun c1 => ?_)
    · rw [IntKind.wrap_i64] at c1; omega
    · refine .quiet (by kernel_rfl) ?_
      refine LoadAt.mk 3 _ _ rfl rfl ?_
      refine LoadAt.mk 3 _ _ rfl rfl ?_
      refine With.mk rfl (IdxF.mk (lastD w) hlast.1.1 hlast.2 ?_)
      refine callQ [] (hNx _) ?_
      refine loopS (S := Nat × List (List Int) × Hp) (fun x => [(0, .fsl (.int .i64) w), (5, .ptr bf 0), (37, .fsl (.int .i64) B), (38, .int .i64 B.length), (39, .int .i64 x.1)]) (fun x => frH l rd be bv by_ bs bf s K v (x.2.2 ++ ρ)) (fun x => x.1 ≤ B.length ∧ x.2.1 = L ++ ((B.take x.1).flatMap fun b => extP s k (w ++ [b])).filter (isTo v) ∧ St x.2.1 x.2.2) (fun x => B.length - x.1) (0, L, τ) ⟨⟨Nat.zero_le _, by simp, hL⟩, ⟨rfl, rfl, rfl, rfl, rfl, trivial⟩, rfl⟩ ?_
      rintro ⟨j, L1, τ1⟩ g ⟨hj0, hL0, hS0⟩
      have hj : j ≤ B.length := hj0
      have hL1 : L1 = L ++ ((B.take j).flatMap fun b => extP s k (w ++ [b])).filter (isTo v) := hL0
      have hS : St L1 τ1 := hS0
      clear hj0 hL0 hS0
      refine bcond_dec (fun hlt => ?_) (fun hge => ?_)
      · have hlt : j < B.length := by have hlt : (j : Int) < B.length := hlt; omega
        obtain ⟨b, hbj⟩ : ∃ b : Int, B[j] = b := ⟨_, rfl⟩
        have htk : B.take (j + 1) = B.take j ++ [b] := by rw [List.take_succ_eq_append_getElem hlt, hbj]
        have hnew : L ++ ((B.take (j + 1)).flatMap fun b => extP s k (w ++ [b])).filter (isTo v) = L1 ++ (extP s k (w ++ [b])).filter (isTo v) := by
          rw [htk, List.flatMap_append, List.filter_append, hL1, List.append_assoc]; simp
        have hle : (L1 ++ (extP s k (w ++ [b])).filter (isTo v)).length ≤ most := by
          rw [← hnew]
          refine Nat.le_trans ?_ hm
          rw [List.length_append, List.length_append]
          refine Nat.add_le_add_left ?_ _
          refine List.Sublist.length_le (List.Sublist.filter _ ?_)
          rw [← List.take_append_drop (j + 1) B, List.flatMap_append, List.take_append_drop]
          exact List.sublist_append_left _ _
        refine With.mk rfl (IdxF.mk b (by omega) ((get_some hlt).trans (congrArg some hbj)) ?_)
        refine .each (by kernel_rfl) ?_
        repeat' first
          | refine And.intro ?_ ?_
          | intro bl1
          | refine LoadAt.mk 1 _ _ rfl rfl ?_
          | refine LoadAt.mk 2 _ _ rfl rfl ?_
          | refine LoadAt.mk 3 _ _ rfl rfl ?_
          | (refine .mk [] _ (aCloneIA w _ hwl) ?_; rintro _ _ ⟨acc, hacc, rfl⟩; obtain ⟨bc, rfl, rfl⟩ := accA_one h0 hacc)
        all_goals first
          | (refine append_acc [_] (.mref bc w.length _ hacc.length) (.mref 0 bl1 0 1 _ rfl (Nat.le_of_ble_eq_true rfl)) rfl (by omega) (by decide) (by decide) (fun v' acc' h' => ?_)
             obtain ⟨b3, rfl, rfl⟩ := accA_one (by omega) h')
          | (refine append_acc [] (.mref bc w.length _ hacc.length) (.mref 1 bl1 0 1 _ rfl (Nat.le_of_ble_eq_true rfl)) rfl (by omega) (by decide) (by decide) (fun v' acc' h' => ?_)
             obtain ⟨b3, rfl, rfl⟩ := accA_one (by omega) h')
        all_goals try refine LoadAt.mk 3 _ _ rfl rfl ?_
        all_goals first
          | refine .frz (args' := [.fsl (.int .i64) (w ++ [b]), .ptr be 0, .ptr bv 0, .ptr by_ 0, .ptr bs 0, .ptr bf 0]) 1 b3 0 (w.length + 1) 1 _ (.int .i64) (w ++ [b]) rfl (by rw [List.drop_zero, List.take_of_length_le (Nat.le_of_eq h'.length)]; exact flat_app w b) ⟨len_app w b, rfl, by decide⟩ (frz_cons .here (.refl _)) ?_
          | refine .frz (args' := [.fsl (.int .i64) (w ++ [b]), .ptr be 0, .ptr bv 0, .ptr by_ 0, .ptr bs 0, .ptr bf 0]) 0 b3 0 (w.length + 1) 1 _ (.int .i64) (w ++ [b]) rfl (by rw [List.drop_zero, List.take_of_length_le (Nat.le_of_eq h'.length)]; exact flat_app w b) ⟨len_app w b, rfl, by decide⟩ (frz_cons .here (.refl _)) ?_
        all_goals
          refine .perm _ (perm_in (frA l rd be bv by_ bs bf s K v) τ1 ρ (bl1, [.int .i64 b])) (ih (w ++ [b]) L1 τ1 ((bl1, [.int .i64 b]) :: ρ) (by simp) (by rw [List.length_append, List.length_singleton]; omega) hS hle) ?_
          rintro _ _ ⟨rfl, τ2, hS2, rfl⟩
          refine ⟨_, (perm_in (frA l rd be bv by_ bs bf s K v) τ2 ρ (bl1, [.int .i64 b])).symm, ?_⟩
          refine nextS (j + 1, L1 ++ (extP s k (w ++ [b])).filter (isTo v), τ2) (by show B.length - (j + 1) < B.length - j; omega) ⟨hlt, hnew.symm, hS2⟩ ⟨rfl, rfl, rfl, rfl, inc64 (by omega), trivial⟩ (.drop 0 1 (shed_eq rfl))
      · have hge : j = B.length := by have hge : ¬ (j : Int) < B.length := hge; omega
        subst hge
        rw [List.take_length] at hL1
        exact .done ⟨rfl, τ1, by rw [← hL1]; exact hS, rfl⟩
theorem YCalls.perm {l : Nat} {xs : List AV} {σ σ2 : Hp} {R R' : AV → Hp → Prop} (hp : σ2.Perm σ) (h : YCalls Tryz.prog l xs σ2 R) (hr : ∀ r σ3, R r σ3 → ∃ σ', σ'.Perm σ3 ∧ R' r σ') : YCalls Tryz.prog l xs σ R' := fun F w vs hv hσ => by
  obtain ⟨f, tm, a, b, h1, h2⟩ := h F w vs hv (hσ.perm hp)
  refine ⟨f, tm, a, b, h1, RoundIn.mono h2 fun e w' ⟨r, v, σ', F', k1, k2, k3, k4, k5⟩ => ?_⟩
  obtain ⟨σ4, h4, h5⟩ := hr _ _ k5
  exact ⟨r, v, σ4, F', k1, k2, k3.perm h4, k4, h5⟩
def toP (s : Sy) (v : Int) (K : Nat) : List (List Int) := ((List.range s.n.toNat).flatMap fun a : Nat => extP s K [(a : Int)]).filter (isTo v)
abbrev toH (l : Nat) (rd : AV) (be bv bs : Nat) (s : Sy) (K : Nat) (v : Int) (τ : Hp) : Hp := (l, [rd]) :: (bs, sysC s) :: (bv, [.int .i64 v]) :: (be, [.int .i64 K]) :: τ
theorem to_perm (l : Nat) (rd : AV) (be bv by_ bs bf : Nat) (s : Sy) (K : Nat) (v : Int) (τ ρ : Hp) : (toH l rd be bv bs s K v (τ ++ ((bf, [.fn (.func 47) [] [.ptr be 0, .ptr bv 0, .ptr by_ 0, .ptr bs 0, .ptr bf 0]]) :: (by_, [.fn (.yield l) [] []]) :: ρ))).Perm (frH l rd be bv by_ bs bf s K v (τ ++ ρ)) := by
  refine (perm_in [(l, [rd]), (bs, sysC s), (bv, [.int .i64 v]), (be, [.int .i64 K])] τ _ (bf, _)).trans ?_
  refine (List.Perm.cons _ (perm_in [(l, [rd]), (bs, sysC s), (bv, [.int .i64 v]), (be, [.int .i64 K])] τ ρ (by_, _))).trans ?_
  exact (List.Perm.cons _ (List.Perm.swap _ _ _)).trans (List.Perm.swap _ _ _)
theorem aTo1 (l : Nat) (rd : AV) (be bv bs : Nat) (s : Sy) (K : Nat) (v : Int) (hf : Fit s) (hn : s.n ≤ 256) (hn0 : 0 ≤ s.n) (hK : K ≤ 100) (St : List (List Int) → Hp → Prop) (most : Nat)
    (hY : ∀ (L : List (List Int)) (w : List Int) (τ ρ : Hp), St L τ → L.length < most → YCalls Tryz.prog l [.fsl (.int .i64) w] (toH l rd be bv bs s K v (τ ++ ρ)) (fun r' σ' => r' = .bool true ∧ ∃ τ', St (L ++ [w]) τ' ∧ σ' = toH l rd be bv bs s K v (τ' ++ ρ)))
    (L : List (List Int)) (τ ρ : Hp) (hL : St L τ) (hm : (L ++ toP s v K).length ≤ most) :
    ACalls Tryz.prog 46 [.fn (.yield l) [] [], .ptr be 0, .ptr bv 0, .ptr bs 0] (toH l rd be bv bs s K v (τ ++ ρ)) (fun _ σ' => ∃ τ', St (L ++ toP s v K) τ' ∧ σ' = toH l rd be bv bs s K v (τ' ++ ρ)) := by
  obtain ⟨N, hN⟩ : ∃ N : Nat, s.n = N := ⟨s.n.toNat, by omega⟩
  refine okF Tryz.func46 (by kernel_rfl) ?_
  intro bl1
  intro bl2
  refine StoreAt.mk 0 _ _ rfl rfl ?_
  refine LoadAt.mk 3 _ _ rfl rfl ?_
  have hY2 : ∀ (L : List (List Int)) (w : List Int) (τ ρ : Hp), St L τ → L.length < most → YCalls Tryz.prog l [.fsl (.int .i64) w] (frH l rd be bv bl1 bs bl2 s K v (τ ++ ρ)) (fun r' σ' => r' = .bool true ∧ ∃ τ', St (L ++ [w]) τ' ∧ σ' = frH l rd be bv bl1 bs bl2 s K v (τ' ++ ρ)) := fun L w τ ρ hs hl =>
    (hY L w τ _ hs hl).perm (to_perm l rd be bv bl1 bs bl2 s K v τ ρ) fun r σ3 ⟨h1, τ', h2, h3⟩ => ⟨_, (to_perm l rd be bv bl1 bs bl2 s K v τ' ρ).symm.trans (h3 ▸ .refl _), h1, τ', h2, rfl⟩
  refine .shed (.pull [2] (shed_eq (σ2 := frH l rd be bv bl1 bs bl2 s K v (τ ++ ρ)) rfl)) ?_
  refine loopS (S := Nat × List (List Int) × Hp) (fun x => [(5, .ptr bl2 0), (9, .int .i64 s.n), (10, .int .i64 x.1)]) (fun x => frH l rd be bv bl1 bs bl2 s K v (x.2.2 ++ ρ)) (fun x => x.1 ≤ N ∧ x.2.1 = L ++ ((List.range x.1).flatMap fun a : Nat => extP s K [(a : Int)]).filter (isTo v) ∧ St x.2.1 x.2.2) (fun x => N - x.1) (0, L, τ) ⟨⟨Nat.zero_le _, by simp, hL⟩, ⟨rfl, rfl, rfl, trivial⟩, rfl⟩ ?_
  rintro ⟨k, L1, τ1⟩ g ⟨hk0, hL0, hS0⟩
  have hk : k ≤ N := hk0
  have hL1 : L1 = L ++ ((List.range k).flatMap fun a : Nat => extP s K [(a : Int)]).filter (isTo v) := hL0
  have hS : St L1 τ1 := hS0
  clear hk0 hL0 hS0
  have htoP : toP s v K = ((List.range N).flatMap fun a : Nat => extP s K [(a : Int)]).filter (isTo v) := by unfold toP; rw [hN]; rfl
  refine bcond_dec (fun hlt => ?_) (fun hge => ?_)
  · have hlt : k < N := by have hlt : (k : Int) < s.n := hlt; omega
    have hnew : L ++ ((List.range (k + 1)).flatMap fun a : Nat => extP s K [(a : Int)]).filter (isTo v) = L1 ++ (extP s K [(k : Int)]).filter (isTo v) := by
      rw [List.range_succ, List.flatMap_append, List.filter_append, hL1, List.append_assoc]; simp
    have hle : (L1 ++ (extP s K [(k : Int)]).filter (isTo v)).length ≤ most := by
      rw [← hnew]
      refine Nat.le_trans ?_ hm
      rw [htoP, List.length_append, List.length_append]
      refine Nat.add_le_add_left ?_ _
      refine List.Sublist.length_le (List.Sublist.filter _ ?_)
      have e : List.range (k + 1) = (List.range N).take (k + 1) := by rw [List.take_range]; congr 1; omega
      rw [e]
      conv => rhs; rw [← List.take_append_drop (k + 1) (List.range N), List.flatMap_append]
      exact List.sublist_append_left _ _
    refine LoadAt.mk 1 _ _ rfl rfl ?_
    intro bl3
    refine .frz (args' := [.fsl (.int .i64) ([(k : Int)] : List Int), .ptr be 0, .ptr bv 0, .ptr bl1 0, .ptr bs 0, .ptr bl2 0]) 0 bl3 0 1 1 _ (.int .i64) ([(k : Int)] : List Int) rfl rfl ⟨rfl, rfl, by decide⟩ (frz_cons .here (.refl _)) ?_
    refine .mk [] _ (aFrom l rd be bv bl1 bs bl2 s K v hf hn hK St most hY2 K [(k : Int)] L1 τ1 ρ (by simp) (by simp; omega) hS hle) ?_
    rintro _ _ ⟨rfl, τ2, hS2, rfl⟩
    exact nextS (k + 1, L1 ++ (extP s K [(k : Int)]).filter (isTo v), τ2) (by show N - (k + 1) < N - k; omega) ⟨hlt, hnew.symm, hS2⟩ ⟨rfl, rfl, inc64 (by omega), trivial⟩ (.refl _)
  · have hge : k = N := by have hge : ¬ (k : Int) < s.n := hge; omega
    subst hge
    exact .drop 1 2 (.done ⟨τ1, by rw [htoP, ← hL1]; exact hS, rfl⟩)
end Go.Proofs.YtljbnigceammdaaGreat
