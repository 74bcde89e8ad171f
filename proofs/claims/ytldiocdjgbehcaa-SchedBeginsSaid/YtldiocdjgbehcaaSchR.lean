/-
  sched.Run; the reference's Run; soughlaw25's instrs, alike, bools.
-/
import Derived.Test.YtldiocdjgbehcaaSchW
import Derived.Test.YtldiocdjgbehcaaCellP
namespace Go.Proofs.Ytldiocdjgbehcaa
open Go.RowKit
set_option maxRecDepth 100000
set_option maxHeartbeats 4000000
abbrev pickSh : Sh := .field (.int .i64) (.field (.int .i64) .nil)
theorem aRunS (W : AWorld) (lb : Nat) (scr : List (Int × Int × Unit)) (s0 : W.S) (σ : Hp) (hn : W.L.length ≤ 100000) (hs : scr.length ≤ 100000) (hf : W.free (W.abs s0)) (htell : ∀ a k, W.tell a k = a) :
    ACalls Try.prog 117 [W.mv, .mref lb 0 W.L.length 1, .fsl pickSh scr] ((lb, W.L) :: (W.B s0 ++ σ)) (EachPost W scr (W.abs s0) [(lb, W.L)] σ) := by
  refine okF Try.func117 (by kernel_rfl) ?_
  intro bl1
  refine .perm _ (List.perm_middle (a := (bl1, [.nils, .nils, .int .i64 0])) (l₁ := (lb, W.L) :: W.B s0) (l₂ := σ)) (aEach W lb scr s0 ((bl1, [.nils, .nils, .int .i64 0]) :: σ) hn hs hf htell) ?_
  rintro x σ' ⟨s', h1, rfl, rfl⟩
  refine ⟨_, (List.perm_middle (a := (bl1, [.nils, .nils, .int .i64 0])) (l₁ := (lb, W.L) :: W.B s') (l₂ := σ)).symm, ?_⟩
  refine StoreAt.mk 0 _ _ rfl rfl ?_
  refine LoadAt.mk 0 _ _ rfl rfl ?_
  exact .drop 0 1 (.done ⟨s', h1, rfl, rfl⟩)
theorem aEach0 (t r : Nat) (scr : List (Int × Int × Unit)) (σ : Hp) : ACalls Try.prog 166 [.iface t (.ptr r 0), .nils, .fsl pickSh scr, .nilfn] σ (Ret (.agg [.fsl (.int .i64) [], .fsl .bool [], .int .i64 0]) σ) := by
  refine okF Try.func166 (by kernel_rfl) ?_
  intro bl1
  refine .meet (S := Nat × Nat × Nat) (fun s => [(0, .iface t (.ptr r 0)), (1, .nils), (2, .fsl pickSh scr), (3, .nilfn), (8, .ptr bl1 0), (9, .ptr s.1 0)])
    (fun s => (s.1, [.mref s.2.1 0 0 1, .mref s.2.2 0 0 1, .int .i64 0]) :: (s.2.1, []) :: (s.2.2, []) :: (bl1, [.nils, .nils, .int .i64 0]) :: σ) (by kernel_rfl) ?_ ?_
  · repeat' first
      | exact Meet.mk (_, _, _) ⟨rfl, rfl, rfl, rfl, rfl, rfl, trivial⟩ (shed_eq rfl)
      | exact Meet.mk (_, _, _) ⟨rfl, rfl, rfl, rfl, rfl, rfl, trivial⟩ (.pull [2, 2, 1] (shed_eq rfl))
      | exact Meet.mk (_, _, _) ⟨rfl, rfl, rfl, rfl, rfl, rfl, trivial⟩ (.pull [2, 1, 2] (shed_eq rfl))
      | exact Meet.mk (_, _, _) ⟨rfl, rfl, rfl, rfl, rfl, rfl, trivial⟩ (.pull [2, 2, 0] (shed_eq rfl))
      | exact Meet.mk (_, _, _) ⟨rfl, rfl, rfl, rfl, rfl, rfl, trivial⟩ (.pull [2, 1, 1] (shed_eq rfl))
      | exact Meet.mk (_, _, _) ⟨rfl, rfl, rfl, rfl, rfl, rfl, trivial⟩ (.pull [2, 1, 0] (shed_eq rfl))
      | refine And.intro ?_ ?_
      | refine With.mk ⟨by omega, by omega, by omega, by decide⟩ ?_
      | refine StoreAt.mk 0 _ _ rfl rfl ?_
      | refine StoreAt.mk 1 _ _ rfl rfl ?_
      | refine StoreAt.mk 2 _ _ rfl rfl ?_
      | intro b
  rintro ⟨br, ba, bd⟩ g
  refine callR [] (aOr _ _ _) ?_
  refine loopS (S := Unit) (fun s => [(0, .iface t (.ptr r 0)), (1, .nils), (2, .fsl pickSh scr), (3, .nilfn), (8, .ptr bl1 0), (9, .ptr br 0), (23, .nils), (24, .int .i64 0), (25, .int .i64 0)])
    (fun s => (br, [.mref ba 0 0 1, .mref bd 0 0 1, .int .i64 0]) :: (ba, []) :: (bd, []) :: (bl1, [.nils, .nils, .int .i64 0]) :: σ) (fun s => True) (fun s => 0) () ⟨trivial, ⟨rfl, rfl, rfl, rfl, rfl, rfl, rfl, rfl, rfl, trivial⟩, rfl⟩ ?_
  intro _ g _
  have hF := fun σ => aFinS (.mref ba 0 0 1) 0 bd [] σ (by decide)
  refine LoadAt.mk 0 _ _ rfl rfl ?_
  refine bcond_dec (fun c1 => ?_) (fun c1 => ?_)
  · have c1 : 0 = (↑scr.length : Int) := c1
    refine LoadAt.mk 0 _ _ rfl rfl ?_
    refine StoreAt.mk 3 _ _ rfl rfl ?_
    refine LoadAt.mk 3 _ _ rfl rfl ?_
    refine .frz 1 ba 0 0 1 _ (.int .i64) ([] : List Int) rfl rfl ⟨rfl, rfl, by decide⟩ (frzA3 .here (.refl _) (.refl _) rfl rfl rfl) ?_
    refine .frz 1 bd 0 0 1 _ .bool ([] : List Bool) rfl rfl ⟨rfl, rfl, by decide⟩ (frzA3 (.refl _) .here (.refl _) rfl rfl rfl) ?_
    exact .drop 0 2 (.done ⟨rfl, rfl⟩)
  · have c1 : ¬ (0 = (↑scr.length : Int)) := c1
    refine LoadAt.mk 0 _ _ rfl rfl ?_
    refine callR [2] (hF _) ?_
    refine LoadAt.mk 1 _ _ rfl rfl ?_
    refine StoreAt.mk 3 _ _ rfl rfl ?_
    refine LoadAt.mk 3 _ _ rfl rfl ?_
    refine .frz 2 ba 0 0 1 _ (.int .i64) ([] : List Int) rfl rfl ⟨rfl, rfl, by decide⟩ (frzA3 .here (.refl _) (.refl _) rfl rfl rfl) ?_
    refine .frz 0 bd 0 0 1 _ .bool ([] : List Bool) rfl rfl ⟨rfl, rfl, by decide⟩ (frzA3 (.refl _) .here (.refl _) rfl rfl rfl) ?_
    exact .drop 0 2 (.done ⟨rfl, rfl⟩)
theorem aRun0 (t r : Nat) (scr : List (Int × Int × Unit)) (σ : Hp) : ACalls Try.prog 117 [.iface t (.ptr r 0), .nils, .fsl pickSh scr] σ (Ret (.agg [.fsl (.int .i64) [], .fsl .bool [], .int .i64 0]) σ) := by
  refine okF Try.func117 (by kernel_rfl) ?_
  intro bl1
  refine callR [] (aEach0 t r scr _) ?_
  refine StoreAt.mk 0 _ _ rfl rfl ?_
  refine LoadAt.mk 0 _ _ rfl rfl ?_
  exact .drop 0 1 (.done ⟨rfl, rfl⟩)
theorem aFinF (sv : AV) (u : Int) (dn : List Bool) (σ : Hp) (hn : dn.length ≤ 1000000) : ACalls Try.prog 102 [.agg [sv, .fsl .bool dn, .int .i64 u]] σ (Ret (.bool (dn.all id)) σ) := by
  refine okF Try.func102 (by kernel_rfl) ?_
  intro bl1
  refine LoadAt.mk 0 _ _ rfl rfl ?_
  refine loopS (S := Nat) (fun s => [(6, .fsl .bool dn), (7, .int .i64 dn.length), (8, .int .i64 s)]) (fun _ => (bl1, [sv, .fsl .bool dn, .int .i64 u]) :: σ) (fun s => s ≤ dn.length ∧ (dn.take s).all id = true) (fun s => dn.length - s) 0 ⟨⟨Nat.zero_le _, rfl⟩, ⟨rfl, rfl, rfl, trivial⟩, rfl⟩ ?_
  rintro k g ⟨hk, hall⟩
  refine bcond_dec (fun h => ?_) (fun h => ?_)
  · have h : (k : Int) < dn.length := h
    have hkl : k < dn.length := by omega
    cases hd : dn[k] with
    | true =>
      refine With.mk rfl (IdxF.mk true (by omega) ((get_some hkl).trans (congrArg some hd)) ?_)
      refine nextS (k + 1) ?_ ⟨hkl, ?_⟩ ⟨rfl, rfl, inc64 (by omega), trivial⟩ (shed_eq rfl)
      · show dn.length - (k + 1) < dn.length - k; omega
      · rw [List.take_succ_eq_append_getElem hkl, List.all_append, hall, hd]; rfl
    | false =>
      refine With.mk rfl (IdxF.mk false (by omega) ((get_some hkl).trans (congrArg some hd)) ?_)
      exact .drop 0 1 (.done ⟨congrArg AV.bool (all_no hkl hd).symm, rfl⟩)
  · have h : ¬ (k : Int) < dn.length := h
    exact .drop 0 1 (.done ⟨congrArg AV.bool (by rw [← List.take_of_length_le (show dn.length ≤ k by omega)]; exact hall.symm), rfl⟩)
theorem aAllF (dn : List Bool) (σ : Hp) (hn : dn.length ≤ 1000000) : ACalls Try.prog 103 [.fsl .bool dn] σ (Ret (.bool (dn.all id)) σ) := by
  refine okF Try.func103 (by kernel_rfl) ?_
  refine loopS (S := Nat) (fun s => [(5, .fsl .bool dn), (6, .int .i64 dn.length), (7, .int .i64 s)]) (fun _ => σ) (fun s => s ≤ dn.length ∧ (dn.take s).all id = true) (fun s => dn.length - s) 0 ⟨⟨Nat.zero_le _, rfl⟩, ⟨rfl, rfl, rfl, trivial⟩, rfl⟩ ?_
  rintro k g ⟨hk, hall⟩
  refine bcond_dec (fun h => ?_) (fun h => ?_)
  · have h : (k : Int) < dn.length := h
    have hkl : k < dn.length := by omega
    cases hd : dn[k] with
    | true =>
      refine With.mk rfl (IdxF.mk true (by omega) ((get_some hkl).trans (congrArg some hd)) ?_)
      refine nextS (k + 1) ?_ ⟨hkl, ?_⟩ ⟨rfl, rfl, inc64 (by omega), trivial⟩ (shed_eq rfl)
      · show dn.length - (k + 1) < dn.length - k; omega
      · rw [List.take_succ_eq_append_getElem hkl, List.all_append, hall, hd]; rfl
    | false =>
      refine With.mk rfl (IdxF.mk false (by omega) ((get_some hkl).trans (congrArg some hd)) ?_)
      exact .done ⟨congrArg AV.bool (all_no hkl hd).symm, rfl⟩
  · have h : ¬ (k : Int) < dn.length := h
    exact .done ⟨congrArg AV.bool (by rw [← List.take_of_length_le (show dn.length ≤ k by omega)]; exact hall.symm), rfl⟩
theorem aBools (xs ys : List Bool) (σ : Hp) (h1 : xs.length ≤ 1000000) : ACalls Try.prog 101 [.fsl .bool xs, .fsl .bool ys] σ (Ret (.bool (decide (xs = ys))) σ) := by
  refine okF Try.func101 (by kernel_rfl) ?_
  refine bcond_split (fun hl => ?_) (fun hl => ?_)
  · have : xs ≠ ys := by rintro rfl; simp at hl
    exact .done ⟨by simp [this]; rfl, rfl⟩
  · have hl : (!decide ((xs.length : Int) = (ys.length : Int))) = false := hl
    have hlen : xs.length = ys.length := by simp at hl; omega
    refine loopS (S := Nat) (fun k => [(0, .fsl .bool xs), (1, .fsl .bool ys), (12, .int .i64 xs.length), (13, .int .i64 k)]) (fun _ => σ) (fun k => k ≤ xs.length ∧ xs.take k = ys.take k) (fun k => xs.length - k) 0 ⟨⟨Nat.zero_le _, rfl⟩, ⟨rfl, rfl, rfl, rfl, trivial⟩, rfl⟩ ?_
    rintro k g ⟨hk, htk⟩
    refine bcond_dec (fun hlt => ?_) (fun hge => ?_)
    · have hk' : k < xs.length := by omega
      have hk'' : k < ys.length := by omega
      refine DrawW.quiet (by kernel_rfl) ?_
      refine With.mk rfl (IdxF.mk xs[k] (by omega) (get_some hk') ?_)
      refine With.mk rfl (IdxF.mk ys[k] (by omega) (get_some hk'') ?_)
      refine bcond_split (fun hx => ?_) (fun hx => ?_)
      · have : xs ≠ ys := by rintro rfl; simp at hx
        exact .done ⟨by simp [this]; rfl, rfl⟩
      · have hx' : xs[k] = ys[k] := by simpa using hx
        refine next (k + 1) (Nat.sub_lt_sub_left hk' (Nat.lt_succ_self k)) ⟨hk', ?_⟩ ⟨rfl, rfl, rfl, inc64 (by omega), trivial⟩ rfl
        rw [List.take_succ_eq_append_getElem hk', List.take_succ_eq_append_getElem hk'', htk, hx']
    · obtain rfl : k = xs.length := by omega
      have : xs = ys := by
        rw [List.take_length] at htk
        rw [htk, hlen, List.take_length]
      exact .done ⟨by simp [this]; rfl, rfl⟩
theorem aInts7 (xs ys : List Int) (σ : Hp) (h1 : xs.length ≤ 1000000) : ACalls Try.prog 26 [.fsl (.int .i64) xs, .fsl (.int .i64) ys] σ (Ret (.bool (decide (xs = ys))) σ) := by
  refine okF Try.func26 (by kernel_rfl) ?_
  refine bcond_split (fun hl => ?_) (fun hl => ?_)
  · have : xs ≠ ys := by rintro rfl; simp at hl
    exact .done ⟨by simp [this]; rfl, rfl⟩
  · have hl : (!decide ((xs.length : Int) = (ys.length : Int))) = false := hl
    have hlen : xs.length = ys.length := by simp at hl; omega
    refine loopS (S := Nat) (fun k => [(0, .fsl (.int .i64) xs), (1, .fsl (.int .i64) ys), (12, .int .i64 xs.length), (13, .int .i64 k)]) (fun _ => σ) (fun k => k ≤ xs.length ∧ xs.take k = ys.take k) (fun k => xs.length - k) 0 ⟨⟨Nat.zero_le _, rfl⟩, ⟨rfl, rfl, rfl, rfl, trivial⟩, rfl⟩ ?_
    rintro k g ⟨hk, htk⟩
    refine bcond_dec (fun hlt => ?_) (fun hge => ?_)
    · have hk' : k < xs.length := by omega
      have hk'' : k < ys.length := by omega
      refine DrawW.quiet (by kernel_rfl) ?_
      refine With.mk rfl (IdxF.mk xs[k] (by omega) (get_some hk') ?_)
      refine With.mk rfl (IdxF.mk ys[k] (by omega) (get_some hk'') ?_)
      refine bcond_split (fun hx => ?_) (fun hx => ?_)
      · have : xs ≠ ys := by rintro rfl; simp at hx
        exact .done ⟨by simp [this]; rfl, rfl⟩
      · have hx' : xs[k] = ys[k] := by simpa using hx
        refine next (k + 1) (Nat.sub_lt_sub_left hk' (Nat.lt_succ_self k)) ⟨hk', ?_⟩ ⟨rfl, rfl, rfl, inc64 (by omega), trivial⟩ rfl
        rw [List.take_succ_eq_append_getElem hk', List.take_succ_eq_append_getElem hk'', htk, hx']
    · obtain rfl : k = xs.length := by omega
      have : xs = ys := by
        rw [List.take_length] at htk
        rw [htk, hlen, List.take_length]
      exact .done ⟨by simp [this]; rfl, rfl⟩
theorem aAlike (r r2 : Nat) (l : List Ins) (s : PS) (σ : Hp) : ACalls Try.prog 100 [.ptr r 0, .ptr r2 0] ((r, pgC l s) :: (r2, pgC l s) :: σ) (Ret (.bool true) ((r, pgC l s) :: (r2, pgC l s) :: σ)) := by
  refine okF Try.func100 (by kernel_rfl) ?_
  refine callR [] (aRegs r l s _) ?_
  intro b
  refine StoreAt.mk 0 _ _ rfl rfl ?_
  refine .quiet (by kernel_rfl) ?_
  refine With.mk (by decide) ?_
  refine LoadAt.mk 0 _ _ rfl rfl ?_
  refine LoadAt.mk 2 _ _ rfl rfl ?_
  refine bcond_dec (fun _ => ?_) (fun h => absurd rfl h)
  refine With.mk (by decide) ?_
  refine LoadAt.mk 0 _ _ rfl rfl ?_
  refine LoadAt.mk 2 _ _ rfl rfl ?_
  refine bcond_dec (fun _ => ?_) (fun h => absurd rfl h)
  refine With.mk (by decide) ?_
  refine LoadAt.mk 0 _ _ rfl rfl ?_
  refine LoadAt.mk 2 _ _ rfl rfl ?_
  refine bcond_dec (fun _ => ?_) (fun h => absurd rfl h)
  refine With.mk (by decide) ?_
  refine LoadAt.mk 0 _ _ rfl rfl ?_
  refine LoadAt.mk 2 _ _ rfl rfl ?_
  refine bcond_dec (fun _ => ?_) (fun h => absurd rfl h)
  refine callQ [1] (aAt r l s _) ?_
  refine LoadAt.mk 2 _ _ rfl rfl ?_
  refine bcond_dec (fun _ => ?_) (fun h => absurd rfl h)
  refine callQ [1] (aDone r l s _) ?_
  refine callQ [2] (aRDone r2 l s _) ?_
  refine bcond_split (fun _ => ?_) (fun h => absurd h (by simp))
  exact .drop 0 1 (.done ⟨rfl, rfl⟩)
theorem aInstrs25 (l : List Ins) (σ : Hp) (hl : l.length ≤ 1000) : ACalls Try.prog 164 [.fsl instrSh l] σ (Ret (.fsl instrSh l) σ) := by
  refine okF Try.func164 (by kernel_rfl) ?_
  refine .wrap 3 _ rfl rfl ?_
  refine loopS (S := Nat × AV × Hp) (fun s => [(3, .via s.2.1), (6, .fsl instrSh l), (7, .int .i64 l.length), (8, .int .i64 s.1)]) (fun s => s.2.2 ++ σ) (fun s => s.1 ≤ l.length ∧ Acc 4 s.1 s.2.1 s.2.2 ((l.take s.1).flatMap insC)) (fun s => l.length - s.1) (0, .nils, []) ⟨⟨Nat.zero_le _, .nil⟩, ⟨rfl, rfl, rfl, rfl, trivial⟩, rfl⟩ ?_
  rintro ⟨k, v, acc⟩ g ⟨hk, hs⟩
  have hk : k ≤ l.length := hk
  have hs : Acc 4 k v acc ((l.take k).flatMap insC) := hs
  refine bcond_dec (fun hlt => ?_) (fun hge => ?_)
  · have hlt : (k : Int) < l.length := hlt
    have hlt : k < l.length := by omega
    refine With.mk rfl (IdxF.mk l[k] (by omega) (get_some hlt) ?_)
    intro b
    refine StoreAt.mk 0 _ _ rfl rfl ?_
    refine LoadAt.mk 0 _ _ rfl rfl ?_
    refine LoadAt.mk 0 _ _ rfl rfl ?_
    refine LoadAt.mk 0 _ _ rfl rfl ?_
    refine LoadAt.mk 0 _ _ rfl rfl ?_
    intro b1
    refine append_acc [_, _] hs (.mref 0 b1 0 1 _ rfl (Nat.le_of_ble_eq_true rfl)) rfl (by omega) (by decide) (by decide) (fun v' acc' h' => ?_)
    refine nextS (k + 1, v', acc') ?_ ⟨hlt, ?_⟩ ⟨rfl, rfl, rfl, inc64 (by omega), trivial⟩ (.drop 0 2 (shed_eq rfl))
    · show l.length - (k + 1) < l.length - k; omega
    · show Acc 4 (k + 1) v' acc' ((l.take (k + 1)).flatMap insC)
      rw [flat_take hlt]; exact h'
  · have hge : ¬ (k : Int) < l.length := hge
    obtain rfl : k = l.length := by omega
    rw [List.take_length] at hs
    exact fin_acc (s := instrSh) [] hs rfl rfl (by decide) (.done ⟨rfl, rfl⟩)

theorem goS_skip {A : Type} {step : A → Nat → Int → A × Bool} {tell : A → Nat → A} {n : Nat} {scr : List (Int × Int × Unit)} {a : A} {st : List Int} {dn : List Bool} {us i : Nat} {pw pd : Int} {pu : Unit} (hall : dn.all id = false) (hul : us < scr.length) (hpk : (pw, pd, pu) = scr[us]) (hi : i = whoS pw n) (hin : i < dn.length) (hd : dn[i] = true) :
    goS step tell n (scr.drop us) ⟨a, st, dn, us⟩ = goS step tell n (scr.drop (us + 1)) ⟨tell a (us + 1), st, dn, us + 1⟩ := by
  rw [List.drop_eq_getElem_cons hul, ← hpk, goS_next _ _ hall]
  unfold pickS
  dsimp only
  rw [← hi, if_pos (getD_at hin hd)]
theorem goS_step {A : Type} {step : A → Nat → Int → A × Bool} {tell : A → Nat → A} {n : Nat} {scr : List (Int × Int × Unit)} {a : A} {st : List Int} {dn : List Bool} {us i : Nat} {pw pd : Int} {pu : Unit} (hall : dn.all id = false) (hul : us < scr.length) (hpk : (pw, pd, pu) = scr[us]) (hi : i = whoS pw n) (hin : i < dn.length) (hd : dn[i] = false) :
    goS step tell n (scr.drop us) ⟨a, st, dn, us⟩ = goS step tell n (scr.drop (us + 1)) ⟨tell (step a i pd).1 (us + 1), st.set i (wr (st.getD i 0 + 1)), dn.set i (step a i pd).2, us + 1⟩ := by
  rw [List.drop_eq_getElem_cons hul, ← hpk, goS_next _ _ hall]
  unfold pickS
  dsimp only
  rw [← hi, if_neg (by rw [getD_at hin hd]; decide)]
theorem aRStepAt {m q : Nat} {rs : List Nat} {L : List Mach} {ws : List Int} {i : Nat} {d : Int} (σ : Hp) (hi : i < rs.length) (hl : L.length = rs.length) (hs : ∀ x ∈ L, x.1.length ≤ 1000000) :
    ACalls Try.prog 74 [.ptr rs[i] 0, .ptr m 0, .int .i64 d] (reH m q ws (blkO (rs.map some) L ++ σ)) (Ret (.bool (stepO (L, ws) i d).2) (reH m q (stepO (L, ws) i d).1.2 (blkO (rs.map some) (stepO (L, ws) i d).1.1 ++ σ))) := by
  have hiL : i < L.length := by omega
  have hir : i < (rs.map some).length := by simpa using hi
  have hz : i < ((rs.map some).zip L).length := by simp; omega
  have hzi : ((rs.map some).zip L)[i] = (some rs[i], L[i]) := by simp
  have hri : (rs.map some)[i] = some rs[i] := by simp
  have e : stepO (L, ws) i d = ((L.set i (L[i].1, (psStep listOps L[i].1 L[i].2 ws d).1), (psStep listOps L[i].1 L[i].2 ws d).2.1), (psStep listOps L[i].1 L[i].2 ws d).2.2) := by
    unfold stepO
    show (match L[i]? with | some x => _ | none => _) = _
    rw [List.getElem?_eq_getElem hiL]
  rw [e]
  refine (aRStepP (m := m) (q := q) ((((rs.map some).zip L).eraseIdx i).flatMap pmB ++ σ) (hs _ (List.getElem_mem hiL)) rfl).perm2 ?_ ?_
  · have h1 := flatM_perm (f := pmB) hz
    rw [hzi] at h1
    refine (front_perm' [_, _] [(rs[i], pgC L[i].1 L[i].2)] _).trans (List.Perm.append_left [_, _] ?_)
    show ([(rs[i], pgC L[i].1 L[i].2)] ++ ((((rs.map some).zip L).eraseIdx i).flatMap pmB ++ σ)).Perm (blkO (rs.map some) L ++ σ)
    rw [← List.append_assoc]
    exact List.Perm.append_right σ h1.symm
  · have h1 := flatM_set (f := pmB) hz (some rs[i], (L[i].1, (psStep listOps L[i].1 L[i].2 ws d).1))
    refine List.Perm.trans (List.Perm.append_left [_, _] ?_) (front_perm' [_, _] [(rs[i], pgC L[i].1 (psStep listOps L[i].1 L[i].2 ws d).1)] _).symm
    show (blkO (rs.map some) (L.set i _) ++ σ).Perm ([(rs[i], pgC L[i].1 (psStep listOps L[i].1 L[i].2 ws d).1)] ++ ((((rs.map some).zip L).eraseIdx i).flatMap pmB ++ σ))
    rw [← List.append_assoc]
    unfold blkO
    rw [zip_set _ _ _ _ hir, hri]
    exact List.Perm.append_right σ h1
theorem p_get {rs : List Nat} {i : Nat} (h : i < rs.length) : (rs.map fun r => AV.ptr r 0)[0 + ((i : Int)).toNat * 1]? = some (.ptr rs[i] 0) := by
  rw [show 0 + ((i : Int)).toNat * 1 = i by omega]
  simp [h]
/-- The reference's Run. -/
def RunPost (m q : Nat) (rs : List Nat) (scr : List (Int × Int × Unit)) (a : List Mach × List Int) (fr σ : Hp) : AV → Hp → Prop := fun x σ' => ∃ R : SSt (List Mach × List Int), R = goS stepO (fun a _ => a) rs.length scr ⟨a, List.replicate rs.length 0, List.replicate rs.length false, 0⟩ ∧ x = .agg [.fsl (.int .i64) R.st, .fsl .bool R.dn, .int .i64 R.us] ∧ σ' = fr ++ (reH m q R.a.2 (blkO (rs.map some) R.a.1 ++ σ))
theorem aRunR (m q lb : Nat) (rs : List Nat) (scr : List (Int × Int × Unit)) (L : List Mach) (ws : List Int) (σ : Hp) (hn : rs.length ≤ 100000) (hL : L.length = rs.length) (hs : scr.length ≤ 100000) (hl : ∀ x ∈ L, x.1.length ≤ 1000000) :
    ACalls Try.prog 99 [.ptr m 0, .mref lb 0 rs.length 1, .fsl pickSh scr] ((lb, rs.map fun r => .ptr r 0) :: reH m q ws (blkO (rs.map some) L ++ σ)) (RunPost m q rs scr (L, ws) [(lb, rs.map fun r => .ptr r 0)] σ) := by
  refine okF Try.func99 (by kernel_rfl) ?_
  intro bl1
  refine .meet (S := Nat × Nat × Nat) (fun s => [(0, .ptr m 0), (1, .mref lb 0 rs.length 1), (2, .fsl pickSh scr), (6, .ptr bl1 0), (7, .ptr s.1 0)])
    (fun s => (s.1, [.mref s.2.1 0 rs.length 1, .mref s.2.2 0 rs.length 1, .int .i64 0]) :: (s.2.1, repC [.int .i64 0] rs.length) :: (s.2.2, repC [.bool false] rs.length) :: (bl1, [.nils, .nils, .int .i64 0]) :: (lb, rs.map fun r => .ptr r 0) :: reH m q ws (blkO (rs.map some) L ++ σ)) (by kernel_rfl) ?_ ?_
  · repeat' first
      | exact Meet.mk (_, _, _) ⟨rfl, rfl, rfl, rfl, rfl, trivial⟩ (shed_eq rfl)
      | exact Meet.mk (_, _, _) ⟨rfl, rfl, rfl, rfl, rfl, trivial⟩ (.pull [2, 2, 1] (shed_eq rfl))
      | exact Meet.mk (_, _, _) ⟨rfl, rfl, rfl, rfl, rfl, trivial⟩ (.pull [2, 1, 2] (shed_eq rfl))
      | exact Meet.mk (_, _, _) ⟨rfl, rfl, rfl, rfl, rfl, trivial⟩ (.pull [2, 2, 0] (shed_eq rfl))
      | exact Meet.mk (_, _, _) ⟨rfl, rfl, rfl, rfl, rfl, trivial⟩ (.pull [2, 1, 1] (shed_eq rfl))
      | exact Meet.mk (_, _, _) ⟨rfl, rfl, rfl, rfl, rfl, trivial⟩ (.pull [2, 1, 0] (shed_eq rfl))
      | refine And.intro ?_ ?_
      | refine With.mk ⟨by omega, by omega, by omega, by decide⟩ ?_
      | refine StoreAt.mk 0 _ _ rfl rfl ?_
      | refine StoreAt.mk 1 _ _ rfl rfl ?_
      | refine StoreAt.mk 2 _ _ rfl rfl ?_
      | intro b
  rintro ⟨br, ba, bd⟩ g
  obtain ⟨R, hR⟩ : ∃ R, R = goS stepO (fun a _ => a) rs.length scr ⟨(L, ws), List.replicate rs.length 0, List.replicate rs.length false, 0⟩ := ⟨_, rfl⟩
  refine loopS (S := List Mach × List Int × List Int × List Bool × Nat) (fun s => [(0, .ptr m 0), (1, .mref lb 0 rs.length 1), (6, .ptr bl1 0), (7, .ptr br 0), (18, .fsl pickSh scr), (19, .int .i64 scr.length), (20, .int .i64 s.2.2.2.2)])
    (fun s => (br, [.mref ba 0 rs.length 1, .mref bd 0 rs.length 1, .int .i64 s.2.2.2.2]) :: (ba, stC s.2.2.1) :: (bd, boC s.2.2.2.1) :: (bl1, [.nils, .nils, .int .i64 0]) :: (lb, rs.map fun r => .ptr r 0) :: reH m q s.2.1 (blkO (rs.map some) s.1 ++ σ))
    (fun s => s.2.2.2.2 ≤ scr.length ∧ s.1.length = rs.length ∧ (∀ x ∈ s.1, x.1.length ≤ 1000000) ∧ s.2.2.1.length = rs.length ∧ s.2.2.2.1.length = rs.length ∧ goS stepO (fun a _ => a) rs.length (scr.drop s.2.2.2.2) ⟨(s.1, s.2.1), s.2.2.1, s.2.2.2.1, s.2.2.2.2⟩ = R)
    (fun s => scr.length - s.2.2.2.2) (L, ws, List.replicate rs.length 0, List.replicate rs.length false, 0) ⟨⟨Nat.zero_le _, hL, hl, List.length_replicate, List.length_replicate, hR.symm⟩, ⟨rfl, rfl, rfl, rfl, rfl, rfl, rfl, trivial⟩, by rw [← rep_boC, ← rep_stC]; rfl⟩ ?_
  clear hL hl
  rintro ⟨L, ws, st, dn, us⟩ g ⟨hus, hL, hl, hsl, hdl, hgo⟩
  have hus : us ≤ scr.length := hus
  have hL : L.length = rs.length := hL
  have hsl : st.length = rs.length := hsl
  have hdl : dn.length = rs.length := hdl
  have hgo : goS stepO (fun a _ => a) rs.length (scr.drop us) ⟨(L, ws), st, dn, us⟩ = R := hgo
  have hF := fun σ => aAllR bd dn σ (by omega)
  rw [hdl] at hF
  refine bcond_dec (fun hlt => ?_) (fun hge => ?_)
  · have hul : (us : Int) < scr.length := hlt
    have hul : us < scr.length := by omega
    obtain ⟨pk, hpk⟩ : ∃ pk, pk = scr[us] := ⟨_, rfl⟩
    obtain ⟨pw, pd, pu⟩ := pk
    refine With.mk rfl (IdxF.mk (pw, pd, pu) (by omega) ((get_some hul).trans (congrArg some hpk.symm)) ?_)
    intro bl2
    refine StoreAt.mk 0 _ _ rfl rfl ?_
    refine LoadAt.mk 1 _ _ rfl rfl ?_
    refine callR [3] (hF _) ?_
    cases hall : dn.all id with
    | true =>
      have hE : R = ⟨(L, ws), st, dn, us⟩ := by rw [← hgo]; exact goS_all _ hall
      refine LoadAt.mk 2 _ _ rfl rfl ?_
      refine StoreAt.mk 4 _ _ rfl rfl ?_
      refine LoadAt.mk 4 _ _ rfl rfl ?_
      refine .frz 3 ba 0 rs.length 1 _ (.int .i64) st rfl (stC_frz hsl) ⟨hsl, rfl, by decide⟩ (frzA3 .here (.refl _) (.refl _) rfl rfl rfl) ?_
      refine .frz 0 bd 0 rs.length 1 _ .bool dn rfl (boC_frz hdl) ⟨hdl, rfl, by decide⟩ (frzA3 (.refl _) .here (.refl _) rfl rfl rfl) ?_
      exact .drop 0 3 (.done ⟨R, hR, by rw [hE], by rw [hE]; rfl⟩)
    | false =>
      have hn0 : 0 < rs.length := by
        rcases Nat.eq_zero_or_pos rs.length with h0 | h0
        · rw [List.length_eq_zero_iff.1 (hdl.trans h0)] at hall; cases hall
        · exact h0
      obtain ⟨i, hi⟩ : ∃ i, i = whoS pw rs.length := ⟨_, rfl⟩
      have hin : i < rs.length := by rw [hi]; exact whoS_lt hn0
      have hinc : AV.int .i64 (IntKind.i64.wrap ((us : Int) + 1)) = AV.int .i64 ((us + 1 : Nat) : Int) := inc64 (by omega)
      have hWho := fun σ => aWhoR pw pd rs.length σ (by omega)
      rw [← hi] at hWho
      refine LoadAt.mk 1 _ _ rfl rfl ?_
      refine callR [] (hWho _) ?_
      refine LoadAt.mk 2 _ _ rfl rfl ?_
      refine With.mk ⟨rfl, by omega, by omega⟩ ?_
      cases hd : dn[i] with
      | true =>
        refine LoadAt.mk 0 _ _ rfl (boC_get (by omega) hd) ?_
        refine LoadAt.mk 2 _ _ rfl rfl ?_
        refine StoreAt.mk 2 _ _ rfl rfl ?_
        refine nextS (L, ws, st, dn, us + 1) ?_ ⟨hul, hL, hl, hsl, hdl, ?_⟩ ⟨rfl, rfl, rfl, rfl, rfl, rfl, hinc, trivial⟩ (.drop 1 1 (.pull [2, 2, 0] (shed_eq ?_)))
        · show scr.length - (us + 1) < scr.length - us; omega
        · exact (goS_skip hall hul hpk hi (by omega) hd).symm.trans hgo
        · show _ = (br, [AV.mref ba 0 rs.length 1, AV.mref bd 0 rs.length 1, AV.int .i64 ((us + 1 : Nat) : Int)]) :: _
          rw [← hinc]
          rfl
      | false =>
        refine LoadAt.mk 0 _ _ rfl (boC_get (by omega) hd) ?_
        refine .sched [] (.one 0 false (.one 2 false (.one 3 false (.one 4 false (.one 5 false (.one 6 false (.one 7 false (.one 8 false (.one 9 false (.alt 1 (.one 10 false (.one 11 false (.one 12 false .stop))) (.one 10 false (.one 1 false (.one 11 false (.one 12 false .stop)))))))))))))) (by kernel_rfl) ?_
        refine With.mk ⟨rfl, by omega, by omega⟩ ?_
        refine LoadAt.mk 5 _ _ rfl (p_get hin) ?_
        refine LoadAt.mk 1 _ _ rfl rfl ?_
        refine And.intro ?_ ?_
        · refine LoadAt.mk 2 _ _ rfl rfl ?_
          refine .perm (σ2 := reH m q ws (blkO (rs.map some) L ++ ([(bd, boC dn), (bl2, [.int .i64 pw, .int .i64 pd]), (br, [.mref ba 0 rs.length 1, .mref bd 0 rs.length 1, .int .i64 us]), (ba, stC st), (bl1, [.nils, .nils, .int .i64 0]), (lb, rs.map fun r => .ptr r 0)] ++ σ))) _ (front_perm' [_, _, _, _, _, _] (reH m q ws (blkO (rs.map some) L)) σ) (aRStepAt _ hin hL hl) ?_
          rintro _ _ ⟨rfl, rfl⟩
          refine ⟨_, (front_perm' [_, _, _, _, _, _] (reH m q (stepO (L, ws) i pd).1.2 (blkO (rs.map some) (stepO (L, ws) i pd).1.1)) σ).symm, ?_⟩
          refine With.mk ⟨rfl, by omega, by omega⟩ ?_
          refine StoreAt.mk 0 _ _ rfl (boC_put _ (by omega)) ?_
          refine LoadAt.mk 2 _ _ rfl rfl ?_
          refine With.mk ⟨rfl, by omega, by omega⟩ ?_
          refine LoadAt.mk 3 _ _ rfl (stC_get (by omega)) ?_
          refine With.mk ⟨rfl, by omega, by omega⟩ ?_
          refine StoreAt.mk 3 _ _ rfl (stC_put _ (by omega)) ?_
          refine LoadAt.mk 2 _ _ rfl rfl ?_
          refine StoreAt.mk 2 _ _ rfl rfl ?_
          have hok := step_ok (a := (L, ws)) (i := i) (d := pd) ⟨hL, hl⟩
          refine nextS ((stepO (L, ws) i pd).1.1, (stepO (L, ws) i pd).1.2, (st.set i (wr (st.getD i 0 + 1))), (dn.set i (stepO (L, ws) i pd).2), us + 1) ?_ ⟨hul, hok.1, hok.2, ((List.length_set ..).trans hsl), ((List.length_set ..).trans hdl), ?_⟩ ⟨rfl, rfl, rfl, rfl, rfl, rfl, hinc, trivial⟩ (.drop 1 1 (.pull [2, 2, 0] (shed_eq ?_)))
          · show scr.length - (us + 1) < scr.length - us; omega
          · exact (goS_step hall hul hpk hi (by omega) hd).symm.trans hgo
          · show _ = (br, [AV.mref ba 0 rs.length 1, AV.mref bd 0 rs.length 1, AV.int .i64 ((us + 1 : Nat) : Int)]) :: _
            rw [← hinc]
            rfl
        · refine .perm (σ2 := reH m q ws (blkO (rs.map some) L ++ ([(bd, boC dn), (bl2, [.int .i64 pw, .int .i64 pd]), (br, [.mref ba 0 rs.length 1, .mref bd 0 rs.length 1, .int .i64 us]), (ba, stC st), (bl1, [.nils, .nils, .int .i64 0]), (lb, rs.map fun r => .ptr r 0)] ++ σ))) _ (front_perm' [_, _, _, _, _, _] (reH m q ws (blkO (rs.map some) L)) σ) (aRStepAt _ hin hL hl) ?_
          rintro _ _ ⟨rfl, rfl⟩
          refine ⟨_, (front_perm' [_, _, _, _, _, _] (reH m q (stepO (L, ws) i pd).1.2 (blkO (rs.map some) (stepO (L, ws) i pd).1.1)) σ).symm, ?_⟩
          refine LoadAt.mk 2 _ _ rfl rfl ?_
          refine With.mk ⟨rfl, by omega, by omega⟩ ?_
          refine StoreAt.mk 0 _ _ rfl (boC_put _ (by omega)) ?_
          refine LoadAt.mk 2 _ _ rfl rfl ?_
          refine With.mk ⟨rfl, by omega, by omega⟩ ?_
          refine LoadAt.mk 3 _ _ rfl (stC_get (by omega)) ?_
          refine With.mk ⟨rfl, by omega, by omega⟩ ?_
          refine StoreAt.mk 3 _ _ rfl (stC_put _ (by omega)) ?_
          refine LoadAt.mk 2 _ _ rfl rfl ?_
          refine StoreAt.mk 2 _ _ rfl rfl ?_
          have hok := step_ok (a := (L, ws)) (i := i) (d := pd) ⟨hL, hl⟩
          refine nextS ((stepO (L, ws) i pd).1.1, (stepO (L, ws) i pd).1.2, (st.set i (wr (st.getD i 0 + 1))), (dn.set i (stepO (L, ws) i pd).2), us + 1) ?_ ⟨hul, hok.1, hok.2, ((List.length_set ..).trans hsl), ((List.length_set ..).trans hdl), ?_⟩ ⟨rfl, rfl, rfl, rfl, rfl, rfl, hinc, trivial⟩ (.drop 1 1 (.pull [2, 2, 0] (shed_eq ?_)))
          · show scr.length - (us + 1) < scr.length - us; omega
          · exact (goS_step hall hul hpk hi (by omega) hd).symm.trans hgo
          · show _ = (br, [AV.mref ba 0 rs.length 1, AV.mref bd 0 rs.length 1, AV.int .i64 ((us + 1 : Nat) : Int)]) :: _
            rw [← hinc]
            rfl
  · have hge : ¬ (us : Int) < scr.length := hge
    refine LoadAt.mk 0 _ _ rfl rfl ?_
    refine StoreAt.mk 3 _ _ rfl rfl ?_
    refine LoadAt.mk 3 _ _ rfl rfl ?_
    have hE : R = ⟨(L, ws), st, dn, us⟩ := by rw [← hgo, show us = scr.length by omega, List.drop_length]; rfl
    refine .frz 1 ba 0 rs.length 1 _ (.int .i64) st rfl (stC_frz hsl) ⟨hsl, rfl, by decide⟩ (frzA3 .here (.refl _) (.refl _) rfl rfl rfl) ?_
    refine .frz 1 bd 0 rs.length 1 _ .bool dn rfl (boC_frz hdl) ⟨hdl, rfl, by decide⟩ (frzA3 (.refl _) .here (.refl _) rfl rfl rfl) ?_
    exact .drop 0 2 (.done ⟨R, hR, by rw [hE], by rw [hE]; rfl⟩)
end Go.Proofs.Ytldiocdjgbehcaa
