/-
  sched.Run; the reference's Run; soughlaw25's instrs, alike, bools.
-/
import Derived.Test.YtiihcgmnmcdcfaaSchW
import Derived.Test.YtiihcgmnmcdcfaaCellP
namespace Go.Proofs.Ytiihcgmnmcdcfaa
open Go.RowKit
set_option maxRecDepth 100000
set_option maxHeartbeats 4000000
abbrev pickSh : Sh := .field (.int .i64) (.field (.int .i64) .nil)
theorem aRunS (W : AWorld) (lb : Nat) (scr : List (Int × Int × Unit)) (s0 : W.S) (σ : Hp) (hn : W.L.length ≤ 100000) (hs : scr.length ≤ 100000) (hf : W.free (W.abs s0)) (htell : ∀ a k, W.tell a k = a) :
    ACalls Try.prog 45 [W.mv, .mref lb 0 W.L.length 1, .fsl pickSh scr] ((lb, W.L) :: (W.B s0 ++ σ)) (EachPost W scr (W.abs s0) [(lb, W.L)] σ) := by
  refine okF Try.func45 (by kernel_rfl) ?_
  intro bl1
  refine .perm _ (List.perm_middle (a := (bl1, [.nils, .nils, .int .i64 0])) (l₁ := (lb, W.L) :: W.B s0) (l₂ := σ)) (aEach W lb scr s0 ((bl1, [.nils, .nils, .int .i64 0]) :: σ) hn hs hf htell) ?_
  rintro x σ' ⟨s', h1, rfl, rfl⟩
  refine ⟨_, (List.perm_middle (a := (bl1, [.nils, .nils, .int .i64 0])) (l₁ := (lb, W.L) :: W.B s') (l₂ := σ)).symm, ?_⟩
  refine StoreAt.mk 0 _ _ rfl rfl ?_
  refine LoadAt.mk 0 _ _ rfl rfl ?_
  exact .drop 0 1 (.done ⟨s', h1, rfl, rfl⟩)
theorem aEach0 (t r : Nat) (scr : List (Int × Int × Unit)) (σ : Hp) : ACalls Try.prog 81 [.iface t (.ptr r 0), .nils, .fsl pickSh scr, .nilfn] σ (Ret (.agg [.fsl (.int .i64) [], .fsl .bool [], .int .i64 0]) σ) := by
  refine okF Try.func81 (by kernel_rfl) ?_
  intro bl1
  refine .meet (S := Nat × Nat × Nat) (fun s => [(0, .iface t (.ptr r 0)), (1, .nils), (2, .fsl pickSh scr), (3, .nilfn), (8, .ptr bl1 0), (9, .ptr s.1 0)])
    (fun s => (s.1, [.mref s.2.1 0 0 1, .mref s.2.2 0 0 1, .int .i64 0]) :: (s.2.1, []) :: (s.2.2, []) :: (bl1, [.nils, .nils, .int .i64 0]) :: σ) (by kernel_rfl) ?_ ?_
  · repeat' first
      | exact Meet.mk (_, _, _) ⟨rfl, rfl, rfl, rfl, rfl, rfl, trivial⟩ (shed_eq rfl)
      | exact Meet.mk (_, _, _) ⟨rfl, rfl, rfl, rfl, rfl, rfl, trivial⟩ (.pull [2, 2, 1] (shed_eq rfl))
      | exact Meet.mk (_, _, _) ⟨rfl, rfl, rfl, rfl, rfl, rfl, trivial⟩ (.pull [2, 1, 2] (shed_eq rfl))
      | exact Meet.mk (_, _, _) ⟨rfl, rfl, rfl, rfl, rfl, rfl, trivial⟩ (.pull [2, 2, 0] (shed_eq rfl))
      | exact Meet.mk (_, _, _) ⟨rfl, rfl, rfl, rfl, rfl, rfl, trivial⟩ (.pull [2, 1, 1] (shed_eq rfl))
      | exact Meet.mk (_, _, _) ⟨rfl, rfl, rfl, rfl, rfl, rfl, trivial⟩ (.pull [2, 1, 0] (shed_eq rfl))
      | refine And.intro ?_ ?_
      | refine With.mk ⟨by omega, by omega, by omega, by decide⟩ ?_
      | refine StoreAt.mk 0 _ _ rfl rfl ?_
      | refine StoreAt.mk 1 _ _ rfl rfl ?_
      | refine StoreAt.mk 2 _ _ rfl rfl ?_
      | intro b
  rintro ⟨br, ba, bd⟩ g
  refine callR [] (aOr _ _ _) ?_
  refine loopS (S := Unit) (fun s => [(0, .iface t (.ptr r 0)), (1, .nils), (2, .fsl pickSh scr), (3, .nilfn), (8, .ptr bl1 0), (9, .ptr br 0), (23, .nils), (24, .int .i64 0), (25, .int .i64 0)])
    (fun s => (br, [.mref ba 0 0 1, .mref bd 0 0 1, .int .i64 0]) :: (ba, []) :: (bd, []) :: (bl1, [.nils, .nils, .int .i64 0]) :: σ) (fun s => True) (fun s => 0) () ⟨trivial, ⟨rfl, rfl, rfl, rfl, rfl, rfl, rfl, rfl, rfl, trivial⟩, rfl⟩ ?_
  intro _ g _
  have hF := fun σ => aFinS (.mref ba 0 0 1) 0 bd [] σ (by decide)
  refine LoadAt.mk 0 _ _ rfl rfl ?_
  refine bcond_dec (fun c1 => ?_) (fun c1 => ?_)
  · have c1 : 0 = (↑scr.length : Int) := c1
    refine LoadAt.mk 0 _ _ rfl rfl ?_
    refine StoreAt.mk 3 _ _ rfl rfl ?_
    refine LoadAt.mk 3 _ _ rfl rfl ?_
    refine .frz 1 ba 0 0 1 _ (.int .i64) ([] : List Int) rfl rfl ⟨rfl, rfl, by decide⟩ (frzA3 .here (.refl _) (.refl _) rfl rfl rfl) ?_
    refine .frz 1 bd 0 0 1 _ .bool ([] : List Bool) rfl rfl ⟨rfl, rfl, by decide⟩ (frzA3 (.refl _) .here (.refl _) rfl rfl rfl) ?_
    exact .drop 0 2 (.done ⟨rfl, rfl⟩)
  · have c1 : ¬ (0 = (↑scr.length : Int)) := c1
    refine LoadAt.mk 0 _ _ rfl rfl ?_
    refine callR [2] (hF _) ?_
    refine LoadAt.mk 1 _ _ rfl rfl ?_
    refine StoreAt.mk 3 _ _ rfl rfl ?_
    refine LoadAt.mk 3 _ _ rfl rfl ?_
    refine .frz 2 ba 0 0 1 _ (.int .i64) ([] : List Int) rfl rfl ⟨rfl, rfl, by decide⟩ (frzA3 .here (.refl _) (.refl _) rfl rfl rfl) ?_
    refine .frz 0 bd 0 0 1 _ .bool ([] : List Bool) rfl rfl ⟨rfl, rfl, by decide⟩ (frzA3 (.refl _) .here (.refl _) rfl rfl rfl) ?_
    exact .drop 0 2 (.done ⟨rfl, rfl⟩)
theorem aRun0 (t r : Nat) (scr : List (Int × Int × Unit)) (σ : Hp) : ACalls Try.prog 45 [.iface t (.ptr r 0), .nils, .fsl pickSh scr] σ (Ret (.agg [.fsl (.int .i64) [], .fsl .bool [], .int .i64 0]) σ) := by
  refine okF Try.func45 (by kernel_rfl) ?_
  intro bl1
  refine callR [] (aEach0 t r scr _) ?_
  refine StoreAt.mk 0 _ _ rfl rfl ?_
  refine LoadAt.mk 0 _ _ rfl rfl ?_
  exact .drop 0 1 (.done ⟨rfl, rfl⟩)
theorem aFinF (sv : AV) (u : Int) (dn : List Bool) (σ : Hp) (hn : dn.length ≤ 1000000) : ACalls Try.prog 49 [.agg [sv, .fsl .bool dn, .int .i64 u]] σ (Ret (.bool (dn.all id)) σ) := by
  refine okF Try.func49 (by kernel_rfl) ?_
  intro bl1
  refine LoadAt.mk 0 _ _ rfl rfl ?_
  refine loopS (S := Nat) (fun s => [(6, .fsl .bool dn), (7, .int .i64 dn.length), (8, .int .i64 s)]) (fun _ => (bl1, [sv, .fsl .bool dn, .int .i64 u]) :: σ) (fun s => s ≤ dn.length ∧ (dn.take s).all id = true) (fun s => dn.length - s) 0 ⟨⟨Nat.zero_le _, rfl⟩, ⟨rfl, rfl, rfl, trivial⟩, rfl⟩ ?_
  rintro k g ⟨hk, hall⟩
  refine bcond_dec (fun h => ?_) (fun h => ?_)
  · have h : (k : Int) < dn.length := h
    have hkl : k < dn.length := by omega
    cases hd : dn[k] with
    | true =>
      refine With.mk rfl (IdxF.mk true (by omega) ((get_some hkl).trans (congrArg some hd)) ?_)
      refine nextS (k + 1) ?_ ⟨hkl, ?_⟩ ⟨rfl, rfl, inc64 (by omega), trivial⟩ (shed_eq rfl)
      · show dn.length - (k + 1) < dn.length - k; omega
      · rw [List.take_succ_eq_append_getElem hkl, List.all_append, hall, hd]; rfl
    | false =>
      refine With.mk rfl (IdxF.mk false (by omega) ((get_some hkl).trans (congrArg some hd)) ?_)
      exact .drop 0 1 (.done ⟨congrArg AV.bool (all_no hkl hd).symm, rfl⟩)
  · have h : ¬ (k : Int) < dn.length := h
    exact .drop 0 1 (.done ⟨congrArg AV.bool (by rw [← List.take_of_length_le (show dn.length ≤ k by omega)]; exact hall.symm), rfl⟩)
theorem aAllF (dn : List Bool) (σ : Hp) (hn : dn.length ≤ 1000000) : ACalls Try.prog 85 [.fsl .bool dn] σ (Ret (.bool (dn.all id)) σ) := by
  refine okF Try.func85 (by kernel_rfl) ?_
  refine loopS (S := Nat) (fun s => [(5, .fsl .bool dn), (6, .int .i64 dn.length), (7, .int .i64 s)]) (fun _ => σ) (fun s => s ≤ dn.length ∧ (dn.take s).all id = true) (fun s => dn.length - s) 0 ⟨⟨Nat.zero_le _, rfl⟩, ⟨rfl, rfl, rfl, trivial⟩, rfl⟩ ?_
  rintro k g ⟨hk, hall⟩
  refine bcond_dec (fun h => ?_) (fun h => ?_)
  · have h : (k : Int) < dn.length := h
    have hkl : k < dn.length := by omega
    cases hd : dn[k] with
    | true =>
      refine With.mk rfl (IdxF.mk true (by omega) ((get_some hkl).trans (congrArg some hd)) ?_)
      refine nextS (k + 1) ?_ ⟨hkl, ?_⟩ ⟨rfl, rfl, inc64 (by omega), trivial⟩ (shed_eq rfl)
      · show dn.length - (k + 1) < dn.length - k; omega
      · rw [List.take_succ_eq_append_getElem hkl, List.all_append, hall, hd]; rfl
    | false =>
      refine With.mk rfl (IdxF.mk false (by omega) ((get_some hkl).trans (congrArg some hd)) ?_)
      exact .done ⟨congrArg AV.bool (all_no hkl hd).symm, rfl⟩
  · have h : ¬ (k : Int) < dn.length := h
    exact .done ⟨congrArg AV.bool (by rw [← List.take_of_length_le (show dn.length ≤ k by omega)]; exact hall.symm), rfl⟩
theorem aInts7 (xs ys : List Int) (σ : Hp) (h1 : xs.length ≤ 1000000) : ACalls Try.prog 99 [.fsl (.int .i64) xs, .fsl (.int .i64) ys] σ (Ret (.bool (decide (xs = ys))) σ) := by
  refine okF Try.func99 (by kernel_rfl) ?_
  refine bcond_split (fun hl => ?_) (fun hl => ?_)
  · have : xs ≠ ys := by rintro rfl; simp at hl
    exact .done ⟨by simp [this]; rfl, rfl⟩
  · have hl : (!decide ((xs.length : Int) = (ys.length : Int))) = false := hl
    have hlen : xs.length = ys.length := by simp at hl; omega
    refine loopS (S := Nat) (fun k => [(0, .fsl (.int .i64) xs), (1, .fsl (.int .i64) ys), (12, .int .i64 xs.length), (13, .int .i64 k)]) (fun _ => σ) (fun k => k ≤ xs.length ∧ xs.take k = ys.take k) (fun k => xs.length - k) 0 ⟨⟨Nat.zero_le _, rfl⟩, ⟨rfl, rfl, rfl, rfl, trivial⟩, rfl⟩ ?_
    rintro k g ⟨hk, htk⟩
    refine bcond_dec (fun hlt => ?_) (fun hge => ?_)
    · have hk' : k < xs.length := by omega
      have hk'' : k < ys.length := by omega
      refine DrawW.quiet (by kernel_rfl) ?_
      refine With.mk rfl (IdxF.mk xs[k] (by omega) (get_some hk') ?_)
      refine With.mk rfl (IdxF.mk ys[k] (by omega) (get_some hk'') ?_)
      refine bcond_split (fun hx => ?_) (fun hx => ?_)
      · have : xs ≠ ys := by rintro rfl; simp at hx
        exact .done ⟨by simp [this]; rfl, rfl⟩
      · have hx' : xs[k] = ys[k] := by simpa using hx
        refine next (k + 1) (Nat.sub_lt_sub_left hk' (Nat.lt_succ_self k)) ⟨hk', ?_⟩ ⟨rfl, rfl, rfl, inc64 (by omega), trivial⟩ rfl
        rw [List.take_succ_eq_append_getElem hk', List.take_succ_eq_append_getElem hk'', htk, hx']
    · obtain rfl : k = xs.length := by omega
      have : xs = ys := by
        rw [List.take_length] at htk
        rw [htk, hlen, List.take_length]
      exact .done ⟨by simp [this]; rfl, rfl⟩
theorem goS_skip {A : Type} {step : A → Nat → Int → A × Bool} {tell : A → Nat → A} {n : Nat} {scr : List (Int × Int × Unit)} {a : A} {st : List Int} {dn : List Bool} {us i : Nat} {pw pd : Int} {pu : Unit} (hall : dn.all id = false) (hul : us < scr.length) (hpk : (pw, pd, pu) = scr[us]) (hi : i = whoS pw n) (hin : i < dn.length) (hd : dn[i] = true) :
    goS step tell n (scr.drop us) ⟨a, st, dn, us⟩ = goS step tell n (scr.drop (us + 1)) ⟨tell a (us + 1), st, dn, us + 1⟩ := by
  rw [List.drop_eq_getElem_cons hul, ← hpk, goS_next _ _ hall]
  unfold pickS
  dsimp only
  rw [← hi, if_pos (getD_at hin hd)]
theorem goS_step {A : Type} {step : A → Nat → Int → A × Bool} {tell : A → Nat → A} {n : Nat} {scr : List (Int × Int × Unit)} {a : A} {st : List Int} {dn : List Bool} {us i : Nat} {pw pd : Int} {pu : Unit} (hall : dn.all id = false) (hul : us < scr.length) (hpk : (pw, pd, pu) = scr[us]) (hi : i = whoS pw n) (hin : i < dn.length) (hd : dn[i] = false) :
    goS step tell n (scr.drop us) ⟨a, st, dn, us⟩ = goS step tell n (scr.drop (us + 1)) ⟨tell (step a i pd).1 (us + 1), st.set i (wr (st.getD i 0 + 1)), dn.set i (step a i pd).2, us + 1⟩ := by
  rw [List.drop_eq_getElem_cons hul, ← hpk, goS_next _ _ hall]
  unfold pickS
  dsimp only
  rw [← hi, if_neg (by rw [getD_at hin hd]; decide)]
theorem p_get {rs : List Nat} {i : Nat} (h : i < rs.length) : (rs.map fun r => AV.ptr r 0)[0 + ((i : Int)).toNat * 1]? = some (.ptr rs[i] 0) := by
  rw [show 0 + ((i : Int)).toNat * 1 = i by omega]
  simp [h]
/-- The reference's Run. -/
def RunPost (m q : Nat) (rs : List Nat) (scr : List (Int × Int × Unit)) (a : List Mach × List Int) (fr σ : Hp) : AV → Hp → Prop := fun x σ' => ∃ R : SSt (List Mach × List Int), R = goS stepO (fun a _ => a) rs.length scr ⟨a, List.replicate rs.length 0, List.replicate rs.length false, 0⟩ ∧ x = .agg [.fsl (.int .i64) R.st, .fsl .bool R.dn, .int .i64 R.us] ∧ σ' = fr ++ (reH m q R.a.2 (blkO (rs.map some) R.a.1 ++ σ))
end Go.Proofs.Ytiihcgmnmcdcfaa
