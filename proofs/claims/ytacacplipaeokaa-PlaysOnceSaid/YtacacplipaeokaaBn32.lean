/-
  SchE: what the claim uses of them.
-/
import Derived.Test.YtacacplipaeokaaBn25
namespace Go.Proofs.Ytacacplipaeokaa
open Go.RowKit
set_option maxRecDepth 100000
set_option maxHeartbeats 4000000
theorem AWorld.aTell (W : AWorld) (fr : Hp) {s : W.S} {σ : Hp} {K : AV → Hp → Prop} {k : Nat} {g0 : FuncId} {cap : List AV}
    (hsee : ∀ (s : W.S) (k : Nat) (σ : Hp), W.free (W.abs s) → ACalls Try.prog g0 (.int .i64 k :: cap) (W.B s ++ σ) (fun x σ' => ∃ s', W.abs s' = W.tell (W.abs s) k ∧ x = .tup [] ∧ σ' = W.B s' ++ σ))
    (hf : W.free (W.abs s)) (go : ∀ s', W.abs s' = W.tell (W.abs s) k → K (.tup []) (fr ++ (W.B s' ++ σ))) : CallAt Try.prog g0 K (.int .i64 k :: cap) (fr ++ (W.B s ++ σ)) := by
  refine .perm _ (front_perm fr (W.B s) σ) (hsee s k (fr ++ σ) hf) ?_
  rintro r σ' ⟨s', h3, rfl, rfl⟩
  exact ⟨_, (front_perm fr (W.B s') σ).symm, go s' h3⟩
theorem inv_skipT {W : AWorld} {scr : List (Int × Int × Unit)} {a0 : W.A} {s s' : W.S} {st : List Int} {dn : List Bool} {us i : Nat} {pw pd : Int} {pu : Unit} (h : SInv W scr a0 (s, st, dn, us)) (hall : dn.all id = false) (hul : us < scr.length) (hpk : (pw, pd, pu) = scr[us]) (hi : i = whoS pw W.L.length) (hin : i < dn.length) (hd : dn[i] = true) (hs' : W.abs s' = W.tell (W.abs s) (us + 1)) : SInv W scr a0 (s', st, dn, us + 1) := by
  obtain ⟨h1, h2, h3, h4, h5, hg⟩ := h
  refine ⟨hul, h2, h3, h4, ?_, ?_⟩
  · show W.free (W.abs s')
    rw [hs']; exact W.told _ _ h5
  rw [← hg]
  show goS _ _ _ (scr.drop (us + 1)) _ = goS _ _ _ (scr.drop us) _
  rw [List.drop_eq_getElem_cons hul, ← hpk, goS_next _ _ hall]
  unfold pickS
  dsimp only
  rw [← hi, if_pos (getD_at hin hd), hs']
theorem inv_stepT {W : AWorld} {scr : List (Int × Int × Unit)} {a0 : W.A} {s s' : W.S} {st : List Int} {dn : List Bool} {us i : Nat} {pw pd : Int} {pu : Unit} (h : SInv W scr a0 (s, st, dn, us)) (hall : dn.all id = false) (hul : us < scr.length) (hpk : (pw, pd, pu) = scr[us]) (hi : i = whoS pw W.L.length) (hin : i < W.L.length) {hin' : i < dn.length} (hd : dn[i] = false) (hs' : W.abs s' = W.tell (W.step (W.abs s) i pd).1 (us + 1)) :
    SInv W scr a0 (s', st.set i (wr (st.getD i 0 + 1)), dn.set i (W.step (W.abs s) i pd).2, us + 1) := by
  obtain ⟨h1, h2, h3, h4, h5, hg⟩ := h
  refine ⟨hul, (List.length_set ..).trans h2, (List.length_set ..).trans h3, ?_, ?_, ?_⟩
  · intro k hk hm
    have := h4 k hk hm
    show (dn.set i _)[k]? = some true
    rw [List.getElem?_set]
    split
    · rename_i he
      subst he
      rw [List.getElem?_eq_getElem hin', hd] at this
      cases this
    · exact this
  · show W.free (W.abs s')
    rw [hs']; exact W.told _ _ (W.keeps _ _ _ h5 hin)
  · rw [← hg]
    show goS _ _ _ (scr.drop (us + 1)) _ = goS _ _ _ (scr.drop us) _
    rw [List.drop_eq_getElem_cons hul, ← hpk, goS_next _ _ hall]
    unfold pickS
    dsimp only
    rw [← hi, if_neg (by rw [getD_at hin' hd]; decide), ← hs']
theorem aEachT (W : AWorld) (lb : Nat) (scr : List (Int × Int × Unit)) (s0 : W.S) (σ : Hp) (hn : W.L.length ≤ 100000) (hs : scr.length ≤ 100000) (hf : W.free (W.abs s0)) (g0 : FuncId) (cap : List AV)
    (hsee : ∀ (s : W.S) (k : Nat) (σ : Hp), W.free (W.abs s) → ACalls Try.prog g0 (.int .i64 k :: cap) (W.B s ++ σ) (fun x σ' => ∃ s', W.abs s' = W.tell (W.abs s) k ∧ x = .tup [] ∧ σ' = W.B s' ++ σ)) :
    ACalls Try.prog 41 [W.mv, .mref lb 0 W.L.length 1, .fsl (.field (.int .i64) (.field (.int .i64) .nil)) scr, .fn (.func g0) [] cap] ((lb, W.L) :: (W.B s0 ++ σ)) (EachPost W scr (W.abs s0) [(lb, W.L)] σ) := by
  obtain ⟨a0, ha0⟩ : ∃ a0, a0 = W.abs s0 := ⟨_, rfl⟩
  rw [← ha0]
  obtain ⟨z, hs0⟩ : ∃ z, z = s0 := ⟨_, rfl⟩
  subst hs0
  refine okF Try.func41 (by kernel_rfl) ?_
  intro bl1
  refine .meet (S := Nat × Nat × Nat) (fun s => [(0, W.mv), (1, .mref lb 0 W.L.length 1), (2, .fsl (.field (.int .i64) (.field (.int .i64) .nil)) scr), (3, .fn (.func g0) [] cap), (8, .ptr bl1 0), (9, .ptr s.1 0)])
    (fun s => (s.1, [.mref s.2.1 0 W.L.length 1, .mref s.2.2 0 W.L.length 1, .int .i64 0]) :: (s.2.1, repC [.int .i64 0] W.L.length) :: (s.2.2, repC [.bool false] W.L.length) :: (bl1, [.nils, .nils, .int .i64 0]) :: (lb, W.L) :: (W.B z ++ σ)) (by kernel_rfl) ?_ ?_
  · repeat' first
      | exact Meet.mk (_, _, _) ⟨rfl, rfl, rfl, rfl, rfl, rfl, trivial⟩ (shed_eq rfl)
      | exact Meet.mk (_, _, _) ⟨rfl, rfl, rfl, rfl, rfl, rfl, trivial⟩ (.pull [2, 2, 1] (shed_eq rfl))
      | exact Meet.mk (_, _, _) ⟨rfl, rfl, rfl, rfl, rfl, rfl, trivial⟩ (.pull [2, 1, 2] (shed_eq rfl))
      | exact Meet.mk (_, _, _) ⟨rfl, rfl, rfl, rfl, rfl, rfl, trivial⟩ (.pull [2, 2, 0] (shed_eq rfl))
      | exact Meet.mk (_, _, _) ⟨rfl, rfl, rfl, rfl, rfl, rfl, trivial⟩ (.pull [2, 1, 1] (shed_eq rfl))
      | exact Meet.mk (_, _, _) ⟨rfl, rfl, rfl, rfl, rfl, rfl, trivial⟩ (.pull [2, 1, 0] (shed_eq rfl))
      | refine And.intro ?_ ?_
      | refine With.mk ⟨by omega, by omega, by omega, by decide⟩ ?_
      | refine StoreAt.mk 0 _ _ rfl rfl ?_
      | refine StoreAt.mk 1 _ _ rfl rfl ?_
      | refine StoreAt.mk 2 _ _ rfl rfl ?_
      | intro b
  rintro ⟨br, ba, bd⟩ g
  refine callR [] (aOr _ _ _) ?_
  obtain ⟨us, hus⟩ : ∃ us : Nat, us = 0 := ⟨_, rfl⟩
  obtain ⟨st, hst⟩ : ∃ st, st = (List.replicate W.L.length 0 : List Int) := ⟨_, rfl⟩
  refine loopS (S := Nat) (fun s => [(0, W.mv), (1, .mref lb 0 W.L.length 1), (2, .fsl (.field (.int .i64) (.field (.int .i64) .nil)) scr), (3, .fn (.func g0) [] cap), (8, .ptr bl1 0), (9, .ptr br 0), (23, .mref lb 0 W.L.length 1), (24, .int .i64 W.L.length), (25, .int .i64 s)])
    (fun s => (br, [.mref ba 0 W.L.length 1, .mref bd 0 W.L.length 1, .int .i64 us]) :: (ba, stC st) :: (bd, boC (dnK W.L s)) :: (bl1, [.nils, .nils, .int .i64 0]) :: (lb, W.L) :: (W.B z ++ σ)) (fun s => s ≤ W.L.length) (fun s => W.L.length - s) 0 ⟨Nat.zero_le _, ⟨rfl, rfl, rfl, rfl, rfl, rfl, rfl, rfl, rfl, trivial⟩, by rw [dnK_zero, ← rep_boC, hst, ← rep_stC, hus]; rfl⟩ ?_
  intro k g hk
  have hk : k ≤ W.L.length := hk
  refine bcond_dec (fun hlt => ?_) (fun hge => ?_)
  · have hlt : (k : Int) < W.L.length := hlt
    have hlt : k < W.L.length := by omega
    refine With.mk ⟨rfl, by omega, by omega⟩ ?_
    rcases W.mach k hlt with hm | ⟨t, r, hm, _⟩
    · refine LoadAt.mk 4 _ (AV.nilif) rfl (l_get hlt hm) ?_
      refine .sched [] (upto [] 7 0) (by kernel_rfl) ?_
      refine LoadAt.mk 0 _ _ rfl rfl ?_
      refine With.mk ⟨rfl, by omega, by omega⟩ ?_
      refine StoreAt.mk 2 _ _ rfl (boC_put _ (by rw [dnK_length _ _ hk]; omega)) ?_
      refine nextS (k + 1) ?_ hlt ⟨rfl, rfl, rfl, rfl, rfl, rfl, rfl, rfl, inc64 (by omega), trivial⟩ (shed_eq ?_)
      · show W.L.length - (k + 1) < W.L.length - k; omega
      · rw [← dnK_set _ _ hlt, hm]; rfl
    · refine LoadAt.mk 4 _ (AV.iface t (.ptr r 0)) rfl (l_get hlt hm) ?_
      refine .sched [] (upto [] 7 0) (by kernel_rfl) ?_
      refine LoadAt.mk 0 _ _ rfl rfl ?_
      refine With.mk ⟨rfl, by omega, by omega⟩ ?_
      refine StoreAt.mk 2 _ _ rfl (boC_put _ (by rw [dnK_length _ _ hk]; omega)) ?_
      refine nextS (k + 1) ?_ hlt ⟨rfl, rfl, rfl, rfl, rfl, rfl, rfl, rfl, inc64 (by omega), trivial⟩ (shed_eq ?_)
      · show W.L.length - (k + 1) < W.L.length - k; omega
      · rw [← dnK_set _ _ hlt, hm]; rfl
  · have hge : ¬ (k : Int) < W.L.length := hge
    obtain rfl : k = W.L.length := by omega
    obtain ⟨dn, hdn⟩ : ∃ dn, dn = dnK W.L W.L.length := ⟨_, rfl⟩
    rw [← hdn]
    have hdl : dn.length = W.L.length := by rw [hdn]; exact dnK_length _ _ (Nat.le_refl _)
    have hsl : st.length = W.L.length := by rw [hst, List.length_replicate]
    have hnil : ∀ i (h : i < W.L.length), W.L[i] = .nilif → dn[i]? = some true := by
      intro i h hm
      rw [hdn, dnK_all, List.getElem?_map, List.getElem?_eq_getElem h, hm]; rfl
    obtain ⟨s, hsz⟩ : ∃ s, s = z := ⟨_, rfl⟩
    subst hsz
    have hI : SInv W scr a0 (s, st, dn, us) := by
      exact ⟨by show us ≤ _; omega, hsl, hdl, hnil, hf, by rw [hus, hdn, dnK_all, hst, ha0]; rfl⟩
    have ⟨hus, hsl, hdl, hnil, hf, hgo⟩ := hI
    have hus : us ≤ scr.length := hus
    have hsl : st.length = W.L.length := hsl
    have hdl : dn.length = W.L.length := hdl
    have hF := fun σ => aFinS (.mref ba 0 W.L.length 1) us bd dn σ (by omega)
    rw [hdl] at hF
    refine LoadAt.mk 0 _ _ rfl rfl ?_
    refine bcond_dec (fun c1 => ?_) (fun c1 => ?_)
    · have c1 : (↑us : Int) = (↑scr.length : Int) := c1
      have hE := inv_end hI (.inl (by show us = _; omega))
      refine LoadAt.mk 0 _ _ rfl rfl ?_
      refine StoreAt.mk 3 _ _ rfl rfl ?_
      refine LoadAt.mk 3 _ _ rfl rfl ?_
      refine .frz 1 ba 0 W.L.length 1 _ (.int .i64) st rfl (stC_frz hsl) ⟨hsl, rfl, by decide⟩ (frzA3 .here (.refl _) (.refl _) rfl rfl rfl) ?_
      refine .frz 1 bd 0 W.L.length 1 _ .bool dn rfl (boC_frz hdl) ⟨hdl, rfl, by decide⟩ (frzA3 (.refl _) .here (.refl _) rfl rfl rfl) ?_
      exact .drop 0 2 (.done ⟨s, by rw [hE], by rw [hE], rfl⟩)
    · have c1 : ¬ ((↑us : Int) = (↑scr.length : Int)) := c1
      refine LoadAt.mk 0 _ _ rfl rfl ?_
      refine callR [2] (hF _) ?_
      cases hall : dn.all id with
      | true =>
        have hE := inv_end hI (.inr hall)
        refine LoadAt.mk 1 _ _ rfl rfl ?_
        refine StoreAt.mk 3 _ _ rfl rfl ?_
        refine LoadAt.mk 3 _ _ rfl rfl ?_
        refine .frz 2 ba 0 W.L.length 1 _ (.int .i64) st rfl (stC_frz hsl) ⟨hsl, rfl, by decide⟩ (frzA3 .here (.refl _) (.refl _) rfl rfl rfl) ?_
        refine .frz 0 bd 0 W.L.length 1 _ .bool dn rfl (boC_frz hdl) ⟨hdl, rfl, by decide⟩ (frzA3 (.refl _) .here (.refl _) rfl rfl rfl) ?_
        exact .drop 0 2 (.done ⟨s, by rw [hE], by rw [hE], rfl⟩)
      | false =>
        refine LoadAt.mk 1 _ _ rfl rfl ?_
        refine With.mk rfl ?_
        have hul : us < scr.length := by omega
        have hinc : AV.int .i64 (IntKind.i64.wrap ((us : Int) + 1)) = AV.int .i64 ((us + 1 : Nat) : Int) := inc64 (by omega)
        obtain ⟨pk, hpk⟩ : ∃ pk, pk = scr[us] := ⟨_, rfl⟩
        obtain ⟨pw, pd, pu⟩ := pk
        have hn0 : 0 < W.L.length := by
          rcases Nat.eq_zero_or_pos W.L.length with h0 | h0
          · rw [List.length_eq_zero_iff.1 (hdl.trans h0)] at hall; cases hall
          · exact h0
        refine IdxF.mk (pw, pd, pu) (by omega) ((get_some hul).trans (congrArg some hpk.symm)) ?_
        obtain ⟨i, hi⟩ : ∃ i, i = whoS pw W.L.length := ⟨_, rfl⟩
        have hin : i < W.L.length := by rw [hi]; exact whoS_lt hn0
        have hWho := fun σ => aWhoS pw pd W.L.length σ (by omega)
        rw [← hi] at hWho
        intro bp
        refine StoreAt.mk 0 _ _ rfl rfl ?_
        refine LoadAt.mk 0 _ _ rfl rfl ?_
        refine callR [] (hWho _) ?_
        refine LoadAt.mk 2 _ _ rfl rfl ?_
        refine With.mk ⟨rfl, by omega, by omega⟩ ?_
        cases hd : dn[i] with
        | true =>
          refine LoadAt.mk 1 _ _ rfl (boC_get (by omega) hd) ?_
          refine LoadAt.mk 2 _ _ rfl rfl ?_
          refine StoreAt.mk 2 _ _ rfl rfl ?_
          refine LoadAt.mk 2 _ _ rfl rfl ?_
          rw [hinc]
          refine W.aTell [_, _, _, _, _, _] hsee hf fun s2 hs2 => ?_
          refine .loop (S := W.S × List Int × List Bool × Nat) (fun _ => 0) (fun _ => [(0, W.mv), (1, .mref lb 0 W.L.length 1), (2, .fsl (.field (.int .i64) (.field (.int .i64) .nil)) scr), (3, .fn (.func g0) [] cap), (8, .ptr bl1 0), (9, .ptr br 0)]) (fun x => (br, [.mref ba 0 W.L.length 1, .mref bd 0 W.L.length 1, .int .i64 x.2.2.2]) :: (ba, stC x.2.1) :: (bd, boC x.2.2.1) :: (bl1, [.nils, .nils, .int .i64 0]) :: (lb, W.L) :: (W.B x.1 ++ σ)) (SInv W scr a0) (fun x => scr.length - x.2.2.2) (s2, st, dn, us + 1) ⟨rfl, (inv_skipT hI hall hul hpk hi (by omega) hd hs2), ⟨rfl, rfl, rfl, rfl, rfl, rfl, trivial⟩, .drop 0 1 (.pull [2, 2, 0] (shed_eq ?_))⟩ ?_
          · show _ = (br, [AV.mref ba 0 W.L.length 1, AV.mref bd 0 W.L.length 1, AV.int .i64 ((us + 1 : Nat) : Int)]) :: _
            rw [← hinc]
            rfl
          rintro ⟨s, st, dn, us⟩ g hI
          have ⟨hus, hsl, hdl, hnil, hf, hgo⟩ := hI
          have hus : us ≤ scr.length := hus
          have hsl : st.length = W.L.length := hsl
          have hdl : dn.length = W.L.length := hdl
          have hF := fun σ => aFinS (.mref ba 0 W.L.length 1) us bd dn σ (by omega)
          rw [hdl] at hF
          refine LoadAt.mk 0 _ _ rfl rfl ?_
          refine bcond_dec (fun c1 => ?_) (fun c1 => ?_)
          · have c1 : (↑us : Int) = (↑scr.length : Int) := c1
            have hE := inv_end hI (.inl (by show us = _; omega))
            refine LoadAt.mk 0 _ _ rfl rfl ?_
            refine StoreAt.mk 3 _ _ rfl rfl ?_
            refine LoadAt.mk 3 _ _ rfl rfl ?_
            refine .frz 1 ba 0 W.L.length 1 _ (.int .i64) st rfl (stC_frz hsl) ⟨hsl, rfl, by decide⟩ (frzA3 .here (.refl _) (.refl _) rfl rfl rfl) ?_
            refine .frz 1 bd 0 W.L.length 1 _ .bool dn rfl (boC_frz hdl) ⟨hdl, rfl, by decide⟩ (frzA3 (.refl _) .here (.refl _) rfl rfl rfl) ?_
            exact .drop 0 2 (.done ⟨s, by rw [hE], by rw [hE], rfl⟩)
          · have c1 : ¬ ((↑us : Int) = (↑scr.length : Int)) := c1
            refine LoadAt.mk 0 _ _ rfl rfl ?_
            refine callR [2] (hF _) ?_
            cases hall : dn.all id with
            | true =>
              have hE := inv_end hI (.inr hall)
              refine LoadAt.mk 1 _ _ rfl rfl ?_
              refine StoreAt.mk 3 _ _ rfl rfl ?_
              refine LoadAt.mk 3 _ _ rfl rfl ?_
              refine .frz 2 ba 0 W.L.length 1 _ (.int .i64) st rfl (stC_frz hsl) ⟨hsl, rfl, by decide⟩ (frzA3 .here (.refl _) (.refl _) rfl rfl rfl) ?_
              refine .frz 0 bd 0 W.L.length 1 _ .bool dn rfl (boC_frz hdl) ⟨hdl, rfl, by decide⟩ (frzA3 (.refl _) .here (.refl _) rfl rfl rfl) ?_
              exact .drop 0 2 (.done ⟨s, by rw [hE], by rw [hE], rfl⟩)
            | false =>
              refine LoadAt.mk 1 _ _ rfl rfl ?_
              refine With.mk rfl ?_
              have hul : us < scr.length := by omega
              have hinc : AV.int .i64 (IntKind.i64.wrap ((us : Int) + 1)) = AV.int .i64 ((us + 1 : Nat) : Int) := inc64 (by omega)
              obtain ⟨pk, hpk⟩ : ∃ pk, pk = scr[us] := ⟨_, rfl⟩
              obtain ⟨pw, pd, pu⟩ := pk
              have hn0 : 0 < W.L.length := by
                rcases Nat.eq_zero_or_pos W.L.length with h0 | h0
                · rw [List.length_eq_zero_iff.1 (hdl.trans h0)] at hall; cases hall
                · exact h0
              refine IdxF.mk (pw, pd, pu) (by omega) ((get_some hul).trans (congrArg some hpk.symm)) ?_
              obtain ⟨i, hi⟩ : ∃ i, i = whoS pw W.L.length := ⟨_, rfl⟩
              have hin : i < W.L.length := by rw [hi]; exact whoS_lt hn0
              have hWho := fun σ => aWhoS pw pd W.L.length σ (by omega)
              rw [← hi] at hWho
              intro bp
              refine StoreAt.mk 0 _ _ rfl rfl ?_
              refine LoadAt.mk 0 _ _ rfl rfl ?_
              refine callR [] (hWho _) ?_
              refine LoadAt.mk 2 _ _ rfl rfl ?_
              refine With.mk ⟨rfl, by omega, by omega⟩ ?_
              cases hd : dn[i] with
              | true =>
                refine LoadAt.mk 1 _ _ rfl (boC_get (by omega) hd) ?_
                refine LoadAt.mk 2 _ _ rfl rfl ?_
                refine StoreAt.mk 2 _ _ rfl rfl ?_
                refine LoadAt.mk 2 _ _ rfl rfl ?_
                rw [hinc]
                refine W.aTell [_, _, _, _, _, _] hsee hf fun s2 hs2 => ?_
                refine .mk (s2, st, dn, us + 1) rfl (by show scr.length - (us + 1) < scr.length - us; omega) (inv_skipT hI hall hul hpk hi (by omega) hd hs2) ⟨rfl, rfl, rfl, rfl, rfl, rfl, trivial⟩ (.drop 0 1 (.pull [2, 2, 0] (shed_eq ?_)))
                show _ = (br, [AV.mref ba 0 W.L.length 1, AV.mref bd 0 W.L.length 1, AV.int .i64 ((us + 1 : Nat) : Int)]) :: _
                rw [← hinc]
                rfl
              | false =>
                refine LoadAt.mk 1 _ _ rfl (boC_get (by omega) hd) ?_
                rcases W.mach i hin with hm | ⟨t, r, hm, gS, hMe, hcall⟩
                · have := hnil i hin hm
                  rw [List.getElem?_eq_getElem (by show i < dn.length; omega)] at this
                  exact absurd (hd.symm.trans (Option.some.inj this)) (by decide)
                refine .sched [] (.one 0 false (.one 2 false (.one 3 false (.one 4 false (.one 5 false (.one 6 false (.one 7 false (.one 8 false (.one 9 false (.alt 1 (.one 10 false (.one 11 false (.one 12 false .stop))) (.one 10 false (.one 1 false (.one 11 false (.one 12 false .stop)))))))))))))) (by kernel_rfl) ?_
                refine With.mk ⟨rfl, by omega, by omega⟩ ?_
                refine LoadAt.mk 5 _ (AV.iface t (.ptr r 0)) rfl (l_get hin hm) ?_
                refine LoadAt.mk 0 _ _ rfl rfl ?_
                refine And.intro ?_ ?_
                · refine LoadAt.mk 2 _ _ rfl rfl ?_
                  refine W.aStep [_, _, _, _, _, _] hMe hcall hf fun s' hs' => ?_
                  refine With.mk ⟨rfl, by omega, by omega⟩ ?_
                  refine StoreAt.mk 1 _ _ rfl (boC_put _ (by omega)) ?_
                  refine LoadAt.mk 2 _ _ rfl rfl ?_
                  refine With.mk ⟨rfl, by omega, by omega⟩ ?_
                  refine LoadAt.mk 3 _ _ rfl (stC_get (by omega)) ?_
                  refine With.mk ⟨rfl, by omega, by omega⟩ ?_
                  refine StoreAt.mk 3 _ _ rfl (stC_put _ (by omega)) ?_
                  refine LoadAt.mk 2 _ _ rfl rfl ?_
                  refine StoreAt.mk 2 _ _ rfl rfl ?_
                  refine LoadAt.mk 2 _ _ rfl rfl ?_
                  rw [hinc]
                  refine W.aTell [_, _, _, _, _, _] hsee (by rw [hs']; exact W.keeps _ _ _ hf hin) fun s2 hs2 => ?_
                  refine .mk (s2, (st.set i (wr (st.getD i 0 + 1))), (dn.set i (W.step (W.abs s) i pd).2), us + 1) rfl (by show scr.length - (us + 1) < scr.length - us; omega) (inv_stepT hI hall hul hpk hi hin hd (by rw [hs2, hs'])) ⟨rfl, rfl, rfl, rfl, rfl, rfl, trivial⟩ (.drop 0 1 (.pull [2, 2, 0] (shed_eq ?_)))
                  show _ = (br, [AV.mref ba 0 W.L.length 1, AV.mref bd 0 W.L.length 1, AV.int .i64 ((us + 1 : Nat) : Int)]) :: _
                  rw [← hinc]
                  rfl
                · refine W.aStep [_, _, _, _, _, _] hMe hcall hf fun s' hs' => ?_
                  refine LoadAt.mk 2 _ _ rfl rfl ?_
                  refine With.mk ⟨rfl, by omega, by omega⟩ ?_
                  refine StoreAt.mk 1 _ _ rfl (boC_put _ (by omega)) ?_
                  refine LoadAt.mk 2 _ _ rfl rfl ?_
                  refine With.mk ⟨rfl, by omega, by omega⟩ ?_
                  refine LoadAt.mk 3 _ _ rfl (stC_get (by omega)) ?_
                  refine With.mk ⟨rfl, by omega, by omega⟩ ?_
                  refine StoreAt.mk 3 _ _ rfl (stC_put _ (by omega)) ?_
                  refine LoadAt.mk 2 _ _ rfl rfl ?_
                  refine StoreAt.mk 2 _ _ rfl rfl ?_
                  refine LoadAt.mk 2 _ _ rfl rfl ?_
                  rw [hinc]
                  refine W.aTell [_, _, _, _, _, _] hsee (by rw [hs']; exact W.keeps _ _ _ hf hin) fun s2 hs2 => ?_
                  refine .mk (s2, (st.set i (wr (st.getD i 0 + 1))), (dn.set i (W.step (W.abs s) i pd).2), us + 1) rfl (by show scr.length - (us + 1) < scr.length - us; omega) (inv_stepT hI hall hul hpk hi hin hd (by rw [hs2, hs'])) ⟨rfl, rfl, rfl, rfl, rfl, rfl, trivial⟩ (.drop 0 1 (.pull [2, 2, 0] (shed_eq ?_)))
                  show _ = (br, [AV.mref ba 0 W.L.length 1, AV.mref bd 0 W.L.length 1, AV.int .i64 ((us + 1 : Nat) : Int)]) :: _
                  rw [← hinc]
                  rfl
        | false =>
          refine LoadAt.mk 1 _ _ rfl (boC_get (by omega) hd) ?_
          rcases W.mach i hin with hm | ⟨t, r, hm, gS, hMe, hcall⟩
          · have := hnil i hin hm
            rw [List.getElem?_eq_getElem (by show i < dn.length; omega)] at this
            exact absurd (hd.symm.trans (Option.some.inj this)) (by decide)
          refine .sched [] (.one 0 false (.one 2 false (.one 3 false (.one 4 false (.one 5 false (.one 6 false (.one 7 false (.one 8 false (.one 9 false (.alt 1 (.one 10 false (.one 11 false (.one 12 false .stop))) (.one 10 false (.one 1 false (.one 11 false (.one 12 false .stop)))))))))))))) (by kernel_rfl) ?_
          refine With.mk ⟨rfl, by omega, by omega⟩ ?_
          refine LoadAt.mk 5 _ (AV.iface t (.ptr r 0)) rfl (l_get hin hm) ?_
          refine LoadAt.mk 0 _ _ rfl rfl ?_
          refine And.intro ?_ ?_
          · refine LoadAt.mk 2 _ _ rfl rfl ?_
            refine W.aStep [_, _, _, _, _, _] hMe hcall hf fun s' hs' => ?_
            refine With.mk ⟨rfl, by omega, by omega⟩ ?_
            refine StoreAt.mk 1 _ _ rfl (boC_put _ (by omega)) ?_
            refine LoadAt.mk 2 _ _ rfl rfl ?_
            refine With.mk ⟨rfl, by omega, by omega⟩ ?_
            refine LoadAt.mk 3 _ _ rfl (stC_get (by omega)) ?_
            refine With.mk ⟨rfl, by omega, by omega⟩ ?_
            refine StoreAt.mk 3 _ _ rfl (stC_put _ (by omega)) ?_
            refine LoadAt.mk 2 _ _ rfl rfl ?_
            refine StoreAt.mk 2 _ _ rfl rfl ?_
            refine LoadAt.mk 2 _ _ rfl rfl ?_
            rw [hinc]
            refine W.aTell [_, _, _, _, _, _] hsee (by rw [hs']; exact W.keeps _ _ _ hf hin) fun s2 hs2 => ?_
            refine .loop (S := W.S × List Int × List Bool × Nat) (fun _ => 0) (fun _ => [(0, W.mv), (1, .mref lb 0 W.L.length 1), (2, .fsl (.field (.int .i64) (.field (.int .i64) .nil)) scr), (3, .fn (.func g0) [] cap), (8, .ptr bl1 0), (9, .ptr br 0)]) (fun x => (br, [.mref ba 0 W.L.length 1, .mref bd 0 W.L.length 1, .int .i64 x.2.2.2]) :: (ba, stC x.2.1) :: (bd, boC x.2.2.1) :: (bl1, [.nils, .nils, .int .i64 0]) :: (lb, W.L) :: (W.B x.1 ++ σ)) (SInv W scr a0) (fun x => scr.length - x.2.2.2) (s2, (st.set i (wr (st.getD i 0 + 1))), (dn.set i (W.step (W.abs s) i pd).2), us + 1) ⟨rfl, (inv_stepT hI hall hul hpk hi hin hd (by rw [hs2, hs'])), ⟨rfl, rfl, rfl, rfl, rfl, rfl, trivial⟩, .drop 0 1 (.pull [2, 2, 0] (shed_eq ?_))⟩ ?_
            · show _ = (br, [AV.mref ba 0 W.L.length 1, AV.mref bd 0 W.L.length 1, AV.int .i64 ((us + 1 : Nat) : Int)]) :: _
              rw [← hinc]
              rfl
            rintro ⟨s, st, dn, us⟩ g hI
            have ⟨hus, hsl, hdl, hnil, hf, hgo⟩ := hI
            have hus : us ≤ scr.length := hus
            have hsl : st.length = W.L.length := hsl
            have hdl : dn.length = W.L.length := hdl
            have hF := fun σ => aFinS (.mref ba 0 W.L.length 1) us bd dn σ (by omega)
            rw [hdl] at hF
            refine LoadAt.mk 0 _ _ rfl rfl ?_
            refine bcond_dec (fun c1 => ?_) (fun c1 => ?_)
            · have c1 : (↑us : Int) = (↑scr.length : Int) := c1
              have hE := inv_end hI (.inl (by show us = _; omega))
              refine LoadAt.mk 0 _ _ rfl rfl ?_
              refine StoreAt.mk 3 _ _ rfl rfl ?_
              refine LoadAt.mk 3 _ _ rfl rfl ?_
              refine .frz 1 ba 0 W.L.length 1 _ (.int .i64) st rfl (stC_frz hsl) ⟨hsl, rfl, by decide⟩ (frzA3 .here (.refl _) (.refl _) rfl rfl rfl) ?_
              refine .frz 1 bd 0 W.L.length 1 _ .bool dn rfl (boC_frz hdl) ⟨hdl, rfl, by decide⟩ (frzA3 (.refl _) .here (.refl _) rfl rfl rfl) ?_
              exact .drop 0 2 (.done ⟨s, by rw [hE], by rw [hE], rfl⟩)
            · have c1 : ¬ ((↑us : Int) = (↑scr.length : Int)) := c1
              refine LoadAt.mk 0 _ _ rfl rfl ?_
              refine callR [2] (hF _) ?_
              cases hall : dn.all id with
              | true =>
                have hE := inv_end hI (.inr hall)
                refine LoadAt.mk 1 _ _ rfl rfl ?_
                refine StoreAt.mk 3 _ _ rfl rfl ?_
                refine LoadAt.mk 3 _ _ rfl rfl ?_
                refine .frz 2 ba 0 W.L.length 1 _ (.int .i64) st rfl (stC_frz hsl) ⟨hsl, rfl, by decide⟩ (frzA3 .here (.refl _) (.refl _) rfl rfl rfl) ?_
                refine .frz 0 bd 0 W.L.length 1 _ .bool dn rfl (boC_frz hdl) ⟨hdl, rfl, by decide⟩ (frzA3 (.refl _) .here (.refl _) rfl rfl rfl) ?_
                exact .drop 0 2 (.done ⟨s, by rw [hE], by rw [hE], rfl⟩)
              | false =>
                refine LoadAt.mk 1 _ _ rfl rfl ?_
                refine With.mk rfl ?_
                have hul : us < scr.length := by omega
                have hinc : AV.int .i64 (IntKind.i64.wrap ((us : Int) + 1)) = AV.int .i64 ((us + 1 : Nat) : Int) := inc64 (by omega)
                obtain ⟨pk, hpk⟩ : ∃ pk, pk = scr[us] := ⟨_, rfl⟩
                obtain ⟨pw, pd, pu⟩ := pk
                have hn0 : 0 < W.L.length := by
                  rcases Nat.eq_zero_or_pos W.L.length with h0 | h0
                  · rw [List.length_eq_zero_iff.1 (hdl.trans h0)] at hall; cases hall
                  · exact h0
                refine IdxF.mk (pw, pd, pu) (by omega) ((get_some hul).trans (congrArg some hpk.symm)) ?_
                obtain ⟨i, hi⟩ : ∃ i, i = whoS pw W.L.length := ⟨_, rfl⟩
                have hin : i < W.L.length := by rw [hi]; exact whoS_lt hn0
                have hWho := fun σ => aWhoS pw pd W.L.length σ (by omega)
                rw [← hi] at hWho
                intro bp
                refine StoreAt.mk 0 _ _ rfl rfl ?_
                refine LoadAt.mk 0 _ _ rfl rfl ?_
                refine callR [] (hWho _) ?_
                refine LoadAt.mk 2 _ _ rfl rfl ?_
                refine With.mk ⟨rfl, by omega, by omega⟩ ?_
                cases hd : dn[i] with
                | true =>
                  refine LoadAt.mk 1 _ _ rfl (boC_get (by omega) hd) ?_
                  refine LoadAt.mk 2 _ _ rfl rfl ?_
                  refine StoreAt.mk 2 _ _ rfl rfl ?_
                  refine LoadAt.mk 2 _ _ rfl rfl ?_
                  rw [hinc]
                  refine W.aTell [_, _, _, _, _, _] hsee hf fun s2 hs2 => ?_
                  refine .mk (s2, st, dn, us + 1) rfl (by show scr.length - (us + 1) < scr.length - us; omega) (inv_skipT hI hall hul hpk hi (by omega) hd hs2) ⟨rfl, rfl, rfl, rfl, rfl, rfl, trivial⟩ (.drop 0 1 (.pull [2, 2, 0] (shed_eq ?_)))
                  show _ = (br, [AV.mref ba 0 W.L.length 1, AV.mref bd 0 W.L.length 1, AV.int .i64 ((us + 1 : Nat) : Int)]) :: _
                  rw [← hinc]
                  rfl
                | false =>
                  refine LoadAt.mk 1 _ _ rfl (boC_get (by omega) hd) ?_
                  rcases W.mach i hin with hm | ⟨t, r, hm, gS, hMe, hcall⟩
                  · have := hnil i hin hm
                    rw [List.getElem?_eq_getElem (by show i < dn.length; omega)] at this
                    exact absurd (hd.symm.trans (Option.some.inj this)) (by decide)
                  refine .sched [] (.one 0 false (.one 2 false (.one 3 false (.one 4 false (.one 5 false (.one 6 false (.one 7 false (.one 8 false (.one 9 false (.alt 1 (.one 10 false (.one 11 false (.one 12 false .stop))) (.one 10 false (.one 1 false (.one 11 false (.one 12 false .stop)))))))))))))) (by kernel_rfl) ?_
                  refine With.mk ⟨rfl, by omega, by omega⟩ ?_
                  refine LoadAt.mk 5 _ (AV.iface t (.ptr r 0)) rfl (l_get hin hm) ?_
                  refine LoadAt.mk 0 _ _ rfl rfl ?_
                  refine And.intro ?_ ?_
                  · refine LoadAt.mk 2 _ _ rfl rfl ?_
                    refine W.aStep [_, _, _, _, _, _] hMe hcall hf fun s' hs' => ?_
                    refine With.mk ⟨rfl, by omega, by omega⟩ ?_
                    refine StoreAt.mk 1 _ _ rfl (boC_put _ (by omega)) ?_
                    refine LoadAt.mk 2 _ _ rfl rfl ?_
                    refine With.mk ⟨rfl, by omega, by omega⟩ ?_
                    refine LoadAt.mk 3 _ _ rfl (stC_get (by omega)) ?_
                    refine With.mk ⟨rfl, by omega, by omega⟩ ?_
                    refine StoreAt.mk 3 _ _ rfl (stC_put _ (by omega)) ?_
                    refine LoadAt.mk 2 _ _ rfl rfl ?_
                    refine StoreAt.mk 2 _ _ rfl rfl ?_
                    refine LoadAt.mk 2 _ _ rfl rfl ?_
                    rw [hinc]
                    refine W.aTell [_, _, _, _, _, _] hsee (by rw [hs']; exact W.keeps _ _ _ hf hin) fun s2 hs2 => ?_
                    refine .mk (s2, (st.set i (wr (st.getD i 0 + 1))), (dn.set i (W.step (W.abs s) i pd).2), us + 1) rfl (by show scr.length - (us + 1) < scr.length - us; omega) (inv_stepT hI hall hul hpk hi hin hd (by rw [hs2, hs'])) ⟨rfl, rfl, rfl, rfl, rfl, rfl, trivial⟩ (.drop 0 1 (.pull [2, 2, 0] (shed_eq ?_)))
                    show _ = (br, [AV.mref ba 0 W.L.length 1, AV.mref bd 0 W.L.length 1, AV.int .i64 ((us + 1 : Nat) : Int)]) :: _
                    rw [← hinc]
                    rfl
                  · refine W.aStep [_, _, _, _, _, _] hMe hcall hf fun s' hs' => ?_
                    refine LoadAt.mk 2 _ _ rfl rfl ?_
                    refine With.mk ⟨rfl, by omega, by omega⟩ ?_
                    refine StoreAt.mk 1 _ _ rfl (boC_put _ (by omega)) ?_
                    refine LoadAt.mk 2 _ _ rfl rfl ?_
                    refine With.mk ⟨rfl, by omega, by omega⟩ ?_
                    refine LoadAt.mk 3 _ _ rfl (stC_get (by omega)) ?_
                    refine With.mk ⟨rfl, by omega, by omega⟩ ?_
                    refine StoreAt.mk 3 _ _ rfl (stC_put _ (by omega)) ?_
                    refine LoadAt.mk 2 _ _ rfl rfl ?_
                    refine StoreAt.mk 2 _ _ rfl rfl ?_
                    refine LoadAt.mk 2 _ _ rfl rfl ?_
                    rw [hinc]
                    refine W.aTell [_, _, _, _, _, _] hsee (by rw [hs']; exact W.keeps _ _ _ hf hin) fun s2 hs2 => ?_
                    refine .mk (s2, (st.set i (wr (st.getD i 0 + 1))), (dn.set i (W.step (W.abs s) i pd).2), us + 1) rfl (by show scr.length - (us + 1) < scr.length - us; omega) (inv_stepT hI hall hul hpk hi hin hd (by rw [hs2, hs'])) ⟨rfl, rfl, rfl, rfl, rfl, rfl, trivial⟩ (.drop 0 1 (.pull [2, 2, 0] (shed_eq ?_)))
                    show _ = (br, [AV.mref ba 0 W.L.length 1, AV.mref bd 0 W.L.length 1, AV.int .i64 ((us + 1 : Nat) : Int)]) :: _
                    rw [← hinc]
                    rfl
          · refine W.aStep [_, _, _, _, _, _] hMe hcall hf fun s' hs' => ?_
            refine LoadAt.mk 2 _ _ rfl rfl ?_
            refine With.mk ⟨rfl, by omega, by omega⟩ ?_
            refine StoreAt.mk 1 _ _ rfl (boC_put _ (by omega)) ?_
            refine LoadAt.mk 2 _ _ rfl rfl ?_
            refine With.mk ⟨rfl, by omega, by omega⟩ ?_
            refine LoadAt.mk 3 _ _ rfl (stC_get (by omega)) ?_
            refine With.mk ⟨rfl, by omega, by omega⟩ ?_
            refine StoreAt.mk 3 _ _ rfl (stC_put _ (by omega)) ?_
            refine LoadAt.mk 2 _ _ rfl rfl ?_
            refine StoreAt.mk 2 _ _ rfl rfl ?_
            refine LoadAt.mk 2 _ _ rfl rfl ?_
            rw [hinc]
            refine W.aTell [_, _, _, _, _, _] hsee (by rw [hs']; exact W.keeps _ _ _ hf hin) fun s2 hs2 => ?_
            refine .loop (S := W.S × List Int × List Bool × Nat) (fun _ => 0) (fun _ => [(0, W.mv), (1, .mref lb 0 W.L.length 1), (2, .fsl (.field (.int .i64) (.field (.int .i64) .nil)) scr), (3, .fn (.func g0) [] cap), (8, .ptr bl1 0), (9, .ptr br 0)]) (fun x => (br, [.mref ba 0 W.L.length 1, .mref bd 0 W.L.length 1, .int .i64 x.2.2.2]) :: (ba, stC x.2.1) :: (bd, boC x.2.2.1) :: (bl1, [.nils, .nils, .int .i64 0]) :: (lb, W.L) :: (W.B x.1 ++ σ)) (SInv W scr a0) (fun x => scr.length - x.2.2.2) (s2, (st.set i (wr (st.getD i 0 + 1))), (dn.set i (W.step (W.abs s) i pd).2), us + 1) ⟨rfl, (inv_stepT hI hall hul hpk hi hin hd (by rw [hs2, hs'])), ⟨rfl, rfl, rfl, rfl, rfl, rfl, trivial⟩, .drop 0 1 (.pull [2, 2, 0] (shed_eq ?_))⟩ ?_
            · show _ = (br, [AV.mref ba 0 W.L.length 1, AV.mref bd 0 W.L.length 1, AV.int .i64 ((us + 1 : Nat) : Int)]) :: _
              rw [← hinc]
              rfl
            rintro ⟨s, st, dn, us⟩ g hI
            have ⟨hus, hsl, hdl, hnil, hf, hgo⟩ := hI
            have hus : us ≤ scr.length := hus
            have hsl : st.length = W.L.length := hsl
            have hdl : dn.length = W.L.length := hdl
            have hF := fun σ => aFinS (.mref ba 0 W.L.length 1) us bd dn σ (by omega)
            rw [hdl] at hF
            refine LoadAt.mk 0 _ _ rfl rfl ?_
            refine bcond_dec (fun c1 => ?_) (fun c1 => ?_)
            · have c1 : (↑us : Int) = (↑scr.length : Int) := c1
              have hE := inv_end hI (.inl (by show us = _; omega))
              refine LoadAt.mk 0 _ _ rfl rfl ?_
              refine StoreAt.mk 3 _ _ rfl rfl ?_
              refine LoadAt.mk 3 _ _ rfl rfl ?_
              refine .frz 1 ba 0 W.L.length 1 _ (.int .i64) st rfl (stC_frz hsl) ⟨hsl, rfl, by decide⟩ (frzA3 .here (.refl _) (.refl _) rfl rfl rfl) ?_
              refine .frz 1 bd 0 W.L.length 1 _ .bool dn rfl (boC_frz hdl) ⟨hdl, rfl, by decide⟩ (frzA3 (.refl _) .here (.refl _) rfl rfl rfl) ?_
              exact .drop 0 2 (.done ⟨s, by rw [hE], by rw [hE], rfl⟩)
            · have c1 : ¬ ((↑us : Int) = (↑scr.length : Int)) := c1
              refine LoadAt.mk 0 _ _ rfl rfl ?_
              refine callR [2] (hF _) ?_
              cases hall : dn.all id with
              | true =>
                have hE := inv_end hI (.inr hall)
                refine LoadAt.mk 1 _ _ rfl rfl ?_
                refine StoreAt.mk 3 _ _ rfl rfl ?_
                refine LoadAt.mk 3 _ _ rfl rfl ?_
                refine .frz 2 ba 0 W.L.length 1 _ (.int .i64) st rfl (stC_frz hsl) ⟨hsl, rfl, by decide⟩ (frzA3 .here (.refl _) (.refl _) rfl rfl rfl) ?_
                refine .frz 0 bd 0 W.L.length 1 _ .bool dn rfl (boC_frz hdl) ⟨hdl, rfl, by decide⟩ (frzA3 (.refl _) .here (.refl _) rfl rfl rfl) ?_
                exact .drop 0 2 (.done ⟨s, by rw [hE], by rw [hE], rfl⟩)
              | false =>
                refine LoadAt.mk 1 _ _ rfl rfl ?_
                refine With.mk rfl ?_
                have hul : us < scr.length := by omega
                have hinc : AV.int .i64 (IntKind.i64.wrap ((us : Int) + 1)) = AV.int .i64 ((us + 1 : Nat) : Int) := inc64 (by omega)
                obtain ⟨pk, hpk⟩ : ∃ pk, pk = scr[us] := ⟨_, rfl⟩
                obtain ⟨pw, pd, pu⟩ := pk
                have hn0 : 0 < W.L.length := by
                  rcases Nat.eq_zero_or_pos W.L.length with h0 | h0
                  · rw [List.length_eq_zero_iff.1 (hdl.trans h0)] at hall; cases hall
                  · exact h0
                refine IdxF.mk (pw, pd, pu) (by omega) ((get_some hul).trans (congrArg some hpk.symm)) ?_
                obtain ⟨i, hi⟩ : ∃ i, i = whoS pw W.L.length := ⟨_, rfl⟩
                have hin : i < W.L.length := by rw [hi]; exact whoS_lt hn0
                have hWho := fun σ => aWhoS pw pd W.L.length σ (by omega)
                rw [← hi] at hWho
                intro bp
                refine StoreAt.mk 0 _ _ rfl rfl ?_
                refine LoadAt.mk 0 _ _ rfl rfl ?_
                refine callR [] (hWho _) ?_
                refine LoadAt.mk 2 _ _ rfl rfl ?_
                refine With.mk ⟨rfl, by omega, by omega⟩ ?_
                cases hd : dn[i] with
                | true =>
                  refine LoadAt.mk 1 _ _ rfl (boC_get (by omega) hd) ?_
                  refine LoadAt.mk 2 _ _ rfl rfl ?_
                  refine StoreAt.mk 2 _ _ rfl rfl ?_
                  refine LoadAt.mk 2 _ _ rfl rfl ?_
                  rw [hinc]
                  refine W.aTell [_, _, _, _, _, _] hsee hf fun s2 hs2 => ?_
                  refine .mk (s2, st, dn, us + 1) rfl (by show scr.length - (us + 1) < scr.length - us; omega) (inv_skipT hI hall hul hpk hi (by omega) hd hs2) ⟨rfl, rfl, rfl, rfl, rfl, rfl, trivial⟩ (.drop 0 1 (.pull [2, 2, 0] (shed_eq ?_)))
                  show _ = (br, [AV.mref ba 0 W.L.length 1, AV.mref bd 0 W.L.length 1, AV.int .i64 ((us + 1 : Nat) : Int)]) :: _
                  rw [← hinc]
                  rfl
                | false =>
                  refine LoadAt.mk 1 _ _ rfl (boC_get (by omega) hd) ?_
                  rcases W.mach i hin with hm | ⟨t, r, hm, gS, hMe, hcall⟩
                  · have := hnil i hin hm
                    rw [List.getElem?_eq_getElem (by show i < dn.length; omega)] at this
                    exact absurd (hd.symm.trans (Option.some.inj this)) (by decide)
                  refine .sched [] (.one 0 false (.one 2 false (.one 3 false (.one 4 false (.one 5 false (.one 6 false (.one 7 false (.one 8 false (.one 9 false (.alt 1 (.one 10 false (.one 11 false (.one 12 false .stop))) (.one 10 false (.one 1 false (.one 11 false (.one 12 false .stop)))))))))))))) (by kernel_rfl) ?_
                  refine With.mk ⟨rfl, by omega, by omega⟩ ?_
                  refine LoadAt.mk 5 _ (AV.iface t (.ptr r 0)) rfl (l_get hin hm) ?_
                  refine LoadAt.mk 0 _ _ rfl rfl ?_
                  refine And.intro ?_ ?_
                  · refine LoadAt.mk 2 _ _ rfl rfl ?_
                    refine W.aStep [_, _, _, _, _, _] hMe hcall hf fun s' hs' => ?_
                    refine With.mk ⟨rfl, by omega, by omega⟩ ?_
                    refine StoreAt.mk 1 _ _ rfl (boC_put _ (by omega)) ?_
                    refine LoadAt.mk 2 _ _ rfl rfl ?_
                    refine With.mk ⟨rfl, by omega, by omega⟩ ?_
                    refine LoadAt.mk 3 _ _ rfl (stC_get (by omega)) ?_
                    refine With.mk ⟨rfl, by omega, by omega⟩ ?_
                    refine StoreAt.mk 3 _ _ rfl (stC_put _ (by omega)) ?_
                    refine LoadAt.mk 2 _ _ rfl rfl ?_
                    refine StoreAt.mk 2 _ _ rfl rfl ?_
                    refine LoadAt.mk 2 _ _ rfl rfl ?_
                    rw [hinc]
                    refine W.aTell [_, _, _, _, _, _] hsee (by rw [hs']; exact W.keeps _ _ _ hf hin) fun s2 hs2 => ?_
                    refine .mk (s2, (st.set i (wr (st.getD i 0 + 1))), (dn.set i (W.step (W.abs s) i pd).2), us + 1) rfl (by show scr.length - (us + 1) < scr.length - us; omega) (inv_stepT hI hall hul hpk hi hin hd (by rw [hs2, hs'])) ⟨rfl, rfl, rfl, rfl, rfl, rfl, trivial⟩ (.drop 0 1 (.pull [2, 2, 0] (shed_eq ?_)))
                    show _ = (br, [AV.mref ba 0 W.L.length 1, AV.mref bd 0 W.L.length 1, AV.int .i64 ((us + 1 : Nat) : Int)]) :: _
                    rw [← hinc]
                    rfl
                  · refine W.aStep [_, _, _, _, _, _] hMe hcall hf fun s' hs' => ?_
                    refine LoadAt.mk 2 _ _ rfl rfl ?_
                    refine With.mk ⟨rfl, by omega, by omega⟩ ?_
                    refine StoreAt.mk 1 _ _ rfl (boC_put _ (by omega)) ?_
                    refine LoadAt.mk 2 _ _ rfl rfl ?_
                    refine With.mk ⟨rfl, by omega, by omega⟩ ?_
                    refine LoadAt.mk 3 _ _ rfl (stC_get (by omega)) ?_
                    refine With.mk ⟨rfl, by omega, by omega⟩ ?_
                    refine StoreAt.mk 3 _ _ rfl (stC_put _ (by omega)) ?_
                    refine LoadAt.mk 2 _ _ rfl rfl ?_
                    refine StoreAt.mk 2 _ _ rfl rfl ?_
                    refine LoadAt.mk 2 _ _ rfl rfl ?_
                    rw [hinc]
                    refine W.aTell [_, _, _, _, _, _] hsee (by rw [hs']; exact W.keeps _ _ _ hf hin) fun s2 hs2 => ?_
                    refine .mk (s2, (st.set i (wr (st.getD i 0 + 1))), (dn.set i (W.step (W.abs s) i pd).2), us + 1) rfl (by show scr.length - (us + 1) < scr.length - us; omega) (inv_stepT hI hall hul hpk hi hin hd (by rw [hs2, hs'])) ⟨rfl, rfl, rfl, rfl, rfl, rfl, trivial⟩ (.drop 0 1 (.pull [2, 2, 0] (shed_eq ?_)))
                    show _ = (br, [AV.mref ba 0 W.L.length 1, AV.mref bd 0 W.L.length 1, AV.int .i64 ((us + 1 : Nat) : Int)]) :: _
                    rw [← hinc]
                    rfl
end Go.Proofs.Ytacacplipaeokaa
