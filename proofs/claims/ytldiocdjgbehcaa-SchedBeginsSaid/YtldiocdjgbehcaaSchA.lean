/-
  The walk of SchedRuns.
-/
import Derived.Test.YtldiocdjgbehcaaSchL
namespace Go.Proofs.Ytldiocdjgbehcaa
open Go.RowKit
set_option maxRecDepth 100000
set_option maxHeartbeats 4000000
abbrev z25 (l : List (List Ins)) : List Mach := l.map fun x => (x, ⟨0, 0, 0, 0, 0⟩)
theorem goS_keeps {A : Type} {step : A → Nat → Int → A × Bool} {tell : A → Nat → A} {n : Nat} (I : A → Prop) (h1 : ∀ a i d, I a → I (step a i d).1) (h2 : ∀ a k, I a → I (tell a k)) : ∀ (scr : List (Int × Int × Unit)) (x : SSt A), I x.a → I (goS step tell n scr x).a ∧ (goS step tell n scr x).st.length = x.st.length ∧ (goS step tell n scr x).dn.length = x.dn.length
  | [], x, h => ⟨h, rfl, rfl⟩
  | p :: ps, x, h => by
    unfold goS
    split
    · exact ⟨h, rfl, rfl⟩
    · have h3 : I (pickS step tell n x p).a ∧ (pickS step tell n x p).st.length = x.st.length ∧ (pickS step tell n x p).dn.length = x.dn.length := by
        unfold pickS
        split
        · exact ⟨h2 _ _ h, rfl, rfl⟩
        · exact ⟨h2 _ _ (h1 _ _ _ h), List.length_set .., List.length_set ..⟩
      obtain ⟨i1, i2, i3⟩ := h3
      obtain ⟨j1, j2, j3⟩ := goS_keeps I h1 h2 ps _ i1
      exact ⟨j1, j2.trans i2, j3.trans i3⟩
theorem aRunR0 (m : Nat) (scr : List (Int × Int × Unit)) (σ : Hp) : ACalls Try.prog 99 [.ptr m 0, .nils, .fsl pickSh scr] σ (Ret (.agg [.fsl (.int .i64) [], .fsl .bool [], .int .i64 0]) σ) := by
  refine okF Try.func99 (by kernel_rfl) ?_
  intro bl1
  refine .meet (S := Nat × Nat × Nat) (fun s => [(0, .ptr m 0), (1, .nils), (2, .fsl pickSh scr), (6, .ptr bl1 0), (7, .ptr s.1 0)])
    (fun s => (s.1, [.mref s.2.1 0 0 1, .mref s.2.2 0 0 1, .int .i64 0]) :: (s.2.1, []) :: (s.2.2, []) :: (bl1, [.nils, .nils, .int .i64 0]) :: σ) (by kernel_rfl) ?_ ?_
  · repeat' first
      | exact Meet.mk (_, _, _) ⟨rfl, rfl, rfl, rfl, rfl, trivial⟩ (shed_eq rfl)
      | exact Meet.mk (_, _, _) ⟨rfl, rfl, rfl, rfl, rfl, trivial⟩ (.pull [2, 2, 1] (shed_eq rfl))
      | exact Meet.mk (_, _, _) ⟨rfl, rfl, rfl, rfl, rfl, trivial⟩ (.pull [2, 1, 2] (shed_eq rfl))
      | exact Meet.mk (_, _, _) ⟨rfl, rfl, rfl, rfl, rfl, trivial⟩ (.pull [2, 2, 0] (shed_eq rfl))
      | exact Meet.mk (_, _, _) ⟨rfl, rfl, rfl, rfl, rfl, trivial⟩ (.pull [2, 1, 1] (shed_eq rfl))
      | exact Meet.mk (_, _, _) ⟨rfl, rfl, rfl, rfl, rfl, trivial⟩ (.pull [2, 1, 0] (shed_eq rfl))
      | refine And.intro ?_ ?_
      | refine With.mk ⟨by omega, by omega, by omega, by decide⟩ ?_
      | refine StoreAt.mk 0 _ _ rfl rfl ?_
      | refine StoreAt.mk 1 _ _ rfl rfl ?_
      | refine StoreAt.mk 2 _ _ rfl rfl ?_
      | intro b
  rintro ⟨br, ba, bd⟩ g
  have hF := fun σ => aAllR bd [] σ (by decide)
  refine loopS (S := Unit) (fun s => [(0, .ptr m 0), (1, .nils), (6, .ptr bl1 0), (7, .ptr br 0), (18, .fsl pickSh scr), (19, .int .i64 scr.length), (20, .int .i64 0)])
    (fun s => (br, [.mref ba 0 0 1, .mref bd 0 0 1, .int .i64 0]) :: (ba, []) :: (bd, []) :: (bl1, [.nils, .nils, .int .i64 0]) :: σ) (fun s => True) (fun s => 0) () ⟨trivial, ⟨rfl, rfl, rfl, rfl, rfl, rfl, rfl, trivial⟩, rfl⟩ ?_
  intro _ g _
  refine bcond_dec (fun hlt => ?_) (fun hge => ?_)
  · have hlt : (0 : Int) < scr.length := hlt
    have hlt : 0 < scr.length := by omega
    refine With.mk rfl (IdxF.mk (scr[0]'hlt) (by omega) (get_some (k := 0) hlt) ?_)
    intro bl1
    refine StoreAt.mk 0 _ _ rfl rfl ?_
    refine LoadAt.mk 1 _ _ rfl rfl ?_
    refine callR [3] (hF _) ?_
    refine LoadAt.mk 2 _ _ rfl rfl ?_
    refine StoreAt.mk 4 _ _ rfl rfl ?_
    refine LoadAt.mk 4 _ _ rfl rfl ?_
    refine .frz 3 ba 0 0 1 _ (.int .i64) ([] : List Int) rfl rfl ⟨rfl, rfl, by decide⟩ (frzA3 .here (.refl _) (.refl _) rfl rfl rfl) ?_
    refine .frz 0 bd 0 0 1 _ .bool ([] : List Bool) rfl rfl ⟨rfl, rfl, by decide⟩ (frzA3 (.refl _) .here (.refl _) rfl rfl rfl) ?_
    exact .drop 0 3 (.done ⟨rfl, rfl⟩)
  · refine LoadAt.mk 0 _ _ rfl rfl ?_
    refine StoreAt.mk 3 _ _ rfl rfl ?_
    refine LoadAt.mk 3 _ _ rfl rfl ?_
    refine .frz 1 ba 0 0 1 _ (.int .i64) ([] : List Int) rfl rfl ⟨rfl, rfl, by decide⟩ (frzA3 .here (.refl _) (.refl _) rfl rfl rfl) ?_
    refine .frz 1 bd 0 0 1 _ .bool ([] : List Bool) rfl rfl ⟨rfl, rfl, by decide⟩ (frzA3 (.refl _) .here (.refl _) rfl rfl rfl) ?_
    exact .drop 0 2 (.done ⟨rfl, rfl⟩)
theorem sr_perm1 {x p q m n y : Nat × List AV} (X Y : Hp) : ((x :: p :: q :: (X ++ (m :: n :: y :: Y)) : Hp)).Perm (m :: n :: p :: q :: x :: y :: (X ++ (Y ++ []))) := by
  rw [List.append_nil]
  have h1 : (X ++ ([m, n, y] ++ Y)).Perm ([m, n, y] ++ (X ++ Y)) := front_perm' [m, n, y] X Y
  refine (List.Perm.append_left [x, p, q] h1).trans ?_
  have h2 : ([x, p, q] ++ [m, n, y]).Perm [m, n, p, q, x, y] := by
    refine (List.perm_append_comm (l₁ := [x, p, q]) (l₂ := [m, n, y])).trans ?_
    refine List.Perm.append_left [m, n] ?_
    exact (List.perm_append_comm (l₁ := [y]) (l₂ := [x, p, q])).trans (List.Perm.append_right [y] (List.perm_append_comm (l₁ := [x]) (l₂ := [p, q])))
  exact List.Perm.append_right (X ++ Y) h2
theorem sr_perm2 {x p q m n y : Nat × List AV} (X Y : Hp) : ((y :: m :: n :: (Y ++ (x :: p :: q :: X)) : Hp)).Perm (x :: p :: q :: (X ++ (m :: n :: y :: Y))) := by
  have h0 : ([y, m, n] ++ Y).Perm ([m, n, y] ++ Y) := List.Perm.append_right Y (List.perm_append_comm (l₁ := [y]) (l₂ := [m, n]))
  have h1 : (([y, m, n] ++ Y) ++ ([x, p, q] ++ X)).Perm (([x, p, q] ++ X) ++ ([m, n, y] ++ Y)) := List.perm_append_comm.trans (List.Perm.append_left _ h0)
  simpa only [List.append_assoc, List.cons_append, List.nil_append] using h1
theorem sr_perm3 {x p q m n y : Nat × List AV} (X Y : Hp) : ((x :: y :: p :: q :: m :: n :: (X ++ Y) : Hp)).Perm (y :: m :: n :: (Y ++ (x :: p :: q :: X))) := by
  have h0 : (([y, m, n] ++ Y) ++ ([x, p, q] ++ X)).Perm (([x, p, q] ++ X) ++ ([y, m, n] ++ Y)) := List.perm_append_comm
  have h1 : ([x, p, q] ++ (X ++ ([y, m, n] ++ Y))).Perm ([x, p, q] ++ ([y, m, n] ++ (X ++ Y))) := List.Perm.append_left _ (front_perm' [y, m, n] X Y)
  have h2 : [x, y, p, q, m, n].Perm ([x, p, q] ++ [y, m, n]) :=
    List.Perm.cons x ((List.perm_append_comm (l₁ := [y]) (l₂ := [p, q])).append_right [m, n])
  have h3 : ([x, y, p, q, m, n] ++ (X ++ Y)).Perm (([y, m, n] ++ Y) ++ ([x, p, q] ++ X)) := by
    refine (List.Perm.append_right (X ++ Y) h2).trans ?_
    rw [List.append_assoc]
    refine h1.symm.trans ?_
    rw [← List.append_assoc]
    exact h0.symm
  simpa only [List.append_assoc, List.cons_append, List.nil_append] using h3
theorem step_ws (a : List Mach × List Int) (i : Nat) (d : Int) : (stepO a i d).1.2.length = a.2.length := by
  unfold stepO
  cases hx : a.1[i]? with
  | none => rfl
  | some x => exact psStep_length _ _ _ _
theorem blk_pick {rs : List Nat} {L : List Mach} {k : Nat} (h1 : k < rs.length) (h2 : k < L.length) : ∃ X', (blkO (rs.map some) L).Perm ((rs[k], pgC L[k].1 L[k].2) :: X') := by
  have hz : k < ((rs.map some).zip L).length := by simp; omega
  have h := flatM_perm (f := pmB) hz
  have hzi : ((rs.map some).zip L)[k] = (some rs[k], L[k]) := by simp
  rw [hzi] at h
  exact ⟨_, h⟩
theorem aAlikeAt {rs rr : List Nat} {L : List Mach} {k : Nat} (h1 : k < rs.length) (h2 : k < rr.length) (h3 : k < L.length) (fr : Hp) : ACalls Try.prog 100 [.ptr rs[k] 0, .ptr rr[k] 0] (fr ++ (blkO (rs.map some) L ++ blkO (rr.map some) L)) (Ret (.bool true) (fr ++ (blkO (rs.map some) L ++ blkO (rr.map some) L))) := by
  obtain ⟨X', hX⟩ := blk_pick h1 h3
  obtain ⟨Y', hY⟩ := blk_pick h2 h3
  have hp : (fr ++ (blkO (rs.map some) L ++ blkO (rr.map some) L)).Perm ((rs[k], pgC L[k].1 L[k].2) :: (rr[k], pgC L[k].1 L[k].2) :: (fr ++ (X' ++ Y'))) := by
    refine (List.Perm.append_left fr (hX.append hY)).trans ?_
    have h5 : (((rs[k], pgC L[k].1 L[k].2) :: X') ++ ((rr[k], pgC L[k].1 L[k].2) :: Y')).Perm ((rs[k], pgC L[k].1 L[k].2) :: (rr[k], pgC L[k].1 L[k].2) :: (X' ++ Y')) := List.Perm.cons _ List.perm_middle
    refine (List.Perm.append_left fr h5).trans ?_
    exact (front_perm' fr [(rs[k], pgC L[k].1 L[k].2), (rr[k], pgC L[k].1 L[k].2)] (X' ++ Y')).symm
  exact (aAlike rs[k] rr[k] L[k].1 L[k].2 (fr ++ (X' ++ Y'))).perm2 hp.symm hp
theorem schedRuns_walk (l : List (List Ins)) (scr : List (Int × Int × Unit)) (hL : l.length ≤ maxLen) : ACalls Try.prog 16 [.fsl (.slice instrSh) l, .fsl pickSh scr] [] (fun r _ => r = .bool true) := by
  refine okF Try.func16 (by kernel_rfl) ?_
  refine callR [] awake25a ?_
  refine callR [] (aFew25 l scr _ hL) ?_
  cases hf : few25 l scr
  · exact .done rfl
  obtain ⟨hl20, hl6, hs80⟩ := few25_get hf
  refine .mk [] _ (aMachines l [] hl6 hl20) ?_
  rintro _ _ ⟨rs, rr, va, vb, aa, ab, hrs, hrr, ha, hb, hz, rfl, rfl⟩
  rcases Nat.eq_zero_or_pos l.length with h0 | h0
  · obtain ⟨rfl, rfl, rfl, rfl⟩ := hz h0
    obtain rfl := List.length_eq_zero_iff.1 h0
    obtain rfl := List.length_eq_zero_iff.1 hrs
    obtain rfl := List.length_eq_zero_iff.1 hrr
    refine .mk [] _ (aNew 4 _) ?_
    rintro _ _ ⟨p, q, rfl, rfl⟩
    refine .mk [] _ (aRNew 4 _) ?_
    rintro _ _ ⟨m, q2, rfl, rfl⟩
    refine callR [] (aRun25n _ _ _) ?_
    refine callR [] (aRunR0 m scr _) ?_
    intro bl1
    intro bl2
    refine StoreAt.mk 1 _ _ rfl rfl ?_
    refine StoreAt.mk 0 _ _ rfl rfl ?_
    refine loopS (S := Unit) (fun s => [(5, .nils), (6, .nils), (7, .ptr p 0), (8, .ptr m 0), (9, .ptr bl1 0), (10, .ptr bl2 0), (34, .int .i64 0), (35, .int .i64 0)])
      (fun s => (bl2, [.fsl (.int .i64) [], .fsl .bool [], .int .i64 0]) :: (bl1, [.fsl (.int .i64) [], .fsl .bool [], .int .i64 0]) :: reH m q2 [0, 0, 0, 0] (plH p q [0, 0, 0, 0] [])) (fun s => True) (fun s => 0) () ⟨trivial, ⟨rfl, rfl, rfl, rfl, rfl, rfl, rfl, rfl, trivial⟩, rfl⟩ ?_
    intro _ g _
    refine .quiet (by kernel_rfl) ?_
    refine LoadAt.mk 1 _ _ rfl rfl ?_
    refine LoadAt.mk 0 _ _ rfl rfl ?_
    refine callQ [] (aInts7 _ _ _ (by decide)) ?_
    refine LoadAt.mk 1 _ _ rfl rfl ?_
    refine LoadAt.mk 0 _ _ rfl rfl ?_
    refine callQ [] (aBools _ _ _ (by decide)) ?_
    refine LoadAt.mk 1 _ _ rfl rfl ?_
    refine LoadAt.mk 0 _ _ rfl rfl ?_
    refine callQ [5, 5] (aAll p q [0, 0, 0, 0] _ (by decide)) ?_
    refine LoadAt.mk 2 _ _ rfl rfl ?_
    refine callQ [3] (same10m [0, 0, 0, 0] [0, 0, 0, 0] q2 _ (by decide)) ?_
    refine LoadAt.mk 1 _ _ rfl rfl ?_
    refine callQ [] (aFinF (.fsl (.int .i64) ([] : List Int)) 0 [] _ (by decide)) ?_
    refine LoadAt.mk 0 _ _ rfl rfl ?_
    refine callQ [] (aAllF [] _ (by decide)) ?_
    exact .done rfl
  · obtain ⟨lx, rfl, rfl⟩ := ha.pos h0
    obtain ⟨ly, rfl, rfl⟩ := hb.pos h0
    refine .mk [] _ (aNew 4 _) ?_
    rintro _ _ ⟨p, q, rfl, rfl⟩
    refine .mk [] _ (aRNew 4 _) ?_
    rintro _ _ ⟨m, q2, rfl, rfl⟩
    have hc1 := aRun25 p q rs (z25 l) [0, 0, 0, 0] scr lx ((m, [.mref q2 0 4 1]) :: (q2, woC [0, 0, 0, 0]) :: (ly, rr.map fun r => .ptr r 0) :: blkO (rr.map some) (z25 l)) (by omega) (by simp [hrs]) (by omega) (by intro x hx; obtain ⟨y, hy, rfl⟩ := List.mem_map.1 hx; have := hl20 y hy; show y.length ≤ 1000000; omega) (by omega)
    have hc2 := fun R0 : SSt (List Mach × List Int) => aRunR m q2 ly rr scr (z25 l) [0, 0, 0, 0] ((lx, rs.map fun r => .ptr r 0) :: plH p q R0.a.2 (blkO (rs.map some) R0.a.1)) (by omega) (by simp [hrr]) (by omega) (by intro x hx; obtain ⟨y, hy, rfl⟩ := List.mem_map.1 hx; have := hl20 y hy; show y.length ≤ 1000000; omega)
    rw [hrs] at hc1
    rw [hrr] at hc2
    refine .perm _ (sr_perm1 (blkO (rs.map some) (z25 l)) (blkO (rr.map some) (z25 l))) hc1 ?_
    rintro _ _ ⟨R, hR, rfl, rfl⟩
    refine ⟨(ly, rr.map fun r => .ptr r 0) :: reH m q2 [0, 0, 0, 0] (blkO (rr.map some) (z25 l) ++ ((lx, rs.map fun r => .ptr r 0) :: plH p q R.a.2 (blkO (rs.map some) R.a.1))), sr_perm2 _ _, ?_⟩
    refine .perm _ (List.Perm.refl _) (hc2 R) ?_
    rintro _ _ ⟨R2, hR2, rfl, rfl⟩
    rw [hrr] at hR2
    obtain rfl : R2 = R := hR2.trans hR.symm
    refine ⟨(lx, rs.map fun r => .ptr r 0) :: (ly, rr.map fun r => .ptr r 0) :: plH p q R2.a.2 (reH m q2 R2.a.2 (blkO (rs.map some) R2.a.1 ++ blkO (rr.map some) R2.a.1)), sr_perm3 _ _, ?_⟩
    intro bl1
    intro bl2
    refine StoreAt.mk 1 _ _ rfl rfl ?_
    refine StoreAt.mk 0 _ _ rfl rfl ?_
    have hkp := goS_keeps (step := stepO) (tell := fun a _ => a) (n := l.length) (fun a => (a.1.length = l.length ∧ ∀ x ∈ a.1, x.1.length ≤ 1000000) ∧ a.2.length = 4) (fun a i d h => ⟨step_ok h.1, (step_ws a i d).trans h.2⟩) (fun _ _ h => h) scr ⟨(z25 l, [0, 0, 0, 0]), List.replicate l.length 0, List.replicate l.length false, 0⟩ ⟨⟨by simp, by intro x hx; obtain ⟨y, hy, rfl⟩ := List.mem_map.1 hx; have := hl20 y hy; show y.length ≤ 1000000; omega⟩, rfl⟩
    rw [← hR] at hkp
    obtain ⟨⟨⟨hLl, _⟩, hwl⟩, hsl, hdl⟩ := hkp
    have hsl : R2.st.length = l.length := hsl.trans List.length_replicate
    have hdl : R2.dn.length = l.length := hdl.trans List.length_replicate
    obtain ⟨⟨L, ws⟩, st, dn, us⟩ := R2
    have hLl : L.length = l.length := hLl
    have hwl : ws.length = 4 := hwl
    have hsl : st.length = l.length := hsl
    have hdl : dn.length = l.length := hdl
    clear hR hR2 hc1 hc2
    refine loopS (S := Nat) (fun s => [(5, .mref lx 0 l.length 1), (6, .mref ly 0 l.length 1), (7, .ptr p 0), (8, .ptr m 0), (9, .ptr bl1 0), (10, .ptr bl2 0), (34, .int .i64 l.length), (35, .int .i64 s)])
      (fun s => (bl2, [.fsl (.int .i64) st, .fsl .bool dn, .int .i64 us]) :: (bl1, [.fsl (.int .i64) st, .fsl .bool dn, .int .i64 us]) :: (lx, rs.map fun r => .ptr r 0) :: (ly, rr.map fun r => .ptr r 0) :: plH p q ws (reH m q2 ws (blkO (rs.map some) L ++ blkO (rr.map some) L))) (fun s => s ≤ l.length) (fun s => l.length - s) 0 ⟨Nat.zero_le _, ⟨rfl, rfl, rfl, rfl, rfl, rfl, rfl, rfl, trivial⟩, rfl⟩ ?_
    intro k g hk
    have hk : k ≤ l.length := hk
    refine bcond_dec (fun hlt => ?_) (fun hge => ?_)
    · have hlt : (k : Int) < l.length := hlt
      have hkl : k < l.length := by omega
      have hA := aAlikeAt (rs := rs) (rr := rr) (L := L) (k := k) (by omega) (by omega) (by omega)
      refine .quiet (by kernel_rfl) ?_
      refine With.mk ⟨rfl, by omega, by omega⟩ ?_
      refine LoadAt.mk 2 _ _ rfl (p_get (rs := rs) (i := k) (by omega)) ?_
      refine With.mk ⟨rfl, by omega, by omega⟩ ?_
      refine LoadAt.mk 3 _ _ rfl (p_get (rs := rr) (i := k) (by omega)) ?_
      refine callQ [] (hA [_, _, _, _, _, _, _, _]) ?_
      exact next (k + 1) (by show l.length - (k + 1) < l.length - k; omega) hkl ⟨rfl, rfl, rfl, rfl, rfl, rfl, rfl, inc64 (by omega), trivial⟩ rfl
    · have hge : ¬ (k : Int) < l.length := hge
      refine .quiet (by kernel_rfl) ?_
      refine LoadAt.mk 1 _ _ rfl rfl ?_
      refine LoadAt.mk 0 _ _ rfl rfl ?_
      refine callQ [] (aInts7 _ _ _ (by omega)) ?_
      rw [show (decide (st = st)) = true from decide_eq_true rfl]
      refine LoadAt.mk 1 _ _ rfl rfl ?_
      refine LoadAt.mk 0 _ _ rfl rfl ?_
      refine callQ [] (aBools _ _ _ (by omega)) ?_
      rw [show (decide (dn = dn)) = true from decide_eq_true rfl]
      refine LoadAt.mk 1 _ _ rfl rfl ?_
      refine LoadAt.mk 0 _ _ rfl rfl ?_
      refine bcond_dec (fun c1 => ?_) (fun c1 => ?_)
      · have c1 : (↑us : Int) = (↑us : Int) := c1
        refine callQ [5, 5] (aAll p q ws _ (by omega)) ?_
        refine LoadAt.mk 6 _ _ rfl rfl ?_
        refine callQ [7] (same10m ws ws q2 _ (by omega)) ?_
        rw [show (decide (ws = ws)) = true from decide_eq_true rfl]
        refine LoadAt.mk 1 _ _ rfl rfl ?_
        refine callQ [] (aFinF (.fsl (.int .i64) st) us dn _ (by omega)) ?_
        refine LoadAt.mk 0 _ _ rfl rfl ?_
        refine callQ [] (aAllF dn _ (by omega)) ?_
        refine bcond_split (fun c1 => ?_) (fun c1 => ?_)
        · have c1 : (dn.all id == dn.all id) = true := c1
          exact .done rfl
        · have c1 : (dn.all id == dn.all id) = false := c1
          exact absurd (show (dn.all id == dn.all id) = true by cases dn.all id <;> rfl) (by rw [show (dn.all id == dn.all id) = false by assumption]; decide)
      · have c1 : ¬ ((↑us : Int) = (↑us : Int)) := c1
        exact absurd rfl (by assumption)
end Go.Proofs.Ytldiocdjgbehcaa
