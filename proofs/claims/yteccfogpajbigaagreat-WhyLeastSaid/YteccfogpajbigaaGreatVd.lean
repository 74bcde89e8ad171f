/-
  why.Find.
-/
import Derived.Test.YteccfogpajbigaaGreatVc
namespace Go.Proofs.YteccfogpajbigaaGreat
open Go.RowKit
set_option maxRecDepth 100000
theorem pop_read {off k : Nat} {all : List AV} {u : Int} {r : List Int} (hk : r.length + 1 = k) (h : (all.drop off).take (k * 1) = inC (u :: r)) (h2 : off + k * 1 ≤ all.length) : all[off]? = some (.int .i64 u) ∧ (all.drop (off + 1)).take ((k - 1) * 1) = inC r ∧ off + 1 + (k - 1) * 1 ≤ all.length := by
  subst hk
  rw [Nat.mul_one] at h h2
  have hlt : off < all.length := by omega
  rw [List.drop_eq_getElem_cons hlt, List.take_succ_cons] at h
  injection h with h3 h4
  refine ⟨by rw [List.getElem?_eq_getElem hlt, h3], ?_, by omega⟩
  rw [Nat.mul_one, Nat.add_sub_cancel]; exact h4
theorem accO_pos {k : Nat} {v : AV} {acc : Hp} {cs : List AV} (h : AccO 1 (k + 1) v acc cs) : ∃ b off all, v = .mref b off (k + 1) 1 ∧ acc = [(b, all)] ∧ (all.drop off).take ((k + 1) * 1) = cs ∧ off + (k + 1) * 1 ≤ all.length := by
  generalize hm : k + 1 = m at h
  cases h with
  | nil => omega
  | mref b off k cs all h h2 => exact ⟨b, off, all, rfl, rfl, h, h2⟩
theorem accA_pos {k : Nat} {v : AV} {acc : Hp} {cs : List AV} (h : Acc 1 (k + 1) v acc cs) : ∃ b, v = .mref b 0 (k + 1) 1 ∧ acc = [(b, cs)] := by
  generalize hm : k + 1 = m at h
  cases h with
  | nil => omega
  | mref b k cs h => exact ⟨b, rfl, rfl⟩
theorem last_read {w : List Int} {k : Nat} {x : Int} (hk : w.length = k) (h : ∃ p, w = p ++ [x]) (hs : k ≤ 1000) : (0 ≤ IntKind.i64.wrap ((k : Int) - 1) ∧ IntKind.i64.wrap ((k : Int) - 1) < k) ∧ readAs ⟨.int .i64, 1, 8, [.int .i64 0]⟩ (inC w) (0 + (IntKind.i64.wrap ((k : Int) - 1)).toNat * 1) = some (.int .i64 x) := by
  obtain ⟨p, rfl⟩ := h
  have hk2 : p.length + 1 = k := by rw [← hk]; simp
  have e : IntKind.i64.wrap ((k : Int) - 1) = (p.length : Int) := by rw [IntKind.wrap_i64]; omega
  rw [e]
  refine ⟨by omega, ?_⟩
  have := inC_read (l := p ++ [x]) (k := p.length) (by simp)
  rw [this]; simp
set_option maxHeartbeats 2000000 in
theorem aFind21 (s : Sy) (v n : Int) (σ : Hp) (hf : Fit s) (hr : rightB s v n = true) : ACalls Tryz.prog 44 [.agg (sysC s), .int .i64 v, .int .i64 n] σ (fun r σ' => σ' = σ ∧ ((r = .tup [.nils, .bool false, .int .i64 0] ∧ ∃ ml, FarI s v n ml [] (fun _ => False) ∧ NoC s n ml s.n) ∨ ∃ w, r = .tup [.fsl (.int .i64) w, .bool true, .int .i64 0] ∧ RsW s n w v ∧ w.length ≤ 300)) := by
  have hr2 := right_w hr
  have hg := good_of hr2.2.1
  have hn2 := hg.n2
  obtain ⟨N, hN⟩ : ∃ N : Nat, s.n = N := ⟨s.n.toNat, by omega⟩
  have hC := fun σ => acalls_eq (aSysCheck s σ hf) (av_int hr2.2.1)
  have hR := fun σ => acalls_eq (aWhyRight s v n σ hf) (av_bool hr)
  have hw := check_what hr2.2.1
  refine okF Tryz.func44 (by kernel_rfl) ?_
  intro bl1
  intro bl2
  refine LoadAt.mk 1 _ _ rfl rfl ?_
  refine bcond_split (fun c3 => ?_) (fun c3 => ?_)
  · have c3 : ¬ (s.what = 1) := by simpa using c3
    refine LoadAt.mk 1 _ _ rfl rfl ?_
    refine bcond_split (fun c4 => ?_) (fun c4 => ?_)
    · have c4 : ¬ (s.what = 2) := by simpa using c4
      exact False.elim (by omega)
    · have c4 : s.what = 2 := by simpa using c4
      refine LoadAt.mk 1 _ _ rfl rfl ?_
      refine callR [] (hC _) ?_
      refine LoadAt.mk 1 _ _ rfl rfl ?_
      refine LoadAt.mk 0 _ _ rfl rfl ?_
      refine callR [] (hR _) ?_
      intro bm
      refine MapAt.mk 0 _ _ rfl rfl ?_
      intro bw0
      refine .wrap 12 _ rfl rfl ?_
      refine loopS (S := Nat × Nat × Nat × List AV × List Int × List (Int × Int)) (fun x => [(1, .int .i64 v), (3, .ptr bl1 0), (5, .ptr bl2 0), (10, .fn (.func 85) [] [.ptr bl1 0, .ptr bl2 0]), (11, .mapr bm), (12, .via (.mref x.1 x.2.1 x.2.2.1 1))]) (fun x => (x.1, x.2.2.2.1) :: (bm, [.mapc x.2.2.2.2.2]) :: (bl2, [.int .i64 n]) :: (bl1, sysC s) :: σ) (fun x => FarI s v n x.2.2.2.2.2 x.2.2.2.2.1 (fun _ => False) ∧ x.2.2.2.2.1.length = x.2.2.1 ∧ (x.2.2.2.1.drop x.2.1).take (x.2.2.1 * 1) = inC x.2.2.2.2.1 ∧ x.2.1 + x.2.2.1 * 1 ≤ x.2.2.2.1.length ∧ 2 * (N - x.2.2.2.2.2.length) + x.2.2.1 ≤ 2 * N + 1) (fun x => 2 * (N - x.2.2.2.2.2.length) + x.2.2.1) (bw0, 0, 1, [.int .i64 v], [v], [(v, 0)]) ⟨⟨.start ⟨by omega, by omega⟩, rfl, rfl, by simp, by show 2 * (N - 1) + 1 ≤ 2 * N + 1; omega⟩, ⟨rfl, rfl, rfl, rfl, rfl, rfl, trivial⟩, rfl⟩ ?_
      rintro ⟨bw, off, k, all, W, ml⟩ g hp0
      have hp1 : FarI s v n ml W (fun _ => False) := hp0.1
      have hkW : W.length = k := hp0.2.1
      have hp2 : (all.drop off).take (k * 1) = inC W := hp0.2.2.1
      have hp3 : off + k * 1 ≤ all.length := hp0.2.2.2.1
      have hp4 : 2 * (N - ml.length) + k ≤ 2 * N + 1 := hp0.2.2.2.2
      clear hp0
      have hml := hp1.len hN
      cases W with
      | nil =>
        have hk0 : k = 0 := hkW.symm
        refine bcond_dec (fun hlt => ?_) (fun hge => ?_)
        · have hlt : 0 < (k : Int) := hlt
          omega
        · refine LoadAt.mk 3 _ _ rfl rfl ?_
          refine LoadAt.mk 2 _ _ rfl rfl ?_
          refine .mk [1] _ (aBegin21 s v n ml bm _ hf hn2 (by omega)) ?_
          rintro r σ' ⟨acc, rfl, hb⟩
          rcases hb with ⟨rfl, rfl, hno⟩ | ⟨bb, kb, w, hw, hkw, rfl, rfl⟩
          · exact .drop 0 4 (.done ⟨rfl, .inl ⟨rfl, ml, hp1, hno⟩⟩)
          · obtain ⟨x0, d0, hrs, hx0, hl2⟩ := hw.rs
            have hd0 := (hp1.rng x0 d0 hx0).2
            refine .wrap 18 _ rfl rfl ?_
            refine loopS (S := Nat × Nat × List Int × Int × Int) (fun y => [(1, .int .i64 v), (3, .ptr bl1 0), (11, .mapr bm), (18, .via (.mref y.1 0 y.2.1 1))]) (fun y => (bm, [.mapc ml]) :: (y.1, inC y.2.2.1) :: (bw, all) :: (bl2, [.int .i64 n]) :: (bl1, sysC s) :: σ) (fun y => RsW s n y.2.2.1 y.2.2.2.1 ∧ getM ml y.2.2.2.1 = some y.2.2.2.2 ∧ y.2.2.1.length = y.2.1 ∧ (y.2.1 : Int) + y.2.2.2.2 ≤ 300) (fun y => y.2.2.2.2.toNat) (bb, kb, w, x0, d0) ⟨⟨hrs, hx0, hkw, by show (kb : Int) + d0 ≤ 300; omega⟩, ⟨rfl, rfl, rfl, rfl, trivial⟩, rfl⟩ ?_
            rintro ⟨bb, kb, w, x, d⟩ g2 hq0
            have hrs : RsW s n w x := hq0.1
            have hx : getM ml x = some d := hq0.2.1
            have hkw : w.length = kb := hq0.2.2.1
            have hsz : (kb : Int) + d ≤ 300 := hq0.2.2.2
            clear hq0
            have hxr := hp1.rng x d hx
            obtain ⟨hlr, hread⟩ := last_read hkw hrs.last (by omega)
            refine With.mk ⟨rfl, hlr.1, hlr.2⟩ ?_
            refine LoadAt.mk 1 _ _ rfl hread ?_
            refine bcond_split (fun c5 => ?_) (fun c5 => ?_)
            · have c5 : ¬ (x = v) := by simpa using c5
              refine With.mk ⟨rfl, hlr.1, hlr.2⟩ ?_
              refine LoadAt.mk 1 _ _ rfl hread ?_
              refine LoadAt.mk 4 _ _ rfl rfl ?_
              refine LoadAt.mk 4 _ _ rfl rfl ?_
              obtain ⟨L, hL⟩ : ∃ L : List Int, toS s.n s.edges x = L := ⟨_, rfl⟩
              have hLl : L.length ≤ 256 := by have := toS_len s.n s.edges x; rw [hL] at this; omega
              have hNx : ∀ σ, ACalls Tryz.prog 54 [.int .i64 s.n, .fsl edgeSh s.edges, .int .i64 x] σ (Ret (.fsl (.int .i64) L) σ) := fun σ => hL ▸ aNext s.n s.edges x σ hf.elen
              refine callR [] (hNx _) ?_
              refine loopS (S := Nat) (fun j => [(1, .int .i64 v), (3, .ptr bl1 0), (11, .mapr bm), (18, .via (.mref bb 0 kb 1)), (19, .int .i64 x), (109, .fsl (.int .i64) L), (110, .int .i64 L.length), (111, .int .i64 j)]) (fun _ => (bm, [.mapc ml]) :: (bb, inC w) :: (bw, all) :: (bl2, [.int .i64 n]) :: (bl1, sysC s) :: σ) (fun j => j ≤ L.length ∧ ∀ b ∈ L.take j, getM ml b ≠ some (d - 1)) (fun j => L.length - j) 0 ⟨⟨Nat.zero_le _, fun b hb => by cases hb⟩, ⟨rfl, rfl, rfl, rfl, rfl, rfl, rfl, rfl, trivial⟩, rfl⟩ ?_
              rintro j g3 ⟨hj0, hno0⟩
              have hj : j ≤ L.length := hj0
              have hno : ∀ b ∈ L.take j, getM ml b ≠ some (d - 1) := hno0
              clear hj0 hno0
              refine bcond_dec (fun hlt2 => ?_) (fun hge2 => ?_)
              · have hlt2 : j < L.length := by have hlt2 : (j : Int) < L.length := hlt2; omega
                obtain ⟨b, hbj⟩ : ∃ b : Int, L[j] = b := ⟨_, rfl⟩
                have hbm : b ∈ toS s.n s.edges x := by rw [hL, ← hbj]; exact List.getElem_mem hlt2
                have htk : L.take (j + 1) = L.take j ++ [b] := by rw [List.take_succ_eq_append_getElem hlt2, hbj]
                have hstep : getM ml b ≠ some (d - 1) → ∀ c ∈ L.take (j + 1), getM ml c ≠ some (d - 1) := fun hb c hc => by
                  rw [htk] at hc
                  rcases List.mem_append.1 hc with hc | hc
                  · exact hno c hc
                  · rw [List.mem_singleton.1 hc]; exact hb
                refine With.mk rfl (IdxF.mk b (by omega) ((get_some hlt2).trans (congrArg some hbj)) ?_)
                refine MapAt.mk 0 _ _ rfl rfl ?_
                generalize hg2 : getM ml b = o2
                cases o2 with
                | none =>
                  exact nextS (j + 1) (by show L.length - (j + 1) < L.length - j; omega) ⟨hlt2, hstep (by rw [hg2]; intro h; cases h)⟩ ⟨rfl, rfl, rfl, rfl, rfl, rfl, rfl, inc64 (by omega), trivial⟩ (.refl _)
                | some db =>
                  refine MapAt.mk 0 _ _ rfl rfl ?_
                  have hwr : IntKind.i64.wrap ((getM ml x).getD 0 - 1) = d - 1 := by
                    rw [hx]
                    show IntKind.i64.wrap (d - 1) = d - 1
                    rw [IntKind.wrap_i64]; omega
                  refine bcond_dec (p := db = IntKind.i64.wrap ((getM ml x).getD 0 - 1)) (fun c6 => ?_) (fun c6 => ?_)
                  · rw [hwr] at c6
                    have hdb := hp1.rng b db hg2
                    have hpx : passB s x n = true := by
                      rcases hxr.2.2.2 with ⟨h1, _⟩ | ⟨_, h2, _⟩
                      · exact absurd h1 c5
                      · exact h2
                    intro bl9
                    refine append_acc [_, _] (.mref bb kb (inC w) (by simp [inC, hkw])) (.mref 0 bl9 0 1 _ rfl (Nat.le_of_ble_eq_true rfl)) rfl (by omega) (by decide) (by decide) (fun v' acc' h' => ?_)
                    obtain ⟨b3, rfl, rfl⟩ := accA_pos h'
                    refine nextS (b3, kb + 1, w ++ [b], b, db) (by show db.toNat < d.toNat; omega) ⟨.app w x b hrs hpx hbm, hg2, by show (w ++ [b]).length = kb + 1; rw [List.length_append, hkw]; rfl, by show ((kb + 1 : Nat) : Int) + db ≤ 300; omega⟩ ⟨rfl, rfl, rfl, rfl, trivial⟩ (.drop 0 1 (shed_eq ?_))
                    show (bm, [.mapc ml]) :: (b3, inC w ++ [.int .i64 b]) :: _ = _
                    rw [show inC w ++ [.int .i64 b] = inC (w ++ [b]) by simp [inC]]
                    rfl
                  · rw [hwr] at c6
                    exact nextS (j + 1) (by show L.length - (j + 1) < L.length - j; omega) ⟨hlt2, hstep (by rw [hg2]; intro h; exact c6 (Option.some.inj h))⟩ ⟨rfl, rfl, rfl, rfl, rfl, rfl, rfl, inc64 (by omega), trivial⟩ (.refl _)
              · have hge2 : j = L.length := by have hge2 : ¬ (j : Int) < L.length := hge2; omega
                subst hge2
                rw [List.take_length] at hno
                rcases hxr.2.2.2 with ⟨h1, _⟩ | ⟨_, _, b, hb, h2⟩
                · exact absurd h1 c5
                · exact absurd h2 (hno b (hL ▸ hb))
            · have c5 : x = v := by simpa using c5
              subst c5
              refine .frz 1 bb 0 kb 1 _ (.int .i64) w rfl ?_ ⟨hkw, rfl, by decide⟩ (frz_cons .here (.refl _)) ?_
              · rw [List.drop_zero, List.take_of_length_le (by simp [inC, hkw]), inC_flat]
              · exact .drop 0 4 (.done ⟨rfl, .inr ⟨w, rfl, hrs, Nat.le_trans (Nat.le_of_eq hkw) (by omega)⟩⟩)
      | cons u r =>
        have hk1 : r.length + 1 = k := hkW
        obtain ⟨hr1, hr2', hr3⟩ := pop_read hk1 hp2 hp3
        refine bcond_dec (fun hlt => ?_) (fun hge => ?_)
        · have hlt : 0 < (k : Int) := hlt
          refine With.mk ⟨rfl, by omega, by omega⟩ ?_
          refine LoadAt.mk 0 _ _ rfl (show readAs ⟨.int .i64, 1, 8, [.int .i64 0]⟩ all (off + Int.toNat 0 * 1) = some (.int .i64 u) from hr1) ?_
          refine With.mk ⟨by omega, by omega, by omega, rfl⟩ ?_
          refine callR [3, 3] (aBackC s n u bl1 bl2 _ hf hn2) ?_
          obtain ⟨B, hB⟩ : ∃ B : List Int, backL s n u = B := ⟨_, rfl⟩
          rw [hB]
          obtain ⟨d, hd⟩ := hp1.wt u (List.mem_cons_self ..)
          have hBl : B.length ≤ 256 := by
            have h1 := toS_len s.n (sortedE (turnE s.edges)) u
            have h2 : B.length ≤ (toS s.n (sortedE (turnE s.edges)) u).length := by rw [← hB]; exact List.length_filter_le _ _
            omega
          have hpop := hp1.pop
          have hmu : 2 * (N - ml.length) + (k - 1) < 2 * (N - ml.length) + k := by omega
          refine .wrap 12 _ rfl rfl ?_
          refine loopS (S := Nat × Nat × Nat × Nat × List AV × List Int × List (Int × Int)) (fun y => [(1, .int .i64 v), (3, .ptr bl1 0), (5, .ptr bl2 0), (10, .fn (.func 85) [] [.ptr bl1 0, .ptr bl2 0]), (11, .mapr bm), (12, .via (.mref y.2.1 y.2.2.1 y.2.2.2.1 1)), (13, .int .i64 u), (58, .fsl (.int .i64) B), (59, .int .i64 B.length), (60, .int .i64 y.1)]) (fun y => (bl2, [.int .i64 n]) :: (bl1, sysC s) :: (y.2.1, y.2.2.2.2.1) :: (bm, [.mapc y.2.2.2.2.2.2]) :: σ) (fun y => y.1 ≤ B.length ∧ FarI s v n y.2.2.2.2.2.2 y.2.2.2.2.2.1 (fun z => z = u) ∧ (∀ a ∈ B.take y.1, ∃ d', getM y.2.2.2.2.2.2 a = some d') ∧ y.2.2.2.2.2.1.length = y.2.2.2.1 ∧ (y.2.2.2.2.1.drop y.2.2.1).take (y.2.2.2.1 * 1) = inC y.2.2.2.2.2.1 ∧ y.2.2.1 + y.2.2.2.1 * 1 ≤ y.2.2.2.2.1.length ∧ 2 * (N - y.2.2.2.2.2.2.length) + y.2.2.2.1 ≤ 2 * (N - ml.length) + (k - 1) ∧ getM y.2.2.2.2.2.2 u = some d) (fun y => B.length - y.1) (0, bw, off + 1, k - 1, all, r, ml) ⟨⟨Nat.zero_le _, hpop, (fun a ha => by cases ha), by show r.length = k - 1; omega, hr2', hr3, Nat.le_refl _, hd⟩, ⟨rfl, rfl, rfl, rfl, rfl, rfl, rfl, rfl, rfl, rfl, trivial⟩, rfl⟩ ?_
          rintro ⟨j, bw', off', k', all', W', ml'⟩ g2 hq0
          have hj : j ≤ B.length := hq0.1
          have hq1 : FarI s v n ml' W' (fun z => z = u) := hq0.2.1
          have hq2 : ∀ a ∈ B.take j, ∃ d', getM ml' a = some d' := hq0.2.2.1
          have hkW' : W'.length = k' := hq0.2.2.2.1
          have hq3 : (all'.drop off').take (k' * 1) = inC W' := hq0.2.2.2.2.1
          have hq4 : off' + k' * 1 ≤ all'.length := hq0.2.2.2.2.2.1
          have hq5 : 2 * (N - ml'.length) + k' ≤ 2 * (N - ml.length) + (k - 1) := hq0.2.2.2.2.2.2.1
          have hd' : getM ml' u = some d := hq0.2.2.2.2.2.2.2
          clear hq0
          refine bcond_dec (fun hlt2 => ?_) (fun hge2 => ?_)
          · have hlt2 : j < B.length := by have hlt2 : (j : Int) < B.length := hlt2; omega
            obtain ⟨a, haj⟩ : ∃ a : Int, B[j] = a := ⟨_, rfl⟩
            have ham : a ∈ backL s n u := by rw [hB, ← haj]; exact List.getElem_mem hlt2
            have htk : B.take (j + 1) = B.take j ++ [a] := by rw [List.take_succ_eq_append_getElem hlt2, haj]
            refine With.mk rfl (IdxF.mk a (by omega) ((get_some hlt2).trans (congrArg some haj)) ?_)
            refine MapAt.mk 3 _ _ rfl rfl ?_
            generalize hga : getM ml' a = o
            cases o with
            | none =>
              have hdr := hq1.rng u d hd'
              have hml' := hq1.len hN
              have hwr : IntKind.i64.wrap ((getM ml' u).getD 0 + 1) = d + 1 := by
                rw [hd']
                show IntKind.i64.wrap (d + 1) = d + 1
                rw [IntKind.wrap_i64]; omega
              have hpush := hq1.push hd' hga ham
              have hlen' : (putM ml' a (d + 1)).length = ml'.length + 1 := by rw [putM_new hga]; simp
              have hml2 := hpush.len hN
              have hmet : ∀ z, (∃ d', getM ml' z = some d') ∨ z = a → ∃ d', getM (putM ml' a (d + 1)) z = some d' := fun z hz => by
                rw [getM_set]
                by_cases e : z = a
                · rw [if_pos e]; exact ⟨_, rfl⟩
                · rw [if_neg e]; exact hz.resolve_right e
              rw [← hwr] at hpush hlen' hml2 hmet
              refine MapAt.mk 3 _ _ rfl rfl ?_
              refine MapAt.mk 3 _ _ rfl rfl ?_
              intro bl9
              refine append_accO [_, _, _] (.mref bw' off' k' (inC W') all' hq3 hq4) (.mref 0 bl9 0 1 _ rfl (Nat.le_of_ble_eq_true rfl)) rfl (by omega) (by decide) (by decide) (fun v' acc' h' => ?_)
              obtain ⟨b3, off3, all3, rfl, rfl, h3, h4⟩ := accO_pos h'
              refine nextS (j + 1, b3, off3, k' + 1, all3, W' ++ [a], putM ml' a (IntKind.i64.wrap ((getM ml' u).getD 0 + 1))) (by show B.length - (j + 1) < B.length - j; omega) ⟨hlt2, hpush, ?_, by show (W' ++ [a]).length = k' + 1; rw [List.length_append, hkW']; rfl, ?_, h4, ?_, ?_⟩ ⟨rfl, rfl, rfl, rfl, rfl, rfl, rfl, rfl, rfl, inc64 (by omega), trivial⟩ (.drop 0 1 (shed_eq rfl))
              · intro z hz
                rw [show B.take (j + 1) = B.take j ++ [a] from htk] at hz
                rcases List.mem_append.1 hz with hz | hz
                · exact hmet z (.inl (hq2 z hz))
                · exact hmet z (.inr (List.mem_singleton.1 hz))
              · show (all3.drop off3).take ((k' + 1) * 1) = inC (W' ++ [a])
                rw [show inC (W' ++ [a]) = inC W' ++ [.int .i64 a] by simp [inC]]
                exact h3
              · show 2 * (N - (putM ml' a (IntKind.i64.wrap ((getM ml' u).getD 0 + 1))).length) + (k' + 1) ≤ 2 * (N - ml.length) + (k - 1)
                omega
              · show getM (putM ml' a (IntKind.i64.wrap ((getM ml' u).getD 0 + 1))) u = some d
                rw [getM_set, if_neg (fun e => by rw [← e, hd'] at hga; cases hga)]; exact hd'
            | some da =>
              refine nextS (j + 1, bw', off', k', all', W', ml') (by show B.length - (j + 1) < B.length - j; omega) ⟨hlt2, hq1, ?_, hkW', hq3, hq4, hq5, hd'⟩ ⟨rfl, rfl, rfl, rfl, rfl, rfl, rfl, rfl, rfl, inc64 (by omega), trivial⟩ (.refl _)
              intro z hz
              rw [show B.take (j + 1) = B.take j ++ [a] from htk] at hz
              rcases List.mem_append.1 hz with hz | hz
              · exact hq2 z hz
              · rw [List.mem_singleton.1 hz]; exact ⟨da, hga⟩
          · have hge2 : j = B.length := by have hge2 : ¬ (j : Int) < B.length := hge2; omega
            subst hge2
            rw [List.take_length] at hq2
            exact nextS (bw', off', k', all', W', ml') (by show 2 * (N - ml'.length) + k' < 2 * (N - ml.length) + k; omega) ⟨hq1.closed (hB ▸ hq2), hkW', hq3, hq4, by show 2 * (N - ml'.length) + k' ≤ 2 * N + 1; omega⟩ ⟨rfl, rfl, rfl, rfl, rfl, rfl, trivial⟩ (.pull [3, 3] (shed_eq rfl))
        · have hge : ¬ (0 < (k : Int)) := hge
          omega
  · have c3 : s.what = 1 := by simpa using c3
    refine LoadAt.mk 1 _ _ rfl rfl ?_
    refine callR [] (hC _) ?_
    refine LoadAt.mk 1 _ _ rfl rfl ?_
    refine LoadAt.mk 0 _ _ rfl rfl ?_
    refine callR [] (hR _) ?_
    intro bm
    refine MapAt.mk 0 _ _ rfl rfl ?_
    intro bw0
    refine .wrap 12 _ rfl rfl ?_
    refine loopS (S := Nat × Nat × Nat × List AV × List Int × List (Int × Int)) (fun x => [(1, .int .i64 v), (3, .ptr bl1 0), (5, .ptr bl2 0), (10, .fn (.func 85) [] [.ptr bl1 0, .ptr bl2 0]), (11, .mapr bm), (12, .via (.mref x.1 x.2.1 x.2.2.1 1))]) (fun x => (x.1, x.2.2.2.1) :: (bm, [.mapc x.2.2.2.2.2]) :: (bl2, [.int .i64 n]) :: (bl1, sysC s) :: σ) (fun x => FarI s v n x.2.2.2.2.2 x.2.2.2.2.1 (fun _ => False) ∧ x.2.2.2.2.1.length = x.2.2.1 ∧ (x.2.2.2.1.drop x.2.1).take (x.2.2.1 * 1) = inC x.2.2.2.2.1 ∧ x.2.1 + x.2.2.1 * 1 ≤ x.2.2.2.1.length ∧ 2 * (N - x.2.2.2.2.2.length) + x.2.2.1 ≤ 2 * N + 1) (fun x => 2 * (N - x.2.2.2.2.2.length) + x.2.2.1) (bw0, 0, 1, [.int .i64 v], [v], [(v, 0)]) ⟨⟨.start ⟨by omega, by omega⟩, rfl, rfl, by simp, by show 2 * (N - 1) + 1 ≤ 2 * N + 1; omega⟩, ⟨rfl, rfl, rfl, rfl, rfl, rfl, trivial⟩, rfl⟩ ?_
    rintro ⟨bw, off, k, all, W, ml⟩ g hp0
    have hp1 : FarI s v n ml W (fun _ => False) := hp0.1
    have hkW : W.length = k := hp0.2.1
    have hp2 : (all.drop off).take (k * 1) = inC W := hp0.2.2.1
    have hp3 : off + k * 1 ≤ all.length := hp0.2.2.2.1
    have hp4 : 2 * (N - ml.length) + k ≤ 2 * N + 1 := hp0.2.2.2.2
    clear hp0
    have hml := hp1.len hN
    cases W with
    | nil =>
      have hk0 : k = 0 := hkW.symm
      refine bcond_dec (fun hlt => ?_) (fun hge => ?_)
      · have hlt : 0 < (k : Int) := hlt
        omega
      · refine LoadAt.mk 3 _ _ rfl rfl ?_
        refine LoadAt.mk 2 _ _ rfl rfl ?_
        refine .mk [1] _ (aBegin21 s v n ml bm _ hf hn2 (by omega)) ?_
        rintro r σ' ⟨acc, rfl, hb⟩
        rcases hb with ⟨rfl, rfl, hno⟩ | ⟨bb, kb, w, hw, hkw, rfl, rfl⟩
        · exact .drop 0 4 (.done ⟨rfl, .inl ⟨rfl, ml, hp1, hno⟩⟩)
        · obtain ⟨x0, d0, hrs, hx0, hl2⟩ := hw.rs
          have hd0 := (hp1.rng x0 d0 hx0).2
          refine .wrap 18 _ rfl rfl ?_
          refine loopS (S := Nat × Nat × List Int × Int × Int) (fun y => [(1, .int .i64 v), (3, .ptr bl1 0), (11, .mapr bm), (18, .via (.mref y.1 0 y.2.1 1))]) (fun y => (bm, [.mapc ml]) :: (y.1, inC y.2.2.1) :: (bw, all) :: (bl2, [.int .i64 n]) :: (bl1, sysC s) :: σ) (fun y => RsW s n y.2.2.1 y.2.2.2.1 ∧ getM ml y.2.2.2.1 = some y.2.2.2.2 ∧ y.2.2.1.length = y.2.1 ∧ (y.2.1 : Int) + y.2.2.2.2 ≤ 300) (fun y => y.2.2.2.2.toNat) (bb, kb, w, x0, d0) ⟨⟨hrs, hx0, hkw, by show (kb : Int) + d0 ≤ 300; omega⟩, ⟨rfl, rfl, rfl, rfl, trivial⟩, rfl⟩ ?_
          rintro ⟨bb, kb, w, x, d⟩ g2 hq0
          have hrs : RsW s n w x := hq0.1
          have hx : getM ml x = some d := hq0.2.1
          have hkw : w.length = kb := hq0.2.2.1
          have hsz : (kb : Int) + d ≤ 300 := hq0.2.2.2
          clear hq0
          have hxr := hp1.rng x d hx
          obtain ⟨hlr, hread⟩ := last_read hkw hrs.last (by omega)
          refine With.mk ⟨rfl, hlr.1, hlr.2⟩ ?_
          refine LoadAt.mk 1 _ _ rfl hread ?_
          refine bcond_split (fun c5 => ?_) (fun c5 => ?_)
          · have c5 : ¬ (x = v) := by simpa using c5
            refine With.mk ⟨rfl, hlr.1, hlr.2⟩ ?_
            refine LoadAt.mk 1 _ _ rfl hread ?_
            refine LoadAt.mk 4 _ _ rfl rfl ?_
            refine LoadAt.mk 4 _ _ rfl rfl ?_
            obtain ⟨L, hL⟩ : ∃ L : List Int, toS s.n s.edges x = L := ⟨_, rfl⟩
            have hLl : L.length ≤ 256 := by have := toS_len s.n s.edges x; rw [hL] at this; omega
            have hNx : ∀ σ, ACalls Tryz.prog 54 [.int .i64 s.n, .fsl edgeSh s.edges, .int .i64 x] σ (Ret (.fsl (.int .i64) L) σ) := fun σ => hL ▸ aNext s.n s.edges x σ hf.elen
            refine callR [] (hNx _) ?_
            refine loopS (S := Nat) (fun j => [(1, .int .i64 v), (3, .ptr bl1 0), (11, .mapr bm), (18, .via (.mref bb 0 kb 1)), (19, .int .i64 x), (109, .fsl (.int .i64) L), (110, .int .i64 L.length), (111, .int .i64 j)]) (fun _ => (bm, [.mapc ml]) :: (bb, inC w) :: (bw, all) :: (bl2, [.int .i64 n]) :: (bl1, sysC s) :: σ) (fun j => j ≤ L.length ∧ ∀ b ∈ L.take j, getM ml b ≠ some (d - 1)) (fun j => L.length - j) 0 ⟨⟨Nat.zero_le _, fun b hb => by cases hb⟩, ⟨rfl, rfl, rfl, rfl, rfl, rfl, rfl, rfl, trivial⟩, rfl⟩ ?_
            rintro j g3 ⟨hj0, hno0⟩
            have hj : j ≤ L.length := hj0
            have hno : ∀ b ∈ L.take j, getM ml b ≠ some (d - 1) := hno0
            clear hj0 hno0
            refine bcond_dec (fun hlt2 => ?_) (fun hge2 => ?_)
            · have hlt2 : j < L.length := by have hlt2 : (j : Int) < L.length := hlt2; omega
              obtain ⟨b, hbj⟩ : ∃ b : Int, L[j] = b := ⟨_, rfl⟩
              have hbm : b ∈ toS s.n s.edges x := by rw [hL, ← hbj]; exact List.getElem_mem hlt2
              have htk : L.take (j + 1) = L.take j ++ [b] := by rw [List.take_succ_eq_append_getElem hlt2, hbj]
              have hstep : getM ml b ≠ some (d - 1) → ∀ c ∈ L.take (j + 1), getM ml c ≠ some (d - 1) := fun hb c hc => by
                rw [htk] at hc
                rcases List.mem_append.1 hc with hc | hc
                · exact hno c hc
                · rw [List.mem_singleton.1 hc]; exact hb
              refine With.mk rfl (IdxF.mk b (by omega) ((get_some hlt2).trans (congrArg some hbj)) ?_)
              refine MapAt.mk 0 _ _ rfl rfl ?_
              generalize hg2 : getM ml b = o2
              cases o2 with
              | none =>
                exact nextS (j + 1) (by show L.length - (j + 1) < L.length - j; omega) ⟨hlt2, hstep (by rw [hg2]; intro h; cases h)⟩ ⟨rfl, rfl, rfl, rfl, rfl, rfl, rfl, inc64 (by omega), trivial⟩ (.refl _)
              | some db =>
                refine MapAt.mk 0 _ _ rfl rfl ?_
                have hwr : IntKind.i64.wrap ((getM ml x).getD 0 - 1) = d - 1 := by
                  rw [hx]
                  show IntKind.i64.wrap (d - 1) = d - 1
                  rw [IntKind.wrap_i64]; omega
                refine bcond_dec (p := db = IntKind.i64.wrap ((getM ml x).getD 0 - 1)) (fun c6 => ?_) (fun c6 => ?_)
                · rw [hwr] at c6
                  have hdb := hp1.rng b db hg2
                  have hpx : passB s x n = true := by
                    rcases hxr.2.2.2 with ⟨h1, _⟩ | ⟨_, h2, _⟩
                    · exact absurd h1 c5
                    · exact h2
                  intro bl9
                  refine append_acc [_, _] (.mref bb kb (inC w) (by simp [inC, hkw])) (.mref 0 bl9 0 1 _ rfl (Nat.le_of_ble_eq_true rfl)) rfl (by omega) (by decide) (by decide) (fun v' acc' h' => ?_)
                  obtain ⟨b3, rfl, rfl⟩ := accA_pos h'
                  refine nextS (b3, kb + 1, w ++ [b], b, db) (by show db.toNat < d.toNat; omega) ⟨.app w x b hrs hpx hbm, hg2, by show (w ++ [b]).length = kb + 1; rw [List.length_append, hkw]; rfl, by show ((kb + 1 : Nat) : Int) + db ≤ 300; omega⟩ ⟨rfl, rfl, rfl, rfl, trivial⟩ (.drop 0 1 (shed_eq ?_))
                  show (bm, [.mapc ml]) :: (b3, inC w ++ [.int .i64 b]) :: _ = _
                  rw [show inC w ++ [.int .i64 b] = inC (w ++ [b]) by simp [inC]]
                  rfl
                · rw [hwr] at c6
                  exact nextS (j + 1) (by show L.length - (j + 1) < L.length - j; omega) ⟨hlt2, hstep (by rw [hg2]; intro h; exact c6 (Option.some.inj h))⟩ ⟨rfl, rfl, rfl, rfl, rfl, rfl, rfl, inc64 (by omega), trivial⟩ (.refl _)
            · have hge2 : j = L.length := by have hge2 : ¬ (j : Int) < L.length := hge2; omega
              subst hge2
              rw [List.take_length] at hno
              rcases hxr.2.2.2 with ⟨h1, _⟩ | ⟨_, _, b, hb, h2⟩
              · exact absurd h1 c5
              · exact absurd h2 (hno b (hL ▸ hb))
          · have c5 : x = v := by simpa using c5
            subst c5
            refine .frz 1 bb 0 kb 1 _ (.int .i64) w rfl ?_ ⟨hkw, rfl, by decide⟩ (frz_cons .here (.refl _)) ?_
            · rw [List.drop_zero, List.take_of_length_le (by simp [inC, hkw]), inC_flat]
            · exact .drop 0 4 (.done ⟨rfl, .inr ⟨w, rfl, hrs, Nat.le_trans (Nat.le_of_eq hkw) (by omega)⟩⟩)
    | cons u r =>
      have hk1 : r.length + 1 = k := hkW
      obtain ⟨hr1, hr2', hr3⟩ := pop_read hk1 hp2 hp3
      refine bcond_dec (fun hlt => ?_) (fun hge => ?_)
      · have hlt : 0 < (k : Int) := hlt
        refine With.mk ⟨rfl, by omega, by omega⟩ ?_
        refine LoadAt.mk 0 _ _ rfl (show readAs ⟨.int .i64, 1, 8, [.int .i64 0]⟩ all (off + Int.toNat 0 * 1) = some (.int .i64 u) from hr1) ?_
        refine With.mk ⟨by omega, by omega, by omega, rfl⟩ ?_
        refine callR [3, 3] (aBackC s n u bl1 bl2 _ hf hn2) ?_
        obtain ⟨B, hB⟩ : ∃ B : List Int, backL s n u = B := ⟨_, rfl⟩
        rw [hB]
        obtain ⟨d, hd⟩ := hp1.wt u (List.mem_cons_self ..)
        have hBl : B.length ≤ 256 := by
          have h1 := toS_len s.n (sortedE (turnE s.edges)) u
          have h2 : B.length ≤ (toS s.n (sortedE (turnE s.edges)) u).length := by rw [← hB]; exact List.length_filter_le _ _
          omega
        have hpop := hp1.pop
        have hmu : 2 * (N - ml.length) + (k - 1) < 2 * (N - ml.length) + k := by omega
        refine .wrap 12 _ rfl rfl ?_
        refine loopS (S := Nat × Nat × Nat × Nat × List AV × List Int × List (Int × Int)) (fun y => [(1, .int .i64 v), (3, .ptr bl1 0), (5, .ptr bl2 0), (10, .fn (.func 85) [] [.ptr bl1 0, .ptr bl2 0]), (11, .mapr bm), (12, .via (.mref y.2.1 y.2.2.1 y.2.2.2.1 1)), (13, .int .i64 u), (58, .fsl (.int .i64) B), (59, .int .i64 B.length), (60, .int .i64 y.1)]) (fun y => (bl2, [.int .i64 n]) :: (bl1, sysC s) :: (y.2.1, y.2.2.2.2.1) :: (bm, [.mapc y.2.2.2.2.2.2]) :: σ) (fun y => y.1 ≤ B.length ∧ FarI s v n y.2.2.2.2.2.2 y.2.2.2.2.2.1 (fun z => z = u) ∧ (∀ a ∈ B.take y.1, ∃ d', getM y.2.2.2.2.2.2 a = some d') ∧ y.2.2.2.2.2.1.length = y.2.2.2.1 ∧ (y.2.2.2.2.1.drop y.2.2.1).take (y.2.2.2.1 * 1) = inC y.2.2.2.2.2.1 ∧ y.2.2.1 + y.2.2.2.1 * 1 ≤ y.2.2.2.2.1.length ∧ 2 * (N - y.2.2.2.2.2.2.length) + y.2.2.2.1 ≤ 2 * (N - ml.length) + (k - 1) ∧ getM y.2.2.2.2.2.2 u = some d) (fun y => B.length - y.1) (0, bw, off + 1, k - 1, all, r, ml) ⟨⟨Nat.zero_le _, hpop, (fun a ha => by cases ha), by show r.length = k - 1; omega, hr2', hr3, Nat.le_refl _, hd⟩, ⟨rfl, rfl, rfl, rfl, rfl, rfl, rfl, rfl, rfl, rfl, trivial⟩, rfl⟩ ?_
        rintro ⟨j, bw', off', k', all', W', ml'⟩ g2 hq0
        have hj : j ≤ B.length := hq0.1
        have hq1 : FarI s v n ml' W' (fun z => z = u) := hq0.2.1
        have hq2 : ∀ a ∈ B.take j, ∃ d', getM ml' a = some d' := hq0.2.2.1
        have hkW' : W'.length = k' := hq0.2.2.2.1
        have hq3 : (all'.drop off').take (k' * 1) = inC W' := hq0.2.2.2.2.1
        have hq4 : off' + k' * 1 ≤ all'.length := hq0.2.2.2.2.2.1
        have hq5 : 2 * (N - ml'.length) + k' ≤ 2 * (N - ml.length) + (k - 1) := hq0.2.2.2.2.2.2.1
        have hd' : getM ml' u = some d := hq0.2.2.2.2.2.2.2
        clear hq0
        refine bcond_dec (fun hlt2 => ?_) (fun hge2 => ?_)
        · have hlt2 : j < B.length := by have hlt2 : (j : Int) < B.length := hlt2; omega
          obtain ⟨a, haj⟩ : ∃ a : Int, B[j] = a := ⟨_, rfl⟩
          have ham : a ∈ backL s n u := by rw [hB, ← haj]; exact List.getElem_mem hlt2
          have htk : B.take (j + 1) = B.take j ++ [a] := by rw [List.take_succ_eq_append_getElem hlt2, haj]
          refine With.mk rfl (IdxF.mk a (by omega) ((get_some hlt2).trans (congrArg some haj)) ?_)
          refine MapAt.mk 3 _ _ rfl rfl ?_
          generalize hga : getM ml' a = o
          cases o with
          | none =>
            have hdr := hq1.rng u d hd'
            have hml' := hq1.len hN
            have hwr : IntKind.i64.wrap ((getM ml' u).getD 0 + 1) = d + 1 := by
              rw [hd']
              show IntKind.i64.wrap (d + 1) = d + 1
              rw [IntKind.wrap_i64]; omega
            have hpush := hq1.push hd' hga ham
            have hlen' : (putM ml' a (d + 1)).length = ml'.length + 1 := by rw [putM_new hga]; simp
            have hml2 := hpush.len hN
            have hmet : ∀ z, (∃ d', getM ml' z = some d') ∨ z = a → ∃ d', getM (putM ml' a (d + 1)) z = some d' := fun z hz => by
              rw [getM_set]
              by_cases e : z = a
              · rw [if_pos e]; exact ⟨_, rfl⟩
              · rw [if_neg e]; exact hz.resolve_right e
            rw [← hwr] at hpush hlen' hml2 hmet
            refine MapAt.mk 3 _ _ rfl rfl ?_
            refine MapAt.mk 3 _ _ rfl rfl ?_
            intro bl9
            refine append_accO [_, _, _] (.mref bw' off' k' (inC W') all' hq3 hq4) (.mref 0 bl9 0 1 _ rfl (Nat.le_of_ble_eq_true rfl)) rfl (by omega) (by decide) (by decide) (fun v' acc' h' => ?_)
            obtain ⟨b3, off3, all3, rfl, rfl, h3, h4⟩ := accO_pos h'
            refine nextS (j + 1, b3, off3, k' + 1, all3, W' ++ [a], putM ml' a (IntKind.i64.wrap ((getM ml' u).getD 0 + 1))) (by show B.length - (j + 1) < B.length - j; omega) ⟨hlt2, hpush, ?_, by show (W' ++ [a]).length = k' + 1; rw [List.length_append, hkW']; rfl, ?_, h4, ?_, ?_⟩ ⟨rfl, rfl, rfl, rfl, rfl, rfl, rfl, rfl, rfl, inc64 (by omega), trivial⟩ (.drop 0 1 (shed_eq rfl))
            · intro z hz
              rw [show B.take (j + 1) = B.take j ++ [a] from htk] at hz
              rcases List.mem_append.1 hz with hz | hz
              · exact hmet z (.inl (hq2 z hz))
              · exact hmet z (.inr (List.mem_singleton.1 hz))
            · show (all3.drop off3).take ((k' + 1) * 1) = inC (W' ++ [a])
              rw [show inC (W' ++ [a]) = inC W' ++ [.int .i64 a] by simp [inC]]
              exact h3
            · show 2 * (N - (putM ml' a (IntKind.i64.wrap ((getM ml' u).getD 0 + 1))).length) + (k' + 1) ≤ 2 * (N - ml.length) + (k - 1)
              omega
            · show getM (putM ml' a (IntKind.i64.wrap ((getM ml' u).getD 0 + 1))) u = some d
              rw [getM_set, if_neg (fun e => by rw [← e, hd'] at hga; cases hga)]; exact hd'
          | some da =>
            refine nextS (j + 1, bw', off', k', all', W', ml') (by show B.length - (j + 1) < B.length - j; omega) ⟨hlt2, hq1, ?_, hkW', hq3, hq4, hq5, hd'⟩ ⟨rfl, rfl, rfl, rfl, rfl, rfl, rfl, rfl, rfl, inc64 (by omega), trivial⟩ (.refl _)
            intro z hz
            rw [show B.take (j + 1) = B.take j ++ [a] from htk] at hz
            rcases List.mem_append.1 hz with hz | hz
            · exact hq2 z hz
            · rw [List.mem_singleton.1 hz]; exact ⟨da, hga⟩
        · have hge2 : j = B.length := by have hge2 : ¬ (j : Int) < B.length := hge2; omega
          subst hge2
          rw [List.take_length] at hq2
          exact nextS (bw', off', k', all', W', ml') (by show 2 * (N - ml'.length) + k' < 2 * (N - ml.length) + k; omega) ⟨hq1.closed (hB ▸ hq2), hkW', hq3, hq4, by show 2 * (N - ml'.length) + k' ≤ 2 * N + 1; omega⟩ ⟨rfl, rfl, rfl, rfl, rfl, rfl, trivial⟩ (.pull [3, 3] (shed_eq rfl))
      · have hge : ¬ (0 < (k : Int)) := hge
        omega
end Go.Proofs.YteccfogpajbigaaGreat
