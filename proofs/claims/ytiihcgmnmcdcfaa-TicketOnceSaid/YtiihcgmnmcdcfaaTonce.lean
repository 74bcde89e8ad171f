/-
  soughlaw31: the walk of TicketOnce.
-/
import Derived.Test.YtiihcgmnmcdcfaaTi
import Derived.Test.YtiihcgmnmcdcfaaRow
import Derived.Test.YtiihcgmnmcdcfaaTplays
import Derived.Test.YtiihcgmnmcdcfaaRecW
namespace Go.Proofs.Ytiihcgmnmcdcfaa
open Go.RowKit
set_option maxRecDepth 100000
set_option maxHeartbeats 4000000
theorem Kind.blks_snoc {p q : Nat} (K : Kind p q) {rs : List Nat} {L : List K.X} (h : rs.length = L.length) (r : Nat) (x : K.X) : K.blks (rs ++ [r]) (L ++ [x]) = K.blks rs L ++ [(r, K.C x)] := by
  unfold Kind.blks
  rw [List.zip_append h, List.flatMap_append]
  rfl
theorem Kind.blks_at {p q : Nat} (K : Kind p q) {rs : List Nat} {L : List K.X} (h : rs.length = L.length) {i : Nat} (hi : i < rs.length) (hj : i < L.length) : (K.blks rs L)[i]? = some (rs[i], K.C L[i]) := by
  have e : K.blks rs L = (rs.zip L).map fun z => (z.1, K.C z.2) := by
    show (rs.zip L).flatMap (fun z => [(z.1, K.C z.2)]) = _
    exact List.map_eq_flatMap.symm
  rw [e, List.getElem?_map, List.getElem?_eq_getElem (by simp; omega)]
  simp
/-- The Takes, as they begin. -/
abbrev tk0 : Tk := ⟨0, 1, 0, false, false, false⟩
theorem run_in {α : Type} (l p q bo la : α) (X : List α) : ((l :: ((p :: q :: X) ++ [bo, la])) : List α).Perm (p :: q :: bo :: la :: l :: X) := by
  have h : ((l :: p :: q :: X) ++ [bo, la]).Perm ([bo, la] ++ (l :: p :: q :: X)) := List.perm_append_comm
  refine h.trans ?_
  show ([bo, la, l, p, q] ++ X).Perm ([p, q, bo, la, l] ++ X)
  exact List.Perm.append_right X (List.perm_append_comm (l₁ := [bo, la, l]) (l₂ := [p, q]))
/-- A run of Takes. -/
theorem aRunT (p q bo la lb k : Nat) (rs : List Nat) (hr : rs.length = k) (hk : 0 < k) (hk9 : k ≤ 9) (scr : List (Int × Int × Unit)) (hs : scr.length ≤ 100) (cb ca : List AV) :
    ACalls Try.prog 45 [plI p, .mref lb 0 k 1, .fsl pickSh scr] (plH p q [0, 0] ((bo, cb) :: (la, ca) :: (lb, rs.map fun r => .iface 106 (.ptr r 0)) :: (tkK p q).blks rs (List.replicate k tk0)))
      (fun x σ' => ∃ (L : List Tk) (ws st : List Int) (us : Int), L.length = k ∧ TOnce L ws ∧ x = .agg [.fsl (.int .i64) st, .fsl .bool (L.map Tk.ended), .int .i64 us] ∧ σ' = plH p q ws ((bo, cb) :: (la, ca) :: (lb, rs.map fun r => .iface 106 (.ptr r 0)) :: (tkK p q).blks rs L)) := by
  have hl : ((tkK p q).world rs).L.length = k := by show (rs.map _).length = k; rw [List.length_map, hr]
  have h := aRunS ((tkK p q).world rs) lb scr (List.replicate k tk0, [0, 0]) [(bo, cb), (la, ca)] (by omega) (by omega) ⟨by show (List.replicate k tk0).length = rs.length; rw [List.length_replicate, hr], fun _ _ => trivial⟩ (fun _ _ => rfl)
  rw [hl] at h
  refine (h.perm (run_in (lb, rs.map fun r => AV.iface 106 (.ptr r 0)) (p, plC q 2) (q, woC [0, 0]) (bo, cb) (la, ca) ((tkK p q).blks rs (List.replicate k tk0)))).fin ?_
  rintro _ _ ⟨s', hs', rfl, rfl⟩
  obtain ⟨h1, h2, h3⟩ := ti_run p q hk scr rs hr _ rfl
  have hs' : s' = (((tkK p q).world rs).run scr (List.replicate k tk0, [0, 0])).a := hs'
  obtain ⟨L, ws⟩ : List Tk × List Int := s'
  have e0 : L.length = k := (congrArg (fun x : List Tk × List Int => x.1.length) hs').trans h1
  have e1 : L = _ := congrArg (fun x : List Tk × List Int => x.1) hs'
  have e2 : ws = _ := congrArg (fun x : List Tk × List Int => x.2) hs'
  have e3 : TOnce L ws := by rw [e1, e2]; exact h3
  have e4 : (((tkK p q).world rs).run scr (List.replicate k tk0, [0, 0])).dn = L.map Tk.ended := h2.trans (congrArg (fun x : List Tk => x.map Tk.ended) e1.symm)
  exact .perm (run_in (lb, rs.map fun r => AV.iface 106 (.ptr r 0)) (p, plC q ws.length) (q, woC ws) (bo, cb) (la, ca) ((tkK p q).blks rs L)).symm (.done ⟨L, ws, _, _, e0, e3, congrArg (fun d => AV.agg [_, .fsl .bool d, _]) e4, rfl⟩)
theorem tk_perm {α : Type} (r p q bo : α) (A B X : List α) : ((p :: q :: bo :: (A ++ (B ++ (X ++ [r]))) : List α)).Perm (r :: p :: q :: bo :: (A ++ (B ++ X))) := by
  have e : p :: q :: bo :: (A ++ (B ++ (X ++ [r]))) = (p :: q :: bo :: (A ++ (B ++ X))) ++ [r] := by simp
  rw [e]
  exact List.perm_append_comm
theorem num9 {n : Int} (h0 : 0 ≤ n) : ∃ N : Nat, IntKind.u8.wrap (1 + n.tmod 9) = N ∧ 0 < N ∧ N ≤ 9 := by
  rw [Int.tmod_eq_emod_of_nonneg h0, IntKind.wrap_u8]
  exact ⟨(1 + n % 9).toNat, by omega, by omega, by omega⟩
theorem inc8 {k : Nat} (h : k < 200) : AV.int .u8 (IntKind.u8.wrap ((k : Int) + 1)) = AV.int .u8 ((k + 1 : Nat) : Int) := by
  rw [show IntKind.u8.wrap ((k : Int) + 1) = ((k + 1 : Nat) : Int) by rw [IntKind.wrap_u8]; omega]
theorem aTakeNil (mv : AV) (σ : Hp) : ACalls Try.prog 53 [.nilp, mv, .int .i64 0] σ (Ret (.bool true) σ) := by
  refine okF Try.func53 (by kernel_rfl) ?_
  exact .done ⟨rfl, rfl⟩
theorem ticketOnce_walk (n : Int) (scr : List (Int × Int × Unit)) (h0 : 0 ≤ n) : ACalls Try.prog 8 [.int .u8 n, .fsl pickSh scr] [] (fun r _ => r = .bool true) := by
  refine okF Try.func8 (by kernel_rfl) ?_
  refine callR [] awake31a ?_
  refine bcond_dec (fun h => ?_) (fun h1 => ?_)
  · exact .done rfl
  have h1 : ¬ 100 < (scr.length : Int) := h1
  intro bo
  refine StoreAt.mk 0 _ _ rfl rfl ?_
  refine .mk [] _ (aNew 2 _) ?_
  rintro _ _ ⟨p, q, rfl, rfl⟩
  refine With.mk (by decide) ?_
  obtain ⟨N, hN, hN0, hN9⟩ := num9 h0
  refine .wrap 7 _ rfl rfl ?_
  refine .wrap 8 _ rfl rfl ?_
  refine loopS (S := Nat × List Nat × AV × Hp × AV × Hp) (fun s => [(1, .fsl pickSh scr), (5, .ptr bo 0), (6, .ptr p 0), (7, .via s.2.2.1), (8, .via s.2.2.2.2.1), (25, .int .u8 N), (26, .int .u8 s.1)])
    (fun s => plH p q [0, 0] ((bo, [.int .i64 0, .int .i64 1]) :: (s.2.2.2.1 ++ (s.2.2.2.2.2 ++ (tkK p q).blks s.2.1 (List.replicate s.1 tk0)))))
    (fun s => s.1 ≤ N ∧ s.2.1.length = s.1 ∧ Acc 1 s.1 s.2.2.1 s.2.2.2.1 (s.2.1.map fun r => .ptr r 0) ∧ Acc 1 s.1 s.2.2.2.2.1 s.2.2.2.2.2 (s.2.1.map fun r => .iface 106 (.ptr r 0)))
    (fun s => N - s.1) (0, [], .nils, [], .nils, []) ⟨⟨Nat.zero_le _, rfl, .nil, .nil⟩, ⟨rfl, rfl, rfl, rfl, rfl, av_int hN, rfl, trivial⟩, rfl⟩ ?_
  rintro ⟨k, rs, va, aa, vb, ab⟩ g ⟨hk0, hrs0, ha0, hb0⟩
  have hk : k ≤ N := hk0
  have hrs : rs.length = k := hrs0
  have ha : Acc 1 k va aa (rs.map fun r => .ptr r 0) := ha0
  have hb : Acc 1 k vb ab (rs.map fun r => .iface 106 (.ptr r 0)) := hb0
  clear hk0 hrs0 ha0 hb0
  refine bcond_dec (fun hlt => ?_) (fun hge => ?_)
  · have hlt : k < N := by have hlt : (k : Int) < N := hlt; omega
    refine LoadAt.mk 2 _ _ rfl rfl ?_
    intro r
    intro bl1
    refine append_acc [_, _, _, _, _] ha (.mref 0 bl1 0 1 _ rfl (Nat.le_of_ble_eq_true rfl)) rfl (by omega) (by decide) (by decide) (fun va' aa' ha' => ?_)
    intro bl2
    refine append_acc (k := k) (n := 1) (σ := (tkK p q).blks rs (List.replicate k tk0)) (_ :: _ :: _ :: _ :: _ :: _ :: aa') hb (.mref 0 bl2 0 1 _ rfl (Nat.le_of_ble_eq_true rfl)) rfl (by omega) (by decide) (by decide) (fun vb' ab' hb' => ?_)
    have e1 : (tkK p q).blks (rs ++ [r]) (List.replicate (k + 1) tk0) = (tkK p q).blks rs (List.replicate k tk0) ++ [(r, tkC tk0)] := by
      rw [List.replicate_succ']
      exact (tkK p q).blks_snoc (by simp [hrs]) r tk0
    refine nextS (k + 1, rs ++ [r], va', aa', vb', ab') (by show N - (k + 1) < N - k; omega) ⟨hlt, by show (rs ++ [r]).length = k + 1; simp [hrs], ?_, ?_⟩ ⟨rfl, rfl, rfl, rfl, rfl, rfl, inc8 (by omega), trivial⟩ (.drop 0 2 (.perm (tk_perm _ _ _ _ aa' ab' _) (shed_eq ?_)))
    · show Acc 1 (k + 1) va' aa' ((rs ++ [r]).map fun r => .ptr r 0)
      rw [List.map_append]; exact ha'
    · show Acc 1 (k + 1) vb' ab' ((rs ++ [r]).map fun r => .iface _ (.ptr r 0))
      rw [List.map_append]; exact hb'
    · show _ = plH p q [0, 0] ((bo, [.int .i64 0, .int .i64 1]) :: (aa' ++ (ab' ++ (tkK p q).blks (rs ++ [r]) (List.replicate (k + 1) tk0))))
      rw [e1]; rfl
  · have hge : k = N := by have hge : ¬ (k : Int) < N := hge; omega
    subst hge
    rcases acc_inv ha with ⟨_, _, h⟩ | ⟨la, rfl, rfl⟩
    · omega
    rcases acc_inv hb with ⟨_, _, h⟩ | ⟨lb, rfl, rfl⟩
    · omega
    refine .mk [] _ (aRunT p q bo la lb k rs hrs hN0 hN9 scr (by omega) _ _) ?_
    rintro _ _ ⟨L, ws, st, us, hL, hti, rfl, rfl⟩
    intro rr
    refine StoreAt.mk 0 _ _ rfl rfl ?_
    obtain ⟨hws, hone, heach⟩ := hti
    refine loopS (S := Nat) (fun s => [(5, .ptr bo 0), (6, .ptr p 0), (10, .ptr rr 0), (11, .int .i64 ((L.take s).countP tkNew : Nat)), (12, .int .i64 ((L.take s).countP tkBoth : Nat)), (46, .via (.mref la 0 k 1)), (47, .int .i64 k), (48, .int .i64 s)])
      (fun s => (rr, [.fsl (.int .i64) st, .fsl .bool (L.map Tk.ended), .int .i64 us]) :: plH p q ws ((bo, [.int .i64 0, .int .i64 1]) :: (la, rs.map fun r => .ptr r 0) :: (lb, rs.map fun r => .iface 106 (.ptr r 0)) :: (tkK p q).blks rs L))
      (fun s => s ≤ k) (fun s => k - s) 0 ⟨Nat.zero_le _, ⟨rfl, rfl, rfl, rfl, rfl, rfl, rfl, rfl, trivial⟩, rfl⟩ ?_
    intro i g hi0
    have hi : i ≤ k := hi0
    clear hi0
    refine bcond_dec (fun hlt => ?_) (fun hge => ?_)
    · have hlt : i < k := by have hlt : (i : Int) < k := hlt; omega
      have hiL : i < L.length := by omega
      have hir : i < rs.length := by omega
      have hat : ∀ X : Hp, ((rr, ([] : List AV)) :: X).length = X.length + 1 := fun X => rfl
      clear hat
      have hb6 := (tkK p q).blks_at (by omega : rs.length = L.length) hir hiL
      refine With.mk ⟨rfl, by omega, by omega⟩ ?_
      refine LoadAt.mk 4 _ (.ptr rs[i] 0) rfl ?_ ?_
      · show (rs.map fun r => AV.ptr r 0)[0 + ((i : Int)).toNat * 1]? = _
        rw [show 0 + ((i : Int)).toNat * 1 = i by omega, List.getElem?_map, List.getElem?_eq_getElem hir]; rfl
      have hct : (L.take (i + 1)).countP tkNew = (L.take i).countP tkNew + (if L[i].new then 1 else 0) := by rw [List.take_succ_eq_append_getElem hiL, List.countP_append]; cases hz : L[i].new <;> simp [tkNew, hz]
      have hcb : (L.take (i + 1)).countP tkBoth = (L.take i).countP tkBoth + (if L[i].new && L[i].ended then 1 else 0) := by rw [List.take_succ_eq_append_getElem hiL, List.countP_append]; cases hz : L[i].new <;> cases hz2 : L[i].ended <;> simp [tkBoth, hz, hz2]
      have hle := List.countP_le_length (p := tkNew) (l := L.take i)
      have hle2 := List.countP_le_length (p := tkBoth) (l := L.take i)
      rw [List.length_take] at hle hle2
      have hd : (L.map Tk.ended)[((i : Int)).toNat]? = some L[i].ended := by rw [List.getElem?_map, Int.toNat_natCast, List.getElem?_eq_getElem hiL]; rfl
      cases hn : L[i].new with
      | true =>
        cases he : L[i].ended with
        | true =>
          refine LoadAt.mk (i + 6) _ (.bool true) hb6 (by show some (AV.bool L[i].new) = _; rw [hn]) ?_
          refine LoadAt.mk (i + 6) _ (.bool true) hb6 (by show some (AV.bool L[i].ended) = _; rw [he]) ?_
          refine .quiet (by kernel_rfl) ?_
          refine LoadAt.mk (i + 6) _ (.bool true) hb6 (by show some (AV.bool L[i].ended) = _; rw [he]) ?_
          refine LoadAt.mk 0 _ _ rfl rfl ?_
          refine With.mk rfl ?_
          refine IdxF.mk true (by omega) (hd.trans (congrArg some he)) ?_
          refine nextS (i + 1) (by show k - (i + 1) < k - i; omega) hlt ⟨rfl, rfl, rfl, (by show AV.int .i64 (IntKind.i64.wrap (((L.take i).countP tkNew : Nat) + 1)) = AV.int .i64 (((L.take (i + 1)).countP tkNew : Nat) : Int); rw [hct, hn]; exact inc64 (by omega)), (by show AV.int .i64 (IntKind.i64.wrap (((L.take i).countP tkBoth : Nat) + 1)) = AV.int .i64 (((L.take (i + 1)).countP tkBoth : Nat) : Int); rw [hcb, hn, he]; exact inc64 (by omega)), rfl, rfl, inc64 (by omega), trivial⟩ (shed_eq rfl)
        | false =>
          refine LoadAt.mk (i + 6) _ (.bool true) hb6 (by show some (AV.bool L[i].new) = _; rw [hn]) ?_
          refine LoadAt.mk (i + 6) _ (.bool false) hb6 (by show some (AV.bool L[i].ended) = _; rw [he]) ?_
          refine .quiet (by kernel_rfl) ?_
          refine LoadAt.mk (i + 6) _ (.bool false) hb6 (by show some (AV.bool L[i].ended) = _; rw [he]) ?_
          refine LoadAt.mk 0 _ _ rfl rfl ?_
          refine With.mk rfl ?_
          refine IdxF.mk false (by omega) (hd.trans (congrArg some he)) ?_
          refine nextS (i + 1) (by show k - (i + 1) < k - i; omega) hlt ⟨rfl, rfl, rfl, (by show AV.int .i64 (IntKind.i64.wrap (((L.take i).countP tkNew : Nat) + 1)) = AV.int .i64 (((L.take (i + 1)).countP tkNew : Nat) : Int); rw [hct, hn]; exact inc64 (by omega)), (by show AV.int .i64 ((L.take i).countP tkBoth : Nat) = AV.int .i64 (((L.take (i + 1)).countP tkBoth : Nat) : Int); rw [hcb, hn, he]; rfl), rfl, rfl, inc64 (by omega), trivial⟩ (shed_eq rfl)
      | false =>
        cases he : L[i].ended with
        | true =>
          refine LoadAt.mk (i + 6) _ (.bool false) hb6 (by show some (AV.bool L[i].new) = _; rw [hn]) ?_
          refine .quiet (by kernel_rfl) ?_
          refine LoadAt.mk (i + 6) _ (.bool true) hb6 (by show some (AV.bool L[i].ended) = _; rw [he]) ?_
          refine LoadAt.mk 0 _ _ rfl rfl ?_
          refine With.mk rfl ?_
          refine IdxF.mk true (by omega) (hd.trans (congrArg some he)) ?_
          refine nextS (i + 1) (by show k - (i + 1) < k - i; omega) hlt ⟨rfl, rfl, rfl, (by show AV.int .i64 ((L.take i).countP tkNew : Nat) = AV.int .i64 (((L.take (i + 1)).countP tkNew : Nat) : Int); rw [hct, hn]; rfl), (by show AV.int .i64 ((L.take i).countP tkBoth : Nat) = AV.int .i64 (((L.take (i + 1)).countP tkBoth : Nat) : Int); rw [hcb, hn, he]; rfl), rfl, rfl, inc64 (by omega), trivial⟩ (shed_eq rfl)
        | false =>
          refine LoadAt.mk (i + 6) _ (.bool false) hb6 (by show some (AV.bool L[i].new) = _; rw [hn]) ?_
          refine .quiet (by kernel_rfl) ?_
          refine LoadAt.mk (i + 6) _ (.bool false) hb6 (by show some (AV.bool L[i].ended) = _; rw [he]) ?_
          refine LoadAt.mk 0 _ _ rfl rfl ?_
          refine With.mk rfl ?_
          refine IdxF.mk false (by omega) (hd.trans (congrArg some he)) ?_
          refine nextS (i + 1) (by show k - (i + 1) < k - i; omega) hlt ⟨rfl, rfl, rfl, (by show AV.int .i64 ((L.take i).countP tkNew : Nat) = AV.int .i64 (((L.take (i + 1)).countP tkNew : Nat) : Int); rw [hct, hn]; rfl), (by show AV.int .i64 ((L.take i).countP tkBoth : Nat) = AV.int .i64 (((L.take (i + 1)).countP tkBoth : Nat) : Int); rw [hcb, hn, he]; rfl), rfl, rfl, inc64 (by omega), trivial⟩ (shed_eq rfl)
    · have hge : i = k := by have hge : ¬ (i : Int) < k := hge; omega
      subst hge
      have hall : L.take i = L := List.take_of_length_le (by omega)
      rw [hall]
      obtain ⟨w0, hw0⟩ : ∃ w, w = L.countP tkNew := ⟨_, rfl⟩
      obtain ⟨w1, hw1⟩ : ∃ w, w = L.countP tkBoth := ⟨_, rfl⟩
      have hb := countB_le L
      rw [← hw0, ← hw1] at hws hb ⊢
      rw [← hw0] at hone heach
      have hWt : ∀ σ, ACalls Try.prog 51 [.agg [.int .i64 0, .int .i64 1], plI p, .int .i64 0] (plH p q ws σ) (Ret (.bool (decide (w0 = 1))) (plH p q ws σ)) := fun σ => by
        have h := aWaitsP 0 1 0 p q ws σ
        rw [show (decide ((0 : Int) ≤ 0) && decide (mLoad ws (wr (0 + 0)) = 1)) = decide (w0 = 1) by rw [hws]; show (true && decide ((w0 : Int) = 1)) = _; rw [Bool.true_and]; exact decide_eq_decide.2 (by omega)] at h
        exact h
      have hNu : ∀ σ, ACalls Try.prog 52 [.agg [.int .i64 0, .int .i64 1], plI p] (plH p q ws σ) (Ret (.int .i64 w1) (plH p q ws σ)) := fun σ => by
        have h := aNumberP 0 1 p q ws σ
        rw [show wr (mLoad ws 1) = w1 by rw [hws]; show IntKind.i64.wrap (w1 : Int) = w1; rw [IntKind.wrap_i64]; omega] at h
        exact h
      have hFi := fun σ => aFinF (.fsl (.int .i64) st) us (L.map Tk.ended) σ (by rw [List.length_map]; omega)
      have hend : (L.map Tk.ended).all id = true → w1 = 1 := fun h => by
        have hi0 : 0 < L.length := by omega
        have he : ∀ t ∈ L, t.ended = true := fun t ht => by
          rw [List.all_map, List.all_eq_true] at h
          exact h t ht
        have h1 : (w0 : Int) = 1 := (heach _ (List.getElem_mem hi0)).e2 ((heach _ (List.getElem_mem hi0)).e1 (he _ (List.getElem_mem hi0)))
        have h2 : L.countP tkBoth = L.countP tkNew := List.countP_congr fun t ht => by unfold tkBoth tkNew; rw [he t ht, Bool.and_true]
        omega
      cases hfb : (L.map Tk.ended).all id with
      | true =>
        rw [hfb] at hFi
        have hend := hend hfb
        have hw : w0 = 1 := by omega
        rw [hw, decide_eq_true rfl] at hWt
        subst hw
        rw [hend] at hNu ⊢
        refine LoadAt.mk 3 _ _ rfl rfl ?_
        refine callR [2, 2] (hWt _) ?_
        refine LoadAt.mk 3 _ _ rfl rfl ?_
        refine callR [] (hNu _) ?_
        refine LoadAt.mk 2 _ _ rfl rfl ?_
        refine callR [] (hFi _) ?_
        refine callR [] (aTakeNil _ _) ?_
        exact .done rfl
      | false =>
        rw [hfb] at hFi
        clear hend
        by_cases hw : w0 = 1
        · rw [hw, decide_eq_true rfl] at hWt
          subst hw
          refine LoadAt.mk 3 _ _ rfl rfl ?_
          refine callR [2, 2] (hWt _) ?_
          refine LoadAt.mk 3 _ _ rfl rfl ?_
          refine callR [] (hNu _) ?_
          refine bcond_dec (fun c1 => ?_) (fun c1 => ?_)
          · have c1 : (↑w1 : Int) = (↑w1 : Int) := c1
            refine LoadAt.mk 2 _ _ rfl rfl ?_
            refine callR [] (hFi _) ?_
            refine callR [] (aTakeNil _ _) ?_
            exact .done rfl
          · have c1 : ¬ ((↑w1 : Int) = (↑w1 : Int)) := c1
            exact absurd rfl c1
        · rw [decide_eq_false hw] at hWt
          have hw : w0 = 0 := by omega
          subst hw
          refine LoadAt.mk 3 _ _ rfl rfl ?_
          refine callR [2, 2] (hWt _) ?_
          refine LoadAt.mk 3 _ _ rfl rfl ?_
          refine callR [] (hNu _) ?_
          refine bcond_dec (fun c1 => ?_) (fun c1 => ?_)
          · have c1 : (↑w1 : Int) = (↑w1 : Int) := c1
            refine LoadAt.mk 2 _ _ rfl rfl ?_
            refine callR [] (hFi _) ?_
            refine callR [] (aTakeNil _ _) ?_
            exact .done rfl
          · have c1 : ¬ ((↑w1 : Int) = (↑w1 : Int)) := c1
            exact absurd rfl c1
end Go.Proofs.Ytiihcgmnmcdcfaa
