/-
  Rg: what the claim uses of them.
-/
import Derived.Test.YtegpahamenjiaaaGreatBn49
import Derived.Test.YtegpahamenjiaaaGreatBn33
namespace Go.Proofs.YtegpahamenjiaaaGreat
open Go.RowKit
set_option maxRecDepth 100000
theorem aRLSize (l : Lay) (σ : Hp) : ACalls Tryz.prog 91 [.agg (layV l)] σ (Ret (.int .i64 (dqB l l.k)) σ) := by
  refine okF Tryz.func91 (by kernel_rfl) ?_
  intro bl1
  refine LoadAt.mk 0 _ _ rfl rfl ?_
  refine LoadAt.mk 0 _ _ rfl rfl ?_
  refine callR [] (aRLDeque l _ _) ?_
  exact .drop 0 1 (.done ⟨rfl, rfl⟩)
theorem aRSeedsI (n : Int) (l : List EdgeT) (fr : List Int) (k : Int) (σ : Hp) (hl : l.length ≤ 100000) (h1 : 1 ≤ n) (hn : n ≤ 256) (hk1 : 1 ≤ k) (hk2 : k ≤ 64) (hf : fr.length ≤ 100000) (hfr : ∀ z ∈ fr, 0 ≤ z ∧ z < n) : ACalls Tryz.prog 93 [.int .i64 n, .fsl edgeSh l, .fsl (.int .i64) fr, .int .i64 k] σ (fun r σ' => ∃ ls : List (List Int), r = .fsl (.slice (.int .i64)) ls ∧ σ' = σ ∧ (ls.length : Int) = k ∧ ∀ x ∈ ls, x.length ≤ 131072) := by
  obtain ⟨m, rfl⟩ : ∃ m : Nat, n = m := ⟨n.toNat, by omega⟩
  obtain ⟨j, rfl⟩ : ∃ j : Nat, k = j := ⟨k.toNat, by omega⟩
  refine (aRSeeds m l fr j σ hl (by omega) (by omega) (by omega) (by omega) hf hfr).mono ?_
  rintro _ _ ⟨ls, rfl, rfl, q1, q2⟩
  exact ⟨ls, rfl, rfl, by rw [q1], q2⟩
/-- How many words all has. -/
def szL (l : Lay) : Nat := (dqB l l.k).toNat
section
variable {s : Sy} {l : Lay} (hs : LS s l)
include hs
theorem LS.kk : ∃ k : Nat, l.k = k ∧ 1 ≤ k ∧ k ≤ 64 := ⟨l.k.toNat, by have := hs.k1; have := hs.k2; omega⟩
theorem LS.size : dqB l l.k = (szL l : Int) ∧ szL l ≤ 1000000 ∧ cutN (dqB l l.k) = szL l := by
  obtain ⟨k, hk, hk1, hk2⟩ := hs.kk
  have hd := hs.deque hk2
  have h1 := hs.nn
  have h2 := hs.ww
  have h3 := nw_le h1.2.2 h2.2
  have h4 : k * (nN s + 3) ≤ 64 * 259 := Nat.mul_le_mul hk2 (by omega)
  unfold szL cutN
  rw [hk, hd]
  omega
theorem LS.dq_in {k : Nat} (hk : (k : Int) < l.k) : ∃ a : Nat, dqB l k = (a : Int) ∧ nN s * nW l + nN s < a ∧ a + nN s + 3 ≤ szL l := by
  obtain ⟨m, hm, hm1, hm2⟩ := hs.kk
  have hd := hs.deque (k := k) (by omega)
  have hd2 := hs.deque hm2
  have h5 : (k + 1) * (nN s + 3) ≤ m * (nN s + 3) := Nat.mul_le_mul_right _ (by omega)
  rw [Nat.succ_mul] at h5
  refine ⟨_, hd, by omega, ?_⟩
  unfold szL
  rw [hm, hd2]
  omega
theorem LS.low : nN s * nW l + nN s < szL l := by
  obtain ⟨m, hm, hm1, hm2⟩ := hs.kk
  have hd2 := hs.deque hm2
  unfold szL
  rw [hm, hd2]
  omega
end
theorem MV.set_hi {s : Sy} {l : Lay} {ws : List Int} (h : MV s l ws) {a : Nat} {x : Int} (ha : nN s * nW l ≤ a) (hx : W64 x) : MV s l (ws.set a x) := by
  rw [← store_hit]
  exact h.store_hi (by omega) hx
theorem MV.set_cell {s : Sy} {l : Lay} {ws : List Int} (h : MV s l ws) {u j : Nat} {x : Int} (hj : j < nW l) (hx : wordK s.what s.w j x) : MV s l (ws.set (u * nW l + j) x) := by
  rw [← store_hit]
  exact h.store_cell hj hx
theorem mv_zero (s : Sy) (l : Lay) (n : Nat) : MV s l (List.replicate n 0) := ⟨fun z hz => by rw [List.eq_of_mem_replicate hz]; exact w64_zero, fun v i _ _ => by
  have : (List.replicate n (0 : Int)).getD (v * nW l + i) 0 = 0 := by
    rw [List.getD_eq_getElem?_getD, List.getElem?_replicate]; split <;> rfl
  rw [this]; exact wordK_zero _ _ _⟩
def FlOk (s : Sy) (l : Lay) (ws : List Int) : Prop := ws.length = szL l ∧ MV s l ws
theorem FlOk.hi {s : Sy} {l : Lay} {ws : List Int} (h : FlOk s l ws) {a : Nat} {x : Int} (ha : nN s * nW l ≤ a) (hx : W64 x) : FlOk s l (ws.set a x) := ⟨by rw [List.length_set]; exact h.1, h.2.set_hi ha hx⟩
theorem aRFill (s : Sy) (l : Lay) (σ : Hp) (hs : LS s l) : ACalls Tryz.prog 53 [.agg (sysC s), .agg (layV l)] σ (fun r σ' => ∃ m q ws, r = .ptr m 0 ∧ σ' = reH m q ws σ ∧ FlOk s l ws) := by
  obtain ⟨hsz1, hsz2, hsz3⟩ := hs.size
  have hn := hs.nn
  have hw := hs.ww
  refine okF Tryz.func53 (by kernel_rfl) ?_
  intro bl1
  intro bl2
  refine LoadAt.mk 0 _ _ rfl rfl ?_
  refine callR [] (aRLSize l _) ?_
  (refine .mk [] _ (aRNew _ _) ?_; rintro _ _ ⟨m, q, rfl, rfl⟩)
  rw [hsz3]
  have hN := hs.n
  have hlow := hs.low
  have hW0 : 0 ≤ l.words := by omega
  have hrl : (List.replicate (szL l) (0 : Int)).length = szL l := List.length_replicate
  refine loopS (S := Nat × List Int) (fun t => [(2, .ptr bl1 0), (3, .ptr bl2 0), (5, .ptr m 0), (6, .int .i64 t.1)]) (fun t => (m, [AV.mref q 0 (szL l) 1]) :: (q, woC t.2) :: (bl2, layV l) :: (bl1, sysC s) :: σ) (fun t => t.1 ≤ nN s ∧ FlOk s l t.2) (fun t => nN s - t.1) (0, List.replicate (szL l) 0) ⟨⟨Nat.zero_le _, hrl, mv_zero s l _⟩, ⟨rfl, rfl, rfl, rfl, trivial⟩, by show (m, [AV.mref q 0 (List.replicate (szL l) (0 : Int)).length 1]) :: _ = _; rw [hrl]; rfl⟩ ?_
  rintro ⟨v, ws⟩ g ⟨hv0, ho0⟩
  have hv : v ≤ nN s := hv0
  have ho : FlOk s l ws := ho0
  clear hv0 ho0
  refine LoadAt.mk 2 _ _ rfl rfl ?_
  refine bcond_dec (p := (v : Int) < l.n) (fun hlt => ?_) (fun hge => ?_)
  · have hlt : v < nN s := by omega
    refine LoadAt.mk 3 _ _ rfl rfl ?_
    refine callR [] (aRStart17 s v _ hs.fit hs.good) ?_
    have hst := start_val hs.fit hs.good v
    have hsv : Val s.what s.w (startS s v) := ⟨hst.1, hst.2⟩
    have hst2 := (val_words hs.good.isL).1 hsv
    have hstl : (startS s v).length = nW l := by have := hst2.1; have := hs.words; omega
    have hstk := hst2.2
    generalize startS s v = st at hstl hstk
    refine loopS (S := Nat × List Int) (fun t => [(2, .ptr bl1 0), (3, .ptr bl2 0), (5, .ptr m 0), (6, .int .i64 v), (25, .fsl (.int .u64) st), (26, .int .i64 st.length), (27, .int .i64 t.1)]) (fun t => (m, [AV.mref q 0 (szL l) 1]) :: (q, woC t.2) :: (bl2, layV l) :: (bl1, sysC s) :: σ) (fun t => t.1 ≤ st.length ∧ FlOk s l t.2) (fun t => st.length - t.1) (0, ws) ⟨⟨Nat.zero_le _, ho⟩, ⟨rfl, rfl, rfl, rfl, rfl, rfl, rfl, trivial⟩, rfl⟩ ?_
    clear ho
    rintro ⟨i, ws⟩ g2 ⟨hi0, ho0⟩
    have hi : i ≤ st.length := hi0
    have ho : FlOk s l ws := ho0
    clear hi0 ho0
    have hwl := ho.1
    refine bcond_dec (p := (i : Int) < (st.length : Int)) (fun hlt2 => ?_) (fun hge2 => ?_)
    · have hlt2 : i < st.length := by omega
      have hiW : i < nW l := by omega
      obtain ⟨x, hx⟩ : ∃ x, st[i] = x := ⟨_, rfl⟩
      have hxk := hstk i hlt2
      rw [wd_get st hlt2, hx] at hxk
      have hcell : IntKind.i64.wrap (IntKind.i64.wrap ((v : Int) * l.words) + (i : Int)) = ((v * nW l + i : Nat) : Int) := hs.cellA hlt hiW
      have hcl := cell_lt hlt hiW
      refine With.mk rfl (IdxF.mk x (by omega) ((get_some hlt2).trans (congrArg some hx)) ?_)
      refine .sched [] (upto [] 13 0) (by kernel_rfl) ?_
      refine LoadAt.mk 0 _ _ rfl rfl ?_
      refine LoadAt.mk 2 _ _ rfl rfl ?_
      refine With.mk ⟨rfl, by rw [hcell]; omega, by rw [hcell]; omega⟩ ?_
      refine StoreAt.mk 1 _ _ rfl (put64 (l := ws) (i := v * nW l + i) (by omega) x hcell) ?_
      exact nextS (i + 1, ws.set (v * nW l + i) x) (by show st.length - (i + 1) < st.length - i; omega) ⟨hlt2, by rw [List.length_set]; exact hwl, ho.2.set_cell hiW hxk⟩ ⟨rfl, rfl, rfl, rfl, rfl, rfl, inc64 (by omega), trivial⟩ (.refl _)
    · have hge2 : i = st.length := by omega
      refine .sched [] (upto [] 13 0) (by kernel_rfl) ?_
      refine LoadAt.mk 0 _ _ rfl rfl ?_
      refine LoadAt.mk 2 _ _ rfl rfl ?_
      refine LoadAt.mk 2 _ _ rfl rfl ?_
      have hfl : IntKind.i64.wrap (IntKind.i64.wrap (l.n * l.words) + (v : Int)) = ((nN s * nW l + v : Nat) : Int) := hs.flagA hlt
      refine With.mk ⟨rfl, by rw [hfl]; omega, by rw [hfl]; omega⟩ ?_
      refine StoreAt.mk 1 _ _ rfl (put64 (l := ws) (i := nN s * nW l + v) (by omega) 1 hfl) ?_
      exact nextS (v + 1, ws.set (nN s * nW l + v) 1) (by show nN s - (v + 1) < nN s - v; omega) ⟨hlt, ho.hi (by omega) (by unfold W64; omega)⟩ ⟨rfl, rfl, rfl, inc64 (by omega), trivial⟩ (.refl _)
  · have hge : v = nN s := by omega
    refine .sched [] (upto [] 17 0) (by kernel_rfl) ?_
    refine LoadAt.mk 0 _ _ rfl rfl ?_
    refine LoadAt.mk 2 _ _ rfl rfl ?_
    refine LoadAt.mk 2 _ _ rfl rfl ?_
    refine LoadAt.mk 2 _ _ rfl rfl ?_
    refine LoadAt.mk 2 _ _ rfl rfl ?_
    have hwl := ho.1
    have hct : IntKind.i64.wrap (IntKind.i64.wrap (l.n * l.words) + l.n) = ((nN s * nW l + nN s : Nat) : Int) := hs.count
    refine With.mk ⟨rfl, by rw [hct]; omega, by rw [hct]; omega⟩ ?_
    refine StoreAt.mk 1 _ _ rfl (put64 (l := ws) (i := nN s * nW l + nN s) (by omega) _ hct) ?_
    have ho2 := ho.hi (a := nN s * nW l + nN s) (x := wu l.n) (by omega) (wu_64 _)
    refine LoadAt.mk 3 _ _ rfl rfl ?_
    refine LoadAt.mk 3 _ _ rfl rfl ?_
    refine LoadAt.mk 3 _ _ rfl rfl ?_
    refine LoadAt.mk 2 _ _ rfl rfl ?_
    (refine .mk [] _ (aRSeedsI s.n s.edges s.entry l.k _ hs.fit.elen (by omega) (by omega) hs.k1 hs.k2 hs.fit.nlen hs.good.ent) ?_; rintro _ σ2 ⟨ls, rfl, hσ2, hll, hlx⟩)
    subst hσ2
    replace ho2 : FlOk s l (ws.set (nN s * nW l + nN s) (IntKind.u64.wrap l.n)) := ho2
    generalize ws.set (nN s * nW l + nN s) (IntKind.u64.wrap l.n) = ws at ho2
    refine loopS (S := Nat × List Int) (fun t => [(3, .ptr bl2 0), (5, .ptr m 0), (81, .fsl (.slice (.int .i64)) ls), (82, .int .i64 ls.length), (83, .int .i64 t.1)]) (fun t => (m, [AV.mref q 0 (szL l) 1]) :: (q, woC t.2) :: (bl2, layV l) :: (bl1, sysC s) :: σ) (fun t => t.1 ≤ ls.length ∧ FlOk s l t.2) (fun t => ls.length - t.1) (0, ws) ⟨⟨Nat.zero_le _, ho2⟩, ⟨rfl, rfl, rfl, rfl, rfl, trivial⟩, rfl⟩ ?_
    clear ho ho2 hwl
    rintro ⟨i, ws⟩ g2 ⟨hi0, ho0⟩
    have hi : i ≤ ls.length := hi0
    have ho : FlOk s l ws := ho0
    clear hi0 ho0
    refine bcond_dec (p := (i : Int) < (ls.length : Int)) (fun hlt => ?_) (fun hge => ?_)
    rotate_left
    · exact .drop 2 2 (.done ⟨m, q, ws, rfl, by unfold reH; rw [ho.1]; rfl, ho⟩)
    have hlt : i < ls.length := by omega
    obtain ⟨a, had, ha1, ha2⟩ := hs.dq_in (k := i) (by omega)
    obtain ⟨x, hx⟩ : ∃ x : List Int, ls[i] = x := ⟨_, rfl⟩
    have hxl := hlx _ (List.getElem_mem hlt)
    rw [hx] at hxl
    refine With.mk rfl (IdxF.mk x (by omega) ((get_some hlt).trans (congrArg some hx)) ?_)
    refine LoadAt.mk 2 _ _ rfl rfl ?_
    refine callR [] (acalls_eq (aRLDeque l i _) (congrArg (AV.int .i64) had)) ?_
    have hwl := ho.1
    refine LoadAt.mk 0 _ _ rfl rfl ?_
    refine With.mk ⟨rfl, by omega, by omega⟩ ?_
    refine StoreAt.mk 1 _ _ rfl (put64 (l := ws) (i := a) (by omega) 1 rfl) ?_
    replace ho := ho.hi (a := a) (x := 1) (by omega) (by unfold W64; omega)
    generalize ws.set a 1 = ws1 at ho
    clear hwl
    have hwl := ho.1
    have ha3 : IntKind.i64.wrap ((a : Int) + 1) = ((a + 1 : Nat) : Int) := by rw [IntKind.wrap_i64]; omega
    refine LoadAt.mk 0 _ _ rfl rfl ?_
    refine With.mk ⟨rfl, by omega, by omega⟩ ?_
    refine StoreAt.mk 1 _ _ rfl (put64 (l := ws1) (i := a + 1) (by omega) _ ha3) ?_
    replace ho := ho.hi (a := a + 1) (x := IntKind.u64.wrap (IntKind.i64.wrap (1 + (x.length : Int)))) (by omega) (wu_64 _)
    clear hwl
    refine loopS (S := Nat × List Int) (fun t => [(3, .ptr bl2 0), (5, .ptr m 0), (11, .int .i64 a), (81, .fsl (.slice (.int .i64)) ls), (82, .int .i64 ls.length), (83, .int .i64 i), (108, .fsl (.int .i64) x), (109, .int .i64 x.length), (110, .int .i64 t.1)]) (fun t => (m, [AV.mref q 0 (szL l) 1]) :: (q, woC t.2) :: (bl2, layV l) :: (bl1, sysC s) :: σ) (fun t => t.1 ≤ x.length ∧ FlOk s l t.2) (fun t => x.length - t.1) (0, ws1.set (a + 1) (IntKind.u64.wrap (IntKind.i64.wrap (1 + (x.length : Int))))) ⟨⟨Nat.zero_le _, ho⟩, ⟨rfl, rfl, rfl, rfl, rfl, rfl, rfl, rfl, rfl, trivial⟩, rfl⟩ ?_
    clear ho
    rintro ⟨j, ws⟩ g3 ⟨hj0, ho0⟩
    have hj : j ≤ x.length := hj0
    have ho : FlOk s l ws := ho0
    clear hj0 ho0
    have hwl := ho.1
    refine bcond_dec (p := (j : Int) < (x.length : Int)) (fun hlt2 => ?_) (fun hge2 => ?_)
    rotate_left
    · have hk2 := hs.k2
      exact nextS (i + 1, ws) (by show ls.length - (i + 1) < ls.length - i; omega) ⟨hlt, ho⟩ ⟨rfl, rfl, rfl, rfl, inc64 (by omega), trivial⟩ (.refl _)
    have hlt2 : j < x.length := by omega
    obtain ⟨z, hz⟩ : ∃ z, x[j] = z := ⟨_, rfl⟩
    refine With.mk rfl (IdxF.mk z (by omega) ((get_some hlt2).trans (congrArg some hz)) ?_)
    have e3 : IntKind.i64.wrap (l.n + 1) = ((nN s + 1 : Nat) : Int) := by rw [IntKind.wrap_i64]; omega
    obtain ⟨b, hb1, hb2⟩ : ∃ b : Nat, IntKind.i64.wrap (IntKind.i64.wrap ((a : Int) + 2) + (IntKind.i64.wrap (1 + (j : Int))).tmod (IntKind.i64.wrap (l.n + 1))) = (b : Int) ∧ a + 2 ≤ b ∧ b ≤ a + 2 + nN s := by
      have e1 : IntKind.i64.wrap ((a : Int) + 2) = ((a + 2 : Nat) : Int) := by rw [IntKind.wrap_i64]; omega
      have e2 : IntKind.i64.wrap (1 + (j : Int)) = ((1 + j : Nat) : Int) := by rw [IntKind.wrap_i64]; omega
      rw [e1, e2, e3]
      have h6 : 0 ≤ ((1 + j : Nat) : Int).tmod ((nN s + 1 : Nat) : Int) := Int.tmod_nonneg _ (by omega)
      have h7 := Int.tmod_lt_of_pos ((1 + j : Nat) : Int) (show 0 < ((nN s + 1 : Nat) : Int) by omega)
      generalize ((1 + j : Nat) : Int).tmod ((nN s + 1 : Nat) : Int) = y at h6 h7
      exact ⟨a + 2 + y.toNat, by rw [IntKind.wrap_i64]; omega, by omega, by omega⟩
    refine .sched [] (upto [] 17 0) (by kernel_rfl) ?_
    refine LoadAt.mk 0 _ _ rfl rfl ?_
    refine LoadAt.mk 2 _ _ rfl rfl ?_
    refine With.mk (by rw [e3]; omega) ?_
    refine With.mk ⟨rfl, by rw [hb1]; omega, by rw [hb1]; omega⟩ ?_
    refine StoreAt.mk 1 _ _ rfl (put64 (l := ws) (i := b) (by omega) _ hb1) ?_
    exact nextS (j + 1, ws.set b (IntKind.u64.wrap z)) (by show x.length - (j + 1) < x.length - j; omega) ⟨hlt2, ho.hi (by omega) (wu_64 _)⟩ ⟨rfl, rfl, rfl, rfl, rfl, rfl, rfl, rfl, inc64 (by omega), trivial⟩ (.refl _)
end Go.Proofs.YtegpahamenjiaaaGreat
