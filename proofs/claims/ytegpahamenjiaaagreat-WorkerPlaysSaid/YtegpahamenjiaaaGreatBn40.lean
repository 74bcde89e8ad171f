/-
  Kf: what the claim uses of them.
-/
import Derived.Test.YtegpahamenjiaaaGreatBn39
namespace Go.Proofs.YtegpahamenjiaaaGreat
open Go.RowKit
set_option maxRecDepth 100000
set_option maxHeartbeats 4000000
/-- What a Step leaves. -/
def WPost (M : AMem) (s : Sy) (l : Lay) (who : Int) (w : Nat) (res : WS × M.O.A × Bool) (σ : Hp) : AV → Hp → Prop := fun z σ' => ∃ m' r c acc, okRd c acc res.1.now ∧ M.abs m' = res.2.1 ∧ z = .bool res.2.2 ∧ σ' = WB s l who w r c acc res.1 ++ (M.B m' ++ σ)
theorem wPostEnd {M : AMem} {s : Sy} {l : Lay} {who : Int} {w : Nat} {σ : Hp} {x : WS} {a : M.O.A} {d : Int} (h : x.en = true) {m : M.S} (hm : M.abs m = a) {r : Nat} {c : AV} {acc : Hp} (rd : okRd c acc x.now) : WPost M s l who w (wStep M.O s l who x d a) σ (.bool true) (WB s l who w r c acc x ++ (M.B m ++ σ)) := by
  unfold wStep
  rw [if_pos h]
  exact ⟨m, r, c, acc, rd, hm, rfl, rfl⟩
theorem wPostT {M : AMem} {s : Sy} {l : Lay} {who : Int} {w : Nat} {σ : Hp} {x : WS} {a a' : M.O.A} {d : Int} {n n' : Nw} {b : Bool} {m' : M.S} {y : WS} (he : x.en = false) (hat : atW l who x d = n) (hn : nwStep M.O l x.node n a = (n', a', b)) (hb : b = true) (hm : M.abs m' = a') (hy : behW s l x n' = y) (h0 : y.now = .none) (r : Nat) : WPost M s l who w (wStep M.O s l who x d a) σ (.bool y.en) (WB s l who w r .nils [] y ++ (M.B m' ++ σ)) := by
  unfold wStep
  rw [if_neg (by rw [he]; decide), hat, hn]
  dsimp only
  rw [if_pos hb, hy]
  exact ⟨m', r, .nils, [], by rw [h0]; trivial, hm, rfl, rfl⟩
theorem wPostF {M : AMem} {s : Sy} {l : Lay} {who : Int} {w : Nat} {σ : Hp} {x : WS} {a a' : M.O.A} {d : Int} {n n' : Nw} {b : Bool} {m' : M.S} (he : x.en = false) (hat : atW l who x d = n) (hn : nwStep M.O l x.node n a = (n', a', b)) (hb : b = false) (hm : M.abs m' = a') (r : Nat) (c : AV) (acc : Hp) (rd : okRd c acc n') : WPost M s l who w (wStep M.O s l who x d a) σ (.bool false) (WB s l who w r c acc ⟨x.ev, x.jo, x.en, x.does, n', x.node, x.has, x.nx, x.out⟩ ++ (M.B m' ++ σ)) := by
  unfold wStep
  rw [if_neg (by rw [he]; decide), hat, hn]
  dsimp only
  rw [if_neg (by rw [hb]; decide)]
  exact ⟨m', r, c, acc, rd, hm, rfl, rfl⟩
/-- A machine's Step, behind other blocks, its outcome named. -/
theorem callWk {M : AMem} {f : FuncId} {xs : List AV} {X : Type} {B : X → List AV} {r : Nat} {cs : List AV} {res : X × M.O.A × Bool} {x' : X} {a' : M.O.A} {b' : Bool} {m : M.S} (fr : Hp) {σ : Hp} {K : AV → Hp → Prop} (hst : res = (x', a', b')) (h : ∀ σ, ACalls Tryz.prog f xs ((r, cs) :: (M.B m ++ σ)) (MPost M σ B r res))
    (k1 : ∀ m', M.abs m' = a' → b' = true → K (.bool true) (fr ++ ((r, B x') :: (M.B m' ++ σ)))) (k2 : ∀ m', M.abs m' = a' → b' = false → K (.bool false) (fr ++ ((r, B x') :: (M.B m' ++ σ)))) : CallAt Tryz.prog f K xs (fr ++ ((r, cs) :: (M.B m ++ σ))) := by
  subst hst
  exact callM fr h k1 k2
theorem nw_pop {O : MOps} {l : Lay} {node : Int} {q q' : DQ} {a a' : O.A} {b : Bool} (h : popStep O q a = (q', a', b)) : nwStep O l node (.pop q) a = (.pop q', a', b) := by show (Nw.pop (popStep O q a).1, (popStep O q a).2) = _; rw [h]
theorem nw_steal {O : MOps} {l : Lay} {node : Int} {q q' : DQ} {a a' : O.A} {b : Bool} (h : stealStep O q a = (q', a', b)) : nwStep O l node (.steal q) a = (.steal q', a', b) := by show (Nw.steal (stealStep O q a).1, (stealStep O q a).2) = _; rw [h]
theorem nw_quiet {O : MOps} {l : Lay} {node : Int} {q q' : Qk} {a a' : O.A} {b : Bool} (h : qkStep O q a = (q', a', b)) : nwStep O l node (.quiet q) a = (.quiet q', a', b) := by show (Nw.quiet (qkStep O q a).1, (qkStep O q a).2) = _; rw [h]
theorem nw_clear {O : MOps} {l : Lay} {node : Int} {q q' : Ck} {a a' : O.A} {b : Bool} (h : ckStep O q a = (q', a', b)) : nwStep O l node (.clear q) a = (.clear q', a', b) := by show (Nw.clear (ckStep O q a).1, (ckStep O q a).2) = _; rw [h]
theorem nw_take {O : MOps} {l : Lay} {node : Int} {q q' : Tk} {a a' : O.A} {b : Bool} (h : tkStep O q a = (q', a', b)) : nwStep O l node (.take q) a = (.take q', a', b) := by show (Nw.take (tkStep O q a).1, (tkStep O q a).2) = _; rw [h]
theorem nw_push {O : MOps} {l : Lay} {node : Int} {q q' : DQ} {a a' : O.A} {b : Bool} (h : pushStep O q a = (q', a', b)) : nwStep O l node (.push q) a = (.push q', a', b) := by show (Nw.push (pushStep O q a).1, (pushStep O q a).2) = _; rw [h]
theorem nw_retire {O : MOps} {l : Lay} {node : Int} {q q' : Rk} {a a' : O.A} {b : Bool} (h : rkStep O q a = (q', a', b)) : nwStep O l node (.retire q) a = (.retire q', a', b) := by show (Nw.retire (rkStep O q a).1, (rkStep O q a).2) = _; rw [h]
theorem nw_join {O : MOps} {l : Lay} {node : Int} {q q' : Jn} {a a' : O.A} {b : Bool} (h : jnStep O q a = (q', a', b)) : nwStep O l node (.join q) a = (.join q', a', b) := by show (Nw.join (jnStep O q a).1, (jnStep O q a).2) = _; rw [h]
theorem nw_read {O : MOps} {l : Lay} {node : Int} {q q' : List Int} {a a' : O.A} {b : Bool} (h : readStep O l (cellB l node) q a = (q', a', b)) : nwStep O l node (.read q) a = (.read q', a', b) := by show (Nw.read (readStep O l (cellB l node) q a).1, (readStep O l (cellB l node) q a).2) = _; rw [h]
theorem beg_some (l : Lay) (who does node : Int) (nx out : List Int) (d : Int) : begW l who does node nx out d ≠ .none := by
  unfold begW; repeat' (first | split | (intro h; cases h))
theorem okN_beg {l : Lay} {who does node : Int} {nx out : List Int} {d : Int} (h : does = 5 ∨ does = 6 ∨ does = 7 → 0 < nx.length) : okN l nx (begW l who does node nx out d) := by
  unfold begW
  repeat' split
  · exact ⟨Nat.zero_le _, Int.le_refl _⟩
  · exact ⟨Nat.zero_le _, Int.le_refl _⟩
  · trivial
  · trivial
  · refine ⟨?_, fun _ h => by cases h⟩
    rcases Nat.eq_zero_or_pos (cw l.words) with h | h
    · exact .inr ⟨h, rfl⟩
    · exact .inl h
  · exact ⟨Nat.zero_le _, h (by omega)⟩
  · exact h (by omega)
  · exact ⟨⟨Nat.zero_le _, Int.le_refl _⟩, h (by omega)⟩
  · trivial
/-- A Read's Step, behind another block. -/
theorem callRd {M : AMem} {r w : Nat} {wc : List AV} {m : M.S} {base what words x d : Int} {l : List Int} {c : AV} {acc σ : Hp} {K : AV → Hp → Prop} (hf : M.O.free (M.abs m)) (hat : l.length < cw words) (hv : L64 c acc l)
    (k1 : ∀ m' b, M.abs m' = (M.O.ld (M.abs m) (wr (base + (l.length : Nat)))).2 → l.length + 1 = cw words → K (.bool true) ((w, wc) :: (r, rdC (.mref b 0 (l ++ [(M.O.ld (M.abs m) (wr (base + (l.length : Nat)))).1]).length 1) base what words true (l ++ [(M.O.ld (M.abs m) (wr (base + (l.length : Nat)))).1]).length false x) :: (b, woC (l ++ [(M.O.ld (M.abs m) (wr (base + (l.length : Nat)))).1])) :: (M.B m' ++ σ)))
    (k2 : ∀ m' b, M.abs m' = (M.O.ld (M.abs m) (wr (base + (l.length : Nat)))).2 → ¬ l.length + 1 = cw words → K (.bool false) ((w, wc) :: (r, rdC (.mref b 0 (l ++ [(M.O.ld (M.abs m) (wr (base + (l.length : Nat)))).1]).length 1) base what words false (l ++ [(M.O.ld (M.abs m) (wr (base + (l.length : Nat)))).1]).length false x) :: (b, woC (l ++ [(M.O.ld (M.abs m) (wr (base + (l.length : Nat)))).1])) :: (M.B m' ++ σ))) : CallAt Tryz.prog 279 K [.ptr r 0, M.v, .int .i64 d] ((w, wc) :: (r, rdC c base what words false l.length false x) :: (acc ++ (M.B m ++ σ))) := by
  have hcw := cw_le words
  have hp : ∀ (cs : List AV) (a b : Hp), ((r, cs) :: (a ++ (b ++ ((w, wc) :: σ)))).Perm ((w, wc) :: (r, cs) :: (a ++ (b ++ σ))) := fun cs a b => by
    have := front_perm' [(w, wc)] ((r, cs) :: (a ++ b)) σ
    simpa using this
  refine .perm _ (hp _ acc (M.B m)) (aReadM1 M r m base what words x l.length false l c acc d ((w, wc) :: σ) hf hat hv (by omega)) ?_
  rintro z σ' ⟨m', c', acc', h1, h2, rfl, rfl⟩
  refine ⟨_, (hp _ acc' (M.B m')).symm, ?_⟩
  have hlen : (l ++ [(M.O.ld (M.abs m) (wr (base + (l.length : Nat)))).1]).length = l.length + 1 := by simp
  generalize hg : l ++ [(M.O.ld (M.abs m) (wr (base + (l.length : Nat)))).1] = g at h1 k1 k2 hlen
  rw [← hlen]
  rw [← hlen] at k1 k2
  cases h1 with
  | nil => simp at hlen
  | mref b g =>
    by_cases he : g.length = cw words
    · rw [decide_eq_true he]; exact k1 m' b h2 he
    · rw [decide_eq_false he]; exact k2 m' b h2 he
theorem aWS_pop (M : AMem) (w r : Nat) (c : AV) (acc : Hp) (s : Sy) (l : Lay) (who : Int) (ev jo : Int) (does : Int) (q : DQ) (node : Int) (has : Bool) (nx out : List Int) (d : Int) (m : M.S) (σ : Hp) (hm : M.O.free (M.abs m)) (o3 : okN l nx (.pop q)) :
    ACalls Tryz.prog 21 [.ptr w 0, M.v, .int .i64 d] (WB s l who w r c acc ⟨ev, jo, false, does, .pop q, node, has, nx, out⟩ ++ (M.B m ++ σ)) (WPost M s l who w (wStep M.O s l who ⟨ev, jo, false, does, .pop q, node, has, nx, out⟩ d (M.abs m)) σ) := by
  refine okF Tryz.func21 (by kernel_rfl) ?_
  refine LoadAt.mk 0 _ _ rfl rfl ?_
  refine LoadAt.mk 0 _ _ rfl rfl ?_
  refine LoadAt.mk 0 _ _ rfl rfl ?_
  obtain ⟨q', a', b', hst⟩ : ∃ q' a' b', popStep M.O q (M.abs m) = (q', a', b') := ⟨_, _, _, rfl⟩
  obtain ⟨u1, u2, u3, u4, u5, u6, u7, u8, u9⟩ := q'
  cases u4 with
  | true =>
    refine .fwd 1 ?_
    refine .sched [5] (upto [5] 11 0) (by kernel_rfl) ?_
    refine LoadAt.mk 0 _ _ rfl rfl ?_
    refine callQ [] (aOr _ _ _) ?_
    refine ⟨_, wPop_, ?_⟩
    refine callWk [_] hst (fun σ => aPop M r q m d σ hm (by have := o3.1; omega) o3.2) (fun m' hm' hb => ?_) (fun m' hm' hb => ?_)
    · refine callR [] (aBehPop1 w r s l who ev jo false does node has nx out _ _ _ _ _ _ _ _ _) ?_
      refine StoreAt.mk 0 _ _ rfl rfl ?_
      refine StoreAt.mk 0 _ _ rfl rfl ?_
      refine LoadAt.mk 0 _ _ rfl rfl ?_
      exact .drop 1 1 (.done (wPostT (x := ⟨ev, jo, false, does, .pop q, node, has, nx, out⟩) (n := .pop q) rfl rfl (nw_pop hst) hb hm' rfl rfl r))
    · exact .done (wPostF (x := ⟨ev, jo, false, does, .pop q, node, has, nx, out⟩) (n := .pop q) rfl rfl (nw_pop hst) hb hm' r .nils [] trivial)
  | false =>
    refine .fwd 1 ?_
    refine .sched [5] (upto [5] 11 0) (by kernel_rfl) ?_
    refine LoadAt.mk 0 _ _ rfl rfl ?_
    refine callQ [] (aOr _ _ _) ?_
    refine ⟨_, wPop_, ?_⟩
    refine callWk [_] hst (fun σ => aPop M r q m d σ hm (by have := o3.1; omega) o3.2) (fun m' hm' hb => ?_) (fun m' hm' hb => ?_)
    · refine callR [] (aBehPop0 w r s l who ev jo false does node has nx out _ _ _ _ _ _ _ _ _) ?_
      refine StoreAt.mk 0 _ _ rfl rfl ?_
      refine StoreAt.mk 0 _ _ rfl rfl ?_
      refine LoadAt.mk 0 _ _ rfl rfl ?_
      exact .drop 1 1 (.done (wPostT (x := ⟨ev, jo, false, does, .pop q, node, has, nx, out⟩) (n := .pop q) rfl rfl (nw_pop hst) hb hm' rfl rfl r))
    · exact .done (wPostF (x := ⟨ev, jo, false, does, .pop q, node, has, nx, out⟩) (n := .pop q) rfl rfl (nw_pop hst) hb hm' r .nils [] trivial)
theorem aWS_steal (M : AMem) (w r : Nat) (c : AV) (acc : Hp) (s : Sy) (l : Lay) (who : Int) (ev jo : Int) (does : Int) (q : DQ) (node : Int) (has : Bool) (nx out : List Int) (d : Int) (m : M.S) (σ : Hp) (hm : M.O.free (M.abs m)) (o3 : okN l nx (.steal q)) :
    ACalls Tryz.prog 21 [.ptr w 0, M.v, .int .i64 d] (WB s l who w r c acc ⟨ev, jo, false, does, .steal q, node, has, nx, out⟩ ++ (M.B m ++ σ)) (WPost M s l who w (wStep M.O s l who ⟨ev, jo, false, does, .steal q, node, has, nx, out⟩ d (M.abs m)) σ) := by
  refine okF Tryz.func21 (by kernel_rfl) ?_
  refine LoadAt.mk 0 _ _ rfl rfl ?_
  refine LoadAt.mk 0 _ _ rfl rfl ?_
  refine LoadAt.mk 0 _ _ rfl rfl ?_
  obtain ⟨q', a', b', hst⟩ : ∃ q' a' b', stealStep M.O q (M.abs m) = (q', a', b') := ⟨_, _, _, rfl⟩
  obtain ⟨u1, u2, u3, u4, u5, u6, u7, u8, u9⟩ := q'
  cases u4 with
  | true =>
    refine .fwd 1 ?_
    refine .sched [5] (upto [5] 11 0) (by kernel_rfl) ?_
    refine LoadAt.mk 0 _ _ rfl rfl ?_
    refine callQ [] (aOr _ _ _) ?_
    refine ⟨_, wSteal_, ?_⟩
    refine callWk [_] hst (fun σ => aSteal M r q m d σ hm (by have := o3.1; omega) o3.2) (fun m' hm' hb => ?_) (fun m' hm' hb => ?_)
    · refine callR [] (aBehSteal1 w r s l who ev jo false does node has nx out _ _ _ _ _ _ _ _ _) ?_
      refine StoreAt.mk 0 _ _ rfl rfl ?_
      refine StoreAt.mk 0 _ _ rfl rfl ?_
      refine LoadAt.mk 0 _ _ rfl rfl ?_
      exact .drop 1 1 (.done (wPostT (x := ⟨ev, jo, false, does, .steal q, node, has, nx, out⟩) (n := .steal q) rfl rfl (nw_steal hst) hb hm' rfl rfl r))
    · exact .done (wPostF (x := ⟨ev, jo, false, does, .steal q, node, has, nx, out⟩) (n := .steal q) rfl rfl (nw_steal hst) hb hm' r .nils [] trivial)
  | false =>
    refine .fwd 1 ?_
    refine .sched [5] (upto [5] 11 0) (by kernel_rfl) ?_
    refine LoadAt.mk 0 _ _ rfl rfl ?_
    refine callQ [] (aOr _ _ _) ?_
    refine ⟨_, wSteal_, ?_⟩
    refine callWk [_] hst (fun σ => aSteal M r q m d σ hm (by have := o3.1; omega) o3.2) (fun m' hm' hb => ?_) (fun m' hm' hb => ?_)
    · refine callR [] (aBehSteal0 w r s l who ev jo false does node has nx out _ _ _ _ _ _ _ _ _) ?_
      refine StoreAt.mk 0 _ _ rfl rfl ?_
      refine StoreAt.mk 0 _ _ rfl rfl ?_
      refine LoadAt.mk 0 _ _ rfl rfl ?_
      exact .drop 1 1 (.done (wPostT (x := ⟨ev, jo, false, does, .steal q, node, has, nx, out⟩) (n := .steal q) rfl rfl (nw_steal hst) hb hm' rfl rfl r))
    · exact .done (wPostF (x := ⟨ev, jo, false, does, .steal q, node, has, nx, out⟩) (n := .steal q) rfl rfl (nw_steal hst) hb hm' r .nils [] trivial)
theorem aWS_quiet (M : AMem) (w r : Nat) (c : AV) (acc : Hp) (s : Sy) (l : Lay) (who : Int) (ev jo : Int) (does : Int) (q : Qk) (node : Int) (has : Bool) (nx out : List Int) (d : Int) (m : M.S) (σ : Hp) (hm : M.O.free (M.abs m)) :
    ACalls Tryz.prog 21 [.ptr w 0, M.v, .int .i64 d] (WB s l who w r c acc ⟨ev, jo, false, does, .quiet q, node, has, nx, out⟩ ++ (M.B m ++ σ)) (WPost M s l who w (wStep M.O s l who ⟨ev, jo, false, does, .quiet q, node, has, nx, out⟩ d (M.abs m)) σ) := by
  refine okF Tryz.func21 (by kernel_rfl) ?_
  refine LoadAt.mk 0 _ _ rfl rfl ?_
  refine LoadAt.mk 0 _ _ rfl rfl ?_
  refine LoadAt.mk 0 _ _ rfl rfl ?_
  obtain ⟨q', a', b', hst⟩ : ∃ q' a' b', qkStep M.O q (M.abs m) = (q', a', b') := ⟨_, _, _, rfl⟩
  obtain ⟨u1, u2, u3, u4⟩ := q'
  cases u3 with
  | true =>
    refine .fwd 1 ?_
    refine .sched [5] (upto [5] 11 0) (by kernel_rfl) ?_
    refine LoadAt.mk 0 _ _ rfl rfl ?_
    refine callQ [] (aOr _ _ _) ?_
    refine ⟨_, wQuiet_, ?_⟩
    refine callWk [_] hst (fun σ => aQuiet M r q m d σ hm) (fun m' hm' hb => ?_) (fun m' hm' hb => ?_)
    · refine callR [] (aBehQuiet w r s l who ev jo false does node has nx out _ _ _ _ _) ?_
      refine StoreAt.mk 0 _ _ rfl rfl ?_
      refine StoreAt.mk 0 _ _ rfl rfl ?_
      refine LoadAt.mk 0 _ _ rfl rfl ?_
      exact .drop 1 1 (.done (wPostT (x := ⟨ev, jo, false, does, .quiet q, node, has, nx, out⟩) (n := .quiet q) rfl rfl (nw_quiet hst) hb hm' rfl rfl r))
    · exact .done (wPostF (x := ⟨ev, jo, false, does, .quiet q, node, has, nx, out⟩) (n := .quiet q) rfl rfl (nw_quiet hst) hb hm' r .nils [] trivial)
  | false =>
    refine .fwd 1 ?_
    refine .sched [5] (upto [5] 11 0) (by kernel_rfl) ?_
    refine LoadAt.mk 0 _ _ rfl rfl ?_
    refine callQ [] (aOr _ _ _) ?_
    refine ⟨_, wQuiet_, ?_⟩
    refine callWk [_] hst (fun σ => aQuiet M r q m d σ hm) (fun m' hm' hb => ?_) (fun m' hm' hb => ?_)
    · refine callR [] (aBehQuiet w r s l who ev jo false does node has nx out _ _ _ _ _) ?_
      refine StoreAt.mk 0 _ _ rfl rfl ?_
      refine StoreAt.mk 0 _ _ rfl rfl ?_
      refine LoadAt.mk 0 _ _ rfl rfl ?_
      exact .drop 1 1 (.done (wPostT (x := ⟨ev, jo, false, does, .quiet q, node, has, nx, out⟩) (n := .quiet q) rfl rfl (nw_quiet hst) hb hm' rfl rfl r))
    · exact .done (wPostF (x := ⟨ev, jo, false, does, .quiet q, node, has, nx, out⟩) (n := .quiet q) rfl rfl (nw_quiet hst) hb hm' r .nils [] trivial)
theorem aWS_clear (M : AMem) (w r : Nat) (c : AV) (acc : Hp) (s : Sy) (l : Lay) (who : Int) (ev jo : Int) (does : Int) (q : Ck) (node : Int) (has : Bool) (nx out : List Int) (d : Int) (m : M.S) (σ : Hp) (hm : M.O.free (M.abs m)) :
    ACalls Tryz.prog 21 [.ptr w 0, M.v, .int .i64 d] (WB s l who w r c acc ⟨ev, jo, false, does, .clear q, node, has, nx, out⟩ ++ (M.B m ++ σ)) (WPost M s l who w (wStep M.O s l who ⟨ev, jo, false, does, .clear q, node, has, nx, out⟩ d (M.abs m)) σ) := by
  refine okF Tryz.func21 (by kernel_rfl) ?_
  refine LoadAt.mk 0 _ _ rfl rfl ?_
  refine LoadAt.mk 0 _ _ rfl rfl ?_
  refine LoadAt.mk 0 _ _ rfl rfl ?_
  obtain ⟨q', a', b', hst⟩ : ∃ q' a' b', ckStep M.O q (M.abs m) = (q', a', b') := ⟨_, _, _, rfl⟩
  obtain ⟨u1, u2, u3, u4⟩ := q'
  refine .fwd 1 ?_
  refine .sched [5] (upto [5] 11 0) (by kernel_rfl) ?_
  refine LoadAt.mk 0 _ _ rfl rfl ?_
  refine callQ [] (aOr _ _ _) ?_
  refine ⟨_, wClear_, ?_⟩
  refine callWk [_] hst (fun σ => aClear M r q m d σ hm) (fun m' hm' hb => ?_) (fun m' hm' hb => ?_)
  · refine callR [] (aBehClear w r s l who ev jo false does node has nx out _ _ _ _ _) ?_
    refine StoreAt.mk 0 _ _ rfl rfl ?_
    refine StoreAt.mk 0 _ _ rfl rfl ?_
    refine LoadAt.mk 0 _ _ rfl rfl ?_
    exact .drop 1 1 (.done (wPostT (x := ⟨ev, jo, false, does, .clear q, node, has, nx, out⟩) (n := .clear q) rfl rfl (nw_clear hst) hb hm' rfl rfl r))
  · exact .done (wPostF (x := ⟨ev, jo, false, does, .clear q, node, has, nx, out⟩) (n := .clear q) rfl rfl (nw_clear hst) hb hm' r .nils [] trivial)
theorem aWS_take (M : AMem) (w r : Nat) (c : AV) (acc : Hp) (s : Sy) (l : Lay) (who : Int) (ev jo : Int) (does : Int) (q : Tk) (node : Int) (has : Bool) (nx out : List Int) (d : Int) (m : M.S) (σ : Hp) (hm : M.O.free (M.abs m)) (o3 : okN l nx (.take q)) :
    ACalls Tryz.prog 21 [.ptr w 0, M.v, .int .i64 d] (WB s l who w r c acc ⟨ev, jo, false, does, .take q, node, has, nx, out⟩ ++ (M.B m ++ σ)) (WPost M s l who w (wStep M.O s l who ⟨ev, jo, false, does, .take q, node, has, nx, out⟩ d (M.abs m)) σ) := by
  refine okF Tryz.func21 (by kernel_rfl) ?_
  refine LoadAt.mk 0 _ _ rfl rfl ?_
  refine LoadAt.mk 0 _ _ rfl rfl ?_
  refine LoadAt.mk 0 _ _ rfl rfl ?_
  obtain ⟨q', a', b', hst⟩ : ∃ q' a' b', tkStep M.O q (M.abs m) = (q', a', b') := ⟨_, _, _, rfl⟩
  obtain ⟨u1, u2, u3, u4, u5, u6⟩ := q'
  cases u4 with
  | true =>
    refine .fwd 1 ?_
    refine .sched [5] (upto [5] 11 0) (by kernel_rfl) ?_
    refine LoadAt.mk 0 _ _ rfl rfl ?_
    refine callQ [] (aOr _ _ _) ?_
    refine ⟨_, wTake_, ?_⟩
    refine callWk [_] hst (fun σ => aTake M r q m d σ hm) (fun m' hm' hb => ?_) (fun m' hm' hb => ?_)
    · refine callR [] (aBehTake1 w r s l who ev jo false does node has nx out _ _ _ _ _ _) ?_
      refine StoreAt.mk 0 _ _ rfl rfl ?_
      refine StoreAt.mk 0 _ _ rfl rfl ?_
      refine LoadAt.mk 0 _ _ rfl rfl ?_
      exact .drop 1 1 (.done (wPostT (x := ⟨ev, jo, false, does, .take q, node, has, nx, out⟩) (n := .take q) rfl rfl (nw_take hst) hb hm' rfl rfl r))
    · exact .done (wPostF (x := ⟨ev, jo, false, does, .take q, node, has, nx, out⟩) (n := .take q) rfl rfl (nw_take hst) hb hm' r .nils [] trivial)
  | false =>
    refine .fwd 1 ?_
    refine .sched [5] (upto [5] 11 0) (by kernel_rfl) ?_
    refine LoadAt.mk 0 _ _ rfl rfl ?_
    refine callQ [] (aOr _ _ _) ?_
    refine ⟨_, wTake_, ?_⟩
    refine callWk [_] hst (fun σ => aTake M r q m d σ hm) (fun m' hm' hb => ?_) (fun m' hm' hb => ?_)
    · refine callR [] (aBehTake0 w r s l who ev jo false does node has nx out _ _ _ _ _ _ o3) ?_
      refine StoreAt.mk 0 _ _ rfl rfl ?_
      refine StoreAt.mk 0 _ _ rfl rfl ?_
      refine LoadAt.mk 0 _ _ rfl rfl ?_
      exact .drop 1 1 (.done (wPostT (x := ⟨ev, jo, false, does, .take q, node, has, nx, out⟩) (n := .take q) rfl rfl (nw_take hst) hb hm' rfl rfl r))
    · exact .done (wPostF (x := ⟨ev, jo, false, does, .take q, node, has, nx, out⟩) (n := .take q) rfl rfl (nw_take hst) hb hm' r .nils [] trivial)
theorem aWS_push (M : AMem) (w r : Nat) (c : AV) (acc : Hp) (s : Sy) (l : Lay) (who : Int) (ev jo : Int) (does : Int) (q : DQ) (node : Int) (has : Bool) (nx out : List Int) (d : Int) (m : M.S) (σ : Hp) (hm : M.O.free (M.abs m)) (o3 : okN l nx (.push q)) :
    ACalls Tryz.prog 21 [.ptr w 0, M.v, .int .i64 d] (WB s l who w r c acc ⟨ev, jo, false, does, .push q, node, has, nx, out⟩ ++ (M.B m ++ σ)) (WPost M s l who w (wStep M.O s l who ⟨ev, jo, false, does, .push q, node, has, nx, out⟩ d (M.abs m)) σ) := by
  refine okF Tryz.func21 (by kernel_rfl) ?_
  refine LoadAt.mk 0 _ _ rfl rfl ?_
  refine LoadAt.mk 0 _ _ rfl rfl ?_
  refine LoadAt.mk 0 _ _ rfl rfl ?_
  obtain ⟨q', a', b', hst⟩ : ∃ q' a' b', pushStep M.O q (M.abs m) = (q', a', b') := ⟨_, _, _, rfl⟩
  refine .fwd 1 ?_
  refine .sched [5] (upto [5] 11 0) (by kernel_rfl) ?_
  refine LoadAt.mk 0 _ _ rfl rfl ?_
  refine callQ [] (aOr _ _ _) ?_
  refine ⟨_, wPush_, ?_⟩
  refine callWk [_] hst (fun σ => aPush M r q m d σ hm (by have := o3.1.1; omega) o3.1.2) (fun m' hm' hb => ?_) (fun m' hm' hb => ?_)
  · refine callR [] (aBehPush w r s l who ev jo false does node has nx out _ _ o3.2) ?_
    refine StoreAt.mk 0 _ _ rfl rfl ?_
    refine StoreAt.mk 0 _ _ rfl rfl ?_
    refine LoadAt.mk 0 _ _ rfl rfl ?_
    exact .drop 1 1 (.done (wPostT (x := ⟨ev, jo, false, does, .push q, node, has, nx, out⟩) (n := .push q) rfl rfl (nw_push hst) hb hm' rfl rfl r))
  · exact .done (wPostF (x := ⟨ev, jo, false, does, .push q, node, has, nx, out⟩) (n := .push q) rfl rfl (nw_push hst) hb hm' r .nils [] trivial)
theorem aWS_retire (M : AMem) (w r : Nat) (c : AV) (acc : Hp) (s : Sy) (l : Lay) (who : Int) (ev jo : Int) (does : Int) (q : Rk) (node : Int) (has : Bool) (nx out : List Int) (d : Int) (m : M.S) (σ : Hp) (hm : M.O.free (M.abs m)) :
    ACalls Tryz.prog 21 [.ptr w 0, M.v, .int .i64 d] (WB s l who w r c acc ⟨ev, jo, false, does, .retire q, node, has, nx, out⟩ ++ (M.B m ++ σ)) (WPost M s l who w (wStep M.O s l who ⟨ev, jo, false, does, .retire q, node, has, nx, out⟩ d (M.abs m)) σ) := by
  refine okF Tryz.func21 (by kernel_rfl) ?_
  refine LoadAt.mk 0 _ _ rfl rfl ?_
  refine LoadAt.mk 0 _ _ rfl rfl ?_
  refine LoadAt.mk 0 _ _ rfl rfl ?_
  obtain ⟨q', a', b', hst⟩ : ∃ q' a' b', rkStep M.O q (M.abs m) = (q', a', b') := ⟨_, _, _, rfl⟩
  refine .fwd 1 ?_
  refine .sched [5] (upto [5] 11 0) (by kernel_rfl) ?_
  refine LoadAt.mk 0 _ _ rfl rfl ?_
  refine callQ [] (aOr _ _ _) ?_
  refine ⟨_, wRetire_, ?_⟩
  refine callWk [_] hst (fun σ => aRetire M r q m d σ hm) (fun m' hm' hb => ?_) (fun m' hm' hb => ?_)
  · refine callR [] (aBehRetire w r s l who ev jo false does node has nx out _ _) ?_
    refine StoreAt.mk 0 _ _ rfl rfl ?_
    refine StoreAt.mk 0 _ _ rfl rfl ?_
    refine LoadAt.mk 0 _ _ rfl rfl ?_
    exact .drop 1 1 (.done (wPostT (x := ⟨ev, jo, false, does, .retire q, node, has, nx, out⟩) (n := .retire q) rfl rfl (nw_retire hst) hb hm' rfl rfl r))
  · exact .done (wPostF (x := ⟨ev, jo, false, does, .retire q, node, has, nx, out⟩) (n := .retire q) rfl rfl (nw_retire hst) hb hm' r .nils [] trivial)
theorem aWS_join (M : AMem) (w r : Nat) (c : AV) (acc : Hp) (s : Sy) (l : Lay) (who : Int) (ev jo : Int) (does : Int) (q : Jn) (node : Int) (has : Bool) (nx out : List Int) (d : Int) (m : M.S) (σ : Hp) (hm : M.O.free (M.abs m)) (o3 : okN l nx (.join q)) :
    ACalls Tryz.prog 21 [.ptr w 0, M.v, .int .i64 d] (WB s l who w r c acc ⟨ev, jo, false, does, .join q, node, has, nx, out⟩ ++ (M.B m ++ σ)) (WPost M s l who w (wStep M.O s l who ⟨ev, jo, false, does, .join q, node, has, nx, out⟩ d (M.abs m)) σ) := by
  refine okF Tryz.func21 (by kernel_rfl) ?_
  refine LoadAt.mk 0 _ _ rfl rfl ?_
  refine LoadAt.mk 0 _ _ rfl rfl ?_
  refine LoadAt.mk 0 _ _ rfl rfl ?_
  obtain ⟨q', a', b', hst⟩ : ∃ q' a' b', jnStep M.O q (M.abs m) = (q', a', b') := ⟨_, _, _, rfl⟩
  obtain ⟨u1, u2, u3, u4, u5, u6, u7, u8, u9, u10⟩ := q'
  cases u5 with
  | true =>
    refine .fwd 1 ?_
    refine .sched [5] (upto [5] 11 0) (by kernel_rfl) ?_
    refine LoadAt.mk 0 _ _ rfl rfl ?_
    refine callQ [] (aOr _ _ _) ?_
    refine ⟨_, wJoin_, ?_⟩
    refine callWk [_] hst (fun σ => aJoin M r q m d σ hm (by have := o3.1; omega)) (fun m' hm' hb => ?_) (fun m' hm' hb => ?_)
    · refine callR [] (aBehJoin1 w r s l who ev jo false does node has nx out _ _ _ _ _ _ _ _ _ _) ?_
      refine StoreAt.mk 0 _ _ rfl rfl ?_
      refine StoreAt.mk 0 _ _ rfl rfl ?_
      refine LoadAt.mk 0 _ _ rfl rfl ?_
      exact .drop 1 1 (.done (wPostT (x := ⟨ev, jo, false, does, .join q, node, has, nx, out⟩) (n := .join q) rfl rfl (nw_join hst) hb hm' rfl rfl r))
    · exact .done (wPostF (x := ⟨ev, jo, false, does, .join q, node, has, nx, out⟩) (n := .join q) rfl rfl (nw_join hst) hb hm' r .nils [] trivial)
  | false =>
    refine .fwd 1 ?_
    refine .sched [5] (upto [5] 11 0) (by kernel_rfl) ?_
    refine LoadAt.mk 0 _ _ rfl rfl ?_
    refine callQ [] (aOr _ _ _) ?_
    refine ⟨_, wJoin_, ?_⟩
    refine callWk [_] hst (fun σ => aJoin M r q m d σ hm (by have := o3.1; omega)) (fun m' hm' hb => ?_) (fun m' hm' hb => ?_)
    · refine callR [] (aBehJoin0 w r s l who ev jo false does node has nx out _ _ _ _ _ _ _ _ _ _ o3.2) ?_
      refine StoreAt.mk 0 _ _ rfl rfl ?_
      refine StoreAt.mk 0 _ _ rfl rfl ?_
      refine LoadAt.mk 0 _ _ rfl rfl ?_
      exact .drop 1 1 (.done (wPostT (x := ⟨ev, jo, false, does, .join q, node, has, nx, out⟩) (n := .join q) rfl rfl (nw_join hst) hb hm' rfl rfl r))
    · exact .done (wPostF (x := ⟨ev, jo, false, does, .join q, node, has, nx, out⟩) (n := .join q) rfl rfl (nw_join hst) hb hm' r .nils [] trivial)
theorem aWS_read (M : AMem) (w r : Nat) (c : AV) (acc : Hp) (s : Sy) (l : Lay) (who : Int) (ev jo : Int) (does : Int) (x : List Int) (node : Int) (has : Bool) (nx out : List Int) (d : Int) (m : M.S) (σ : Hp) (hm : M.O.free (M.abs m)) (hf : Fit s) (hv : ∀ a, W64 (M.O.ld (M.abs m) a).1) (o3 : okN l nx (.read x)) (hrd1 : L64 c acc x ∧ (x = [] → c = .nils)) :
    ACalls Tryz.prog 21 [.ptr w 0, M.v, .int .i64 d] (WB s l who w r c acc ⟨ev, jo, false, does, .read x, node, has, nx, out⟩ ++ (M.B m ++ σ)) (WPost M s l who w (wStep M.O s l who ⟨ev, jo, false, does, .read x, node, has, nx, out⟩ d (M.abs m)) σ) := by
  refine okF Tryz.func21 (by kernel_rfl) ?_
  refine LoadAt.mk 0 _ _ rfl rfl ?_
  refine LoadAt.mk 0 _ _ rfl rfl ?_
  refine LoadAt.mk 0 _ _ rfl rfl ?_
  obtain ⟨o4, o5⟩ := o3
  obtain ⟨hrd, hrd0⟩ := hrd1
  by_cases hlt : x.length < cw l.words
  · have hcw := cw_le l.words
    have hst : readStep M.O l (cellB l node) x (M.abs m) = (x ++ [(M.O.ld (M.abs m) (wr (cellB l node + (x.length : Nat)))).1], (M.O.ld (M.abs m) (wr (cellB l node + (x.length : Nat)))).2, decide (x.length + 1 = cw l.words)) := if_pos hlt
    have hx2 : A64 (x ++ [(M.O.ld (M.abs m) (wr (cellB l node + (x.length : Nat)))).1]) := fun z hz => by rcases List.mem_append.1 hz with h | h; exact o5 z h; rw [List.mem_singleton.1 h]; exact hv _
    have hx3 : (x ++ [(M.O.ld (M.abs m) (wr (cellB l node + (x.length : Nat)))).1]).length = x.length + 1 := by simp
    refine .fwd 1 ?_
    refine .sched [5] (upto [5] 11 0) (by kernel_rfl) ?_
    refine LoadAt.mk 0 _ _ rfl rfl ?_
    refine callQ [] (aOr _ _ _) ?_
    refine ⟨_, wRead_, ?_⟩
    refine callRd hm hlt hrd (fun m' b hm' he => ?_) (fun m' b hm' he => ?_)
    · refine .frzc 2 b 0 (x ++ [(M.O.ld (M.abs m) (wr (cellB l node + (x.length : Nat)))).1]).length 1 _ (.int .u64) (x ++ [(M.O.ld (M.abs m) (wr (cellB l node + (x.length : Nat)))).1]) rfl ?_ ⟨rfl, rfl, by decide⟩ 1 3 r _ rfl rfl ?_
      · rw [List.drop_zero, ← woC_flat]; exact List.take_of_length_le (by simp [woC])
      refine callR [] (aBehRead w r s l who ev jo false does node has nx out (x ++ [(M.O.ld (M.abs m) (wr (cellB l node + (x.length : Nat)))).1]) _ _ _ _ _ _ _ _ hf hx2 (by omega)) ?_
      refine StoreAt.mk 0 _ _ rfl rfl ?_
      refine StoreAt.mk 0 _ _ rfl rfl ?_
      refine LoadAt.mk 0 _ _ rfl rfl ?_
      exact .drop 1 1 (.done (wPostT (x := ⟨ev, jo, false, does, .read x, node, has, nx, out⟩) (n := .read x) rfl rfl (nw_read hst) (decide_eq_true he) hm' rfl rfl r))
    · exact .done (wPostF (x := ⟨ev, jo, false, does, .read x, node, has, nx, out⟩) (n := .read x) rfl rfl (nw_read hst) (decide_eq_false he) hm' r (.mref b 0 (x ++ [(M.O.ld (M.abs m) (wr (cellB l node + (x.length : Nat)))).1]).length 1) [(b, woC (x ++ [(M.O.ld (M.abs m) (wr (cellB l node + (x.length : Nat)))).1]))] ⟨.mref b (x ++ [(M.O.ld (M.abs m) (wr (cellB l node + (x.length : Nat)))).1]), fun h => absurd h (by simp)⟩)
  · obtain ⟨h0, rfl⟩ := o4.resolve_left hlt
    generalize hz : ([] : List Int) = z0 at hrd
    cases hrd with
    | mref b z => exact absurd (hrd0 rfl) (by simp)
    | nil =>
    have hst : readStep M.O l (cellB l node) [] (M.abs m) = ([], M.abs m, true) := if_neg hlt
    refine .fwd 1 ?_
    refine .sched [5] (upto [5] 11 0) (by kernel_rfl) ?_
    refine LoadAt.mk 0 _ _ rfl rfl ?_
    refine callQ [] (aOr _ _ _) ?_
    refine ⟨_, wRead_, ?_⟩
    refine callR [1] (aReadM0 M r _ _ _ _ _ _ d _ h0) ?_
    refine callNil 0 3 r _ (.int .u64) rfl rfl ?_
    refine callR [1] (aBehRead w r s l who ev jo false does node has nx out [] _ _ _ _ _ _ _ _ hf o5 (Nat.zero_le _)) ?_
    refine StoreAt.mk 0 _ _ rfl rfl ?_
    refine StoreAt.mk 0 _ _ rfl rfl ?_
    refine LoadAt.mk 0 _ _ rfl rfl ?_
    exact .drop 1 1 (.done (wPostT (x := ⟨ev, jo, false, does, .read [], node, has, nx, out⟩) (n := .read []) rfl rfl (nw_read hst) rfl rfl rfl rfl r))
set_option maxRecDepth 100000
set_option maxHeartbeats 4000000
theorem beg_read {l : Lay} {who does node : Int} {nx out : List Int} {d : Int} {x : List Int} (h : begW l who does node nx out d = .read x) : x = [] := by
  unfold begW at h
  repeat' (first | (cases h; rfl) | cases h | split at h)
theorem aWS_none (M : AMem) (w r0 : Nat) (c : AV) (acc : Hp) (s : Sy) (l : Lay) (who : Int) (ev jo : Int) (does : Int) (node : Int) (has : Bool) (nx out : List Int) (d : Int) (m : M.S) (σ : Hp) (hm : M.O.free (M.abs m)) (hf : Fit s) (hv : ∀ a, W64 (M.O.ld (M.abs m) a).1) (o1 : does = 5 ∨ does = 6 ∨ does = 7 → 0 < nx.length) (o2 : does = 1 → nK l ≠ 0 ∧ l.k ≠ 0) :
    ACalls Tryz.prog 21 [.ptr w 0, M.v, .int .i64 d] (WB s l who w r0 c acc ⟨ev, jo, false, does, .none, node, has, nx, out⟩ ++ (M.B m ++ σ)) (WPost M s l who w (wStep M.O s l who ⟨ev, jo, false, does, .none, node, has, nx, out⟩ d (M.abs m)) σ) := by
  refine okF Tryz.func21 (by kernel_rfl) ?_
  refine LoadAt.mk 0 _ _ rfl rfl ?_
  refine LoadAt.mk 0 _ _ rfl rfl ?_
  refine LoadAt.mk 0 _ _ rfl rfl ?_
  refine .mk [] _ (aBegin w s l who ev jo false does .nilif node has nx out d _ o1 o2) ?_
  rintro _ _ ⟨r, rfl, rfl⟩
  have o3 : okN l nx (begW l who does node nx out d) := okN_beg o1
  have h0 := beg_some l who does node nx out d
  generalize hbg : begW l who does node nx out d = n at o3 h0
  cases n with
  | none => exact absurd rfl h0
  | pop q =>
    obtain ⟨q', a', b', hst⟩ : ∃ q' a' b', popStep M.O q (M.abs m) = (q', a', b') := ⟨_, _, _, rfl⟩
    obtain ⟨u1, u2, u3, u4, u5, u6, u7, u8, u9⟩ := q'
    cases u4 with
    | true =>
      refine StoreAt.mk 1 _ _ rfl rfl ?_
      refine DrawW.shed (.pull [1] (.refl _)) ?_
      refine .sched [5] (upto [5] 11 0) (by kernel_rfl) ?_
      refine LoadAt.mk 0 _ _ rfl rfl ?_
      refine callQ [] (aOr _ _ _) ?_
      refine ⟨_, wPop_, ?_⟩
      refine callWk [_] hst (fun σ => aPop M r q m d σ hm (by have := o3.1; omega) o3.2) (fun m' hm' hb => ?_) (fun m' hm' hb => ?_)
      · refine callR [] (aBehPop1 w r s l who ev jo false does node has nx out _ _ _ _ _ _ _ _ _) ?_
        refine StoreAt.mk 0 _ _ rfl rfl ?_
        refine StoreAt.mk 0 _ _ rfl rfl ?_
        refine LoadAt.mk 0 _ _ rfl rfl ?_
        exact .drop 1 1 (.done (wPostT (x := ⟨ev, jo, false, does, .none, node, has, nx, out⟩) (n := .pop q) rfl hbg (nw_pop hst) hb hm' rfl rfl r))
      · exact .done (wPostF (x := ⟨ev, jo, false, does, .none, node, has, nx, out⟩) (n := .pop q) rfl hbg (nw_pop hst) hb hm' r .nils [] trivial)
    | false =>
      refine StoreAt.mk 1 _ _ rfl rfl ?_
      refine DrawW.shed (.pull [1] (.refl _)) ?_
      refine .sched [5] (upto [5] 11 0) (by kernel_rfl) ?_
      refine LoadAt.mk 0 _ _ rfl rfl ?_
      refine callQ [] (aOr _ _ _) ?_
      refine ⟨_, wPop_, ?_⟩
      refine callWk [_] hst (fun σ => aPop M r q m d σ hm (by have := o3.1; omega) o3.2) (fun m' hm' hb => ?_) (fun m' hm' hb => ?_)
      · refine callR [] (aBehPop0 w r s l who ev jo false does node has nx out _ _ _ _ _ _ _ _ _) ?_
        refine StoreAt.mk 0 _ _ rfl rfl ?_
        refine StoreAt.mk 0 _ _ rfl rfl ?_
        refine LoadAt.mk 0 _ _ rfl rfl ?_
        exact .drop 1 1 (.done (wPostT (x := ⟨ev, jo, false, does, .none, node, has, nx, out⟩) (n := .pop q) rfl hbg (nw_pop hst) hb hm' rfl rfl r))
      · exact .done (wPostF (x := ⟨ev, jo, false, does, .none, node, has, nx, out⟩) (n := .pop q) rfl hbg (nw_pop hst) hb hm' r .nils [] trivial)
  | steal q =>
    obtain ⟨q', a', b', hst⟩ : ∃ q' a' b', stealStep M.O q (M.abs m) = (q', a', b') := ⟨_, _, _, rfl⟩
    obtain ⟨u1, u2, u3, u4, u5, u6, u7, u8, u9⟩ := q'
    cases u4 with
    | true =>
      refine StoreAt.mk 1 _ _ rfl rfl ?_
      refine DrawW.shed (.pull [1] (.refl _)) ?_
      refine .sched [5] (upto [5] 11 0) (by kernel_rfl) ?_
      refine LoadAt.mk 0 _ _ rfl rfl ?_
      refine callQ [] (aOr _ _ _) ?_
      refine ⟨_, wSteal_, ?_⟩
      refine callWk [_] hst (fun σ => aSteal M r q m d σ hm (by have := o3.1; omega) o3.2) (fun m' hm' hb => ?_) (fun m' hm' hb => ?_)
      · refine callR [] (aBehSteal1 w r s l who ev jo false does node has nx out _ _ _ _ _ _ _ _ _) ?_
        refine StoreAt.mk 0 _ _ rfl rfl ?_
        refine StoreAt.mk 0 _ _ rfl rfl ?_
        refine LoadAt.mk 0 _ _ rfl rfl ?_
        exact .drop 1 1 (.done (wPostT (x := ⟨ev, jo, false, does, .none, node, has, nx, out⟩) (n := .steal q) rfl hbg (nw_steal hst) hb hm' rfl rfl r))
      · exact .done (wPostF (x := ⟨ev, jo, false, does, .none, node, has, nx, out⟩) (n := .steal q) rfl hbg (nw_steal hst) hb hm' r .nils [] trivial)
    | false =>
      refine StoreAt.mk 1 _ _ rfl rfl ?_
      refine DrawW.shed (.pull [1] (.refl _)) ?_
      refine .sched [5] (upto [5] 11 0) (by kernel_rfl) ?_
      refine LoadAt.mk 0 _ _ rfl rfl ?_
      refine callQ [] (aOr _ _ _) ?_
      refine ⟨_, wSteal_, ?_⟩
      refine callWk [_] hst (fun σ => aSteal M r q m d σ hm (by have := o3.1; omega) o3.2) (fun m' hm' hb => ?_) (fun m' hm' hb => ?_)
      · refine callR [] (aBehSteal0 w r s l who ev jo false does node has nx out _ _ _ _ _ _ _ _ _) ?_
        refine StoreAt.mk 0 _ _ rfl rfl ?_
        refine StoreAt.mk 0 _ _ rfl rfl ?_
        refine LoadAt.mk 0 _ _ rfl rfl ?_
        exact .drop 1 1 (.done (wPostT (x := ⟨ev, jo, false, does, .none, node, has, nx, out⟩) (n := .steal q) rfl hbg (nw_steal hst) hb hm' rfl rfl r))
      · exact .done (wPostF (x := ⟨ev, jo, false, does, .none, node, has, nx, out⟩) (n := .steal q) rfl hbg (nw_steal hst) hb hm' r .nils [] trivial)
  | quiet q =>
    obtain ⟨q', a', b', hst⟩ : ∃ q' a' b', qkStep M.O q (M.abs m) = (q', a', b') := ⟨_, _, _, rfl⟩
    obtain ⟨u1, u2, u3, u4⟩ := q'
    cases u3 with
    | true =>
      refine StoreAt.mk 1 _ _ rfl rfl ?_
      refine DrawW.shed (.pull [1] (.refl _)) ?_
      refine .sched [5] (upto [5] 11 0) (by kernel_rfl) ?_
      refine LoadAt.mk 0 _ _ rfl rfl ?_
      refine callQ [] (aOr _ _ _) ?_
      refine ⟨_, wQuiet_, ?_⟩
      refine callWk [_] hst (fun σ => aQuiet M r q m d σ hm) (fun m' hm' hb => ?_) (fun m' hm' hb => ?_)
      · refine callR [] (aBehQuiet w r s l who ev jo false does node has nx out _ _ _ _ _) ?_
        refine StoreAt.mk 0 _ _ rfl rfl ?_
        refine StoreAt.mk 0 _ _ rfl rfl ?_
        refine LoadAt.mk 0 _ _ rfl rfl ?_
        exact .drop 1 1 (.done (wPostT (x := ⟨ev, jo, false, does, .none, node, has, nx, out⟩) (n := .quiet q) rfl hbg (nw_quiet hst) hb hm' rfl rfl r))
      · exact .done (wPostF (x := ⟨ev, jo, false, does, .none, node, has, nx, out⟩) (n := .quiet q) rfl hbg (nw_quiet hst) hb hm' r .nils [] trivial)
    | false =>
      refine StoreAt.mk 1 _ _ rfl rfl ?_
      refine DrawW.shed (.pull [1] (.refl _)) ?_
      refine .sched [5] (upto [5] 11 0) (by kernel_rfl) ?_
      refine LoadAt.mk 0 _ _ rfl rfl ?_
      refine callQ [] (aOr _ _ _) ?_
      refine ⟨_, wQuiet_, ?_⟩
      refine callWk [_] hst (fun σ => aQuiet M r q m d σ hm) (fun m' hm' hb => ?_) (fun m' hm' hb => ?_)
      · refine callR [] (aBehQuiet w r s l who ev jo false does node has nx out _ _ _ _ _) ?_
        refine StoreAt.mk 0 _ _ rfl rfl ?_
        refine StoreAt.mk 0 _ _ rfl rfl ?_
        refine LoadAt.mk 0 _ _ rfl rfl ?_
        exact .drop 1 1 (.done (wPostT (x := ⟨ev, jo, false, does, .none, node, has, nx, out⟩) (n := .quiet q) rfl hbg (nw_quiet hst) hb hm' rfl rfl r))
      · exact .done (wPostF (x := ⟨ev, jo, false, does, .none, node, has, nx, out⟩) (n := .quiet q) rfl hbg (nw_quiet hst) hb hm' r .nils [] trivial)
  | clear q =>
    obtain ⟨q', a', b', hst⟩ : ∃ q' a' b', ckStep M.O q (M.abs m) = (q', a', b') := ⟨_, _, _, rfl⟩
    obtain ⟨u1, u2, u3, u4⟩ := q'
    refine StoreAt.mk 1 _ _ rfl rfl ?_
    refine DrawW.shed (.pull [1] (.refl _)) ?_
    refine .sched [5] (upto [5] 11 0) (by kernel_rfl) ?_
    refine LoadAt.mk 0 _ _ rfl rfl ?_
    refine callQ [] (aOr _ _ _) ?_
    refine ⟨_, wClear_, ?_⟩
    refine callWk [_] hst (fun σ => aClear M r q m d σ hm) (fun m' hm' hb => ?_) (fun m' hm' hb => ?_)
    · refine callR [] (aBehClear w r s l who ev jo false does node has nx out _ _ _ _ _) ?_
      refine StoreAt.mk 0 _ _ rfl rfl ?_
      refine StoreAt.mk 0 _ _ rfl rfl ?_
      refine LoadAt.mk 0 _ _ rfl rfl ?_
      exact .drop 1 1 (.done (wPostT (x := ⟨ev, jo, false, does, .none, node, has, nx, out⟩) (n := .clear q) rfl hbg (nw_clear hst) hb hm' rfl rfl r))
    · exact .done (wPostF (x := ⟨ev, jo, false, does, .none, node, has, nx, out⟩) (n := .clear q) rfl hbg (nw_clear hst) hb hm' r .nils [] trivial)
  | read x =>
    obtain rfl : x = [] := beg_read hbg
    have hrd1 : L64 .nils [] [] ∧ (([] : List Int) = [] → AV.nils = .nils) := ⟨.nil, fun _ => rfl⟩
    obtain ⟨o4, o5⟩ := o3
    obtain ⟨hrd, hrd0⟩ := hrd1
    by_cases hlt : ([] : List Int).length < cw l.words
    · have hcw := cw_le l.words
      have hst : readStep M.O l (cellB l node) ([] : List Int) (M.abs m) = (([] : List Int) ++ [(M.O.ld (M.abs m) (wr (cellB l node + (([] : List Int).length : Nat)))).1], (M.O.ld (M.abs m) (wr (cellB l node + (([] : List Int).length : Nat)))).2, decide (([] : List Int).length + 1 = cw l.words)) := if_pos hlt
      have hx2 : A64 (([] : List Int) ++ [(M.O.ld (M.abs m) (wr (cellB l node + (([] : List Int).length : Nat)))).1]) := fun z hz => by rcases List.mem_append.1 hz with h | h; exact o5 z h; rw [List.mem_singleton.1 h]; exact hv _
      have hx3 : (([] : List Int) ++ [(M.O.ld (M.abs m) (wr (cellB l node + (([] : List Int).length : Nat)))).1]).length = ([] : List Int).length + 1 := by simp
      refine StoreAt.mk 1 _ _ rfl rfl ?_
      refine DrawW.shed (.pull [1] (.refl _)) ?_
      refine .sched [5] (upto [5] 11 0) (by kernel_rfl) ?_
      refine LoadAt.mk 0 _ _ rfl rfl ?_
      refine callQ [] (aOr _ _ _) ?_
      refine ⟨_, wRead_, ?_⟩
      refine callRd hm hlt hrd (fun m' b hm' he => ?_) (fun m' b hm' he => ?_)
      · refine .frzc 2 b 0 (([] : List Int) ++ [(M.O.ld (M.abs m) (wr (cellB l node + (([] : List Int).length : Nat)))).1]).length 1 _ (.int .u64) (([] : List Int) ++ [(M.O.ld (M.abs m) (wr (cellB l node + (([] : List Int).length : Nat)))).1]) rfl ?_ ⟨rfl, rfl, by decide⟩ 1 3 r _ rfl rfl ?_
        · rw [List.drop_zero, ← woC_flat]; exact List.take_of_length_le (by simp [woC])
        refine callR [] (aBehRead w r s l who ev jo false does node has nx out (([] : List Int) ++ [(M.O.ld (M.abs m) (wr (cellB l node + (([] : List Int).length : Nat)))).1]) _ _ _ _ _ _ _ _ hf hx2 (by omega)) ?_
        refine StoreAt.mk 0 _ _ rfl rfl ?_
        refine StoreAt.mk 0 _ _ rfl rfl ?_
        refine LoadAt.mk 0 _ _ rfl rfl ?_
        exact .drop 1 1 (.done (wPostT (x := ⟨ev, jo, false, does, .none, node, has, nx, out⟩) (n := .read ([] : List Int)) rfl hbg (nw_read hst) (decide_eq_true he) hm' rfl rfl r))
      · exact .done (wPostF (x := ⟨ev, jo, false, does, .none, node, has, nx, out⟩) (n := .read ([] : List Int)) rfl hbg (nw_read hst) (decide_eq_false he) hm' r (.mref b 0 (([] : List Int) ++ [(M.O.ld (M.abs m) (wr (cellB l node + (([] : List Int).length : Nat)))).1]).length 1) [(b, woC (([] : List Int) ++ [(M.O.ld (M.abs m) (wr (cellB l node + (([] : List Int).length : Nat)))).1]))] ⟨.mref b (([] : List Int) ++ [(M.O.ld (M.abs m) (wr (cellB l node + (([] : List Int).length : Nat)))).1]), fun h => absurd h (by simp)⟩)
    · obtain ⟨h0, -⟩ := o4.resolve_left hlt
      generalize hz : ([] : List Int) = z0 at hrd
      cases hrd with
      | nil =>
      have hst : readStep M.O l (cellB l node) [] (M.abs m) = ([], M.abs m, true) := if_neg hlt
      refine StoreAt.mk 1 _ _ rfl rfl ?_
      refine DrawW.shed (.pull [1] (.refl _)) ?_
      refine .sched [5] (upto [5] 11 0) (by kernel_rfl) ?_
      refine LoadAt.mk 0 _ _ rfl rfl ?_
      refine callQ [] (aOr _ _ _) ?_
      refine ⟨_, wRead_, ?_⟩
      refine callR [1] (aReadM0 M r _ _ _ _ _ _ d _ h0) ?_
      refine callNil 0 3 r _ (.int .u64) rfl rfl ?_
      refine callR [1] (aBehRead w r s l who ev jo false does node has nx out [] _ _ _ _ _ _ _ _ hf o5 (Nat.zero_le _)) ?_
      refine StoreAt.mk 0 _ _ rfl rfl ?_
      refine StoreAt.mk 0 _ _ rfl rfl ?_
      refine LoadAt.mk 0 _ _ rfl rfl ?_
      exact .drop 1 1 (.done (wPostT (x := ⟨ev, jo, false, does, .none, node, has, nx, out⟩) (n := .read []) rfl hbg (nw_read hst) rfl rfl rfl rfl r))
  | join q =>
    obtain ⟨q', a', b', hst⟩ : ∃ q' a' b', jnStep M.O q (M.abs m) = (q', a', b') := ⟨_, _, _, rfl⟩
    obtain ⟨u1, u2, u3, u4, u5, u6, u7, u8, u9, u10⟩ := q'
    cases u5 with
    | true =>
      refine StoreAt.mk 1 _ _ rfl rfl ?_
      refine DrawW.shed (.pull [1] (.refl _)) ?_
      refine .sched [5] (upto [5] 11 0) (by kernel_rfl) ?_
      refine LoadAt.mk 0 _ _ rfl rfl ?_
      refine callQ [] (aOr _ _ _) ?_
      refine ⟨_, wJoin_, ?_⟩
      refine callWk [_] hst (fun σ => aJoin M r q m d σ hm (by have := o3.1; omega)) (fun m' hm' hb => ?_) (fun m' hm' hb => ?_)
      · refine callR [] (aBehJoin1 w r s l who ev jo false does node has nx out _ _ _ _ _ _ _ _ _ _) ?_
        refine StoreAt.mk 0 _ _ rfl rfl ?_
        refine StoreAt.mk 0 _ _ rfl rfl ?_
        refine LoadAt.mk 0 _ _ rfl rfl ?_
        exact .drop 1 1 (.done (wPostT (x := ⟨ev, jo, false, does, .none, node, has, nx, out⟩) (n := .join q) rfl hbg (nw_join hst) hb hm' rfl rfl r))
      · exact .done (wPostF (x := ⟨ev, jo, false, does, .none, node, has, nx, out⟩) (n := .join q) rfl hbg (nw_join hst) hb hm' r .nils [] trivial)
    | false =>
      refine StoreAt.mk 1 _ _ rfl rfl ?_
      refine DrawW.shed (.pull [1] (.refl _)) ?_
      refine .sched [5] (upto [5] 11 0) (by kernel_rfl) ?_
      refine LoadAt.mk 0 _ _ rfl rfl ?_
      refine callQ [] (aOr _ _ _) ?_
      refine ⟨_, wJoin_, ?_⟩
      refine callWk [_] hst (fun σ => aJoin M r q m d σ hm (by have := o3.1; omega)) (fun m' hm' hb => ?_) (fun m' hm' hb => ?_)
      · refine callR [] (aBehJoin0 w r s l who ev jo false does node has nx out _ _ _ _ _ _ _ _ _ _ o3.2) ?_
        refine StoreAt.mk 0 _ _ rfl rfl ?_
        refine StoreAt.mk 0 _ _ rfl rfl ?_
        refine LoadAt.mk 0 _ _ rfl rfl ?_
        exact .drop 1 1 (.done (wPostT (x := ⟨ev, jo, false, does, .none, node, has, nx, out⟩) (n := .join q) rfl hbg (nw_join hst) hb hm' rfl rfl r))
      · exact .done (wPostF (x := ⟨ev, jo, false, does, .none, node, has, nx, out⟩) (n := .join q) rfl hbg (nw_join hst) hb hm' r .nils [] trivial)
  | take q =>
    obtain ⟨q', a', b', hst⟩ : ∃ q' a' b', tkStep M.O q (M.abs m) = (q', a', b') := ⟨_, _, _, rfl⟩
    obtain ⟨u1, u2, u3, u4, u5, u6⟩ := q'
    cases u4 with
    | true =>
      refine StoreAt.mk 1 _ _ rfl rfl ?_
      refine DrawW.shed (.pull [1] (.refl _)) ?_
      refine .sched [5] (upto [5] 11 0) (by kernel_rfl) ?_
      refine LoadAt.mk 0 _ _ rfl rfl ?_
      refine callQ [] (aOr _ _ _) ?_
      refine ⟨_, wTake_, ?_⟩
      refine callWk [_] hst (fun σ => aTake M r q m d σ hm) (fun m' hm' hb => ?_) (fun m' hm' hb => ?_)
      · refine callR [] (aBehTake1 w r s l who ev jo false does node has nx out _ _ _ _ _ _) ?_
        refine StoreAt.mk 0 _ _ rfl rfl ?_
        refine StoreAt.mk 0 _ _ rfl rfl ?_
        refine LoadAt.mk 0 _ _ rfl rfl ?_
        exact .drop 1 1 (.done (wPostT (x := ⟨ev, jo, false, does, .none, node, has, nx, out⟩) (n := .take q) rfl hbg (nw_take hst) hb hm' rfl rfl r))
      · exact .done (wPostF (x := ⟨ev, jo, false, does, .none, node, has, nx, out⟩) (n := .take q) rfl hbg (nw_take hst) hb hm' r .nils [] trivial)
    | false =>
      refine StoreAt.mk 1 _ _ rfl rfl ?_
      refine DrawW.shed (.pull [1] (.refl _)) ?_
      refine .sched [5] (upto [5] 11 0) (by kernel_rfl) ?_
      refine LoadAt.mk 0 _ _ rfl rfl ?_
      refine callQ [] (aOr _ _ _) ?_
      refine ⟨_, wTake_, ?_⟩
      refine callWk [_] hst (fun σ => aTake M r q m d σ hm) (fun m' hm' hb => ?_) (fun m' hm' hb => ?_)
      · refine callR [] (aBehTake0 w r s l who ev jo false does node has nx out _ _ _ _ _ _ o3) ?_
        refine StoreAt.mk 0 _ _ rfl rfl ?_
        refine StoreAt.mk 0 _ _ rfl rfl ?_
        refine LoadAt.mk 0 _ _ rfl rfl ?_
        exact .drop 1 1 (.done (wPostT (x := ⟨ev, jo, false, does, .none, node, has, nx, out⟩) (n := .take q) rfl hbg (nw_take hst) hb hm' rfl rfl r))
      · exact .done (wPostF (x := ⟨ev, jo, false, does, .none, node, has, nx, out⟩) (n := .take q) rfl hbg (nw_take hst) hb hm' r .nils [] trivial)
  | push q =>
    obtain ⟨q', a', b', hst⟩ : ∃ q' a' b', pushStep M.O q (M.abs m) = (q', a', b') := ⟨_, _, _, rfl⟩
    refine StoreAt.mk 1 _ _ rfl rfl ?_
    refine DrawW.shed (.pull [1] (.refl _)) ?_
    refine .sched [5] (upto [5] 11 0) (by kernel_rfl) ?_
    refine LoadAt.mk 0 _ _ rfl rfl ?_
    refine callQ [] (aOr _ _ _) ?_
    refine ⟨_, wPush_, ?_⟩
    refine callWk [_] hst (fun σ => aPush M r q m d σ hm (by have := o3.1.1; omega) o3.1.2) (fun m' hm' hb => ?_) (fun m' hm' hb => ?_)
    · refine callR [] (aBehPush w r s l who ev jo false does node has nx out _ _ o3.2) ?_
      refine StoreAt.mk 0 _ _ rfl rfl ?_
      refine StoreAt.mk 0 _ _ rfl rfl ?_
      refine LoadAt.mk 0 _ _ rfl rfl ?_
      exact .drop 1 1 (.done (wPostT (x := ⟨ev, jo, false, does, .none, node, has, nx, out⟩) (n := .push q) rfl hbg (nw_push hst) hb hm' rfl rfl r))
    · exact .done (wPostF (x := ⟨ev, jo, false, does, .none, node, has, nx, out⟩) (n := .push q) rfl hbg (nw_push hst) hb hm' r .nils [] trivial)
  | retire q =>
    obtain ⟨q', a', b', hst⟩ : ∃ q' a' b', rkStep M.O q (M.abs m) = (q', a', b') := ⟨_, _, _, rfl⟩
    refine StoreAt.mk 1 _ _ rfl rfl ?_
    refine DrawW.shed (.pull [1] (.refl _)) ?_
    refine .sched [5] (upto [5] 11 0) (by kernel_rfl) ?_
    refine LoadAt.mk 0 _ _ rfl rfl ?_
    refine callQ [] (aOr _ _ _) ?_
    refine ⟨_, wRetire_, ?_⟩
    refine callWk [_] hst (fun σ => aRetire M r q m d σ hm) (fun m' hm' hb => ?_) (fun m' hm' hb => ?_)
    · refine callR [] (aBehRetire w r s l who ev jo false does node has nx out _ _) ?_
      refine StoreAt.mk 0 _ _ rfl rfl ?_
      refine StoreAt.mk 0 _ _ rfl rfl ?_
      refine LoadAt.mk 0 _ _ rfl rfl ?_
      exact .drop 1 1 (.done (wPostT (x := ⟨ev, jo, false, does, .none, node, has, nx, out⟩) (n := .retire q) rfl hbg (nw_retire hst) hb hm' rfl rfl r))
    · exact .done (wPostF (x := ⟨ev, jo, false, does, .none, node, has, nx, out⟩) (n := .retire q) rfl hbg (nw_retire hst) hb hm' r .nils [] trivial)
theorem aWStep (M : AMem) (w r : Nat) (c : AV) (acc : Hp) (s : Sy) (l : Lay) (who : Int) (x : WS) (d : Int) (m : M.S) (σ : Hp) (hf : Fit s) (hm : M.O.free (M.abs m)) (hv : ∀ a, W64 (M.O.ld (M.abs m) a).1) (ok : okWk l x) (rd : okRd c acc x.now) :
    ACalls Tryz.prog 21 [.ptr w 0, M.v, .int .i64 d] (WB s l who w r c acc x ++ (M.B m ++ σ)) (WPost M s l who w (wStep M.O s l who x d (M.abs m)) σ) := by
  obtain ⟨ev, jo, en, does, n, node, has, nx, out⟩ := x
  obtain ⟨o1, o2, o3⟩ := ok
  cases en with
  | true =>
    refine okF Tryz.func21 (by kernel_rfl) ?_
    refine LoadAt.mk 0 _ _ rfl rfl ?_
    refine LoadAt.mk 0 _ _ rfl rfl ?_
    exact .done (wPostEnd rfl rfl rd)
  | false =>
    cases n with
    | none => exact aWS_none M w r c acc s l who ev jo does node has nx out d m σ hm hf hv o1 o2
    | pop q => exact aWS_pop M w r c acc s l who ev jo does q node has nx out d m σ hm o3
    | steal q => exact aWS_steal M w r c acc s l who ev jo does q node has nx out d m σ hm o3
    | quiet q => exact aWS_quiet M w r c acc s l who ev jo does q node has nx out d m σ hm
    | clear q => exact aWS_clear M w r c acc s l who ev jo does q node has nx out d m σ hm
    | read q => exact aWS_read M w r c acc s l who ev jo does q node has nx out d m σ hm hf hv o3 rd
    | join q => exact aWS_join M w r c acc s l who ev jo does q node has nx out d m σ hm o3
    | take q => exact aWS_take M w r c acc s l who ev jo does q node has nx out d m σ hm o3
    | push q => exact aWS_push M w r c acc s l who ev jo does q node has nx out d m σ hm o3
    | retire q => exact aWS_retire M w r c acc s l who ev jo does q node has nx out d m σ hm
end Go.Proofs.YtegpahamenjiaaaGreat
