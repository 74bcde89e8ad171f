/-
  Kh: what the claim uses of them.
-/
import Derived.Test.YtegpahamenjiaaaGreatBn40
namespace Go.Proofs.YtegpahamenjiaaaGreat
open Go.RowKit
set_option maxRecDepth 100000
/-- A memory whose words are words, and stay so. -/
def MVal (O : MOps) (a : O.A) : Prop := ∀ k, W64 (O.ld a k).1
theorem nK_ne {l : Lay} (h : 2 ≤ l.k ∧ l.k ≤ 64) : nK l ≠ 0 ∧ l.k ≠ 0 := by
  unfold nK
  show IntKind.i64.wrap (l.k - 1) ≠ 0 ∧ _
  rw [IntKind.wrap_i64]
  omega
theorem wu_nn (n : Int) : 0 ≤ wu n := by
  show 0 ≤ IntKind.u64.wrap n
  rw [IntKind.wrap_u64]; omega
theorem okN_pop {O : MOps} {q : DQ} {a : O.A} (h : q.at_ ≤ 5 ∧ 0 ≤ q.b) (he : (popStep O q a).2.2 = false) : (popStep O q a).1.at_ ≤ 5 ∧ 0 ≤ (popStep O q a).1.b := by
  obtain ⟨h1, h2⟩ := h
  unfold popStep at he ⊢
  repeat' split
  all_goals first
    | (exfalso; simp_all; done)
    | (exact ⟨by dsimp only; omega, by dsimp only; first | exact h2 | exact wu_nn _⟩)
theorem okN_steal {O : MOps} {q : DQ} {a : O.A} (hv : MVal O a) (h : q.at_ ≤ 3 ∧ 0 ≤ q.t) (he : (stealStep O q a).2.2 = false) : (stealStep O q a).1.at_ ≤ 3 ∧ 0 ≤ (stealStep O q a).1.t := by
  obtain ⟨h1, h2⟩ := h
  unfold stealStep at he ⊢
  repeat' split
  all_goals first
    | (exfalso; simp_all; done)
    | (exact ⟨by dsimp only; omega, by dsimp only; first | exact h2 | exact (hv _).1⟩)
theorem okN_push {O : MOps} {q : DQ} {a : O.A} (hv : MVal O a) (h : q.at_ ≤ 3 ∧ 0 ≤ q.b) (he : (pushStep O q a).2.2 = false) : (pushStep O q a).1.at_ ≤ 3 ∧ 0 ≤ (pushStep O q a).1.b := by
  obtain ⟨h1, h2⟩ := h
  unfold pushStep at he ⊢
  repeat' split
  all_goals first
    | (exfalso; simp_all; done)
    | (exact ⟨by dsimp only; omega, by dsimp only; first | exact h2 | exact (hv _).1⟩)
theorem jnNext_at {j : Jn} (hc : cw j.words ≤ 1024) (he : (jnNext j).2 = false) : (jnNext j).1.at_ ≤ 1024 := by
  unfold jnNext at he ⊢
  split
  · rename_i hh
    dsimp only; omega
  · rename_i hh
    rw [if_neg hh] at he; cases he
theorem okN_join {O : MOps} {j : Jn} {a : O.A} (h : j.at_ ≤ 1024) (he : (jnStep O j a).2.2 = false) : (jnStep O j a).1.at_ ≤ 1024 := by
  have hc := cw_le j.words
  obtain ⟨p, hp⟩ : ∃ p, jnStep O j a = p := ⟨_, rfl⟩
  rw [hp] at he ⊢
  unfold jnStep at hp
  repeat' split at hp
  all_goals subst hp
  all_goals first
    | exact h
    | exact jnNext_at hc he
theorem okN_read {O : MOps} {l : Lay} {base : Int} {x : List Int} {a : O.A} (hv : MVal O a) (h : (x.length < cw l.words ∨ (cw l.words = 0 ∧ x = [])) ∧ A64 x) (he : (readStep O l base x a).2.2 = false) : ((readStep O l base x a).1.length < cw l.words ∨ (cw l.words = 0 ∧ (readStep O l base x a).1 = [])) ∧ A64 (readStep O l base x a).1 := by
  obtain ⟨h1, h2⟩ := h
  unfold readStep at he ⊢
  split
  · rename_i hlt
    rw [if_pos hlt] at he
    have he : ¬ x.length + 1 = cw l.words := of_decide_eq_false he
    refine ⟨.inl ?_, fun z hz => ?_⟩
    · dsimp only; rw [List.length_append]; show x.length + 1 < _; omega
    · rcases List.mem_append.1 hz with hz | hz
      · exact h2 z hz
      · rw [List.mem_singleton.1 hz]; exact hv _
  · rename_i hlt
    rw [if_neg hlt] at he; cases he
/-- A machine that is stepped and isn't ended may be stepped on. -/
theorem okN_step {O : MOps} {l : Lay} {node : Int} {nx : List Int} {n : Nw} {a : O.A} (hv : MVal O a) (h : okN l nx n) (he : (nwStep O l node n a).2.2 = false) : okN l nx (nwStep O l node n a).1 := by
  cases n with
  | none => trivial
  | pop q => exact okN_pop h he
  | steal q => exact okN_steal hv h he
  | quiet q => trivial
  | clear q => trivial
  | read x => exact okN_read hv h he
  | join j => exact ⟨okN_join h.1 he, h.2⟩
  | take t => exact h
  | push q => exact ⟨okN_push hv h.1 he, h.2⟩
  | retire t => trivial
theorem gotDoes_is (l : Lay) (n : Int) : gotDoes l n = 8 ∨ gotDoes l n = 3 := by unfold gotDoes; split; exact .inl rfl; exact .inr rfl
theorem folDoes_is (nx : List Int) : folDoes nx = 8 ∨ (folDoes nx = 5 ∧ 0 < nx.tail.length) := by
  unfold folDoes; split
  · exact .inl rfl
  · exact .inr ⟨rfl, by omega⟩
theorem rdDoes_is (s : Sy) (node : Int) : rdDoes s node = 8 ∨ (rdDoes s node = 5 ∧ 0 < (toS s.n s.edges node).length) := by
  unfold rdDoes; split
  · exact .inl rfl
  · exact .inr ⟨rfl, by omega⟩
theorem noneDoes_is (l : Lay) : noneDoes l = 2 ∨ (noneDoes l = 1 ∧ 2 ≤ l.k) := by
  unfold noneDoes; split
  · exact .inl rfl
  · exact .inr ⟨rfl, by omega⟩
theorem quiDoes_is (l : Lay) : quiDoes l = 0 ∨ (quiDoes l = 1 ∧ 2 ≤ l.k) := by
  unfold quiDoes; split
  · exact .inl rfl
  · exact .inr ⟨rfl, by omega⟩
theorem okWk_mk {l : Lay} {x : WS} (h0 : x.now = .none) (h1 : x.does = 5 ∨ x.does = 6 ∨ x.does = 7 → 0 < x.nx.length) (h2 : x.does = 1 → 2 ≤ l.k) (hk : l.k ≤ 64) : okWk l x := ⟨h1, fun h => nK_ne ⟨h2 h, hk⟩, by rw [h0]; trivial⟩
/-- What is kept of a machine that is stepped, whether it is ended or not: what the next edges are asked to be. -/
def okE (nx : List Int) : Nw → Prop
  | .join _ => 0 < nx.length
  | .take _ => 0 < nx.length
  | .push _ => 0 < nx.length
  | _ => True
theorem okWk_beh {s : Sy} {l : Lay} {x : WS} {n : Nw} (hk : l.k ≤ 64) (hn : n ≠ .none) (h : okE x.nx n) : okWk l (behW s l x n) := by
  have g := fun n => gotDoes_is l n
  have f := folDoes_is x.nx
  have r := rdDoes_is s x.node
  have no := noneDoes_is l
  have qu := quiDoes_is l
  cases n with
  | none => exact absurd rfl hn
  | pop q =>
    have g := g q.n
    by_cases hq : q.ok = true
    · rw [show behW s l x (.pop q) = ⟨x.ev, x.jo, x.en, gotDoes l q.n, .none, gotNode l q.n, true, x.nx, x.out⟩ from if_pos hq]
      exact okWk_mk rfl (fun h => by dsimp only at h ⊢; omega) (fun h => by dsimp only at h ⊢; omega) hk
    · rw [show behW s l x (.pop q) = ⟨x.ev, x.jo, x.en, noneDoes l, .none, x.node, x.has, x.nx, x.out⟩ from if_neg hq]
      exact okWk_mk rfl (fun h => by dsimp only at h ⊢; omega) (fun h => by dsimp only at h ⊢; omega) hk
  | steal q =>
    have g := g q.n
    by_cases hq : q.ok = true
    · rw [show behW s l x (.steal q) = ⟨x.ev, x.jo, x.en, gotDoes l q.n, .none, gotNode l q.n, true, x.nx, x.out⟩ from if_pos hq]
      exact okWk_mk rfl (fun h => by dsimp only at h ⊢; omega) (fun h => by dsimp only at h ⊢; omega) hk
    · rw [show behW s l x (.steal q) = ⟨x.ev, x.jo, x.en, 2, .none, x.node, x.has, x.nx, x.out⟩ from if_neg hq]
      exact okWk_mk rfl (fun h => by dsimp only at h ⊢; omega) (fun h => by dsimp only at h ⊢; omega) hk
  | quiet q => exact okWk_mk rfl (fun h => by dsimp only [behW] at h ⊢; omega) (fun h => by dsimp only [behW] at h ⊢; omega) hk
  | clear q => exact okWk_mk rfl (fun h => by dsimp only [behW] at h ⊢; omega) (fun h => by dsimp only [behW] at h ⊢; omega) hk
  | read q => exact okWk_mk rfl (fun h => by dsimp only [behW] at h ⊢; omega) (fun h => by dsimp only [behW] at h ⊢; omega) hk
  | join q =>
    have h' : 0 < x.nx.length := h
    by_cases hq : q.changed = true
    · rw [show behW s l x (.join q) = ⟨x.ev, wr (x.jo + 1), x.en, 6, .none, x.node, x.has, x.nx, x.out⟩ from if_pos hq]
      exact okWk_mk rfl (fun _ => h') (fun h => by dsimp only at h ⊢; omega) hk
    · rw [show behW s l x (.join q) = ⟨x.ev, x.jo, x.en, folDoes x.nx, .none, x.node, x.has, x.nx.tail, x.out⟩ from if_neg hq]
      exact okWk_mk rfl (fun h => by dsimp only at h ⊢; omega) (fun h => by dsimp only at h ⊢; omega) hk
  | take q =>
    have h' : 0 < x.nx.length := h
    by_cases hq : q.new = true
    · rw [show behW s l x (.take q) = ⟨x.ev, x.jo, x.en, 7, .none, x.node, x.has, x.nx, x.out⟩ from if_pos hq]
      exact okWk_mk rfl (fun _ => h') (fun h => by dsimp only at h ⊢; omega) hk
    · rw [show behW s l x (.take q) = ⟨x.ev, x.jo, x.en, folDoes x.nx, .none, x.node, x.has, x.nx.tail, x.out⟩ from if_neg hq]
      exact okWk_mk rfl (fun h => by dsimp only at h ⊢; omega) (fun h => by dsimp only at h ⊢; omega) hk
  | push q => exact okWk_mk rfl (fun h => by dsimp only [behW] at h ⊢; omega) (fun h => by dsimp only [behW] at h ⊢; omega) hk
  | retire q => exact okWk_mk rfl (fun h => by dsimp only [behW] at h ⊢; omega) (fun h => by dsimp only [behW] at h ⊢; omega) hk
theorem nw_some {O : MOps} {l : Lay} {node : Int} {n : Nw} {a : O.A} (h : n ≠ .none) : (nwStep O l node n a).1 ≠ .none := by
  cases n with
  | none => exact absurd rfl h
  | _ => exact fun h => by cases h
theorem at_some {l : Lay} {who : Int} {x : WS} {d : Int} : atW l who x d ≠ .none := by
  unfold atW
  split
  · exact beg_some _ _ _ _ _ _ _
  · assumption
theorem okN_at {l : Lay} {who : Int} {x : WS} {d : Int} (hx : okWk l x) : okN l x.nx (atW l who x d) := by
  unfold atW
  split
  · exact okN_beg hx.1
  · exact hx.2.2
theorem okN_end {O : MOps} {l : Lay} {node : Int} {nx : List Int} {n : Nw} {a : O.A} (h : okN l nx n) : okE nx (nwStep O l node n a).1 := by
  cases n with
  | join j => exact h.2
  | take t => exact h
  | push q => exact h.2
  | _ => trivial
theorem wStep_ok {O : MOps} {s : Sy} {l : Lay} {who : Int} {x : WS} {d : Int} {a : O.A} (hk : l.k ≤ 64) (hv : MVal O a) (hx : okWk l x) : okWk l (wStep O s l who x d a).1 := by
  unfold wStep
  split
  · exact hx
  split
  · rename_i he
    exact okWk_beh hk (nw_some at_some) (okN_end (okN_at hx))
  · rename_i he
    exact ⟨hx.1, hx.2.1, okN_step hv (okN_at hx) (by simpa using he)⟩
set_option maxRecDepth 100000
/-- A cell that is nil reads as an empty list, in what a call hands back. -/
theorem acalls_nilc {f : FuncId} {xs : List AV} {σ : Hp} {R R' : AV → Hp → Prop} (h : ACalls Tryz.prog f xs σ R) (hR : ∀ r σ', R r σ' → ∃ (i k b : Nat) (cs : List AV) (e : Sh), σ'[i]? = some (b, cs) ∧ cs[k]? = some .nils ∧ R' r (σ'.set i (b, cs.set k (.fsl e [])))) : ACalls Tryz.prog f xs σ R' :=
  ⟨h.1, fun F w vs hvs hσ => (h.2 F w vs hvs hσ).mono fun _ _ ⟨r, v, σ', F', h1, h2, h3, h4, h5⟩ => by
    obtain ⟨i, k, b, cs, e, q1, q2, q3⟩ := hR r σ' h5
    exact ⟨r, v, _, F', h1, h2, nilc_hp h3 e q1 q2, h4, q3⟩⟩
/-- A new worker. -/
def ws0 : WS := ⟨0, 0, false, 0, .none, 0, false, [], []⟩
theorem lay_eq {s : Sy} {L : Lay} (h : layOf s L.k = L) (he : ofE s L.k = 0) : AV.tup [.agg (layV (layOf s L.k)), .int .i64 (ofE s L.k)] = .tup [.agg (layV L), .int .i64 0] := by rw [h, he]
theorem lay_same (A : Lay) : ¬ (!allB (eqAll (List.take 4 (List.drop 0 (splice [AV.int .i64 0, AV.int .i64 0, AV.int .i64 0, AV.int .i64 0] 0 (layV A)))) (List.take 4 (List.drop 0 (layV A))))) = true := by
  show ¬ (!allB [decide (A.what = A.what), decide (A.words = A.words), decide (A.n = A.n), decide (A.k = A.k)]) = true
  simp [allB]
theorem aNewOk (s : Sy) (L : Lay) (who : Int) (σ : Hp) (hf : Fit s) (he : ofE s L.k = 0) (hL : layOf s L.k = L) (h0 : 0 ≤ who) (h1 : who < L.k) : ACalls Tryz.prog 15 [.agg (sysC s), .agg (layV L), .int .i64 who] σ (fun r σ' => ∃ w, r = .tup [.ptr w 0, .int .i64 0] ∧ σ' = WB s L who w 0 .nils [] ws0 ++ σ) := by
  have hg : ACalls Tryz.prog 15 [.agg (sysC s), .agg (layV L), .int .i64 who] σ (fun r σ' => ∃ w, r = .tup [.ptr w 0, .int .i64 0] ∧ σ' = (w, [.int .i64 0, .int .i64 0, .bool false, .int .i64 s.what, .int .i64 s.w, .int .i64 s.n, .fsl edgeSh s.edges, .fsl (.int .i64) s.entry, .fsl (.int .u64) s.init, .fsl transSh s.T, .int .i64 L.what, .int .i64 L.words, .int .i64 L.n, .int .i64 L.k, .int .i64 who, .int .i64 0, .nilif, .int .i64 0, .bool false, .nils, .nils, .bool true]) :: σ) := by
    refine okF Tryz.func15 (by kernel_rfl) ?_
    intro bl1
    intro bl2
    refine LoadAt.mk 1 _ _ rfl rfl ?_
    refine LoadAt.mk 0 _ _ rfl rfl ?_
    refine callR [] (acalls_eq (aLayOf s L.k _ hf) (lay_eq hL he)) ?_
    intro bl3
    refine StoreAt.mk 0 _ _ rfl rfl ?_
    refine LoadAt.mk 0 _ _ rfl rfl ?_
    refine LoadAt.mk 1 _ _ rfl rfl ?_
    refine .mk (by kernel_rfl) (by kernel_rfl) ?_
    refine bcond_split (fun c4 => ?_) (fun c4 => ?_)
    · have c4 : (!allB (eqAll (List.take 4 (List.drop 0 (splice [AV.int IntKind.i64 0, AV.int IntKind.i64 0, AV.int IntKind.i64 0, AV.int IntKind.i64 0] 0 (layV L)))) (List.take 4 (List.drop 0 (layV L))))) = true := c4
      exact absurd c4 (lay_same L)
    · have c4 : (!allB (eqAll (List.take 4 (List.drop 0 (splice [AV.int IntKind.i64 0, AV.int IntKind.i64 0, AV.int IntKind.i64 0, AV.int IntKind.i64 0] 0 (layV L)))) (List.take 4 (List.drop 0 (layV L))))) = false := c4
      refine bcond_dec (fun c5 => ?_) (fun c5 => ?_)
      · have c5 : who < 0 := c5
        exact absurd c5 (by omega)
      · have c5 : ¬ (who < 0) := c5
        refine LoadAt.mk 1 _ _ rfl rfl ?_
        refine bcond_dec (fun c6 => ?_) (fun c6 => ?_)
        · have c6 : L.k ≤ who := c6
          exact absurd c6 (by omega)
        · have c6 : ¬ (L.k ≤ who) := c6
          refine .sched [1] (upto [1] 8 0) (by kernel_rfl) ?_
          refine LoadAt.mk 2 _ _ rfl rfl ?_
          refine callQ [] (aSysClone s _ hf) ?_
          refine LoadAt.mk 1 _ _ rfl rfl ?_
          intro bl7
          exact .drop 1 3 (.done ⟨_, rfl, rfl⟩)
  refine acalls_nilc (acalls_nilc hg (R' := fun r σ' => ∃ w, r = .tup [.ptr w 0, .int .i64 0] ∧ σ' = (w, [.int .i64 0, .int .i64 0, .bool false, .int .i64 s.what, .int .i64 s.w, .int .i64 s.n, .fsl edgeSh s.edges, .fsl (.int .i64) s.entry, .fsl (.int .u64) s.init, .fsl transSh s.T, .int .i64 L.what, .int .i64 L.words, .int .i64 L.n, .int .i64 L.k, .int .i64 who, .int .i64 0, .nilif, .int .i64 0, .bool false, .fsl (.int .i64) ([] : List Int), .nils, .bool true]) :: σ) ?_) ?_
  · rintro r σ' ⟨w, rfl, rfl⟩
    exact ⟨0, 19, w, _, .int .i64, rfl, rfl, w, rfl, rfl⟩
  · rintro r σ' ⟨w, rfl, rfl⟩
    exact ⟨0, 20, w, _, .int .u64, rfl, rfl, w, rfl, rfl⟩
theorem aIdleW (s : Sy) (l : Lay) (who ev jo : Int) (en : Bool) (does : Int) (nv : AV) (node : Int) (has : Bool) (nx out : List Int) (w : Nat) (σ : Hp) : ACalls Tryz.prog 23 [.ptr w 0] ((w, wkC s l who ev jo en does nv node has nx out) :: σ) (Ret (.bool (!en && (decide (does = 1) || decide (does = 2)))) ((w, wkC s l who ev jo en does nv node has nx out) :: σ)) := by
  refine okF Tryz.func23 (by kernel_rfl) ?_
  cases en with
  | true =>
    refine LoadAt.mk 0 _ _ rfl rfl ?_
    refine LoadAt.mk 0 _ _ rfl rfl ?_
    exact .done ⟨rfl, rfl⟩
  | false =>
    refine LoadAt.mk 0 _ _ rfl rfl ?_
    refine LoadAt.mk 0 _ _ rfl rfl ?_
    refine LoadAt.mk 0 _ _ rfl rfl ?_
    refine bcond_dec (fun c1 => ?_) (fun c1 => ?_)
    · have c1 : does = 1 := c1
      exact .done ⟨av_bool (by simp_all), rfl⟩
    · have c1 : ¬ (does = 1) := c1
      refine LoadAt.mk 0 _ _ rfl rfl ?_
      refine bcond_dec (fun c2 => ?_) (fun c2 => ?_)
      · have c2 : does = 2 := c2
        exact .done ⟨av_bool (by simp_all), rfl⟩
      · have c2 : ¬ (does = 2) := c2
        exact .done ⟨av_bool (by simp_all), rfl⟩
set_option maxRecDepth 100000
def exK : Sy := ⟨1, 1, 1, [], [], [0], [([0], [0], [], ())]⟩
def layK : Lay := ⟨1, 1, 1, 1⟩
theorem exK_of : ofE exK 1 = 0 := by decide +kernel
theorem exK_fit : Fit exK := ⟨one64 (by unfold W64; omega), by decide, by decide, by decide, by decide, fun t ht => by
  rw [List.mem_singleton.1 ht]; exact ⟨one64 (by unfold W64; omega), one64 (by unfold W64; omega), by decide, by decide, by decide⟩⟩
theorem layK_is : layOf exK layK.k = layK := by
  show layOf exK 1 = ⟨1, 1, 1, 1⟩
  unfold layOf
  rw [exK_of, show wordsL exK.what exK.w = 1 by decide +kernel]
  rfl
def memK : List Int := [0, 1, 1, 1, 2, 0, 0]
def stK (x : WS × List Int) : WS × List Int := ((wStep listOps exK layK 0 x.1 0 x.2).1, (wStep listOps exK layK 0 x.1 0 x.2).2.1)
def itK : Nat → WS × List Int
  | 0 => (ws0, memK)
  | k + 1 => stK (itK k)
def chkK : Nat → WS × List Int → Bool
  | 0, x => (wStep listOps exK layK 0 x.1 0 x.2).2.2 && decide ((wStep listOps exK layK 0 x.1 0 x.2).1.ev = 1) && (wStep listOps exK layK 0 x.1 0 x.2).1.en && x.2.all fun z => decide (0 ≤ z) && decide (z < 18446744073709551616)
  | k + 1, x => !(wStep listOps exK layK 0 x.1 0 x.2).2.2 && (x.2.all fun z => decide (0 ≤ z) && decide (z < 18446744073709551616)) && chkK k (stK x)
theorem chkK_ok : chkK 13 (itK 0) = true := by decide +kernel
theorem chkK_at : ∀ k, k ≤ 13 → chkK (13 - k) (itK k) = true
  | 0, _ => chkK_ok
  | k + 1, h => by
    have h1 := chkK_at k (by omega)
    rw [show 13 - k = (13 - (k + 1)) + 1 by omega] at h1
    have h2 : (!(wStep listOps exK layK 0 (itK k).1 0 (itK k).2).2.2 && ((itK k).2.all fun z => decide (0 ≤ z) && decide (z < 18446744073709551616)) && chkK (13 - (k + 1)) (stK (itK k))) = true := h1
    rw [Bool.and_eq_true] at h2
    exact h2.2
theorem a64_of {l : List Int} (h : (l.all fun z => decide (0 ≤ z) && decide (z < 18446744073709551616)) = true) : A64 l := fun z hz => by
  have := List.all_eq_true.1 h z hz
  simp only [Bool.and_eq_true, decide_eq_true_eq] at this
  exact this
theorem itK_64 {k : Nat} (h : k ≤ 13) : A64 (itK k).2 := by
  have h1 := chkK_at k h
  rcases Nat.lt_or_ge k 13 with hk | hk
  · rw [show 13 - k = (13 - (k + 1)) + 1 by omega] at h1
    have h2 : (!(wStep listOps exK layK 0 (itK k).1 0 (itK k).2).2.2 && ((itK k).2.all fun z => decide (0 ≤ z) && decide (z < 18446744073709551616)) && chkK (13 - (k + 1)) (stK (itK k))) = true := h1
    simp only [Bool.and_eq_true] at h2
    exact a64_of h2.1.2
  · obtain rfl : k = 13 := by omega
    have h2 : ((wStep listOps exK layK 0 (itK 13).1 0 (itK 13).2).2.2 && decide ((wStep listOps exK layK 0 (itK 13).1 0 (itK 13).2).1.ev = 1) && (wStep listOps exK layK 0 (itK 13).1 0 (itK 13).2).1.en && (itK 13).2.all fun z => decide (0 ≤ z) && decide (z < 18446744073709551616)) = true := h1
    simp only [Bool.and_eq_true] at h2
    exact a64_of h2.2
theorem itK_on {k : Nat} (h : k < 13) : (wStep listOps exK layK 0 (itK k).1 0 (itK k).2).2.2 = false := by
  have h1 := chkK_at k (by omega)
  rw [show 13 - k = (13 - (k + 1)) + 1 by omega] at h1
  have h2 : (!(wStep listOps exK layK 0 (itK k).1 0 (itK k).2).2.2 && ((itK k).2.all fun z => decide (0 ≤ z) && decide (z < 18446744073709551616)) && chkK (13 - (k + 1)) (stK (itK k))) = true := h1
  simp only [Bool.and_eq_true] at h2
  simpa using h2.1.1
theorem itK_end : (wStep listOps exK layK 0 (itK 13).1 0 (itK 13).2).2.2 = true ∧ (wStep listOps exK layK 0 (itK 13).1 0 (itK 13).2).1.ev = 1 ∧ (wStep listOps exK layK 0 (itK 13).1 0 (itK 13).2).1.en = true := by
  have h1 := chkK_at 13 (by omega)
  have h2 : ((wStep listOps exK layK 0 (itK 13).1 0 (itK 13).2).2.2 && decide ((wStep listOps exK layK 0 (itK 13).1 0 (itK 13).2).1.ev = 1) && (wStep listOps exK layK 0 (itK 13).1 0 (itK 13).2).1.en && (itK 13).2.all fun z => decide (0 ≤ z) && decide (z < 18446744073709551616)) = true := h1
  simp only [Bool.and_eq_true] at h2
  exact ⟨h2.1.1.1, of_decide_eq_true h2.1.1.2, h2.1.2⟩
theorem mval_list {ws : List Int} (h : A64 ws) : MVal listOps ws := fun k => load_64 h k
theorem itK_ok : ∀ k, k ≤ 13 → okWk layK (itK k).1
  | 0, _ => ⟨fun h => absurd (show (0 : Int) = 5 ∨ (0 : Int) = 6 ∨ (0 : Int) = 7 from h) (by decide), fun h => absurd (show (0 : Int) = 1 from h) (by decide), trivial⟩
  | k + 1, h => wStep_ok (by decide) (mval_list (itK_64 (k := k) (by omega))) (itK_ok k (by omega))
/-- A worker's Step over a Plain. -/
theorem aWkP (p q w r : Nat) (c : AV) (acc : Hp) (s : Sy) (l : Lay) (who : Int) (x : WS) (d : Int) (ws : List Int) (σ : Hp) (hf : Fit s) (hv : A64 ws) (ok : okWk l x) (rd : okRd c acc x.now) {x' : WS} {ws' : List Int} {b : Bool} (hst : wStep listOps s l who x d ws = (x', ws', b)) :
    ACalls Tryz.prog 21 [.ptr w 0, plI p, .int .i64 d] (WB s l who w r c acc x ++ plH p q ws σ) (fun z σ' => ∃ r c acc, okRd c acc x'.now ∧ z = .bool b ∧ σ' = WB s l who w r c acc x' ++ plH p q ws' σ) := by
  refine (aWStep (plainM p q) w r c acc s l who x d ws σ hf trivial (fun a => load_64 hv a) ok rd).mono ?_
  rintro z σ' ⟨m', r, c, acc, h1, h2, rfl, rfl⟩
  have h2 : m' = (wStep listOps s l who x d ws).2.1 := h2
  refine ⟨r, c, acc, ?_, ?_, ?_⟩
  · have := h1
    rw [show wStep (plainM p q).O s l who x d ((plainM p q).abs ws) = wStep listOps s l who x d ws from rfl, hst] at this
    exact this
  · rw [show wStep (plainM p q).O s l who x d ((plainM p q).abs ws) = wStep listOps s l who x d ws from rfl, hst]
  · rw [show wStep (plainM p q).O s l who x d ((plainM p q).abs ws) = wStep listOps s l who x d ws from rfl, h2, hst]
    rfl
/-- A block is written no more: a cell, and what a call is handed, read as a list for good. -/
theorem callBoth {f : FuncId} {xs ys : List AV} {σ : Hp} {K : AV → Hp → Prop} (j b off len es : Nat) (cs : List AV) (e : Sh) (l : List e.T) (h1 : σ[j]? = some (b, cs)) (h2 : (cs.drop off).take (len * es) = l.flatMap e.cells) (h3 : l.length = len ∧ e.size = es ∧ 0 < es) (i k b' : Nat) (cs' : List AV) (hi : (σ.eraseIdx j)[i]? = some (b', cs')) (hk : cs'[k]? = some (.mref b off len es)) (h4 : FrzRel b off len es e l (.tup xs) (.tup ys)) (h : CallAt Tryz.prog f K ys ((σ.eraseIdx j).set i (b', cs'.set k (.fsl e l)))) : CallAt Tryz.prog f K xs σ :=
  .mk [] K ⟨(callAt_get h).1, fun F w vs hvs hσ => by
    obtain ⟨hst, hσ', hh⟩ := frz_hp hσ h1 h2 h3
    have hv := frzrel_sound hst hh h4 (.tuple vs) (.tup _ _ hvs.1 hvs.2)
    cases hv with
    | tup _ _ hs hr =>
      refine ((callAt_get h).2 _ w vs ⟨hs, hr⟩ (frz_cell hσ' hh hi hk)).mono ?_
      rintro e w' ⟨r, v, σ', F', rfl, q1, q2, q3, q4⟩
      exact ⟨r, v, σ', F', rfl, hst.trans q1, q2, q3, q4⟩⟩ fun _ _ h => h
/-- nil among what a call is handed reads as an empty list. -/
theorem callArgs {f : FuncId} {xs ys : List AV} {σ : Hp} {K : AV → Hp → Prop} (hr : FrzRel 0 0 0 0 .bool [] (.tup xs) (.tup ys)) (h : CallAt Tryz.prog f K ys σ) : CallAt Tryz.prog f K xs σ := .mk [] K (acalls_nil hr (callAt_get h)) fun _ _ h => h
theorem aNewK (σ : Hp) : ACalls Tryz.prog 16 [.int .i64 (dqB layK layK.k)] σ (fun r σ' => ∃ p q, r = .ptr p 0 ∧ σ' = plH p q [0, 0, 0, 0, 0, 0, 0] σ) := by
  refine (aNew (dqB layK layK.k) σ).mono ?_
  rintro r σ' ⟨p, q, rfl, rfl⟩
  refine ⟨p, q, rfl, ?_⟩
  rw [show cutN (dqB layK layK.k) = 7 by decide +kernel]
  rfl
theorem fin_front {R : AV → Hp → Prop} {r : AV} (a : Hp) {σ : Hp} (h : Fin R r σ) : Fin R r (a ++ σ) := .drop 0 a.length (by rw [List.take_zero, Nat.zero_add, List.drop_left]; exact h)
theorem aAwake33 (σ : Hp) : ACalls Tryz.prog 13 [] σ (Ret (.bool true) σ) := by
  refine okF Tryz.func13 (by kernel_rfl) ?_
  intro bl1
  intro bl2
  intro bl3
  intro bl5
  intro bl6
  refine StoreAt.mk 0 _ _ rfl rfl ?_
  refine LoadAt.mk 0 _ _ rfl rfl ?_
  refine .frzc 3 bl2 0 1 1 _ (.int .u64) ([0] : List Int) rfl rfl ⟨rfl, rfl, by decide⟩ 1 0 bl5 _ rfl rfl ?_
  refine .frzc 2 bl3 0 1 1 _ (.int .u64) ([0] : List Int) rfl rfl ⟨rfl, rfl, by decide⟩ 1 1 bl5 _ rfl rfl ?_
  refine callNil 1 2 bl5 _ codeSh rfl rfl ?_
  refine callBoth (ys := [.agg [.int .i64 1, .int .i64 1, .int .i64 1, .nils, .nils, .mref bl1 0 1 1, .fsl transSh exK.T], .int .i64 1]) 1 bl5 0 1 3 _ transSh exK.T rfl rfl ⟨rfl, rfl, by decide⟩ 0 6 bl6 _ rfl rfl (frz_cons (frz_agg (frz_cons (.refl _) (frz_cons (.refl _) (frz_cons (.refl _) (frz_cons (.refl _) (frz_cons (.refl _) (frz_cons (.refl _) (frz_cons .here frz_nil))))))) rfl) (.refl _)) ?_
  refine callBoth (ys := [.agg [.int .i64 1, .int .i64 1, .int .i64 1, .nils, .nils, .fsl (.int .u64) exK.init, .fsl transSh exK.T], .int .i64 1]) 1 bl1 0 1 1 _ (.int .u64) exK.init rfl rfl ⟨rfl, rfl, by decide⟩ 0 5 bl6 _ rfl rfl (frz_cons (frz_agg (frz_cons (.refl _) (frz_cons (.refl _) (frz_cons (.refl _) (frz_cons (.refl _) (frz_cons (.refl _) (frz_cons .here (.refl _))))))) rfl) (.refl _)) ?_
  refine callNil 0 3 bl6 _ edgeSh rfl rfl ?_
  refine callNil 0 4 bl6 _ (.int .i64) rfl rfl ?_
  refine callArgs (ys := [.agg (sysC exK), .int .i64 1]) (frz_cons (frz_agg (frz_cons (.refl _) (frz_cons (.refl _) (frz_cons (.refl _) (frz_cons (.nil edgeSh) (frz_cons (.nil (.int .i64)) (.refl _)))))) rfl) (.refl _)) ?_
  refine callR [] (acalls_eq (aLayOf exK 1 _ exK_fit) (by rw [exK_of, show layOf exK 1 = layK from layK_is])) ?_
  intro bl1
  refine StoreAt.mk 0 _ _ rfl rfl ?_
  refine LoadAt.mk 1 _ _ rfl rfl ?_
  refine LoadAt.mk 0 _ _ rfl rfl ?_
  (refine .mk [] _ (aNewOk exK layK 0 _ exK_fit exK_of layK_is (by decide) (by decide)) ?_; rintro _ _ ⟨w, rfl, rfl⟩)
  refine LoadAt.mk 1 _ _ rfl rfl ?_
  refine callR [] (aLSize layK _) ?_
  (refine .mk [] _ (aNewK _) ?_; rintro _ _ ⟨p, q, rfl, rfl⟩)
  refine LoadAt.mk 3 _ _ rfl rfl ?_
  refine callR [] (aLBoard layK _) ?_
  refine callR [] (aStore p q _ _ _ _) ?_
  refine LoadAt.mk 3 _ _ rfl rfl ?_
  refine callR [] (aLBoard layK _) ?_
  refine callR [] (aStore p q _ _ _ _) ?_
  refine LoadAt.mk 3 _ _ rfl rfl ?_
  refine callR [] (aLDeque layK _ _) ?_
  refine callR [] (aResetD p q _ _ _ _) ?_
  refine LoadAt.mk 3 _ _ rfl rfl ?_
  refine callR [] (aLDeque layK _ _) ?_
  refine callR [] (aStore p q _ _ _ _) ?_
  refine .shed (.drop 3 2 (.pull [2] (.refl _))) ?_
  have hmem : mStore (mStore (mStore (mStore (mStore [0, 0, 0, 0, 0, 0, 0] (flagsL layK) 1) (countL layK) 1) (dqB layK 0) 1) (botD (dqB layK 0)) 1) (IntKind.i64.wrap (dqB layK 0 + 1)) 2 = memK := by decide +kernel
  refine loopS (S := Nat × Nat × AV × Hp) (fun z => [(4, .ptr w 0), (6, .ptr p 0), (7, .int .i64 ((z.1 + 1 : Nat) : Int))]) (fun z => WB exK layK 0 w z.2.1 z.2.2.1 z.2.2.2 (itK z.1).1 ++ plH p q (itK z.1).2 σ) (fun z => z.1 ≤ 13 ∧ okRd z.2.2.1 z.2.2.2 (itK z.1).1.now) (fun z => 13 - z.1) (0, 0, .nils, []) ⟨⟨Nat.zero_le _, trivial⟩, ⟨rfl, rfl, rfl, trivial⟩, congrArg (fun ws => WB exK layK 0 w 0 .nils [] ws0 ++ plH p q ws σ) hmem⟩ ?_
  rintro ⟨k, r, c, acc⟩ g ⟨hk0, hrd0⟩
  have hk : k ≤ 13 := hk0
  have hrd : okRd c acc (itK k).1.now := hrd0
  clear hk0 hrd0
  rcases Nat.lt_or_ge k 13 with hk13 | hk13
  · have hst : wStep listOps exK layK 0 (itK k).1 0 (itK k).2 = ((itK (k + 1)).1, (itK (k + 1)).2, false) := Prod.ext rfl (Prod.ext rfl (itK_on hk13))
    refine .mk [] _ (aWkP p q w r c acc exK layK 0 (itK k).1 0 (itK k).2 σ exK_fit (itK_64 hk) (itK_ok k hk) hrd hst) ?_
    rintro _ _ ⟨r', c', acc', hrd', rfl, rfl⟩
    refine bcond_dec (p := ((k + 1 : Nat) : Int) < 99) (fun c1 => ?_) (fun c1 => absurd (by omega) c1)
    refine nextS (k + 1, r', c', acc') (by show 13 - (k + 1) < 13 - k; omega) ⟨hk13, hrd'⟩ ⟨rfl, rfl, inc64 (k := k + 1) (by omega), trivial⟩ (.refl _)
  · obtain rfl : k = 13 := by omega
    obtain ⟨e1, e2, e3⟩ := itK_end
    obtain ⟨x', ws', b, hst⟩ : ∃ x' ws' b, wStep listOps exK layK 0 (itK 13).1 0 (itK 13).2 = (x', ws', b) := ⟨_, _, _, rfl⟩
    rw [hst] at e1 e2 e3
    have e1 : b = true := e1
    have e2 : x'.ev = 1 := e2
    have e3 : x'.en = true := e3
    subst e1
    refine .mk [] _ (aWkP p q w r c acc exK layK 0 (itK 13).1 0 (itK 13).2 σ exK_fit (itK_64 hk) (itK_ok 13 hk) hrd hst) ?_
    rintro _ _ ⟨r', c', acc', hrd', rfl, rfl⟩
    obtain ⟨ev, jo, en, does, n, node, has, nx, out⟩ := x'
    have e2 : ev = 1 := e2
    have e3 : en = true := e3
    subst e3
    refine LoadAt.mk 0 _ _ rfl rfl ?_
    refine bcond_dec (fun c1 => ?_) (fun c1 => ?_)
    · have c1 : ev = 1 := c1
      refine LoadAt.mk 0 _ _ rfl rfl ?_
      exact fin_front (WB exK layK 0 w r' c' acc' ⟨ev, jo, true, does, n, node, has, nx, out⟩) (fin_front [_, _] (.done ⟨rfl, rfl⟩))
    · have c1 : ¬ (ev = 1) := c1
      exact absurd e2 (by assumption)
end Go.Proofs.YtegpahamenjiaaaGreat
