/-
  Kr: what the claim uses of them.
-/
import Derived.Test.YtegpahamenjiaaaGreatBn43
import Derived.Test.YtegpahamenjiaaaGreatBn44
import Derived.Test.YtegpahamenjiaaaGreatBn45
import Derived.Test.YtegpahamenjiaaaGreatBn46
namespace Go.Proofs.YtegpahamenjiaaaGreat
open Go.RowKit
set_option maxRecDepth 100000
set_option maxHeartbeats 4000000
/-- The reference's worker's block. -/
abbrev rwC (s : Sy) (l : Lay) (who does node : Int) (has : Bool) (nx out : List Int) (D T J A : AV) (ev jo : Int) (en : Bool) : List AV :=
  [.int .i64 s.what, .int .i64 s.w, .int .i64 s.n, .fsl edgeSh s.edges, .fsl (.int .i64) s.entry, .fsl (.int .u64) s.init, .fsl transSh s.T, .int .i64 l.what, .int .i64 l.words, .int .i64 l.n, .int .i64 l.k, .int .i64 who, .int .i64 does, .int .i64 node, .bool has, .fsl (.int .i64) nx, .fsl (.int .u64) out, D, T, J, A, .int .i64 ev, .int .i64 jo, .bool en]
/-- Where a worker's deque stands. -/
theorem aRLDeque (l : Lay) (w : Int) (σ : Hp) : ACalls Tryz.prog 94 [.agg (layV l), .int .i64 w] σ (Ret (.int .i64 (dqB l w)) σ) := by
  refine okF Tryz.func94 (by kernel_rfl) ?_
  intro bl1
  refine .quiet (by kernel_rfl) ?_
  refine LoadAt.mk 0 _ _ rfl rfl ?_
  refine LoadAt.mk 0 _ _ rfl rfl ?_
  refine LoadAt.mk 0 _ _ rfl rfl ?_
  refine LoadAt.mk 0 _ _ rfl rfl ?_
  refine callQ [] (aRRoom _ _) ?_
  exact .drop 0 1 (.done ⟨av_int (by rw [show IntKind.i64.wrap (2 + ((rm (IntKind.i64.wrap (l.n + 1)) : Nat) : Int)) = ((2 + rm (roomL l) : Nat) : Int) from (wr_small (z := 2 + ((rm (roomL l) : Nat) : Int)) (by omega) (by have := rm_ok (roomL l); omega)).trans (by omega)]; rfl), rfl⟩)
theorem aRDequeOf (w : Nat) (s : Sy) (l : Lay) (me does node : Int) (has : Bool) (nx out : List Int) (D T J A : AV) (ev jo : Int) (en : Bool) (who kind n : Int) (σ : Hp) : ACalls Tryz.prog 95 [.ptr w 0, .int .i64 who, .int .i64 kind, .int .u64 n] ((w, rwC s l me does node has nx out D T J A ev jo en) :: σ) (fun x σ' => ∃ r, x = .ptr r 0 ∧ σ' = (r, rqC kind (dq0 (dqB l who) (roomL l) n)) :: (w, rwC s l me does node has nx out D T J A ev jo en) :: σ) := by
  refine okF Tryz.func95 (by kernel_rfl) ?_
  refine .sched [6] (upto [6] 17 0) (by kernel_rfl) ?_
  refine LoadAt.mk 0 _ _ rfl rfl ?_
  refine callQ [] (aRLDeque l _ _) ?_
  refine LoadAt.mk 0 _ _ rfl rfl ?_
  intro bl1
  exact .done ⟨bl1, rfl, rfl⟩
theorem aRTicketOf (w : Nat) (s : Sy) (l : Lay) (me does node : Int) (has : Bool) (nx out : List Int) (D T J A : AV) (ev jo : Int) (en : Bool) (kind v : Int) (σ : Hp) : ACalls Tryz.prog 104 [.ptr w 0, .int .i64 kind, .int .i64 v] ((w, rwC s l me does node has nx out D T J A ev jo en) :: σ) (fun x σ' => ∃ r, x = .ptr r 0 ∧ σ' = (r, rtC ⟨kind, v, flagsL l, countL l, 0, false, false, false, 0⟩) :: (w, rwC s l me does node has nx out D T J A ev jo en) :: σ) := by
  refine okF Tryz.func104 (by kernel_rfl) ?_
  refine .sched [] (upto [] 33 0) (by kernel_rfl) ?_
  refine LoadAt.mk 0 _ _ rfl rfl ?_
  refine LoadAt.mk 0 _ _ rfl rfl ?_
  refine LoadAt.mk 0 _ _ rfl rfl ?_
  refine LoadAt.mk 0 _ _ rfl rfl ?_
  refine LoadAt.mk 0 _ _ rfl rfl ?_
  intro bl1
  exact .done ⟨bl1, rfl, rfl⟩
theorem aRIdle (w : Nat) (s : Sy) (l : Lay) (me does node : Int) (has : Bool) (nx out : List Int) (D T J A : AV) (ev jo : Int) (en : Bool) (other : Int) (σ : Hp) : ACalls Tryz.prog 98 [.ptr w 0, .int .i64 other] ((w, rwC s l me does node has nx out D T J A ev jo en) :: σ) (Ret (.tup []) ((w, rwC s l me (if l.k < 2 then other else 1) node has nx out D T J A ev jo en) :: σ)) := by
  refine okF Tryz.func98 (by kernel_rfl) ?_
  refine StoreAt.mk 0 _ _ rfl rfl ?_
  refine LoadAt.mk 0 _ _ rfl rfl ?_
  refine bcond_dec (fun c1 => ?_) (fun c1 => ?_)
  · have c1 : 1 < l.k := c1
    refine StoreAt.mk 0 _ _ rfl rfl ?_
    exact .done ⟨rfl, by rw [if_neg (show ¬ l.k < 2 by omega)]; rfl⟩
  · have c1 : ¬ (1 < l.k) := c1
    exact .done ⟨rfl, by rw [if_pos (show l.k < 2 by omega)]; rfl⟩
theorem aRGot (w : Nat) (s : Sy) (l : Lay) (me does node : Int) (has : Bool) (nx out : List Int) (D T J A : AV) (ev jo : Int) (en : Bool) (n : Int) (σ : Hp) : ACalls Tryz.prog 97 [.ptr w 0, .int .u64 n] ((w, rwC s l me does node has nx out D T J A ev jo en) :: σ) (Ret (.tup []) ((w, rwC s l me (gotDoes l n) (gotNode l n) true nx out D T J A ev jo en) :: σ)) := by
  refine okF Tryz.func97 (by kernel_rfl) ?_
  refine StoreAt.mk 0 _ _ rfl rfl ?_
  refine StoreAt.mk 0 _ _ rfl rfl ?_
  refine StoreAt.mk 0 _ _ rfl rfl ?_
  refine LoadAt.mk 0 _ _ rfl rfl ?_
  refine bcond_dec (fun c1 => ?_) (fun c1 => ?_)
  · have c1 : n < IntKind.u64.wrap l.n := c1
    refine StoreAt.mk 0 _ _ rfl rfl ?_
    refine StoreAt.mk 0 _ _ rfl rfl ?_
    exact .done ⟨rfl, by unfold gotDoes gotNode; rw [if_neg (show ¬ wu l.n ≤ n from Int.not_le.2 c1), if_neg (show ¬ wu l.n ≤ n from Int.not_le.2 c1)]; rfl⟩
  · have c1 : ¬ (n < IntKind.u64.wrap l.n) := c1
    exact .done ⟨rfl, by unfold gotDoes gotNode; rw [if_pos (show wu l.n ≤ n from Int.not_lt.1 c1), if_pos (show wu l.n ≤ n from Int.not_lt.1 c1)]; rfl⟩
theorem aREdge (w : Nat) (s : Sy) (l : Lay) (me does node : Int) (has : Bool) (nx out : List Int) (D T J A : AV) (ev jo : Int) (en : Bool) (σ : Hp) : ACalls Tryz.prog 102 [.ptr w 0] ((w, rwC s l me does node has nx out D T J A ev jo en) :: σ) (Ret (.tup []) ((w, rwC s l me (if nx.length = 0 then 8 else 5) node has nx out D T J A ev jo en) :: σ)) := by
  refine okF Tryz.func102 (by kernel_rfl) ?_
  refine StoreAt.mk 0 _ _ rfl rfl ?_
  refine LoadAt.mk 0 _ _ rfl rfl ?_
  refine bcond_dec (fun c1 => ?_) (fun c1 => ?_)
  · have c1 : 0 < (↑nx.length : Int) := c1
    refine StoreAt.mk 0 _ _ rfl rfl ?_
    exact .done ⟨rfl, by rw [if_neg (show ¬ nx.length = 0 by omega)]; rfl⟩
  · have c1 : ¬ (0 < (↑nx.length : Int)) := c1
    exact .done ⟨rfl, by rw [if_pos (show nx.length = 0 by omega)]; rfl⟩
/-- What the reference's worker has of a machine. -/
def rnD (r : Nat) : Nw → AV
  | .pop _ | .steal _ | .push _ => .ptr r 0
  | _ => .nilp
def rnT (r : Nat) : Nw → AV
  | .take _ => .ptr r 0
  | _ => .nilp
def rnJ (r : Nat) : Nw → AV
  | .join _ => .ptr r 0
  | _ => .nilp
def rA : List Int → AV
  | [] => .nils
  | x :: y => .fsl (.int .u64) (x :: y : List Int)
def rnA : Nw → AV
  | .read y => rA y
  | _ => .nils
def rtT (t : Tk) : RT := ⟨1, t.v, t.f, t.c, 1, true, false, false, 0⟩
def rnB (r : Nat) : Nw → Hp
  | .pop q => [(r, rqC 2 q)]
  | .steal q => [(r, rqC 3 q)]
  | .push q => [(r, rqC 1 q)]
  | .take t => [(r, rtC (rtT t))]
  | .join j => [(r, rjC j)]
  | _ => []
/-- The reference's worker's blocks. -/
def RB (s : Sy) (l : Lay) (who : Int) (w r : Nat) (x : WS) : Hp := (w, rwC s l who x.does x.node x.has x.nx x.out (rnD r x.now) (rnT r x.now) (rnJ r x.now) (rnA x.now) x.ev x.jo x.en) :: rnB r x.now
/-- What a part of a Step leaves. -/
def RPost (s : Sy) (l : Lay) (who : Int) (w m p : Nat) (x : WS) (d : Int) (ws : List Int) (σ : Hp) : AV → Hp → Prop := fun z σ' => ∃ r, z = .tup [] ∧ σ' = RB s l who w r (wStep listOps s l who x d ws).1 ++ reH m p (wStep listOps s l who x d ws).2.1 σ
theorem rPostT {s : Sy} {l : Lay} {who : Int} {w m p : Nat} {x : WS} {d : Int} {ws ws' : List Int} {σ : Hp} {n n' : Nw} {b : Bool} {y : WS} (he : x.en = false) (hat : atW l who x d = n) (hn : nwStep listOps l x.node n ws = (n', ws', b)) (hb : b = true) (hy : behW s l x n' = y) (h0 : y.now = .none) : RPost s l who w m p x d ws σ (.tup []) ((w, rwC s l who y.does y.node y.has y.nx y.out .nilp .nilp .nilp .nils y.ev y.jo y.en) :: reH m p ws' σ) := by
  unfold RPost wStep
  rw [if_neg (by rw [he]; decide), hat, hn]
  dsimp only
  rw [if_pos hb, hy]
  exact ⟨0, rfl, by unfold RB; rw [h0]; rfl⟩
theorem rPostF {s : Sy} {l : Lay} {who : Int} {w m p : Nat} {x : WS} {d : Int} {ws ws' : List Int} {σ : Hp} {n n' : Nw} {b : Bool} (r : Nat) (he : x.en = false) (hat : atW l who x d = n) (hn : nwStep listOps l x.node n ws = (n', ws', b)) (hb : b = false) : RPost s l who w m p x d ws σ (.tup []) (RB s l who w r ⟨x.ev, x.jo, x.en, x.does, n', x.node, x.has, x.nx, x.out⟩ ++ reH m p ws' σ) := by
  unfold RPost wStep
  rw [if_neg (by rw [he]; decide), hat, hn]
  dsimp only
  rw [if_neg (by rw [hb]; decide)]
  exact ⟨r, rfl, rfl⟩
theorem w4_fine {q : DQ} {m : Nat} (h : q.w4 m) (hm : m ≤ 5) : q.fine := ⟨by have := h.at_; omega, h.b.1, h.t.1⟩
theorem aREdgeE (w : Nat) (s : Sy) (l : Lay) (me does node : Int) (has : Bool) (nx nx' out : List Int) (D T J A : AV) (ev jo : Int) (en : Bool) (σ : Hp) (e : nx' = nx) : ACalls Tryz.prog 102 [.ptr w 0] ((w, rwC s l me does node has nx' out D T J A ev jo en) :: σ) (Ret (.tup []) ((w, rwC s l me (if nx.length = 0 then 8 else 5) node has nx out D T J A ev jo en) :: σ)) := e ▸ aREdge w s l me does node has nx' out D T J A ev jo en σ
theorem drop_one (z : Int) (nx : List Int) : ((z :: nx).drop ((1 : Int)).toNat).take ((((z :: nx).length : Nat) : Int).toNat - ((1 : Int)).toNat) = nx := by simp
theorem one_le_len (z : Int) (nx : List Int) : (1 : Int) ≤ ((z :: nx).length : Nat) := Int.ofNat_le.2 (Nat.succ_le_succ (Nat.zero_le _))
theorem beg8h {l : Lay} {who does node d : Int} {nx out : List Int} (hd : does = 8) : begW l who does node nx out d = .retire ⟨flagsL l, countL l, 0, false⟩ := beg8 (by omega) (by omega) (by omega) (by omega) (by omega) (by omega) (by omega) (by omega)
theorem rA_snoc (y : List Int) (x : Int) : rA (y ++ [x]) = .fsl (.int .u64) (y ++ [x]) := by cases y <;> rfl
theorem beh_popT {s : Sy} {l : Lay} {x : WS} {q : DQ} (h : q.ok = true) : behW s l x (.pop q) = ⟨x.ev, x.jo, x.en, gotDoes l q.n, .none, gotNode l q.n, true, x.nx, x.out⟩ := if_pos h
theorem beh_popF {s : Sy} {l : Lay} {x : WS} {q : DQ} (h : q.ok = false) : behW s l x (.pop q) = ⟨x.ev, x.jo, x.en, noneDoes l, .none, x.node, x.has, x.nx, x.out⟩ := if_neg (by rw [h]; decide)
theorem beh_stealT {s : Sy} {l : Lay} {x : WS} {q : DQ} (h : q.ok = true) : behW s l x (.steal q) = ⟨x.ev, x.jo, x.en, gotDoes l q.n, .none, gotNode l q.n, true, x.nx, x.out⟩ := if_pos h
theorem beh_stealF {s : Sy} {l : Lay} {x : WS} {q : DQ} (h : q.ok = false) : behW s l x (.steal q) = ⟨x.ev, x.jo, x.en, 2, .none, x.node, x.has, x.nx, x.out⟩ := if_neg (by rw [h]; decide)
theorem beh_joinT {s : Sy} {l : Lay} {x : WS} {q : Jn} (h : q.changed = true) : behW s l x (.join q) = ⟨x.ev, wr (x.jo + 1), x.en, 6, .none, x.node, x.has, x.nx, x.out⟩ := if_pos h
theorem beh_joinF {s : Sy} {l : Lay} {x : WS} {q : Jn} (h : q.changed = false) : behW s l x (.join q) = ⟨x.ev, x.jo, x.en, folDoes x.nx, .none, x.node, x.has, x.nx.tail, x.out⟩ := if_neg (by rw [h]; decide)
theorem beh_takeT {s : Sy} {l : Lay} {x : WS} {q : Tk} (h : q.new = true) : behW s l x (.take q) = ⟨x.ev, x.jo, x.en, 7, .none, x.node, x.has, x.nx, x.out⟩ := if_pos h
theorem beh_takeF {s : Sy} {l : Lay} {x : WS} {q : Tk} (h : q.new = false) : behW s l x (.take q) = ⟨x.ev, x.jo, x.en, folDoes x.nx, .none, x.node, x.has, x.nx.tail, x.out⟩ := if_neg (by rw [h]; decide)
theorem aRTakePopG (w r m p : Nat) (s : Sy) (l : Lay) (me ev jo does : Int) (q : DQ) (node : Int) (has : Bool) (nx out : List Int) (d : Int) (ws : List Int) (σ : Hp) (hd : does = 0)  (hq : q.w4 5) :
    ACalls Tryz.prog 55 [.ptr w 0, .ptr m 0, .int .i64 d] ((w, rwC s l me does node has nx out (.ptr r 0) .nilp .nilp .nils ev jo false) :: (r, rqC 2 q) :: reH m p ws σ) (RPost s l me w m p ⟨ev, jo, false, does, (.pop q), node, has, nx, out⟩ d ws σ) := by
  obtain ⟨q', ws', b, hst⟩ : ∃ q' ws' b, dqStep 2 listOps (q) ws = (q', ws', b) := ⟨_, _, _, rfl⟩
  have h4 : DQ.w4 (q) 5 := hq
  have hbe : b = q'.ended := by have := dq_ended (k := 2) (O := listOps) (a := ws) h4.en; rw [hst] at this; exact this
  have hp : popStep listOps (q) ws = (q', ws', b) := hst
  have hc := fun r σ => aRStep27 r m p 2 _ ws σ (w4_fine h4 (by omega)) hst
  obtain ⟨u1, u2, u3, u4, u5, u6, u7, u8, u9⟩ := q'
  cases u5 with
  | true =>
    cases u4 with
    | true =>
      refine okF Tryz.func55 (by kernel_rfl) ?_
      refine LoadAt.mk 0 _ _ rfl rfl ?_
      refine LoadAt.mk 0 _ _ rfl rfl ?_
      refine LoadAt.mk 0 _ _ rfl rfl ?_
      refine callR [3, 3, 3] (hc _ _) ?_
      refine LoadAt.mk 3 _ _ rfl rfl ?_
      refine StoreAt.mk 3 _ _ rfl rfl ?_
      refine LoadAt.mk 0 _ _ rfl rfl ?_
      refine LoadAt.mk 0 _ _ rfl rfl ?_
      refine callR [3] (aRGot w s l me _ node has nx out .nilp .nilp .nilp .nils ev jo false _ _) ?_
      first | exact .drop 1 1 (.done (rPostT (y := ⟨ev, jo, false, gotDoes l u3, .none, gotNode l u3, true, nx, out⟩) rfl rfl (nw_pop hp) hbe (beh_popT rfl) rfl)) | exact .pull [3] (.drop 1 1 (.done (rPostT (y := ⟨ev, jo, false, gotDoes l u3, .none, gotNode l u3, true, nx, out⟩) rfl rfl (nw_pop hp) hbe (beh_popT rfl) rfl)))
    | false =>
      refine okF Tryz.func55 (by kernel_rfl) ?_
      refine LoadAt.mk 0 _ _ rfl rfl ?_
      refine LoadAt.mk 0 _ _ rfl rfl ?_
      refine LoadAt.mk 0 _ _ rfl rfl ?_
      refine callR [3, 3, 3] (hc _ _) ?_
      refine LoadAt.mk 3 _ _ rfl rfl ?_
      refine StoreAt.mk 3 _ _ rfl rfl ?_
      refine LoadAt.mk 0 _ _ rfl rfl ?_
      refine LoadAt.mk 3 _ _ rfl rfl ?_
      refine bcond_dec (fun c1 => ?_) (fun c1 => ?_)
      · have c1 : does = 0 := c1
        refine callR [3] (aRIdle w s l me _ node has nx out .nilp .nilp .nilp .nils ev jo false _ _) ?_
        first | exact .drop 1 1 (.done (rPostT (y := ⟨ev, jo, false, noneDoes l, .none, node, has, nx, out⟩) rfl rfl (nw_pop hp) hbe (beh_popF rfl) rfl)) | exact .pull [3] (.drop 1 1 (.done (rPostT (y := ⟨ev, jo, false, noneDoes l, .none, node, has, nx, out⟩) rfl rfl (nw_pop hp) hbe (beh_popF rfl) rfl)))
      · have c1 : ¬ (does = 0) := c1
        refine StoreAt.mk 3 _ _ rfl rfl ?_
        exact absurd hd (by omega)
  | false =>
    refine okF Tryz.func55 (by kernel_rfl) ?_
    refine LoadAt.mk 0 _ _ rfl rfl ?_
    refine LoadAt.mk 0 _ _ rfl rfl ?_
    refine LoadAt.mk 0 _ _ rfl rfl ?_
    refine callR [3, 3, 3] (hc _ _) ?_
    exact .pull [3] (.done (rPostF (n' := .pop ⟨u1, u2, u3, u4, false, u6, u7, u8, u9⟩) (ws' := ws') r rfl rfl (nw_pop hp) hbe))
theorem aRTakePopN (w m p : Nat) (s : Sy) (l : Lay) (me ev jo does : Int)  (node : Int) (has : Bool) (nx out : List Int) (d : Int) (ws : List Int) (σ : Hp) (hd : does = 0)  :
    ACalls Tryz.prog 55 [.ptr w 0, .ptr m 0, .int .i64 d] ((w, rwC s l me does node has nx out .nilp .nilp .nilp .nils ev jo false) :: reH m p ws σ) (RPost s l me w m p ⟨ev, jo, false, does, .none, node, has, nx, out⟩ d ws σ) := by
  obtain ⟨q', ws', b, hst⟩ : ∃ q' ws' b, dqStep 2 listOps (dq0 (dqB l me) (roomL l) 0) ws = (q', ws', b) := ⟨_, _, _, rfl⟩
  have h4 : DQ.w4 (dq0 (dqB l me) (roomL l) 0) 5 := dq0_w4 _ _ _ _ (by unfold W64; omega)
  have hbe : b = q'.ended := by have := dq_ended (k := 2) (O := listOps) (a := ws) h4.en; rw [hst] at this; exact this
  have hp : popStep listOps (dq0 (dqB l me) (roomL l) 0) ws = (q', ws', b) := hst
  have hc := fun r σ => aRStep27 r m p 2 _ ws σ (w4_fine h4 (by omega)) hst
  obtain ⟨u1, u2, u3, u4, u5, u6, u7, u8, u9⟩ := q'
  cases u5 with
  | true =>
    cases u4 with
    | true =>
      refine okF Tryz.func55 (by kernel_rfl) ?_
      refine LoadAt.mk 0 _ _ rfl rfl ?_
      refine LoadAt.mk 0 _ _ rfl rfl ?_
      refine bcond_dec (fun c1 => ?_) (fun c1 => ?_)
      · have c1 : does = 0 := c1
        refine LoadAt.mk 0 _ _ rfl rfl ?_
        (refine .mk [] _ (aRDequeOf w s l me _ node has _ out .nilp .nilp .nilp .nils ev jo false _ _ _ _) ?_; rintro _ _ ⟨rr, rfl, rfl⟩)
        refine StoreAt.mk 1 _ _ rfl rfl ?_
        refine LoadAt.mk 1 _ _ rfl rfl ?_
        refine LoadAt.mk 1 _ _ rfl rfl ?_
        refine callR [2, 3, 3] (hc _ _) ?_
        refine LoadAt.mk 3 _ _ rfl rfl ?_
        refine StoreAt.mk 3 _ _ rfl rfl ?_
        refine LoadAt.mk 0 _ _ rfl rfl ?_
        refine LoadAt.mk 0 _ _ rfl rfl ?_
        refine callR [3] (aRGot w s l me _ node has nx out .nilp .nilp .nilp .nils ev jo false _ _) ?_
        first | exact .drop 1 1 (.done (rPostT (y := ⟨ev, jo, false, gotDoes l u3, .none, gotNode l u3, true, nx, out⟩) rfl (beg0 hd) (nw_pop hp) hbe (beh_popT rfl) rfl)) | exact .pull [3] (.drop 1 1 (.done (rPostT (y := ⟨ev, jo, false, gotDoes l u3, .none, gotNode l u3, true, nx, out⟩) rfl (beg0 hd) (nw_pop hp) hbe (beh_popT rfl) rfl)))
      · have c1 : ¬ (does = 0) := c1
        refine LoadAt.mk 0 _ _ rfl rfl ?_
        refine LoadAt.mk 0 _ _ rfl rfl ?_
        exact absurd hd (by omega)
    | false =>
      refine okF Tryz.func55 (by kernel_rfl) ?_
      refine LoadAt.mk 0 _ _ rfl rfl ?_
      refine LoadAt.mk 0 _ _ rfl rfl ?_
      refine bcond_dec (fun c1 => ?_) (fun c1 => ?_)
      · have c1 : does = 0 := c1
        refine LoadAt.mk 0 _ _ rfl rfl ?_
        (refine .mk [] _ (aRDequeOf w s l me _ node has _ out .nilp .nilp .nilp .nils ev jo false _ _ _ _) ?_; rintro _ _ ⟨rr, rfl, rfl⟩)
        refine StoreAt.mk 1 _ _ rfl rfl ?_
        refine LoadAt.mk 1 _ _ rfl rfl ?_
        refine LoadAt.mk 1 _ _ rfl rfl ?_
        refine callR [2, 3, 3] (hc _ _) ?_
        refine LoadAt.mk 3 _ _ rfl rfl ?_
        refine StoreAt.mk 3 _ _ rfl rfl ?_
        refine LoadAt.mk 0 _ _ rfl rfl ?_
        refine LoadAt.mk 3 _ _ rfl rfl ?_
        refine bcond_dec (fun c2 => ?_) (fun c2 => ?_)
        · have c2 : does = 0 := c2
          refine callR [3] (aRIdle w s l me _ node has nx out .nilp .nilp .nilp .nils ev jo false _ _) ?_
          first | exact .drop 1 1 (.done (rPostT (y := ⟨ev, jo, false, noneDoes l, .none, node, has, nx, out⟩) rfl (beg0 hd) (nw_pop hp) hbe (beh_popF rfl) rfl)) | exact .pull [3] (.drop 1 1 (.done (rPostT (y := ⟨ev, jo, false, noneDoes l, .none, node, has, nx, out⟩) rfl (beg0 hd) (nw_pop hp) hbe (beh_popF rfl) rfl)))
        · have c2 : ¬ (does = 0) := c2
          refine StoreAt.mk 3 _ _ rfl rfl ?_
          exact absurd hd (by omega)
      · have c1 : ¬ (does = 0) := c1
        refine LoadAt.mk 0 _ _ rfl rfl ?_
        refine LoadAt.mk 0 _ _ rfl rfl ?_
        exact absurd hd (by omega)
  | false =>
    refine okF Tryz.func55 (by kernel_rfl) ?_
    refine LoadAt.mk 0 _ _ rfl rfl ?_
    refine LoadAt.mk 0 _ _ rfl rfl ?_
    refine bcond_dec (fun c1 => ?_) (fun c1 => ?_)
    · have c1 : does = 0 := c1
      refine LoadAt.mk 0 _ _ rfl rfl ?_
      (refine .mk [] _ (aRDequeOf w s l me _ node has _ out .nilp .nilp .nilp .nils ev jo false _ _ _ _) ?_; rintro _ _ ⟨rr, rfl, rfl⟩)
      refine StoreAt.mk 1 _ _ rfl rfl ?_
      refine LoadAt.mk 1 _ _ rfl rfl ?_
      refine LoadAt.mk 1 _ _ rfl rfl ?_
      refine callR [2, 3, 3] (hc _ _) ?_
      exact .pull [3] (.done (rPostF (n' := .pop ⟨u1, u2, u3, u4, false, u6, u7, u8, u9⟩) (ws' := ws') rr rfl (beg0 hd) (nw_pop hp) hbe))
    · have c1 : ¬ (does = 0) := c1
      refine LoadAt.mk 0 _ _ rfl rfl ?_
      refine LoadAt.mk 0 _ _ rfl rfl ?_
      exact absurd hd (by omega)
theorem aRTakeStealG (w r m p : Nat) (s : Sy) (l : Lay) (me ev jo does : Int) (q : DQ) (node : Int) (has : Bool) (nx out : List Int) (d : Int) (ws : List Int) (σ : Hp) (hd : does = 1)  (hq : q.w4 3) :
    ACalls Tryz.prog 55 [.ptr w 0, .ptr m 0, .int .i64 d] ((w, rwC s l me does node has nx out (.ptr r 0) .nilp .nilp .nils ev jo false) :: (r, rqC 3 q) :: reH m p ws σ) (RPost s l me w m p ⟨ev, jo, false, does, (.steal q), node, has, nx, out⟩ d ws σ) := by
  obtain ⟨q', ws', b, hst⟩ : ∃ q' ws' b, dqStep 3 listOps (q) ws = (q', ws', b) := ⟨_, _, _, rfl⟩
  have h4 : DQ.w4 (q) 3 := hq
  have hbe : b = q'.ended := by have := dq_ended (k := 3) (O := listOps) (a := ws) h4.en; rw [hst] at this; exact this
  have hp : stealStep listOps (q) ws = (q', ws', b) := hst
  have hc := fun r σ => aRStep27 r m p 3 _ ws σ (w4_fine h4 (by omega)) hst
  obtain ⟨u1, u2, u3, u4, u5, u6, u7, u8, u9⟩ := q'
  cases u5 with
  | true =>
    cases u4 with
    | true =>
      refine okF Tryz.func55 (by kernel_rfl) ?_
      refine LoadAt.mk 0 _ _ rfl rfl ?_
      refine LoadAt.mk 0 _ _ rfl rfl ?_
      refine LoadAt.mk 0 _ _ rfl rfl ?_
      refine callR [3, 3, 3] (hc _ _) ?_
      refine LoadAt.mk 3 _ _ rfl rfl ?_
      refine StoreAt.mk 3 _ _ rfl rfl ?_
      refine LoadAt.mk 0 _ _ rfl rfl ?_
      refine LoadAt.mk 0 _ _ rfl rfl ?_
      refine callR [3] (aRGot w s l me _ node has nx out .nilp .nilp .nilp .nils ev jo false _ _) ?_
      first | exact .drop 1 1 (.done (rPostT (y := ⟨ev, jo, false, gotDoes l u3, .none, gotNode l u3, true, nx, out⟩) rfl rfl (nw_steal hp) hbe (beh_stealT rfl) rfl)) | exact .pull [3] (.drop 1 1 (.done (rPostT (y := ⟨ev, jo, false, gotDoes l u3, .none, gotNode l u3, true, nx, out⟩) rfl rfl (nw_steal hp) hbe (beh_stealT rfl) rfl)))
    | false =>
      refine okF Tryz.func55 (by kernel_rfl) ?_
      refine LoadAt.mk 0 _ _ rfl rfl ?_
      refine LoadAt.mk 0 _ _ rfl rfl ?_
      refine LoadAt.mk 0 _ _ rfl rfl ?_
      refine callR [3, 3, 3] (hc _ _) ?_
      refine LoadAt.mk 3 _ _ rfl rfl ?_
      refine StoreAt.mk 3 _ _ rfl rfl ?_
      refine LoadAt.mk 0 _ _ rfl rfl ?_
      refine LoadAt.mk 3 _ _ rfl rfl ?_
      refine bcond_dec (fun c1 => ?_) (fun c1 => ?_)
      · have c1 : does = 0 := c1
        exact absurd hd (by omega)
      · have c1 : ¬ (does = 0) := c1
        refine StoreAt.mk 3 _ _ rfl rfl ?_
        first | exact .drop 1 1 (.done (rPostT (y := ⟨ev, jo, false, 2, .none, node, has, nx, out⟩) rfl rfl (nw_steal hp) hbe (beh_stealF rfl) rfl)) | exact .pull [3] (.drop 1 1 (.done (rPostT (y := ⟨ev, jo, false, 2, .none, node, has, nx, out⟩) rfl rfl (nw_steal hp) hbe (beh_stealF rfl) rfl)))
  | false =>
    refine okF Tryz.func55 (by kernel_rfl) ?_
    refine LoadAt.mk 0 _ _ rfl rfl ?_
    refine LoadAt.mk 0 _ _ rfl rfl ?_
    refine LoadAt.mk 0 _ _ rfl rfl ?_
    refine callR [3, 3, 3] (hc _ _) ?_
    exact .pull [3] (.done (rPostF (n' := .steal ⟨u1, u2, u3, u4, false, u6, u7, u8, u9⟩) (ws' := ws') r rfl rfl (nw_steal hp) hbe))
theorem aRTakeStealN (w m p : Nat) (s : Sy) (l : Lay) (me ev jo does : Int)  (node : Int) (has : Bool) (nx out : List Int) (d : Int) (ws : List Int) (σ : Hp) (hd : does = 1) (h1 : nK l ≠ 0) (h2 : l.k ≠ 0) :
    ACalls Tryz.prog 55 [.ptr w 0, .ptr m 0, .int .i64 d] ((w, rwC s l me does node has nx out .nilp .nilp .nilp .nils ev jo false) :: reH m p ws σ) (RPost s l me w m p ⟨ev, jo, false, does, .none, node, has, nx, out⟩ d ws σ) := by
  obtain ⟨q', ws', b, hst⟩ : ∃ q' ws' b, dqStep 3 listOps (dq0 (dqB l (victimW l me d)) (roomL l) 0) ws = (q', ws', b) := ⟨_, _, _, rfl⟩
  have h4 : DQ.w4 (dq0 (dqB l (victimW l me d)) (roomL l) 0) 3 := dq0_w4 _ _ _ _ (by unfold W64; omega)
  have hbe : b = q'.ended := by have := dq_ended (k := 3) (O := listOps) (a := ws) h4.en; rw [hst] at this; exact this
  have hp : stealStep listOps (dq0 (dqB l (victimW l me d)) (roomL l) 0) ws = (q', ws', b) := hst
  have hc := fun r σ => aRStep27 r m p 3 _ ws σ (w4_fine h4 (by omega)) hst
  obtain ⟨u1, u2, u3, u4, u5, u6, u7, u8, u9⟩ := q'
  cases u5 with
  | true =>
    cases u4 with
    | true =>
      refine okF Tryz.func55 (by kernel_rfl) ?_
      refine LoadAt.mk 0 _ _ rfl rfl ?_
      refine LoadAt.mk 0 _ _ rfl rfl ?_
      refine bcond_dec (fun c1 => ?_) (fun c1 => ?_)
      · have c1 : does = 0 := c1
        refine LoadAt.mk 0 _ _ rfl rfl ?_
        exact absurd hd (by omega)
      · have c1 : ¬ (does = 0) := c1
        refine LoadAt.mk 0 _ _ rfl rfl ?_
        refine LoadAt.mk 0 _ _ rfl rfl ?_
        refine .sched [] (upto [] 25 0) (by kernel_rfl) ?_
        refine LoadAt.mk 0 _ _ rfl rfl ?_
        first | exact absurd hd (by omega) | refine With.mk rfl ?_ | refine With.mk h1 ?_ | refine With.mk h2 ?_ | refine With.mk ⟨by decide, one_le_len z nx, Int.le_refl _, rfl⟩ ?_
        first | exact absurd hd (by omega) | refine With.mk rfl ?_ | refine With.mk h1 ?_ | refine With.mk h2 ?_ | refine With.mk ⟨by decide, one_le_len z nx, Int.le_refl _, rfl⟩ ?_
        refine LoadAt.mk 0 _ _ rfl rfl ?_
        first | exact absurd hd (by omega) | refine With.mk rfl ?_ | refine With.mk h1 ?_ | refine With.mk h2 ?_ | refine With.mk ⟨by decide, one_le_len z nx, Int.le_refl _, rfl⟩ ?_
        (refine .mk [] _ (aRDequeOf w s l me _ node has _ out .nilp .nilp .nilp .nils ev jo false _ _ _ _) ?_; rintro _ _ ⟨rr, rfl, rfl⟩)
        refine StoreAt.mk 1 _ _ rfl rfl ?_
        refine LoadAt.mk 1 _ _ rfl rfl ?_
        refine callR [2, 3, 3] (hc _ _) ?_
        refine LoadAt.mk 3 _ _ rfl rfl ?_
        refine StoreAt.mk 3 _ _ rfl rfl ?_
        refine LoadAt.mk 0 _ _ rfl rfl ?_
        refine LoadAt.mk 0 _ _ rfl rfl ?_
        refine callR [3] (aRGot w s l me _ node has nx out .nilp .nilp .nilp .nils ev jo false _ _) ?_
        first | exact .drop 1 1 (.done (rPostT (y := ⟨ev, jo, false, gotDoes l u3, .none, gotNode l u3, true, nx, out⟩) rfl (beg1 hd) (nw_steal hp) hbe (beh_stealT rfl) rfl)) | exact .pull [3] (.drop 1 1 (.done (rPostT (y := ⟨ev, jo, false, gotDoes l u3, .none, gotNode l u3, true, nx, out⟩) rfl (beg1 hd) (nw_steal hp) hbe (beh_stealT rfl) rfl)))
    | false =>
      refine okF Tryz.func55 (by kernel_rfl) ?_
      refine LoadAt.mk 0 _ _ rfl rfl ?_
      refine LoadAt.mk 0 _ _ rfl rfl ?_
      refine bcond_dec (fun c1 => ?_) (fun c1 => ?_)
      · have c1 : does = 0 := c1
        refine LoadAt.mk 0 _ _ rfl rfl ?_
        exact absurd hd (by omega)
      · have c1 : ¬ (does = 0) := c1
        refine LoadAt.mk 0 _ _ rfl rfl ?_
        refine LoadAt.mk 0 _ _ rfl rfl ?_
        refine .sched [] (upto [] 25 0) (by kernel_rfl) ?_
        refine LoadAt.mk 0 _ _ rfl rfl ?_
        first | exact absurd hd (by omega) | refine With.mk rfl ?_ | refine With.mk h1 ?_ | refine With.mk h2 ?_ | refine With.mk ⟨by decide, one_le_len z nx, Int.le_refl _, rfl⟩ ?_
        first | exact absurd hd (by omega) | refine With.mk rfl ?_ | refine With.mk h1 ?_ | refine With.mk h2 ?_ | refine With.mk ⟨by decide, one_le_len z nx, Int.le_refl _, rfl⟩ ?_
        refine LoadAt.mk 0 _ _ rfl rfl ?_
        first | exact absurd hd (by omega) | refine With.mk rfl ?_ | refine With.mk h1 ?_ | refine With.mk h2 ?_ | refine With.mk ⟨by decide, one_le_len z nx, Int.le_refl _, rfl⟩ ?_
        (refine .mk [] _ (aRDequeOf w s l me _ node has _ out .nilp .nilp .nilp .nils ev jo false _ _ _ _) ?_; rintro _ _ ⟨rr, rfl, rfl⟩)
        refine StoreAt.mk 1 _ _ rfl rfl ?_
        refine LoadAt.mk 1 _ _ rfl rfl ?_
        refine callR [2, 3, 3] (hc _ _) ?_
        refine LoadAt.mk 3 _ _ rfl rfl ?_
        refine StoreAt.mk 3 _ _ rfl rfl ?_
        refine LoadAt.mk 0 _ _ rfl rfl ?_
        refine LoadAt.mk 3 _ _ rfl rfl ?_
        refine bcond_dec (fun c2 => ?_) (fun c2 => ?_)
        · have c2 : does = 0 := c2
          exact absurd hd (by omega)
        · have c2 : ¬ (does = 0) := c2
          refine StoreAt.mk 3 _ _ rfl rfl ?_
          first | exact .drop 1 1 (.done (rPostT (y := ⟨ev, jo, false, 2, .none, node, has, nx, out⟩) rfl (beg1 hd) (nw_steal hp) hbe (beh_stealF rfl) rfl)) | exact .pull [3] (.drop 1 1 (.done (rPostT (y := ⟨ev, jo, false, 2, .none, node, has, nx, out⟩) rfl (beg1 hd) (nw_steal hp) hbe (beh_stealF rfl) rfl)))
  | false =>
    refine okF Tryz.func55 (by kernel_rfl) ?_
    refine LoadAt.mk 0 _ _ rfl rfl ?_
    refine LoadAt.mk 0 _ _ rfl rfl ?_
    refine bcond_dec (fun c1 => ?_) (fun c1 => ?_)
    · have c1 : does = 0 := c1
      refine LoadAt.mk 0 _ _ rfl rfl ?_
      exact absurd hd (by omega)
    · have c1 : ¬ (does = 0) := c1
      refine LoadAt.mk 0 _ _ rfl rfl ?_
      refine LoadAt.mk 0 _ _ rfl rfl ?_
      refine .sched [] (upto [] 25 0) (by kernel_rfl) ?_
      refine LoadAt.mk 0 _ _ rfl rfl ?_
      first | exact absurd hd (by omega) | refine With.mk rfl ?_ | refine With.mk h1 ?_ | refine With.mk h2 ?_ | refine With.mk ⟨by decide, one_le_len z nx, Int.le_refl _, rfl⟩ ?_
      first | exact absurd hd (by omega) | refine With.mk rfl ?_ | refine With.mk h1 ?_ | refine With.mk h2 ?_ | refine With.mk ⟨by decide, one_le_len z nx, Int.le_refl _, rfl⟩ ?_
      refine LoadAt.mk 0 _ _ rfl rfl ?_
      first | exact absurd hd (by omega) | refine With.mk rfl ?_ | refine With.mk h1 ?_ | refine With.mk h2 ?_ | refine With.mk ⟨by decide, one_le_len z nx, Int.le_refl _, rfl⟩ ?_
      (refine .mk [] _ (aRDequeOf w s l me _ node has _ out .nilp .nilp .nilp .nils ev jo false _ _ _ _) ?_; rintro _ _ ⟨rr, rfl, rfl⟩)
      refine StoreAt.mk 1 _ _ rfl rfl ?_
      refine LoadAt.mk 1 _ _ rfl rfl ?_
      refine callR [2, 3, 3] (hc _ _) ?_
      exact .pull [3] (.done (rPostF (n' := .steal ⟨u1, u2, u3, u4, false, u6, u7, u8, u9⟩) (ws' := ws') rr rfl (beg1 hd) (nw_steal hp) hbe))
theorem aRPushG (w r m p : Nat) (s : Sy) (l : Lay) (me ev jo does : Int) (q : DQ) (z : Int) (node : Int) (has : Bool) (nx out : List Int) (d : Int) (ws : List Int) (σ : Hp)   (hq : q.w4 3) :
    ACalls Tryz.prog 58 [.ptr w 0, .ptr m 0] ((w, rwC s l me does node has (z :: nx) out (.ptr r 0) .nilp .nilp .nils ev jo false) :: (r, rqC 1 q) :: reH m p ws σ) (RPost s l me w m p ⟨ev, jo, false, does, (.push q), node, has, z :: nx, out⟩ d ws σ) := by
  obtain ⟨q', ws', b, hst⟩ : ∃ q' ws' b, dqStep 1 listOps (q) ws = (q', ws', b) := ⟨_, _, _, rfl⟩
  have h4 : DQ.w4 (q) 3 := hq
  have hbe : b = q'.ended := by have := dq_ended (k := 1) (O := listOps) (a := ws) h4.en; rw [hst] at this; exact this
  have hp : pushStep listOps (q) ws = (q', ws', b) := hst
  have hc := fun r σ => aRStep27 r m p 1 _ ws σ (w4_fine h4 (by omega)) hst
  obtain ⟨u1, u2, u3, u4, u5, u6, u7, u8, u9⟩ := q'
  cases u5 with
  | true =>
    refine okF Tryz.func58 (by kernel_rfl) ?_
    refine LoadAt.mk 0 _ _ rfl rfl ?_
    refine LoadAt.mk 0 _ _ rfl rfl ?_
    refine callR [3, 3, 3] (hc _ _) ?_
    refine StoreAt.mk 3 _ _ rfl rfl ?_
    refine LoadAt.mk 3 _ _ rfl rfl ?_
    first | exact absurd hd (by omega) | refine With.mk rfl ?_ | refine With.mk h1 ?_ | refine With.mk h2 ?_ | refine With.mk ⟨by decide, one_le_len z nx, Int.le_refl _, rfl⟩ ?_
    refine StoreAt.mk 3 _ _ rfl rfl ?_
    refine callR [3] (aREdgeE w s l me _ node has nx _ out .nilp .nilp .nilp .nils ev jo false _ (drop_one z nx)) ?_
    first | exact .drop 1 1 (.done (rPostT (y := ⟨ev, jo, false, folDoes (z :: nx), .none, node, has, nx, out⟩) rfl rfl (nw_push hp) hbe (rfl) rfl)) | exact .pull [3] (.drop 1 1 (.done (rPostT (y := ⟨ev, jo, false, folDoes (z :: nx), .none, node, has, nx, out⟩) rfl rfl (nw_push hp) hbe (rfl) rfl)))
  | false =>
    refine okF Tryz.func58 (by kernel_rfl) ?_
    refine LoadAt.mk 0 _ _ rfl rfl ?_
    refine LoadAt.mk 0 _ _ rfl rfl ?_
    refine callR [3, 3, 3] (hc _ _) ?_
    exact .pull [3] (.done (rPostF (n' := .push ⟨u1, u2, u3, u4, false, u6, u7, u8, u9⟩) (ws' := ws') r rfl rfl (nw_push hp) hbe))
theorem aRPushN (w m p : Nat) (s : Sy) (l : Lay) (me ev jo does : Int)  (z : Int) (node : Int) (has : Bool) (nx out : List Int) (d : Int) (ws : List Int) (σ : Hp) (hd : does = 7)  :
    ACalls Tryz.prog 58 [.ptr w 0, .ptr m 0] ((w, rwC s l me does node has (z :: nx) out .nilp .nilp .nilp .nils ev jo false) :: reH m p ws σ) (RPost s l me w m p ⟨ev, jo, false, does, .none, node, has, z :: nx, out⟩ d ws σ) := by
  obtain ⟨q', ws', b, hst⟩ : ∃ q' ws' b, dqStep 1 listOps (dq0 (dqB l me) (roomL l) (wu z)) ws = (q', ws', b) := ⟨_, _, _, rfl⟩
  have h4 : DQ.w4 (dq0 (dqB l me) (roomL l) (wu z)) 3 := dq0_w4 _ _ _ _ (wu_64 _)
  have hbe : b = q'.ended := by have := dq_ended (k := 1) (O := listOps) (a := ws) h4.en; rw [hst] at this; exact this
  have hp : pushStep listOps (dq0 (dqB l me) (roomL l) (wu z)) ws = (q', ws', b) := hst
  have hc := fun r σ => aRStep27 r m p 1 _ ws σ (w4_fine h4 (by omega)) hst
  obtain ⟨u1, u2, u3, u4, u5, u6, u7, u8, u9⟩ := q'
  cases u5 with
  | true =>
    refine okF Tryz.func58 (by kernel_rfl) ?_
    refine LoadAt.mk 0 _ _ rfl rfl ?_
    refine .sched [] (upto [] 17 0) (by kernel_rfl) ?_
    refine LoadAt.mk 0 _ _ rfl rfl ?_
    refine LoadAt.mk 0 _ _ rfl rfl ?_
    first | exact absurd hd (by omega) | refine With.mk rfl ?_ | refine With.mk h1 ?_ | refine With.mk h2 ?_ | refine With.mk ⟨by decide, one_le_len z nx, Int.le_refl _, rfl⟩ ?_
    refine IdxF.mk z (by decide) rfl ?_
    (refine .mk [] _ (aRDequeOf w s l me _ node has _ out .nilp .nilp .nilp .nils ev jo false _ _ _ _) ?_; rintro _ _ ⟨rr, rfl, rfl⟩)
    refine StoreAt.mk 1 _ _ rfl rfl ?_
    refine LoadAt.mk 1 _ _ rfl rfl ?_
    refine callR [2, 3, 3] (hc _ _) ?_
    refine StoreAt.mk 3 _ _ rfl rfl ?_
    refine LoadAt.mk 3 _ _ rfl rfl ?_
    first | exact absurd hd (by omega) | refine With.mk rfl ?_ | refine With.mk h1 ?_ | refine With.mk h2 ?_ | refine With.mk ⟨by decide, one_le_len z nx, Int.le_refl _, rfl⟩ ?_
    refine StoreAt.mk 3 _ _ rfl rfl ?_
    refine callR [3] (aREdgeE w s l me _ node has nx _ out .nilp .nilp .nilp .nils ev jo false _ (drop_one z nx)) ?_
    first | exact .drop 1 1 (.done (rPostT (y := ⟨ev, jo, false, folDoes (z :: nx), .none, node, has, nx, out⟩) rfl (beg7 hd) (nw_push hp) hbe (rfl) rfl)) | exact .pull [3] (.drop 1 1 (.done (rPostT (y := ⟨ev, jo, false, folDoes (z :: nx), .none, node, has, nx, out⟩) rfl (beg7 hd) (nw_push hp) hbe (rfl) rfl)))
  | false =>
    refine okF Tryz.func58 (by kernel_rfl) ?_
    refine LoadAt.mk 0 _ _ rfl rfl ?_
    refine .sched [] (upto [] 17 0) (by kernel_rfl) ?_
    refine LoadAt.mk 0 _ _ rfl rfl ?_
    refine LoadAt.mk 0 _ _ rfl rfl ?_
    first | exact absurd hd (by omega) | refine With.mk rfl ?_ | refine With.mk h1 ?_ | refine With.mk h2 ?_ | refine With.mk ⟨by decide, one_le_len z nx, Int.le_refl _, rfl⟩ ?_
    refine IdxF.mk z (by decide) rfl ?_
    (refine .mk [] _ (aRDequeOf w s l me _ node has _ out .nilp .nilp .nilp .nils ev jo false _ _ _ _) ?_; rintro _ _ ⟨rr, rfl, rfl⟩)
    refine StoreAt.mk 1 _ _ rfl rfl ?_
    refine LoadAt.mk 1 _ _ rfl rfl ?_
    refine callR [2, 3, 3] (hc _ _) ?_
    exact .pull [3] (.done (rPostF (n' := .push ⟨u1, u2, u3, u4, false, u6, u7, u8, u9⟩) (ws' := ws') rr rfl (beg7 hd) (nw_push hp) hbe))
theorem aRBoard2 (w m p : Nat) (s : Sy) (l : Lay) (me ev jo does : Int)  (node : Int) (has : Bool) (nx out : List Int) (d : Int) (ws : List Int) (σ : Hp) (hd : does = 2)  :
    ACalls Tryz.prog 59 [.ptr w 0, .ptr m 0] ((w, rwC s l me does node has nx out .nilp .nilp .nilp .nils ev jo false) :: reH m p ws σ) (RPost s l me w m p ⟨ev, jo, false, does, .none, node, has, nx, out⟩ d ws σ) := by
  have hrt : rtStep ⟨4, 0, flagsL l, countL l, 0, false, false, false, 0⟩ ws = (⟨4, 0, flagsL l, countL l, 1, false, true, decide (mLoad ws (countL l) = 0), 0⟩, ws) := by simp [rtStep, wr_one]
  have hst : qkStep listOps ⟨flagsL l, countL l, false, false⟩ ws = (⟨flagsL l, countL l, decide (mLoad ws (countL l) = 0), true⟩, ws, true) := rfl
  cases hcs : decide (mLoad ws (countL l) = 0) with
  | true =>
    rw [hcs] at hrt hst
    refine okF Tryz.func59 (by kernel_rfl) ?_
    refine LoadAt.mk 0 _ _ rfl rfl ?_
    refine LoadAt.mk 0 _ _ rfl rfl ?_
    refine bcond_dec (fun c1 => ?_) (fun c1 => ?_)
    · have c1 : does = 2 := c1
      (refine .mk [] _ (aRTicketOf w s l me _ node has _ out .nilp .nilp .nilp .nils ev jo false _ _ _) ?_; rintro _ _ ⟨rr, rfl, rfl⟩)
      refine StoreAt.mk 1 _ _ rfl rfl ?_
      refine LoadAt.mk 1 _ _ rfl rfl ?_
      refine callR [2, 3, 3] (ofRtPost _ hrt) ?_
      refine LoadAt.mk 3 _ _ rfl rfl ?_
      refine StoreAt.mk 3 _ _ rfl rfl ?_
      refine LoadAt.mk 3 _ _ rfl rfl ?_
      refine bcond_dec (fun c2 => ?_) (fun c2 => ?_)
      · have c2 : does = 2 := c2
        refine LoadAt.mk 0 _ _ rfl rfl ?_
        refine StoreAt.mk 3 _ _ rfl rfl ?_
        refine callR [3] (aRIdle w s l me _ node has nx out .nilp .nilp .nilp .nils ev jo _ _ _) ?_
        first | exact .drop 1 1 (.done (rPostT (y := ⟨ev, jo, true, quiDoes l, .none, node, has, nx, out⟩) rfl (beg2 hd) (nw_quiet hst) rfl rfl rfl)) | exact .pull [3] (.drop 1 1 (.done (rPostT (y := ⟨ev, jo, true, quiDoes l, .none, node, has, nx, out⟩) rfl (beg2 hd) (nw_quiet hst) rfl rfl rfl)))
      · have c2 : ¬ (does = 2) := c2
        refine LoadAt.mk 3 _ _ rfl rfl ?_
        refine bcond_dec (fun c3 => ?_) (fun c3 => ?_)
        · have c3 : does = 3 := c3
          refine StoreAt.mk 3 _ _ rfl rfl ?_
          exact absurd hd (by omega)
        · have c3 : ¬ (does = 3) := c3
          refine LoadAt.mk 3 _ _ rfl rfl ?_
          refine bcond_dec (fun c4 => ?_) (fun c4 => ?_)
          · have c4 : does = 6 := c4
            refine LoadAt.mk 0 _ _ rfl rfl ?_
            refine LoadAt.mk 3 _ _ rfl rfl ?_
            refine bcond_dec (fun c5 => ?_) (fun c5 => ?_)
            · have c5 : does = 6 := c5
              refine LoadAt.mk 3 _ _ rfl rfl ?_
              first | exact absurd hd (by omega) | refine With.mk rfl ?_ | refine With.mk h1 ?_ | refine With.mk h2 ?_ | refine With.mk ⟨by decide, one_le_len z nx, Int.le_refl _, rfl⟩ ?_
            · have c5 : ¬ (does = 6) := c5
              refine StoreAt.mk 3 _ _ rfl rfl ?_
              refine StoreAt.mk 3 _ _ rfl rfl ?_
              exact absurd hd (by omega)
          · have c4 : ¬ (does = 6) := c4
            refine LoadAt.mk 3 _ _ rfl rfl ?_
            refine bcond_dec (fun c6 => ?_) (fun c6 => ?_)
            · have c6 : does = 6 := c6
              refine LoadAt.mk 3 _ _ rfl rfl ?_
              first | exact absurd hd (by omega) | refine With.mk rfl ?_ | refine With.mk h1 ?_ | refine With.mk h2 ?_ | refine With.mk ⟨by decide, one_le_len z nx, Int.le_refl _, rfl⟩ ?_
            · have c6 : ¬ (does = 6) := c6
              refine StoreAt.mk 3 _ _ rfl rfl ?_
              refine StoreAt.mk 3 _ _ rfl rfl ?_
              exact absurd hd (by omega)
    · have c1 : ¬ (does = 2) := c1
      refine LoadAt.mk 0 _ _ rfl rfl ?_
      refine bcond_dec (fun c7 => ?_) (fun c7 => ?_)
      · have c7 : does = 3 := c7
        exact absurd hd (by omega)
      · have c7 : ¬ (does = 3) := c7
        refine LoadAt.mk 0 _ _ rfl rfl ?_
        refine bcond_dec (fun c8 => ?_) (fun c8 => ?_)
        · have c8 : does = 6 := c8
          exact absurd hd (by omega)
        · have c8 : ¬ (does = 6) := c8
          exact absurd hd (by omega)
  | false =>
    rw [hcs] at hrt hst
    refine okF Tryz.func59 (by kernel_rfl) ?_
    refine LoadAt.mk 0 _ _ rfl rfl ?_
    refine LoadAt.mk 0 _ _ rfl rfl ?_
    refine bcond_dec (fun c1 => ?_) (fun c1 => ?_)
    · have c1 : does = 2 := c1
      (refine .mk [] _ (aRTicketOf w s l me _ node has _ out .nilp .nilp .nilp .nils ev jo false _ _ _) ?_; rintro _ _ ⟨rr, rfl, rfl⟩)
      refine StoreAt.mk 1 _ _ rfl rfl ?_
      refine LoadAt.mk 1 _ _ rfl rfl ?_
      refine callR [2, 3, 3] (ofRtPost _ hrt) ?_
      refine LoadAt.mk 3 _ _ rfl rfl ?_
      refine StoreAt.mk 3 _ _ rfl rfl ?_
      refine LoadAt.mk 3 _ _ rfl rfl ?_
      refine bcond_dec (fun c2 => ?_) (fun c2 => ?_)
      · have c2 : does = 2 := c2
        refine LoadAt.mk 0 _ _ rfl rfl ?_
        refine StoreAt.mk 3 _ _ rfl rfl ?_
        refine callR [3] (aRIdle w s l me _ node has nx out .nilp .nilp .nilp .nils ev jo _ _ _) ?_
        first | exact .drop 1 1 (.done (rPostT (y := ⟨ev, jo, false, quiDoes l, .none, node, has, nx, out⟩) rfl (beg2 hd) (nw_quiet hst) rfl rfl rfl)) | exact .pull [3] (.drop 1 1 (.done (rPostT (y := ⟨ev, jo, false, quiDoes l, .none, node, has, nx, out⟩) rfl (beg2 hd) (nw_quiet hst) rfl rfl rfl)))
      · have c2 : ¬ (does = 2) := c2
        refine LoadAt.mk 3 _ _ rfl rfl ?_
        refine bcond_dec (fun c3 => ?_) (fun c3 => ?_)
        · have c3 : does = 3 := c3
          refine StoreAt.mk 3 _ _ rfl rfl ?_
          exact absurd hd (by omega)
        · have c3 : ¬ (does = 3) := c3
          refine LoadAt.mk 3 _ _ rfl rfl ?_
          refine bcond_dec (fun c4 => ?_) (fun c4 => ?_)
          · have c4 : does = 6 := c4
            refine LoadAt.mk 0 _ _ rfl rfl ?_
            refine LoadAt.mk 3 _ _ rfl rfl ?_
            refine bcond_dec (fun c5 => ?_) (fun c5 => ?_)
            · have c5 : does = 6 := c5
              refine LoadAt.mk 3 _ _ rfl rfl ?_
              first | exact absurd hd (by omega) | refine With.mk rfl ?_ | refine With.mk h1 ?_ | refine With.mk h2 ?_ | refine With.mk ⟨by decide, one_le_len z nx, Int.le_refl _, rfl⟩ ?_
            · have c5 : ¬ (does = 6) := c5
              refine StoreAt.mk 3 _ _ rfl rfl ?_
              refine StoreAt.mk 3 _ _ rfl rfl ?_
              exact absurd hd (by omega)
          · have c4 : ¬ (does = 6) := c4
            refine LoadAt.mk 3 _ _ rfl rfl ?_
            refine bcond_dec (fun c6 => ?_) (fun c6 => ?_)
            · have c6 : does = 6 := c6
              refine LoadAt.mk 3 _ _ rfl rfl ?_
              first | exact absurd hd (by omega) | refine With.mk rfl ?_ | refine With.mk h1 ?_ | refine With.mk h2 ?_ | refine With.mk ⟨by decide, one_le_len z nx, Int.le_refl _, rfl⟩ ?_
            · have c6 : ¬ (does = 6) := c6
              refine StoreAt.mk 3 _ _ rfl rfl ?_
              refine StoreAt.mk 3 _ _ rfl rfl ?_
              exact absurd hd (by omega)
    · have c1 : ¬ (does = 2) := c1
      refine LoadAt.mk 0 _ _ rfl rfl ?_
      refine bcond_dec (fun c7 => ?_) (fun c7 => ?_)
      · have c7 : does = 3 := c7
        exact absurd hd (by omega)
      · have c7 : ¬ (does = 3) := c7
        refine LoadAt.mk 0 _ _ rfl rfl ?_
        refine bcond_dec (fun c8 => ?_) (fun c8 => ?_)
        · have c8 : does = 6 := c8
          exact absurd hd (by omega)
        · have c8 : ¬ (does = 6) := c8
          exact absurd hd (by omega)
theorem aRBoard3 (w m p : Nat) (s : Sy) (l : Lay) (me ev jo does : Int)  (node : Int) (has : Bool) (nx out : List Int) (d : Int) (ws : List Int) (σ : Hp) (hd : does = 3)  :
    ACalls Tryz.prog 59 [.ptr w 0, .ptr m 0] ((w, rwC s l me does node has nx out .nilp .nilp .nilp .nils ev jo false) :: reH m p ws σ) (RPost s l me w m p ⟨ev, jo, false, does, .none, node, has, nx, out⟩ d ws σ) := by
  have hrt : rtStep ⟨2, node, flagsL l, countL l, 0, false, false, false, 0⟩ ws = (⟨2, node, flagsL l, countL l, 1, false, true, false, 0⟩, if 0 ≤ node then mStore ws (wr (flagsL l + node)) 0 else ws) := by simp [rtStep, wr_one]
  refine okF Tryz.func59 (by kernel_rfl) ?_
  refine LoadAt.mk 0 _ _ rfl rfl ?_
  refine LoadAt.mk 0 _ _ rfl rfl ?_
  refine bcond_dec (fun c1 => ?_) (fun c1 => ?_)
  · have c1 : does = 2 := c1
    exact absurd hd (by omega)
  · have c1 : ¬ (does = 2) := c1
    refine LoadAt.mk 0 _ _ rfl rfl ?_
    refine bcond_dec (fun c2 => ?_) (fun c2 => ?_)
    · have c2 : does = 3 := c2
      refine .quiet (by kernel_rfl) ?_
      refine LoadAt.mk 0 _ _ rfl rfl ?_
      (refine .mk [] _ (aRTicketOf w s l me _ node has _ out .nilp .nilp .nilp .nils ev jo false _ _ _) ?_; rintro _ _ ⟨rr, rfl, rfl⟩)
      refine StoreAt.mk 1 _ _ rfl rfl ?_
      refine LoadAt.mk 1 _ _ rfl rfl ?_
      refine callR [2, 3, 3] (ofRtPost _ hrt) ?_
      refine LoadAt.mk 3 _ _ rfl rfl ?_
      refine StoreAt.mk 3 _ _ rfl rfl ?_
      refine LoadAt.mk 3 _ _ rfl rfl ?_
      refine bcond_dec (fun c3 => ?_) (fun c3 => ?_)
      · have c3 : does = 2 := c3
        refine LoadAt.mk 0 _ _ rfl rfl ?_
        refine StoreAt.mk 3 _ _ rfl rfl ?_
        exact absurd hd (by omega)
      · have c3 : ¬ (does = 2) := c3
        refine LoadAt.mk 3 _ _ rfl rfl ?_
        refine bcond_dec (fun c4 => ?_) (fun c4 => ?_)
        · have c4 : does = 3 := c4
          refine StoreAt.mk 3 _ _ rfl rfl ?_
          first | exact .drop 1 1 (.done (rPostT (y := ⟨ev, jo, false, 4, .none, node, has, nx, out⟩) rfl (beg3 hd) (nw_clear rfl) rfl rfl rfl)) | exact .pull [3] (.drop 1 1 (.done (rPostT (y := ⟨ev, jo, false, 4, .none, node, has, nx, out⟩) rfl (beg3 hd) (nw_clear rfl) rfl rfl rfl)))
        · have c4 : ¬ (does = 3) := c4
          refine LoadAt.mk 3 _ _ rfl rfl ?_
          refine bcond_dec (fun c5 => ?_) (fun c5 => ?_)
          · have c5 : does = 6 := c5
            refine LoadAt.mk 0 _ _ rfl rfl ?_
            refine LoadAt.mk 3 _ _ rfl rfl ?_
            refine bcond_dec (fun c6 => ?_) (fun c6 => ?_)
            · have c6 : does = 6 := c6
              refine LoadAt.mk 3 _ _ rfl rfl ?_
              first | exact absurd hd (by omega) | refine With.mk rfl ?_ | refine With.mk h1 ?_ | refine With.mk h2 ?_ | refine With.mk ⟨by decide, one_le_len z nx, Int.le_refl _, rfl⟩ ?_
            · have c6 : ¬ (does = 6) := c6
              refine StoreAt.mk 3 _ _ rfl rfl ?_
              refine StoreAt.mk 3 _ _ rfl rfl ?_
              exact absurd hd (by omega)
          · have c5 : ¬ (does = 6) := c5
            refine LoadAt.mk 3 _ _ rfl rfl ?_
            refine bcond_dec (fun c7 => ?_) (fun c7 => ?_)
            · have c7 : does = 6 := c7
              refine LoadAt.mk 3 _ _ rfl rfl ?_
              first | exact absurd hd (by omega) | refine With.mk rfl ?_ | refine With.mk h1 ?_ | refine With.mk h2 ?_ | refine With.mk ⟨by decide, one_le_len z nx, Int.le_refl _, rfl⟩ ?_
            · have c7 : ¬ (does = 6) := c7
              refine StoreAt.mk 3 _ _ rfl rfl ?_
              refine StoreAt.mk 3 _ _ rfl rfl ?_
              exact absurd hd (by omega)
    · have c2 : ¬ (does = 3) := c2
      refine LoadAt.mk 0 _ _ rfl rfl ?_
      refine bcond_dec (fun c8 => ?_) (fun c8 => ?_)
      · have c8 : does = 6 := c8
        exact absurd hd (by omega)
      · have c8 : ¬ (does = 6) := c8
        exact absurd hd (by omega)
theorem aRBoard8 (w m p : Nat) (s : Sy) (l : Lay) (me ev jo does : Int)  (node : Int) (has : Bool) (nx out : List Int) (d : Int) (ws : List Int) (σ : Hp) (hd : does = 8)  :
    ACalls Tryz.prog 59 [.ptr w 0, .ptr m 0] ((w, rwC s l me does node has nx out .nilp .nilp .nilp .nils ev jo false) :: reH m p ws σ) (RPost s l me w m p ⟨ev, jo, false, does, .none, node, has, nx, out⟩ d ws σ) := by
  have hrt : rtStep ⟨3, 0, flagsL l, countL l, 0, false, false, false, 0⟩ ws = (⟨3, 0, flagsL l, countL l, 1, false, true, false, wr (mSum ws (countL l) 18446744073709551615)⟩, mAddTo ws (countL l) 18446744073709551615) := by simp [rtStep, wr_one]
  refine okF Tryz.func59 (by kernel_rfl) ?_
  refine LoadAt.mk 0 _ _ rfl rfl ?_
  refine LoadAt.mk 0 _ _ rfl rfl ?_
  refine bcond_dec (fun c1 => ?_) (fun c1 => ?_)
  · have c1 : does = 2 := c1
    exact absurd hd (by omega)
  · have c1 : ¬ (does = 2) := c1
    refine LoadAt.mk 0 _ _ rfl rfl ?_
    refine bcond_dec (fun c2 => ?_) (fun c2 => ?_)
    · have c2 : does = 3 := c2
      exact absurd hd (by omega)
    · have c2 : ¬ (does = 3) := c2
      refine LoadAt.mk 0 _ _ rfl rfl ?_
      refine bcond_dec (fun c3 => ?_) (fun c3 => ?_)
      · have c3 : does = 6 := c3
        exact absurd hd (by omega)
      · have c3 : ¬ (does = 6) := c3
        (refine .mk [] _ (aRTicketOf w s l me _ node has _ out .nilp .nilp .nilp .nils ev jo false _ _ _) ?_; rintro _ _ ⟨rr, rfl, rfl⟩)
        refine StoreAt.mk 1 _ _ rfl rfl ?_
        refine LoadAt.mk 1 _ _ rfl rfl ?_
        refine callR [2, 3, 3] (ofRtPost _ hrt) ?_
        refine LoadAt.mk 3 _ _ rfl rfl ?_
        refine StoreAt.mk 3 _ _ rfl rfl ?_
        refine LoadAt.mk 3 _ _ rfl rfl ?_
        refine bcond_dec (fun c4 => ?_) (fun c4 => ?_)
        · have c4 : does = 2 := c4
          refine LoadAt.mk 0 _ _ rfl rfl ?_
          refine StoreAt.mk 3 _ _ rfl rfl ?_
          exact absurd hd (by omega)
        · have c4 : ¬ (does = 2) := c4
          refine LoadAt.mk 3 _ _ rfl rfl ?_
          refine bcond_dec (fun c5 => ?_) (fun c5 => ?_)
          · have c5 : does = 3 := c5
            refine StoreAt.mk 3 _ _ rfl rfl ?_
            exact absurd hd (by omega)
          · have c5 : ¬ (does = 3) := c5
            refine LoadAt.mk 3 _ _ rfl rfl ?_
            refine bcond_dec (fun c6 => ?_) (fun c6 => ?_)
            · have c6 : does = 6 := c6
              refine LoadAt.mk 0 _ _ rfl rfl ?_
              refine LoadAt.mk 3 _ _ rfl rfl ?_
              refine bcond_dec (fun c7 => ?_) (fun c7 => ?_)
              · have c7 : does = 6 := c7
                refine LoadAt.mk 3 _ _ rfl rfl ?_
                first | exact absurd hd (by omega) | refine With.mk rfl ?_ | refine With.mk h1 ?_ | refine With.mk h2 ?_ | refine With.mk ⟨by decide, one_le_len z nx, Int.le_refl _, rfl⟩ ?_
              · have c7 : ¬ (does = 6) := c7
                refine StoreAt.mk 3 _ _ rfl rfl ?_
                refine StoreAt.mk 3 _ _ rfl rfl ?_
                exact absurd hd (by omega)
            · have c6 : ¬ (does = 6) := c6
              refine LoadAt.mk 3 _ _ rfl rfl ?_
              refine bcond_dec (fun c8 => ?_) (fun c8 => ?_)
              · have c8 : does = 6 := c8
                refine LoadAt.mk 3 _ _ rfl rfl ?_
                first | exact absurd hd (by omega) | refine With.mk rfl ?_ | refine With.mk h1 ?_ | refine With.mk h2 ?_ | refine With.mk ⟨by decide, one_le_len z nx, Int.le_refl _, rfl⟩ ?_
              · have c8 : ¬ (does = 6) := c8
                refine StoreAt.mk 3 _ _ rfl rfl ?_
                refine StoreAt.mk 3 _ _ rfl rfl ?_
                first | exact .drop 1 1 (.done (rPostT (y := ⟨ev, jo, false, 0, .none, node, false, nx, out⟩) rfl (beg8h hd) (nw_retire rfl) rfl rfl rfl)) | exact .pull [3] (.drop 1 1 (.done (rPostT (y := ⟨ev, jo, false, 0, .none, node, false, nx, out⟩) rfl (beg8h hd) (nw_retire rfl) rfl rfl rfl)))
theorem aRBoard6G (w r m p : Nat) (s : Sy) (l : Lay) (me ev jo does : Int) (z : Int) (node : Int) (has : Bool) (nx out : List Int) (d : Int) (ws : List Int) (σ : Hp) (hd : does = 6)  :
    ACalls Tryz.prog 59 [.ptr w 0, .ptr m 0] ((w, rwC s l me does node has (z :: nx) out .nilp (.ptr r 0) .nilp .nils ev jo false) :: (r, rtC ⟨1, z, flagsL l, countL l, 1, true, false, false, 0⟩) :: reH m p ws σ) (RPost s l me w m p ⟨ev, jo, false, does, (.take ⟨flagsL l, countL l, z, true, false, true⟩), node, has, z :: nx, out⟩ d ws σ) := by
  have hrt : rtStep ⟨1, z, flagsL l, countL l, 1, true, false, false, 0⟩ ws = (⟨1, z, flagsL l, countL l, 2, true, true, false, 0⟩, mAddTo ws (countL l) 1) := by simp [rtStep, wr_one]
  refine okF Tryz.func59 (by kernel_rfl) ?_
  refine LoadAt.mk 0 _ _ rfl rfl ?_
  refine LoadAt.mk 0 _ _ rfl rfl ?_
  refine callR [3, 3, 3] (ofRtPost _ hrt) ?_
  refine LoadAt.mk 3 _ _ rfl rfl ?_
  refine StoreAt.mk 3 _ _ rfl rfl ?_
  refine LoadAt.mk 3 _ _ rfl rfl ?_
  refine bcond_dec (fun c1 => ?_) (fun c1 => ?_)
  · have c1 : does = 2 := c1
    refine LoadAt.mk 0 _ _ rfl rfl ?_
    refine StoreAt.mk 3 _ _ rfl rfl ?_
    exact absurd hd (by omega)
  · have c1 : ¬ (does = 2) := c1
    refine LoadAt.mk 3 _ _ rfl rfl ?_
    refine bcond_dec (fun c2 => ?_) (fun c2 => ?_)
    · have c2 : does = 3 := c2
      refine StoreAt.mk 3 _ _ rfl rfl ?_
      exact absurd hd (by omega)
    · have c2 : ¬ (does = 3) := c2
      refine LoadAt.mk 3 _ _ rfl rfl ?_
      refine bcond_dec (fun c3 => ?_) (fun c3 => ?_)
      · have c3 : does = 6 := c3
        refine LoadAt.mk 0 _ _ rfl rfl ?_
        refine StoreAt.mk 3 _ _ rfl rfl ?_
        first | exact .drop 1 1 (.done (rPostT (y := ⟨ev, jo, false, 7, .none, node, has, z :: nx, out⟩) rfl rfl (nw_take rfl) rfl (beh_takeT rfl) rfl)) | exact .pull [3] (.drop 1 1 (.done (rPostT (y := ⟨ev, jo, false, 7, .none, node, has, z :: nx, out⟩) rfl rfl (nw_take rfl) rfl (beh_takeT rfl) rfl)))
      · have c3 : ¬ (does = 6) := c3
        refine LoadAt.mk 3 _ _ rfl rfl ?_
        refine bcond_dec (fun c4 => ?_) (fun c4 => ?_)
        · have c4 : does = 6 := c4
          refine LoadAt.mk 3 _ _ rfl rfl ?_
          first | exact absurd hd (by omega) | refine With.mk rfl ?_ | refine With.mk h1 ?_ | refine With.mk h2 ?_ | refine With.mk ⟨by decide, one_le_len z nx, Int.le_refl _, rfl⟩ ?_
        · have c4 : ¬ (does = 6) := c4
          refine StoreAt.mk 3 _ _ rfl rfl ?_
          refine StoreAt.mk 3 _ _ rfl rfl ?_
          exact absurd hd (by omega)
theorem aRBoard6N (w m p : Nat) (s : Sy) (l : Lay) (me ev jo does : Int) (z : Int) (node : Int) (has : Bool) (nx out : List Int) (d : Int) (ws : List Int) (σ : Hp) (hd : does = 6) (h0 : 0 ≤ z) :
    ACalls Tryz.prog 59 [.ptr w 0, .ptr m 0] ((w, rwC s l me does node has (z :: nx) out .nilp .nilp .nilp .nils ev jo false) :: reH m p ws σ) (RPost s l me w m p ⟨ev, jo, false, does, .none, node, has, z :: nx, out⟩ d ws σ) := by
  have hrt : rtStep ⟨1, z, flagsL l, countL l, 0, false, false, false, 0⟩ ws = (⟨1, z, flagsL l, countL l, 1, mCas ws (wr (flagsL l + z)) 0, !mCas ws (wr (flagsL l + z)) 0, false, 0⟩, mCasTo ws (wr (flagsL l + z)) 0 1) := by simp [rtStep, wr_one, h0]
  have hst : tkStep listOps ⟨flagsL l, countL l, z, false, false, false⟩ ws = (if mCas ws (wr (flagsL l + z)) 0 = true then (⟨flagsL l, countL l, z, true, false, true⟩, mCasTo ws (wr (flagsL l + z)) 0 1, false) else (⟨flagsL l, countL l, z, false, true, true⟩, mCasTo ws (wr (flagsL l + z)) 0 1, true)) := by simp [tkStep, h0]
  cases hcs : mCas ws (wr (flagsL l + z)) 0 with
  | true =>
    rw [hcs] at hrt hst
    refine okF Tryz.func59 (by kernel_rfl) ?_
    refine LoadAt.mk 0 _ _ rfl rfl ?_
    refine LoadAt.mk 0 _ _ rfl rfl ?_
    refine bcond_dec (fun c1 => ?_) (fun c1 => ?_)
    · have c1 : does = 2 := c1
      exact absurd hd (by omega)
    · have c1 : ¬ (does = 2) := c1
      refine LoadAt.mk 0 _ _ rfl rfl ?_
      refine bcond_dec (fun c2 => ?_) (fun c2 => ?_)
      · have c2 : does = 3 := c2
        exact absurd hd (by omega)
      · have c2 : ¬ (does = 3) := c2
        refine LoadAt.mk 0 _ _ rfl rfl ?_
        refine bcond_dec (fun c3 => ?_) (fun c3 => ?_)
        · have c3 : does = 6 := c3
          refine .quiet (by kernel_rfl) ?_
          refine LoadAt.mk 0 _ _ rfl rfl ?_
          first | exact absurd hd (by omega) | refine With.mk rfl ?_ | refine With.mk h1 ?_ | refine With.mk h2 ?_ | refine With.mk ⟨by decide, one_le_len z nx, Int.le_refl _, rfl⟩ ?_
          refine IdxF.mk z (by decide) rfl ?_
          (refine .mk [] _ (aRTicketOf w s l me _ node has _ out .nilp .nilp .nilp .nils ev jo false _ _ _) ?_; rintro _ _ ⟨rr, rfl, rfl⟩)
          refine StoreAt.mk 1 _ _ rfl rfl ?_
          refine LoadAt.mk 1 _ _ rfl rfl ?_
          refine callR [2, 3, 3] (ofRtPost _ hrt) ?_
          exact .pull [3] (.done (rPostF (n' := .take ⟨flagsL l, countL l, z, true, false, true⟩) (ws' := mCasTo ws (wr (flagsL l + z)) 0 1) rr rfl (beg6 hd) (nw_take (hst.trans (if_pos rfl))) rfl))
        · have c3 : ¬ (does = 6) := c3
          exact absurd hd (by omega)
  | false =>
    rw [hcs] at hrt hst
    refine okF Tryz.func59 (by kernel_rfl) ?_
    refine LoadAt.mk 0 _ _ rfl rfl ?_
    refine LoadAt.mk 0 _ _ rfl rfl ?_
    refine bcond_dec (fun c1 => ?_) (fun c1 => ?_)
    · have c1 : does = 2 := c1
      exact absurd hd (by omega)
    · have c1 : ¬ (does = 2) := c1
      refine LoadAt.mk 0 _ _ rfl rfl ?_
      refine bcond_dec (fun c2 => ?_) (fun c2 => ?_)
      · have c2 : does = 3 := c2
        exact absurd hd (by omega)
      · have c2 : ¬ (does = 3) := c2
        refine LoadAt.mk 0 _ _ rfl rfl ?_
        refine bcond_dec (fun c3 => ?_) (fun c3 => ?_)
        · have c3 : does = 6 := c3
          refine .quiet (by kernel_rfl) ?_
          refine LoadAt.mk 0 _ _ rfl rfl ?_
          first | exact absurd hd (by omega) | refine With.mk rfl ?_ | refine With.mk h1 ?_ | refine With.mk h2 ?_ | refine With.mk ⟨by decide, one_le_len z nx, Int.le_refl _, rfl⟩ ?_
          refine IdxF.mk z (by decide) rfl ?_
          (refine .mk [] _ (aRTicketOf w s l me _ node has _ out .nilp .nilp .nilp .nils ev jo false _ _ _) ?_; rintro _ _ ⟨rr, rfl, rfl⟩)
          refine StoreAt.mk 1 _ _ rfl rfl ?_
          refine LoadAt.mk 1 _ _ rfl rfl ?_
          refine callR [2, 3, 3] (ofRtPost _ hrt) ?_
          refine LoadAt.mk 3 _ _ rfl rfl ?_
          refine StoreAt.mk 3 _ _ rfl rfl ?_
          refine LoadAt.mk 3 _ _ rfl rfl ?_
          refine bcond_dec (fun c4 => ?_) (fun c4 => ?_)
          · have c4 : does = 2 := c4
            refine LoadAt.mk 0 _ _ rfl rfl ?_
            refine StoreAt.mk 3 _ _ rfl rfl ?_
            exact absurd hd (by omega)
          · have c4 : ¬ (does = 2) := c4
            refine LoadAt.mk 3 _ _ rfl rfl ?_
            refine bcond_dec (fun c5 => ?_) (fun c5 => ?_)
            · have c5 : does = 3 := c5
              refine StoreAt.mk 3 _ _ rfl rfl ?_
              exact absurd hd (by omega)
            · have c5 : ¬ (does = 3) := c5
              refine LoadAt.mk 3 _ _ rfl rfl ?_
              refine bcond_dec (fun c6 => ?_) (fun c6 => ?_)
              · have c6 : does = 6 := c6
                refine LoadAt.mk 0 _ _ rfl rfl ?_
                refine LoadAt.mk 3 _ _ rfl rfl ?_
                refine bcond_dec (fun c7 => ?_) (fun c7 => ?_)
                · have c7 : does = 6 := c7
                  refine LoadAt.mk 3 _ _ rfl rfl ?_
                  first | exact absurd hd (by omega) | refine With.mk rfl ?_ | refine With.mk h1 ?_ | refine With.mk h2 ?_ | refine With.mk ⟨by decide, one_le_len z nx, Int.le_refl _, rfl⟩ ?_
                  refine StoreAt.mk 3 _ _ rfl rfl ?_
                  refine callR [3] (aREdgeE w s l me _ node has nx _ out .nilp .nilp .nilp .nils ev jo false _ (drop_one z nx)) ?_
                  first | exact .drop 1 1 (.done (rPostT (y := ⟨ev, jo, false, folDoes (z :: nx), .none, node, has, nx, out⟩) rfl (beg6 hd) (nw_take (hst.trans (if_neg Bool.false_ne_true))) rfl (beh_takeF rfl) rfl)) | exact .pull [3] (.drop 1 1 (.done (rPostT (y := ⟨ev, jo, false, folDoes (z :: nx), .none, node, has, nx, out⟩) rfl (beg6 hd) (nw_take (hst.trans (if_neg Bool.false_ne_true))) rfl (beh_takeF rfl) rfl)))
                · have c7 : ¬ (does = 6) := c7
                  refine StoreAt.mk 3 _ _ rfl rfl ?_
                  refine StoreAt.mk 3 _ _ rfl rfl ?_
                  exact absurd hd (by omega)
              · have c6 : ¬ (does = 6) := c6
                refine LoadAt.mk 3 _ _ rfl rfl ?_
                refine bcond_dec (fun c8 => ?_) (fun c8 => ?_)
                · have c8 : does = 6 := c8
                  refine LoadAt.mk 3 _ _ rfl rfl ?_
                  first | exact absurd hd (by omega) | refine With.mk rfl ?_ | refine With.mk h1 ?_ | refine With.mk h2 ?_ | refine With.mk ⟨by decide, one_le_len z nx, Int.le_refl _, rfl⟩ ?_
                · have c8 : ¬ (does = 6) := c8
                  refine StoreAt.mk 3 _ _ rfl rfl ?_
                  refine StoreAt.mk 3 _ _ rfl rfl ?_
                  exact absurd hd (by omega)
        · have c3 : ¬ (does = 6) := c3
          exact absurd hd (by omega)
theorem aRJoinG (w r m p : Nat) (s : Sy) (l : Lay) (me ev jo does : Int) (j : Jn) (z : Int) (node : Int) (has : Bool) (nx out : List Int) (d : Int) (ws : List Int) (σ : Hp)  (hj : Jn.ok (j)) (hw : A64 ws) :
    ACalls Tryz.prog 57 [.ptr w 0, .ptr m 0] ((w, rwC s l me does node has (z :: nx) out .nilp .nilp (.ptr r 0) .nils ev jo false) :: (r, rjC j) :: reH m p ws σ) (RPost s l me w m p ⟨ev, jo, false, does, (.join j), node, has, z :: nx, out⟩ d ws σ) := by
  obtain ⟨j', ws', b, hst⟩ : ∃ j' ws' b, jnStep listOps (j) ws = (j', ws', b) := ⟨_, _, _, rfl⟩
  cases b with
  | true =>
    obtain ⟨u1, u2, u3, u4, u5, u6, u7, u8, u9, u10⟩ := j'
    cases u5 with
    | true =>
      refine okF Tryz.func57 (by kernel_rfl) ?_
      refine LoadAt.mk 0 _ _ rfl rfl ?_
      refine LoadAt.mk 0 _ _ rfl rfl ?_
      refine callR [3, 3, 3] (aRJ _ m p (j) ws _ hj hw hst) ?_
      refine LoadAt.mk 3 _ _ rfl rfl ?_
      refine StoreAt.mk 3 _ _ rfl rfl ?_
      refine LoadAt.mk 0 _ _ rfl rfl ?_
      refine LoadAt.mk 3 _ _ rfl rfl ?_
      refine StoreAt.mk 3 _ _ rfl rfl ?_
      refine StoreAt.mk 3 _ _ rfl rfl ?_
      first | exact .drop 1 1 (.done (rPostT (y := ⟨ev, wr (jo + 1), false, 6, .none, node, has, z :: nx, out⟩) rfl rfl (nw_join hst) rfl (beh_joinT rfl) rfl)) | exact .pull [3] (.drop 1 1 (.done (rPostT (y := ⟨ev, wr (jo + 1), false, 6, .none, node, has, z :: nx, out⟩) rfl rfl (nw_join hst) rfl (beh_joinT rfl) rfl)))
    | false =>
      refine okF Tryz.func57 (by kernel_rfl) ?_
      refine LoadAt.mk 0 _ _ rfl rfl ?_
      refine LoadAt.mk 0 _ _ rfl rfl ?_
      refine callR [3, 3, 3] (aRJ _ m p (j) ws _ hj hw hst) ?_
      refine LoadAt.mk 3 _ _ rfl rfl ?_
      refine StoreAt.mk 3 _ _ rfl rfl ?_
      refine LoadAt.mk 0 _ _ rfl rfl ?_
      refine LoadAt.mk 3 _ _ rfl rfl ?_
      first | exact absurd hd (by omega) | refine With.mk rfl ?_ | refine With.mk h1 ?_ | refine With.mk h2 ?_ | refine With.mk ⟨by decide, one_le_len z nx, Int.le_refl _, rfl⟩ ?_
      refine StoreAt.mk 3 _ _ rfl rfl ?_
      refine callR [3] (aREdgeE w s l me _ node has nx _ out .nilp .nilp .nilp .nils ev jo false _ (drop_one z nx)) ?_
      first | exact .drop 1 1 (.done (rPostT (y := ⟨ev, jo, false, folDoes (z :: nx), .none, node, has, nx, out⟩) rfl rfl (nw_join hst) rfl (beh_joinF rfl) rfl)) | exact .pull [3] (.drop 1 1 (.done (rPostT (y := ⟨ev, jo, false, folDoes (z :: nx), .none, node, has, nx, out⟩) rfl rfl (nw_join hst) rfl (beh_joinF rfl) rfl)))
  | false =>
    refine okF Tryz.func57 (by kernel_rfl) ?_
    refine LoadAt.mk 0 _ _ rfl rfl ?_
    refine LoadAt.mk 0 _ _ rfl rfl ?_
    refine callR [3, 3, 3] (aRJ _ m p (j) ws _ hj hw hst) ?_
    exact .pull [3] (.done (rPostF (n' := .join j') (ws' := ws') r rfl rfl (nw_join hst) rfl))
theorem aRJoinN (w m p : Nat) (s : Sy) (l : Lay) (me ev jo does : Int) (z : Int) (node : Int) (has : Bool) (nx out : List Int) (d : Int) (ws : List Int) (σ : Hp) (hd : does = 5) (hj : Jn.ok (⟨cellB l z, l.what, l.words, out, false, false, 0, 0, false, 0⟩)) (hw : A64 ws) :
    ACalls Tryz.prog 57 [.ptr w 0, .ptr m 0] ((w, rwC s l me does node has (z :: nx) out .nilp .nilp .nilp .nils ev jo false) :: reH m p ws σ) (RPost s l me w m p ⟨ev, jo, false, does, .none, node, has, z :: nx, out⟩ d ws σ) := by
  obtain ⟨j', ws', b, hst⟩ : ∃ j' ws' b, jnStep listOps (⟨cellB l z, l.what, l.words, out, false, false, 0, 0, false, 0⟩) ws = (j', ws', b) := ⟨_, _, _, rfl⟩
  cases b with
  | true =>
    obtain ⟨u1, u2, u3, u4, u5, u6, u7, u8, u9, u10⟩ := j'
    cases u5 with
    | true =>
      refine okF Tryz.func57 (by kernel_rfl) ?_
      refine LoadAt.mk 0 _ _ rfl rfl ?_
      refine .sched [] (upto [] 32 0) (by kernel_rfl) ?_
      refine LoadAt.mk 0 _ _ rfl rfl ?_
      first | exact absurd hd (by omega) | refine With.mk rfl ?_ | refine With.mk h1 ?_ | refine With.mk h2 ?_ | refine With.mk ⟨by decide, one_le_len z nx, Int.le_refl _, rfl⟩ ?_
      refine IdxF.mk z (by decide) rfl ?_
      refine LoadAt.mk 0 _ _ rfl rfl ?_
      refine LoadAt.mk 0 _ _ rfl rfl ?_
      refine LoadAt.mk 0 _ _ rfl rfl ?_
      refine LoadAt.mk 0 _ _ rfl rfl ?_
      intro bl1
      refine StoreAt.mk 1 _ _ rfl rfl ?_
      refine LoadAt.mk 1 _ _ rfl rfl ?_
      refine callR [2, 3, 3] (aRJ _ m p (⟨cellB l z, l.what, l.words, out, false, false, 0, 0, false, 0⟩) ws _ hj hw hst) ?_
      refine LoadAt.mk 3 _ _ rfl rfl ?_
      refine StoreAt.mk 3 _ _ rfl rfl ?_
      refine LoadAt.mk 0 _ _ rfl rfl ?_
      refine LoadAt.mk 3 _ _ rfl rfl ?_
      refine StoreAt.mk 3 _ _ rfl rfl ?_
      refine StoreAt.mk 3 _ _ rfl rfl ?_
      first | exact .drop 1 1 (.done (rPostT (y := ⟨ev, wr (jo + 1), false, 6, .none, node, has, z :: nx, out⟩) rfl (beg5 hd) (nw_join hst) rfl (beh_joinT rfl) rfl)) | exact .pull [3] (.drop 1 1 (.done (rPostT (y := ⟨ev, wr (jo + 1), false, 6, .none, node, has, z :: nx, out⟩) rfl (beg5 hd) (nw_join hst) rfl (beh_joinT rfl) rfl)))
    | false =>
      refine okF Tryz.func57 (by kernel_rfl) ?_
      refine LoadAt.mk 0 _ _ rfl rfl ?_
      refine .sched [] (upto [] 32 0) (by kernel_rfl) ?_
      refine LoadAt.mk 0 _ _ rfl rfl ?_
      first | exact absurd hd (by omega) | refine With.mk rfl ?_ | refine With.mk h1 ?_ | refine With.mk h2 ?_ | refine With.mk ⟨by decide, one_le_len z nx, Int.le_refl _, rfl⟩ ?_
      refine IdxF.mk z (by decide) rfl ?_
      refine LoadAt.mk 0 _ _ rfl rfl ?_
      refine LoadAt.mk 0 _ _ rfl rfl ?_
      refine LoadAt.mk 0 _ _ rfl rfl ?_
      refine LoadAt.mk 0 _ _ rfl rfl ?_
      intro bl1
      refine StoreAt.mk 1 _ _ rfl rfl ?_
      refine LoadAt.mk 1 _ _ rfl rfl ?_
      refine callR [2, 3, 3] (aRJ _ m p (⟨cellB l z, l.what, l.words, out, false, false, 0, 0, false, 0⟩) ws _ hj hw hst) ?_
      refine LoadAt.mk 3 _ _ rfl rfl ?_
      refine StoreAt.mk 3 _ _ rfl rfl ?_
      refine LoadAt.mk 0 _ _ rfl rfl ?_
      refine LoadAt.mk 3 _ _ rfl rfl ?_
      first | exact absurd hd (by omega) | refine With.mk rfl ?_ | refine With.mk h1 ?_ | refine With.mk h2 ?_ | refine With.mk ⟨by decide, one_le_len z nx, Int.le_refl _, rfl⟩ ?_
      refine StoreAt.mk 3 _ _ rfl rfl ?_
      refine callR [3] (aREdgeE w s l me _ node has nx _ out .nilp .nilp .nilp .nils ev jo false _ (drop_one z nx)) ?_
      first | exact .drop 1 1 (.done (rPostT (y := ⟨ev, jo, false, folDoes (z :: nx), .none, node, has, nx, out⟩) rfl (beg5 hd) (nw_join hst) rfl (beh_joinF rfl) rfl)) | exact .pull [3] (.drop 1 1 (.done (rPostT (y := ⟨ev, jo, false, folDoes (z :: nx), .none, node, has, nx, out⟩) rfl (beg5 hd) (nw_join hst) rfl (beh_joinF rfl) rfl)))
  | false =>
    refine okF Tryz.func57 (by kernel_rfl) ?_
    refine LoadAt.mk 0 _ _ rfl rfl ?_
    refine .sched [] (upto [] 32 0) (by kernel_rfl) ?_
    refine LoadAt.mk 0 _ _ rfl rfl ?_
    first | exact absurd hd (by omega) | refine With.mk rfl ?_ | refine With.mk h1 ?_ | refine With.mk h2 ?_ | refine With.mk ⟨by decide, one_le_len z nx, Int.le_refl _, rfl⟩ ?_
    refine IdxF.mk z (by decide) rfl ?_
    refine LoadAt.mk 0 _ _ rfl rfl ?_
    refine LoadAt.mk 0 _ _ rfl rfl ?_
    refine LoadAt.mk 0 _ _ rfl rfl ?_
    refine LoadAt.mk 0 _ _ rfl rfl ?_
    intro bl1
    refine StoreAt.mk 1 _ _ rfl rfl ?_
    refine LoadAt.mk 1 _ _ rfl rfl ?_
    refine callR [2, 3, 3] (aRJ _ m p (⟨cellB l z, l.what, l.words, out, false, false, 0, 0, false, 0⟩) ws _ hj hw hst) ?_
    exact .pull [3] (.done (rPostF (n' := .join j') (ws' := ws') bl1 rfl (beg5 hd) (nw_join hst) rfl))
end Go.Proofs.YtegpahamenjiaaaGreat
