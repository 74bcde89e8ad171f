/-
  Kc: what the claim uses of them.
-/
import Derived.Test.YtegpahamenjiaaaGreatBn38
namespace Go.Proofs.YtegpahamenjiaaaGreat
open Go.RowKit
set_option maxRecDepth 100000
/-- The machine's value, whose block is r. -/
def nwV (r : Nat) : Nw → AV
  | .none => .nilif
  | .pop _ => .iface 148 (.ptr r 0)
  | .steal _ => .iface 153 (.ptr r 0)
  | .quiet _ => .iface 155 (.ptr r 0)
  | .clear _ => .iface 158 (.ptr r 0)
  | .read _ => .iface 161 (.ptr r 0)
  | .join _ => .iface 169 (.ptr r 0)
  | .take _ => .iface 172 (.ptr r 0)
  | .push _ => .iface 177 (.ptr r 0)
  | .retire _ => .iface 179 (.ptr r 0)
/-- Its blocks; c, acc: the list that a Read makes. -/
def nwB (l : Lay) (node : Int) (r : Nat) (c : AV) (acc : Hp) : Nw → Hp
  | .none => []
  | .pop q => [(r, dqC q)]
  | .steal q => [(r, dqC q)]
  | .quiet t => [(r, qkC t)]
  | .clear t => [(r, ckC t)]
  | .read x => (r, rdC c (cellB l node) l.what l.words false x.length false 0) :: acc
  | .join j => [(r, jnC j)]
  | .take t => [(r, tkC t)]
  | .push q => [(r, dqC q)]
  | .retire t => [(r, rkC t)]
def dq0 (base cap n : Int) : DQ := ⟨base, cap, n, false, false, 0, 0, 0, 0⟩
/-- The machine for what a worker does. -/
def begW (l : Lay) (who does node : Int) (nx out : List Int) (d : Int) : Nw :=
  if does = 0 then .pop (dq0 (dqB l who) (roomL l) 0)
  else if does = 1 then .steal (dq0 (dqB l (victimW l who d)) (roomL l) 0)
  else if does = 2 then .quiet ⟨flagsL l, countL l, false, false⟩
  else if does = 3 then .clear ⟨flagsL l, countL l, node, false⟩
  else if does = 4 then .read []
  else if does = 5 then .join ⟨cellB l (nx.headD 0), l.what, l.words, out, false, false, 0, 0, false, 0⟩
  else if does = 6 then .take ⟨flagsL l, countL l, nx.headD 0, false, false, false⟩
  else if does = 7 then .push (dq0 (dqB l who) (roomL l) (wu (nx.headD 0)))
  else .retire ⟨flagsL l, countL l, 0, false⟩
theorem beg0 {l : Lay} {who does node d : Int} {nx out : List Int} (h : does = 0) : begW l who does node nx out d = .pop (dq0 (dqB l who) (roomL l) 0) := by subst h; rfl
theorem beg1 {l : Lay} {who does node d : Int} {nx out : List Int} (h : does = 1) : begW l who does node nx out d = .steal (dq0 (dqB l (victimW l who d)) (roomL l) 0) := by subst h; rfl
theorem beg2 {l : Lay} {who does node d : Int} {nx out : List Int} (h : does = 2) : begW l who does node nx out d = .quiet ⟨flagsL l, countL l, false, false⟩ := by subst h; rfl
theorem beg3 {l : Lay} {who does node d : Int} {nx out : List Int} (h : does = 3) : begW l who does node nx out d = .clear ⟨flagsL l, countL l, node, false⟩ := by subst h; rfl
theorem beg4 {l : Lay} {who does node d : Int} {nx out : List Int} (h : does = 4) : begW l who does node nx out d = .read [] := by subst h; rfl
theorem beg5 {l : Lay} {who does node d : Int} {nx out : List Int} (h : does = 5) : begW l who does node nx out d = .join ⟨cellB l (nx.headD 0), l.what, l.words, out, false, false, 0, 0, false, 0⟩ := by subst h; rfl
theorem beg6 {l : Lay} {who does node d : Int} {nx out : List Int} (h : does = 6) : begW l who does node nx out d = .take ⟨flagsL l, countL l, nx.headD 0, false, false, false⟩ := by subst h; rfl
theorem beg7 {l : Lay} {who does node d : Int} {nx out : List Int} (h : does = 7) : begW l who does node nx out d = .push (dq0 (dqB l who) (roomL l) (wu (nx.headD 0))) := by subst h; rfl
theorem beg8 {l : Lay} {who does node d : Int} {nx out : List Int} (h0 : ¬ does = 0) (h1 : ¬ does = 1) (h2 : ¬ does = 2) (h3 : ¬ does = 3) (h4 : ¬ does = 4) (h5 : ¬ does = 5) (h6 : ¬ does = 6) (h7 : ¬ does = 7) : begW l who does node nx out d = .retire ⟨flagsL l, countL l, 0, false⟩ := by
  unfold begW; rw [if_neg h0, if_neg h1, if_neg h2, if_neg h3, if_neg h4, if_neg h5, if_neg h6, if_neg h7]
theorem head_some {nx : List Int} (h : 0 < nx.length) : nx[((0 : Int)).toNat]? = some (nx.headD 0) := by
  cases nx with
  | nil => simp at h
  | cons z nx => rfl
theorem aBegin (w : Nat) (s : Sy) (l : Lay) (who ev jo : Int) (en : Bool) (does : Int) (nv : AV) (node : Int) (has : Bool) (nx out : List Int) (d : Int) (σ : Hp) (hx : does = 5 ∨ does = 6 ∨ does = 7 → 0 < nx.length) (h1 : does = 1 → nK l ≠ 0 ∧ l.k ≠ 0) : ACalls Tryz.prog 48 [.ptr w 0, .int .i64 d] ((w, wkC s l who ev jo en does nv node has nx out) :: σ) (fun x σ' => ∃ r, x = nwV r (begW l who does node nx out d) ∧ σ' = nwB l node r .nils [] (begW l who does node nx out d) ++ ((w, wkC s l who ev jo en does nv node has nx out) :: σ)) := by
  refine okF Tryz.func48 (by kernel_rfl) ?_
  refine LoadAt.mk 0 _ _ rfl rfl ?_
  refine callR [] (aLBoard l _) ?_
  intro bl1
  refine StoreAt.mk 0 _ _ rfl rfl ?_
  refine LoadAt.mk 1 _ _ rfl rfl ?_
  refine bcond_dec (fun c2 => ?_) (fun c2 => ?_)
  · have c2 : does = 0 := c2
    refine .sched [8] (upto [8] 13 0) (by kernel_rfl) ?_
    refine LoadAt.mk 1 _ _ rfl rfl ?_
    refine LoadAt.mk 1 _ _ rfl rfl ?_
    refine callQ [] (aLDeque l _ _) ?_
    intro bl3
    exact .drop 1 1 (.done ⟨_, by rw [beg0 (by assumption)]; rfl, by rw [beg0 (by assumption)]; rfl⟩)
  · have c2 : ¬ (does = 0) := c2
    refine bcond_dec (fun c4 => ?_) (fun c4 => ?_)
    · have c4 : does = 1 := c4
      refine .sched [6, 7] (upto [6, 7] 12 0) (by kernel_rfl) ?_
      refine LoadAt.mk 1 _ _ rfl rfl ?_
      refine callQ [1] (aVictim w s l who ev jo en does nv node has nx out d _ (h1 (by assumption)).1 (h1 (by assumption)).2) ?_
      refine callQ [] (aLDeque l _ _) ?_
      intro bl5
      exact .drop 1 1 (.done ⟨_, by rw [beg1 (by assumption)]; rfl, by rw [beg1 (by assumption)]; rfl⟩)
    · have c4 : ¬ (does = 1) := c4
      refine bcond_dec (fun c6 => ?_) (fun c6 => ?_)
      · have c6 : does = 2 := c6
        refine LoadAt.mk 0 _ _ rfl rfl ?_
        intro bl7
        exact .drop 1 1 (.done ⟨_, by rw [beg2 (by assumption)]; rfl, by rw [beg2 (by assumption)]; rfl⟩)
      · have c6 : ¬ (does = 2) := c6
        refine bcond_dec (fun c8 => ?_) (fun c8 => ?_)
        · have c8 : does = 3 := c8
          refine .sched [] (upto [] 9 0) (by kernel_rfl) ?_
          refine LoadAt.mk 0 _ _ rfl rfl ?_
          refine LoadAt.mk 1 _ _ rfl rfl ?_
          intro bl9
          exact .drop 1 1 (.done ⟨_, by rw [beg3 (by assumption)]; rfl, by rw [beg3 (by assumption)]; rfl⟩)
        · have c8 : ¬ (does = 3) := c8
          refine bcond_dec (fun c10 => ?_) (fun c10 => ?_)
          · have c10 : does = 4 := c10
            refine .sched [8] (upto [8] 13 0) (by kernel_rfl) ?_
            refine LoadAt.mk 1 _ _ rfl rfl ?_
            refine LoadAt.mk 1 _ _ rfl rfl ?_
            refine callQ [] (aLCell l _ _) ?_
            intro bl11
            exact .drop 1 1 (.done ⟨_, by rw [beg4 (by assumption)]; rfl, by rw [beg4 (by assumption)]; rfl⟩)
          · have c10 : ¬ (does = 4) := c10
            refine bcond_dec (fun c12 => ?_) (fun c12 => ?_)
            · have c12 : does = 5 := c12
              refine .sched [10] (upto [10] 19 0) (by kernel_rfl) ?_
              refine LoadAt.mk 1 _ _ rfl rfl ?_
              refine LoadAt.mk 1 _ _ rfl rfl ?_
              refine With.mk rfl ?_
              refine IdxF.mk (nx.headD 0) (by decide) (head_some (hx (by omega))) ?_
              refine callQ [] (aLCell l _ _) ?_
              refine LoadAt.mk 1 _ _ rfl rfl ?_
              intro bl13
              exact .drop 1 1 (.done ⟨_, by rw [beg5 (by assumption)]; rfl, by rw [beg5 (by assumption)]; rfl⟩)
            · have c12 : ¬ (does = 5) := c12
              refine bcond_dec (fun c14 => ?_) (fun c14 => ?_)
              · have c14 : does = 6 := c14
                refine .sched [] (upto [] 11 0) (by kernel_rfl) ?_
                refine LoadAt.mk 0 _ _ rfl rfl ?_
                refine LoadAt.mk 1 _ _ rfl rfl ?_
                refine With.mk rfl ?_
                refine IdxF.mk (nx.headD 0) (by decide) (head_some (hx (by omega))) ?_
                intro bl15
                exact .drop 1 1 (.done ⟨_, by rw [beg6 (by assumption)]; rfl, by rw [beg6 (by assumption)]; rfl⟩)
              · have c14 : ¬ (does = 6) := c14
                refine bcond_dec (fun c16 => ?_) (fun c16 => ?_)
                · have c16 : does = 7 := c16
                  refine .sched [8] (upto [8] 20 0) (by kernel_rfl) ?_
                  refine LoadAt.mk 1 _ _ rfl rfl ?_
                  refine LoadAt.mk 1 _ _ rfl rfl ?_
                  refine callQ [] (aLDeque l _ _) ?_
                  refine LoadAt.mk 1 _ _ rfl rfl ?_
                  refine With.mk rfl ?_
                  refine IdxF.mk (nx.headD 0) (by decide) (head_some (hx (by omega))) ?_
                  intro bl17
                  exact .drop 1 1 (.done ⟨_, by rw [beg7 (by assumption)]; rfl, by rw [beg7 (by assumption)]; rfl⟩)
                · have c16 : ¬ (does = 7) := c16
                  refine LoadAt.mk 0 _ _ rfl rfl ?_
                  intro bl18
                  exact .drop 1 1 (.done ⟨_, by rw [beg8 (by assumption) (by assumption) (by assumption) (by assumption) (by assumption) (by assumption) (by assumption) (by assumption)]; rfl, by rw [beg8 (by assumption) (by assumption) (by assumption) (by assumption) (by assumption) (by assumption) (by assumption) (by assumption)]; rfl⟩)
theorem aBehPop1 (w r : Nat) (s : Sy) (l : Lay) (who ev jo : Int) (en : Bool) (does : Int) (node : Int) (has : Bool) (nx out : List Int) (base cap n : Int) (en2 : Bool) (at_ : Nat) (b t x : Int) (σ : Hp) : ACalls Tryz.prog 50 [.ptr w 0] ((w, wkC s l who ev jo en does (.iface 148 (.ptr r 0)) node has nx out) :: (r, dqC ⟨base, cap, n, true, en2, at_, b, t, x⟩) :: σ) (Ret (.int .i64 (gotDoes l n)) ((w, wkC s l who ev jo en does (.iface 148 (.ptr r 0)) (gotNode l n) true nx out) :: (r, dqC ⟨base, cap, n, true, en2, at_, b, t, x⟩) :: σ)) := by
  refine okF Tryz.func50 (by kernel_rfl) ?_
  refine LoadAt.mk 0 _ _ rfl rfl ?_
  refine LoadAt.mk 1 _ _ rfl rfl ?_
  refine LoadAt.mk 1 _ _ rfl rfl ?_
  refine callR [] (aGot w s l who ev jo en does (.iface 148 (.ptr r 0)) node has nx out n _) ?_
  exact .done ⟨rfl, rfl⟩
theorem aBehPop0 (w r : Nat) (s : Sy) (l : Lay) (who ev jo : Int) (en : Bool) (does : Int) (node : Int) (has : Bool) (nx out : List Int) (base cap n : Int) (en2 : Bool) (at_ : Nat) (b t x : Int) (σ : Hp) : ACalls Tryz.prog 50 [.ptr w 0] ((w, wkC s l who ev jo en does (.iface 148 (.ptr r 0)) node has nx out) :: (r, dqC ⟨base, cap, n, false, en2, at_, b, t, x⟩) :: σ) (Ret (.int .i64 (noneDoes l)) ((w, wkC s l who ev jo en does (.iface 148 (.ptr r 0)) node has nx out) :: (r, dqC ⟨base, cap, n, false, en2, at_, b, t, x⟩) :: σ)) := by
  refine okF Tryz.func50 (by kernel_rfl) ?_
  refine LoadAt.mk 0 _ _ rfl rfl ?_
  refine LoadAt.mk 1 _ _ rfl rfl ?_
  refine callR [] (aNoneW w s l who ev jo en does (.iface 148 (.ptr r 0)) node has nx out _) ?_
  exact .done ⟨rfl, rfl⟩
theorem aBehSteal1 (w r : Nat) (s : Sy) (l : Lay) (who ev jo : Int) (en : Bool) (does : Int) (node : Int) (has : Bool) (nx out : List Int) (base cap n : Int) (en2 : Bool) (at_ : Nat) (b t x : Int) (σ : Hp) : ACalls Tryz.prog 50 [.ptr w 0] ((w, wkC s l who ev jo en does (.iface 153 (.ptr r 0)) node has nx out) :: (r, dqC ⟨base, cap, n, true, en2, at_, b, t, x⟩) :: σ) (Ret (.int .i64 (gotDoes l n)) ((w, wkC s l who ev jo en does (.iface 153 (.ptr r 0)) (gotNode l n) true nx out) :: (r, dqC ⟨base, cap, n, true, en2, at_, b, t, x⟩) :: σ)) := by
  refine okF Tryz.func50 (by kernel_rfl) ?_
  refine LoadAt.mk 0 _ _ rfl rfl ?_
  refine LoadAt.mk 1 _ _ rfl rfl ?_
  refine LoadAt.mk 1 _ _ rfl rfl ?_
  refine callR [] (aGot w s l who ev jo en does (.iface 153 (.ptr r 0)) node has nx out n _) ?_
  exact .done ⟨rfl, rfl⟩
theorem aBehSteal0 (w r : Nat) (s : Sy) (l : Lay) (who ev jo : Int) (en : Bool) (does : Int) (node : Int) (has : Bool) (nx out : List Int) (base cap n : Int) (en2 : Bool) (at_ : Nat) (b t x : Int) (σ : Hp) : ACalls Tryz.prog 50 [.ptr w 0] ((w, wkC s l who ev jo en does (.iface 153 (.ptr r 0)) node has nx out) :: (r, dqC ⟨base, cap, n, false, en2, at_, b, t, x⟩) :: σ) (Ret (.int .i64 2) ((w, wkC s l who ev jo en does (.iface 153 (.ptr r 0)) node has nx out) :: (r, dqC ⟨base, cap, n, false, en2, at_, b, t, x⟩) :: σ)) := by
  refine okF Tryz.func50 (by kernel_rfl) ?_
  refine LoadAt.mk 0 _ _ rfl rfl ?_
  refine LoadAt.mk 1 _ _ rfl rfl ?_
  exact .done ⟨rfl, rfl⟩
def quiDoes (l : Lay) : Int := if l.k < 2 then 0 else 1
theorem aBehQuiet (w r : Nat) (s : Sy) (l : Lay) (who ev jo : Int) (en : Bool) (does : Int) (node : Int) (has : Bool) (nx out : List Int) (f c0 : Int) (is en2 : Bool) (σ : Hp) : ACalls Tryz.prog 50 [.ptr w 0] ((w, wkC s l who ev jo en does (.iface 155 (.ptr r 0)) node has nx out) :: (r, qkC ⟨f, c0, is, en2⟩) :: σ) (Ret (.int .i64 (quiDoes l)) ((w, wkC s l who ev jo is does (.iface 155 (.ptr r 0)) node has nx out) :: (r, qkC ⟨f, c0, is, en2⟩) :: σ)) := by
  refine okF Tryz.func50 (by kernel_rfl) ?_
  cases is with
  | true =>
    refine LoadAt.mk 0 _ _ rfl rfl ?_
    refine LoadAt.mk 1 _ _ rfl rfl ?_
    refine StoreAt.mk 0 _ _ rfl rfl ?_
    refine callB [] (aAlone w s l who ev jo true does (.iface 155 (.ptr r 0)) node has nx out _) (fun c => ?_) (fun c => ?_)
    · exact .done ⟨av_int (if_pos (of_decide_eq_true (by assumption))).symm, by subst_vars; rfl⟩
    · exact .done ⟨av_int (if_neg (of_decide_eq_false (by assumption))).symm, by subst_vars; rfl⟩
  | false =>
    refine LoadAt.mk 0 _ _ rfl rfl ?_
    refine LoadAt.mk 1 _ _ rfl rfl ?_
    refine StoreAt.mk 0 _ _ rfl rfl ?_
    refine callB [] (aAlone w s l who ev jo false does (.iface 155 (.ptr r 0)) node has nx out _) (fun c => ?_) (fun c => ?_)
    · exact .done ⟨av_int (if_pos (of_decide_eq_true (by assumption))).symm, by subst_vars; rfl⟩
    · exact .done ⟨av_int (if_neg (of_decide_eq_false (by assumption))).symm, by subst_vars; rfl⟩
theorem aBehClear (w r : Nat) (s : Sy) (l : Lay) (who ev jo : Int) (en : Bool) (does : Int) (node : Int) (has : Bool) (nx out : List Int) (f c0 v : Int) (en2 : Bool) (σ : Hp) : ACalls Tryz.prog 50 [.ptr w 0] ((w, wkC s l who ev jo en does (.iface 158 (.ptr r 0)) node has nx out) :: (r, ckC ⟨f, c0, v, en2⟩) :: σ) (Ret (.int .i64 4) ((w, wkC s l who ev jo en does (.iface 158 (.ptr r 0)) node has nx out) :: (r, ckC ⟨f, c0, v, en2⟩) :: σ)) := by
  refine okF Tryz.func50 (by kernel_rfl) ?_
  refine LoadAt.mk 0 _ _ rfl rfl ?_
  exact .done ⟨rfl, rfl⟩
theorem aBehRead (w r : Nat) (s : Sy) (l : Lay) (who ev jo : Int) (en : Bool) (does : Int) (node : Int) (has : Bool) (nx out : List Int) (x : List Int) (base what words : Int) (en2 : Bool) (at_ : Nat) (ld : Bool) (z : Int) (σ : Hp) (hf : Fit s) (hx : A64 x) (lx : x.length ≤ 10000) : ACalls Tryz.prog 50 [.ptr w 0] ((w, wkC s l who ev jo en does (.iface 161 (.ptr r 0)) node has nx out) :: (r, rdC (.fsl (.int .u64) x) base what words en2 at_ ld z) :: σ) (Ret (.int .i64 (rdDoes s node)) ((w, wkC s l who (wr (ev + 1)) jo en does (.iface 161 (.ptr r 0)) node has (toS s.n s.edges node) (okL (outE s node x) (outS s x node.toNat))) :: (r, rdC (.fsl (.int .u64) x) base what words en2 at_ ld z) :: σ)) := by
  refine okF Tryz.func50 (by kernel_rfl) ?_
  refine LoadAt.mk 0 _ _ rfl rfl ?_
  refine LoadAt.mk 1 _ _ rfl rfl ?_
  refine callR [] (aReadW w s l who ev jo en does (.iface 161 (.ptr r 0)) node has nx out x _ hf hx lx) ?_
  exact .done ⟨rfl, rfl⟩
theorem aBehJoin1 (w r : Nat) (s : Sy) (l : Lay) (who ev jo : Int) (en : Bool) (does : Int) (node : Int) (has : Bool) (nx out : List Int) (base what words : Int) (a : List Int) (en2 : Bool) (tr : Int) (at_ : Nat) (ld : Bool) (x : Int) (σ : Hp) : ACalls Tryz.prog 50 [.ptr w 0] ((w, wkC s l who ev jo en does (.iface 169 (.ptr r 0)) node has nx out) :: (r, jnC ⟨base, what, words, a, true, en2, tr, at_, ld, x⟩) :: σ) (Ret (.int .i64 6) ((w, wkC s l who ev (wr (jo + 1)) en does (.iface 169 (.ptr r 0)) node has nx out) :: (r, jnC ⟨base, what, words, a, true, en2, tr, at_, ld, x⟩) :: σ)) := by
  refine okF Tryz.func50 (by kernel_rfl) ?_
  refine LoadAt.mk 0 _ _ rfl rfl ?_
  refine LoadAt.mk 1 _ _ rfl rfl ?_
  refine LoadAt.mk 0 _ _ rfl rfl ?_
  refine StoreAt.mk 0 _ _ rfl rfl ?_
  exact .done ⟨rfl, rfl⟩
theorem aBehJoin0 (w r : Nat) (s : Sy) (l : Lay) (who ev jo : Int) (en : Bool) (does : Int) (node : Int) (has : Bool) (nx out : List Int) (base what words : Int) (a : List Int) (en2 : Bool) (tr : Int) (at_ : Nat) (ld : Bool) (x : Int) (σ : Hp) (hx : 0 < nx.length) : ACalls Tryz.prog 50 [.ptr w 0] ((w, wkC s l who ev jo en does (.iface 169 (.ptr r 0)) node has nx out) :: (r, jnC ⟨base, what, words, a, false, en2, tr, at_, ld, x⟩) :: σ) (Ret (.int .i64 (folDoes nx)) ((w, wkC s l who ev jo en does (.iface 169 (.ptr r 0)) node has nx.tail out) :: (r, jnC ⟨base, what, words, a, false, en2, tr, at_, ld, x⟩) :: σ)) := by
  refine okF Tryz.func50 (by kernel_rfl) ?_
  refine LoadAt.mk 0 _ _ rfl rfl ?_
  refine LoadAt.mk 1 _ _ rfl rfl ?_
  refine callR [] (aFollow w s l who ev jo en does (.iface 169 (.ptr r 0)) node has nx out _ hx) ?_
  exact .done ⟨rfl, rfl⟩
theorem aBehTake1 (w r : Nat) (s : Sy) (l : Lay) (who ev jo : Int) (en : Bool) (does : Int) (node : Int) (has : Bool) (nx out : List Int) (f c0 v : Int) (en2 did : Bool) (σ : Hp) : ACalls Tryz.prog 50 [.ptr w 0] ((w, wkC s l who ev jo en does (.iface 172 (.ptr r 0)) node has nx out) :: (r, tkC ⟨f, c0, v, true, en2, did⟩) :: σ) (Ret (.int .i64 7) ((w, wkC s l who ev jo en does (.iface 172 (.ptr r 0)) node has nx out) :: (r, tkC ⟨f, c0, v, true, en2, did⟩) :: σ)) := by
  refine okF Tryz.func50 (by kernel_rfl) ?_
  refine LoadAt.mk 0 _ _ rfl rfl ?_
  refine LoadAt.mk 1 _ _ rfl rfl ?_
  exact .done ⟨rfl, rfl⟩
theorem aBehTake0 (w r : Nat) (s : Sy) (l : Lay) (who ev jo : Int) (en : Bool) (does : Int) (node : Int) (has : Bool) (nx out : List Int) (f c0 v : Int) (en2 did : Bool) (σ : Hp) (hx : 0 < nx.length) : ACalls Tryz.prog 50 [.ptr w 0] ((w, wkC s l who ev jo en does (.iface 172 (.ptr r 0)) node has nx out) :: (r, tkC ⟨f, c0, v, false, en2, did⟩) :: σ) (Ret (.int .i64 (folDoes nx)) ((w, wkC s l who ev jo en does (.iface 172 (.ptr r 0)) node has nx.tail out) :: (r, tkC ⟨f, c0, v, false, en2, did⟩) :: σ)) := by
  refine okF Tryz.func50 (by kernel_rfl) ?_
  refine LoadAt.mk 0 _ _ rfl rfl ?_
  refine LoadAt.mk 1 _ _ rfl rfl ?_
  refine callR [] (aFollow w s l who ev jo en does (.iface 172 (.ptr r 0)) node has nx out _ hx) ?_
  exact .done ⟨rfl, rfl⟩
theorem aBehPush (w r : Nat) (s : Sy) (l : Lay) (who ev jo : Int) (en : Bool) (does : Int) (node : Int) (has : Bool) (nx out : List Int) (q : DQ) (σ : Hp) (hx : 0 < nx.length) : ACalls Tryz.prog 50 [.ptr w 0] ((w, wkC s l who ev jo en does (.iface 177 (.ptr r 0)) node has nx out) :: (r, dqC q) :: σ) (Ret (.int .i64 (folDoes nx)) ((w, wkC s l who ev jo en does (.iface 177 (.ptr r 0)) node has nx.tail out) :: (r, dqC q) :: σ)) := by
  refine okF Tryz.func50 (by kernel_rfl) ?_
  refine LoadAt.mk 0 _ _ rfl rfl ?_
  refine callR [] (aFollow w s l who ev jo en does (.iface 177 (.ptr r 0)) node has nx out _ hx) ?_
  exact .done ⟨rfl, rfl⟩
theorem aBehRetire (w r : Nat) (s : Sy) (l : Lay) (who ev jo : Int) (en : Bool) (does : Int) (node : Int) (has : Bool) (nx out : List Int) (t : Rk) (σ : Hp) : ACalls Tryz.prog 50 [.ptr w 0] ((w, wkC s l who ev jo en does (.iface 179 (.ptr r 0)) node has nx out) :: (r, rkC t) :: σ) (Ret (.int .i64 0) ((w, wkC s l who ev jo en does (.iface 179 (.ptr r 0)) node false nx out) :: (r, rkC t) :: σ)) := by
  refine okF Tryz.func50 (by kernel_rfl) ?_
  refine LoadAt.mk 0 _ _ rfl rfl ?_
  refine StoreAt.mk 0 _ _ rfl rfl ?_
  exact .done ⟨rfl, rfl⟩
set_option maxRecDepth 100000
set_option maxHeartbeats 4000000
theorem aReadM1 (M : AMem) (r : Nat) (m : M.S) (base what words x : Int) (at_ : Nat) (loaded : Bool) (l : List Int) (c : AV) (acc : Hp) (d : Int) (σ : Hp) (hf : M.O.free (M.abs m)) (hat : at_ < cw words) (hv : L64 c acc l) (hl : l.length ≤ 2000) :
    ACalls Tryz.prog 279 [.ptr r 0, M.v, .int .i64 d] ((r, rdC c base what words false at_ loaded x) :: (acc ++ (M.B m ++ σ))) (fun z σ' => ∃ m' c' acc', L64 c' acc' (l ++ [(M.O.ld (M.abs m) (wr (base + at_))).1]) ∧ M.abs m' = (M.O.ld (M.abs m) (wr (base + at_))).2 ∧ z = .bool (decide (at_ + 1 = cw words)) ∧ σ' = (r, rdC c' base what words (decide (at_ + 1 = cw words)) (at_ + 1) loaded x) :: (acc' ++ (M.B m' ++ σ))) := by
  have hc := cw_le words
  have hw : IntKind.i64.wrap ((at_ : Int) + 1) = ((at_ + 1 : Nat) : Int) := by rw [IntKind.wrap_i64]; omega
  have hlt : decide ((at_ : Int) < (cw words : Nat)) = true := decide_eq_true (by omega)
  cases hv with
  | nil =>
    refine okF Tryz.func279 (by kernel_rfl) ?_
    refine LoadAt.mk 0 _ _ rfl rfl ?_
    refine .quiet (by kernel_rfl) ?_
    refine LoadAt.mk 0 _ _ rfl rfl ?_
    refine LoadAt.mk 0 _ _ rfl rfl ?_
    refine callQ [] (aCWords _ _ _ _) ?_
    refine bcond_true hlt ?_
    refine .sched [5, 7] (upto [5, 7] 28 0) (by kernel_rfl) ?_
    refine LoadAt.mk 0 _ _ rfl rfl ?_
    refine callQ [] (aClone64n _) ?_
    refine callQ [] (aOr _ _ _) ?_
    refine LoadAt.mk 0 _ _ rfl rfl ?_
    refine LoadAt.mk 0 _ _ rfl rfl ?_
    refine AheadAt.mk M.hL ?_
    refine M.aLoad [_] hf fun m' hm => ?_
    intro bl1
    refine AppendAt.fresh 1 _ (.inl rfl) (.mref 0 _ 0 1 _ rfl (Nat.le_of_ble_eq_true rfl)) (by decide) (by decide) (by decide) (fun _ bn => ?_) (fun h => absurd h (by decide))
    refine StoreAt.mk 2 _ _ rfl rfl ?_
    refine LoadAt.mk 2 _ _ rfl rfl ?_
    refine StoreAt.mk 2 _ _ rfl rfl ?_
    refine .sched [10] (upto [10] 15 0) (by kernel_rfl) ?_
    refine LoadAt.mk 2 _ _ rfl rfl ?_
    refine LoadAt.mk 2 _ _ rfl rfl ?_
    refine callQ [] (aCWords _ _ _ _) ?_
    refine bcond_dec (fun c2 => ?_) (fun c2 => ?_)
    · have c2 : IntKind.i64.wrap ((↑at_ : Int) + 1) = (↑(cw words) : Int) := c2
      refine StoreAt.mk 2 _ _ rfl rfl ?_
      refine LoadAt.mk 2 _ _ rfl rfl ?_
      exact .drop 1 1 ((.pull [1] (.done ⟨m', _, _, .mref bn [_], hm, by rw [decide_eq_true (show at_ + 1 = cw words by omega)]; rfl, by unfold rdC; rw [decide_eq_true (show at_ + 1 = cw words by omega), ← hw]; rfl⟩)))
    · have c2 : ¬ (IntKind.i64.wrap ((↑at_ : Int) + 1) = (↑(cw words) : Int)) := c2
      refine StoreAt.mk 2 _ _ rfl rfl ?_
      refine LoadAt.mk 2 _ _ rfl rfl ?_
      exact .drop 1 1 ((.pull [1] (.done ⟨m', _, _, .mref bn [_], hm, by rw [decide_eq_false (show ¬ at_ + 1 = cw words by omega)]; rfl, by unfold rdC; rw [decide_eq_false (show ¬ at_ + 1 = cw words by omega), ← hw]; rfl⟩)))
  | mref b l =>
    have hlen : (woC l).length = l.length * 1 := by simp [woC]
    refine okF Tryz.func279 (by kernel_rfl) ?_
    refine LoadAt.mk 0 _ _ rfl rfl ?_
    refine .quiet (by kernel_rfl) ?_
    refine LoadAt.mk 0 _ _ rfl rfl ?_
    refine LoadAt.mk 0 _ _ rfl rfl ?_
    refine callQ [] (aCWords _ _ _ _) ?_
    refine bcond_true hlt ?_
    refine .sched [7] (.one 0 false (.one 1 false (.one 2 false (.one 3 false (.one 4 false (.one 6 false (.one 8 false (.one 9 false (.one 10 false (.one 11 false (.one 13 false (.one 14 false (.one 15 false (.one 16 false (.alt 5 (.one 7 true (.one 12 false (.one 17 false (.one 18 false (.one 19 false (.one 20 false (.one 21 false (.one 22 false (.one 23 false (.one 24 false (.one 25 false (.one 26 false (.one 27 false .stop))))))))))))) (.alt 12 (.alt 5 (.one 7 true (.one 17 false (.one 18 false (.one 19 false (.one 20 false (.one 21 false (.one 22 false (.one 23 false (.one 24 false (.one 25 false (.one 26 false (.one 27 false .stop)))))))))))) (.one 17 false (.one 18 false (.one 5 false (.one 7 true (.one 19 false (.one 20 false (.one 21 false (.one 22 false (.one 23 false (.one 24 false (.one 25 false (.one 26 false (.one 27 false .stop)))))))))))))) (.one 17 false (.alt 5 (.one 7 true (.one 12 false (.one 18 false (.one 19 false (.one 20 false (.one 21 false (.one 22 false (.one 23 false (.one 24 false (.one 25 false (.one 26 false (.one 27 false .stop)))))))))))) (.one 12 false (.one 18 false (.one 5 false (.one 7 true (.one 19 false (.one 20 false (.one 21 false (.one 22 false (.one 23 false (.one 24 false (.one 25 false (.one 26 false (.one 27 false .stop))))))))))))))))))))))))))))))) (by kernel_rfl) ?_
    refine LoadAt.mk 0 _ _ rfl rfl ?_
    refine And.intro ?_ ?_
    · (refine .mk [] _ (aClone64m b l.length (woC l) _ (List.mem_cons_of_mem _ (List.mem_cons_self ..)) hlen (by omega)) ?_; rintro _ _ ⟨b', rfl, rfl⟩)
      refine callQ [] (aOr _ _ _) ?_
      refine LoadAt.mk 1 _ _ rfl rfl ?_
      refine LoadAt.mk 1 _ _ rfl rfl ?_
      refine AheadAt.mk M.hL ?_
      refine M.aLoad [_, _, _] hf fun m' hm => ?_
      intro bl1
      refine AppendAt.more 1 b' l.length 1 (woC l) _ rfl rfl (by show l.length * 1 ≤ (woC l).length; omega) (.mref 0 _ 0 1 _ rfl (Nat.le_of_ble_eq_true rfl)) (by omega) (by decide) (by decide) (fun bn => ?_)
      refine StoreAt.mk 2 _ _ rfl rfl ?_
      refine LoadAt.mk 2 _ _ rfl rfl ?_
      refine StoreAt.mk 2 _ _ rfl rfl ?_
      refine .sched [10] (upto [10] 15 0) (by kernel_rfl) ?_
      refine LoadAt.mk 2 _ _ rfl rfl ?_
      refine LoadAt.mk 2 _ _ rfl rfl ?_
      refine callQ [] (aCWords _ _ _ _) ?_
      refine bcond_dec (fun c2 => ?_) (fun c2 => ?_)
      · have c2 : IntKind.i64.wrap ((↑at_ : Int) + 1) = (↑(cw words) : Int) := c2
        refine StoreAt.mk 2 _ _ rfl rfl ?_
        refine LoadAt.mk 2 _ _ rfl rfl ?_
        exact .drop 1 1 (.drop 2 1 ((.pull [1] (.done ⟨m', _, _, L64.push bn l _, hm, by rw [decide_eq_true (show at_ + 1 = cw words by omega)]; rfl, by unfold rdC; rw [decide_eq_true (show at_ + 1 = cw words by omega), ← hw]; rfl⟩))))
      · have c2 : ¬ (IntKind.i64.wrap ((↑at_ : Int) + 1) = (↑(cw words) : Int)) := c2
        refine StoreAt.mk 2 _ _ rfl rfl ?_
        refine LoadAt.mk 2 _ _ rfl rfl ?_
        exact .drop 1 1 (.drop 2 1 ((.pull [1] (.done ⟨m', _, _, L64.push bn l _, hm, by rw [decide_eq_false (show ¬ at_ + 1 = cw words by omega)]; rfl, by unfold rdC; rw [decide_eq_false (show ¬ at_ + 1 = cw words by omega), ← hw]; rfl⟩))))
    · refine And.intro ?_ ?_
      · refine LoadAt.mk 0 _ _ rfl rfl ?_
        refine And.intro ?_ ?_
        · (refine .mk [] _ (aClone64m b l.length (woC l) _ (List.mem_cons_of_mem _ (List.mem_cons_self ..)) hlen (by omega)) ?_; rintro _ _ ⟨b', rfl, rfl⟩)
          refine callQ [] (aOr _ _ _) ?_
          refine LoadAt.mk 1 _ _ rfl rfl ?_
          refine AheadAt.mk M.hL ?_
          refine M.aLoad [_, _, _] hf fun m' hm => ?_
          intro bl3
          refine AppendAt.more 1 b' l.length 1 (woC l) _ rfl rfl (by show l.length * 1 ≤ (woC l).length; omega) (.mref 0 _ 0 1 _ rfl (Nat.le_of_ble_eq_true rfl)) (by omega) (by decide) (by decide) (fun bn => ?_)
          refine StoreAt.mk 2 _ _ rfl rfl ?_
          refine LoadAt.mk 2 _ _ rfl rfl ?_
          refine StoreAt.mk 2 _ _ rfl rfl ?_
          refine .sched [10] (upto [10] 15 0) (by kernel_rfl) ?_
          refine LoadAt.mk 2 _ _ rfl rfl ?_
          refine LoadAt.mk 2 _ _ rfl rfl ?_
          refine callQ [] (aCWords _ _ _ _) ?_
          refine bcond_dec (fun c4 => ?_) (fun c4 => ?_)
          · have c4 : IntKind.i64.wrap ((↑at_ : Int) + 1) = (↑(cw words) : Int) := c4
            refine StoreAt.mk 2 _ _ rfl rfl ?_
            refine LoadAt.mk 2 _ _ rfl rfl ?_
            exact .drop 1 1 (.drop 2 1 ((.pull [1] (.done ⟨m', _, _, L64.push bn l _, hm, by rw [decide_eq_true (show at_ + 1 = cw words by omega)]; rfl, by unfold rdC; rw [decide_eq_true (show at_ + 1 = cw words by omega), ← hw]; rfl⟩))))
          · have c4 : ¬ (IntKind.i64.wrap ((↑at_ : Int) + 1) = (↑(cw words) : Int)) := c4
            refine StoreAt.mk 2 _ _ rfl rfl ?_
            refine LoadAt.mk 2 _ _ rfl rfl ?_
            exact .drop 1 1 (.drop 2 1 ((.pull [1] (.done ⟨m', _, _, L64.push bn l _, hm, by rw [decide_eq_false (show ¬ at_ + 1 = cw words by omega)]; rfl, by unfold rdC; rw [decide_eq_false (show ¬ at_ + 1 = cw words by omega), ← hw]; rfl⟩))))
        · refine LoadAt.mk 0 _ _ rfl rfl ?_
          (refine .mk [] _ (aClone64m b l.length (woC l) _ (List.mem_cons_of_mem _ (List.mem_cons_self ..)) hlen (by omega)) ?_; rintro _ _ ⟨b', rfl, rfl⟩)
          refine callQ [] (aOr _ _ _) ?_
          refine AheadAt.mk M.hL ?_
          refine M.aLoad [_, _, _] hf fun m' hm => ?_
          intro bl5
          refine AppendAt.more 1 b' l.length 1 (woC l) _ rfl rfl (by show l.length * 1 ≤ (woC l).length; omega) (.mref 0 _ 0 1 _ rfl (Nat.le_of_ble_eq_true rfl)) (by omega) (by decide) (by decide) (fun bn => ?_)
          refine StoreAt.mk 2 _ _ rfl rfl ?_
          refine LoadAt.mk 2 _ _ rfl rfl ?_
          refine StoreAt.mk 2 _ _ rfl rfl ?_
          refine .sched [10] (upto [10] 15 0) (by kernel_rfl) ?_
          refine LoadAt.mk 2 _ _ rfl rfl ?_
          refine LoadAt.mk 2 _ _ rfl rfl ?_
          refine callQ [] (aCWords _ _ _ _) ?_
          refine bcond_dec (fun c6 => ?_) (fun c6 => ?_)
          · have c6 : IntKind.i64.wrap ((↑at_ : Int) + 1) = (↑(cw words) : Int) := c6
            refine StoreAt.mk 2 _ _ rfl rfl ?_
            refine LoadAt.mk 2 _ _ rfl rfl ?_
            exact .drop 1 1 (.drop 2 1 ((.pull [1] (.done ⟨m', _, _, L64.push bn l _, hm, by rw [decide_eq_true (show at_ + 1 = cw words by omega)]; rfl, by unfold rdC; rw [decide_eq_true (show at_ + 1 = cw words by omega), ← hw]; rfl⟩))))
          · have c6 : ¬ (IntKind.i64.wrap ((↑at_ : Int) + 1) = (↑(cw words) : Int)) := c6
            refine StoreAt.mk 2 _ _ rfl rfl ?_
            refine LoadAt.mk 2 _ _ rfl rfl ?_
            exact .drop 1 1 (.drop 2 1 ((.pull [1] (.done ⟨m', _, _, L64.push bn l _, hm, by rw [decide_eq_false (show ¬ at_ + 1 = cw words by omega)]; rfl, by unfold rdC; rw [decide_eq_false (show ¬ at_ + 1 = cw words by omega), ← hw]; rfl⟩))))
      · refine LoadAt.mk 0 _ _ rfl rfl ?_
        refine And.intro ?_ ?_
        · (refine .mk [] _ (aClone64m b l.length (woC l) _ (List.mem_cons_of_mem _ (List.mem_cons_self ..)) hlen (by omega)) ?_; rintro _ _ ⟨b', rfl, rfl⟩)
          refine callQ [] (aOr _ _ _) ?_
          refine LoadAt.mk 1 _ _ rfl rfl ?_
          refine AheadAt.mk M.hL ?_
          refine M.aLoad [_, _, _] hf fun m' hm => ?_
          intro bl7
          refine AppendAt.more 1 b' l.length 1 (woC l) _ rfl rfl (by show l.length * 1 ≤ (woC l).length; omega) (.mref 0 _ 0 1 _ rfl (Nat.le_of_ble_eq_true rfl)) (by omega) (by decide) (by decide) (fun bn => ?_)
          refine StoreAt.mk 2 _ _ rfl rfl ?_
          refine LoadAt.mk 2 _ _ rfl rfl ?_
          refine StoreAt.mk 2 _ _ rfl rfl ?_
          refine .sched [10] (upto [10] 15 0) (by kernel_rfl) ?_
          refine LoadAt.mk 2 _ _ rfl rfl ?_
          refine LoadAt.mk 2 _ _ rfl rfl ?_
          refine callQ [] (aCWords _ _ _ _) ?_
          refine bcond_dec (fun c8 => ?_) (fun c8 => ?_)
          · have c8 : IntKind.i64.wrap ((↑at_ : Int) + 1) = (↑(cw words) : Int) := c8
            refine StoreAt.mk 2 _ _ rfl rfl ?_
            refine LoadAt.mk 2 _ _ rfl rfl ?_
            exact .drop 1 1 (.drop 2 1 ((.pull [1] (.done ⟨m', _, _, L64.push bn l _, hm, by rw [decide_eq_true (show at_ + 1 = cw words by omega)]; rfl, by unfold rdC; rw [decide_eq_true (show at_ + 1 = cw words by omega), ← hw]; rfl⟩))))
          · have c8 : ¬ (IntKind.i64.wrap ((↑at_ : Int) + 1) = (↑(cw words) : Int)) := c8
            refine StoreAt.mk 2 _ _ rfl rfl ?_
            refine LoadAt.mk 2 _ _ rfl rfl ?_
            exact .drop 1 1 (.drop 2 1 ((.pull [1] (.done ⟨m', _, _, L64.push bn l _, hm, by rw [decide_eq_false (show ¬ at_ + 1 = cw words by omega)]; rfl, by unfold rdC; rw [decide_eq_false (show ¬ at_ + 1 = cw words by omega), ← hw]; rfl⟩))))
        · refine LoadAt.mk 0 _ _ rfl rfl ?_
          (refine .mk [] _ (aClone64m b l.length (woC l) _ (List.mem_cons_of_mem _ (List.mem_cons_self ..)) hlen (by omega)) ?_; rintro _ _ ⟨b', rfl, rfl⟩)
          refine callQ [] (aOr _ _ _) ?_
          refine AheadAt.mk M.hL ?_
          refine M.aLoad [_, _, _] hf fun m' hm => ?_
          intro bl9
          refine AppendAt.more 1 b' l.length 1 (woC l) _ rfl rfl (by show l.length * 1 ≤ (woC l).length; omega) (.mref 0 _ 0 1 _ rfl (Nat.le_of_ble_eq_true rfl)) (by omega) (by decide) (by decide) (fun bn => ?_)
          refine StoreAt.mk 2 _ _ rfl rfl ?_
          refine LoadAt.mk 2 _ _ rfl rfl ?_
          refine StoreAt.mk 2 _ _ rfl rfl ?_
          refine .sched [10] (upto [10] 15 0) (by kernel_rfl) ?_
          refine LoadAt.mk 2 _ _ rfl rfl ?_
          refine LoadAt.mk 2 _ _ rfl rfl ?_
          refine callQ [] (aCWords _ _ _ _) ?_
          refine bcond_dec (fun c10 => ?_) (fun c10 => ?_)
          · have c10 : IntKind.i64.wrap ((↑at_ : Int) + 1) = (↑(cw words) : Int) := c10
            refine StoreAt.mk 2 _ _ rfl rfl ?_
            refine LoadAt.mk 2 _ _ rfl rfl ?_
            exact .drop 1 1 (.drop 2 1 ((.pull [1] (.done ⟨m', _, _, L64.push bn l _, hm, by rw [decide_eq_true (show at_ + 1 = cw words by omega)]; rfl, by unfold rdC; rw [decide_eq_true (show at_ + 1 = cw words by omega), ← hw]; rfl⟩))))
          · have c10 : ¬ (IntKind.i64.wrap ((↑at_ : Int) + 1) = (↑(cw words) : Int)) := c10
            refine StoreAt.mk 2 _ _ rfl rfl ?_
            refine LoadAt.mk 2 _ _ rfl rfl ?_
            exact .drop 1 1 (.drop 2 1 ((.pull [1] (.done ⟨m', _, _, L64.push bn l _, hm, by rw [decide_eq_false (show ¬ at_ + 1 = cw words by omega)]; rfl, by unfold rdC; rw [decide_eq_false (show ¬ at_ + 1 = cw words by omega), ← hw]; rfl⟩))))
theorem aReadM0 (M : AMem) (r : Nat) (base what words x : Int) (loaded : Bool) (c : AV) (d : Int) (σ : Hp) (hat : cw words = 0) :
    ACalls Tryz.prog 279 [.ptr r 0, M.v, .int .i64 d] ((r, rdC c base what words false 0 loaded x) :: σ) (Ret (.bool true) ((r, rdC c base what words true 0 loaded x) :: σ)) := by
  have hlt : decide ((0 : Int) < (cw words : Nat)) = false := decide_eq_false (by omega)
  have heq : decide ((0 : Int) = (cw words : Nat)) = true := decide_eq_true (by omega)
  refine okF Tryz.func279 (by kernel_rfl) ?_
  refine LoadAt.mk 0 _ _ rfl rfl ?_
  refine .quiet (by kernel_rfl) ?_
  refine LoadAt.mk 0 _ _ rfl rfl ?_
  refine LoadAt.mk 0 _ _ rfl rfl ?_
  refine callQ [] (aCWords _ _ _ _) ?_
  refine bcond_false hlt ?_
  refine .sched [10] (upto [10] 15 0) (by kernel_rfl) ?_
  refine LoadAt.mk 0 _ _ rfl rfl ?_
  refine LoadAt.mk 0 _ _ rfl rfl ?_
  refine callQ [] (aCWords _ _ _ _) ?_
  refine bcond_true heq ?_
  refine StoreAt.mk 0 _ _ rfl rfl ?_
  refine LoadAt.mk 0 _ _ rfl rfl ?_
  exact .done ⟨rfl, rfl⟩
set_option maxRecDepth 100000
set_option maxHeartbeats 4000000
theorem wPop_ : Meth Tryz.prog 148 "Step" 274 := fun a w => by kernel_rfl
theorem wSteal_ : Meth Tryz.prog 153 "Step" 276 := fun a w => by kernel_rfl
theorem wPush_ : Meth Tryz.prog 177 "Step" 284 := fun a w => by kernel_rfl
theorem wQuiet_ : Meth Tryz.prog 155 "Step" 277 := fun a w => by kernel_rfl
theorem wClear_ : Meth Tryz.prog 158 "Step" 278 := fun a w => by kernel_rfl
theorem wTake_ : Meth Tryz.prog 172 "Step" 283 := fun a w => by kernel_rfl
theorem wRetire_ : Meth Tryz.prog 179 "Step" 285 := fun a w => by kernel_rfl
theorem wRead_ : Meth Tryz.prog 161 "Step" 279 := fun a w => by kernel_rfl
theorem wJoin_ : Meth Tryz.prog 169 "Step" 281 := fun a w => by kernel_rfl
/-- A machine's Step, behind other blocks. -/
theorem callM {M : AMem} {f : FuncId} {xs : List AV} {X : Type} {B : X → List AV} {r : Nat} {cs : List AV} {res : X × M.O.A × Bool} {m : M.S} (fr : Hp) {σ : Hp} {K : AV → Hp → Prop} (h : ∀ σ, ACalls Tryz.prog f xs ((r, cs) :: (M.B m ++ σ)) (MPost M σ B r res))
    (k1 : ∀ m', M.abs m' = res.2.1 → res.2.2 = true → K (.bool true) (fr ++ ((r, B res.1) :: (M.B m' ++ σ)))) (k2 : ∀ m', M.abs m' = res.2.1 → res.2.2 = false → K (.bool false) (fr ++ ((r, B res.1) :: (M.B m' ++ σ)))) : CallAt Tryz.prog f K xs (fr ++ ((r, cs) :: (M.B m ++ σ))) := by
  have hp : ∀ (c : List AV) (b : Hp), ((r, c) :: (b ++ (fr ++ σ))).Perm (fr ++ ((r, c) :: (b ++ σ))) := fun c b => front_perm' fr ((r, c) :: b) σ
  refine .perm _ (hp cs (M.B m)) (h (fr ++ σ)) ?_
  rintro x σ' ⟨m', h1, rfl, rfl⟩
  refine ⟨_, (hp (B res.1) (M.B m')).symm, ?_⟩
  cases hb : res.2.2 with
  | true => exact k1 m' h1 hb
  | false => exact k2 m' h1 hb
def readStep (O : MOps) (l : Lay) (base : Int) (x : List Int) (a : O.A) : List Int × O.A × Bool :=
  if x.length < cw l.words then (x ++ [(O.ld a (wr (base + (x.length : Nat)))).1], (O.ld a (wr (base + (x.length : Nat)))).2, decide (x.length + 1 = cw l.words)) else (x, a, true)
def nwStep (O : MOps) (l : Lay) (node : Int) : Nw → O.A → Nw × O.A × Bool
  | .none, a => (.none, a, false)
  | .pop q, a => (.pop (popStep O q a).1, (popStep O q a).2)
  | .steal q, a => (.steal (stealStep O q a).1, (stealStep O q a).2)
  | .quiet t, a => (.quiet (qkStep O t a).1, (qkStep O t a).2)
  | .clear t, a => (.clear (ckStep O t a).1, (ckStep O t a).2)
  | .read x, a => (.read (readStep O l (cellB l node) x a).1, (readStep O l (cellB l node) x a).2)
  | .join j, a => (.join (jnStep O j a).1, (jnStep O j a).2)
  | .take t, a => (.take (tkStep O t a).1, (tkStep O t a).2)
  | .push q, a => (.push (pushStep O q a).1, (pushStep O q a).2)
  | .retire t, a => (.retire (rkStep O t a).1, (rkStep O t a).2)
/-- What a worker does behind a machine that is ended. -/
def behW (s : Sy) (l : Lay) (x : WS) : Nw → WS
  | .none => x
  | .pop q => if q.ok = true then ⟨x.ev, x.jo, x.en, gotDoes l q.n, .none, gotNode l q.n, true, x.nx, x.out⟩ else ⟨x.ev, x.jo, x.en, noneDoes l, .none, x.node, x.has, x.nx, x.out⟩
  | .steal q => if q.ok = true then ⟨x.ev, x.jo, x.en, gotDoes l q.n, .none, gotNode l q.n, true, x.nx, x.out⟩ else ⟨x.ev, x.jo, x.en, 2, .none, x.node, x.has, x.nx, x.out⟩
  | .quiet t => ⟨x.ev, x.jo, t.is, quiDoes l, .none, x.node, x.has, x.nx, x.out⟩
  | .clear _ => ⟨x.ev, x.jo, x.en, 4, .none, x.node, x.has, x.nx, x.out⟩
  | .read y => ⟨wr (x.ev + 1), x.jo, x.en, rdDoes s x.node, .none, x.node, x.has, toS s.n s.edges x.node, okL (outE s x.node y) (outS s y x.node.toNat)⟩
  | .join j => if j.changed = true then ⟨x.ev, wr (x.jo + 1), x.en, 6, .none, x.node, x.has, x.nx, x.out⟩ else ⟨x.ev, x.jo, x.en, folDoes x.nx, .none, x.node, x.has, x.nx.tail, x.out⟩
  | .take t => if t.new = true then ⟨x.ev, x.jo, x.en, 7, .none, x.node, x.has, x.nx, x.out⟩ else ⟨x.ev, x.jo, x.en, folDoes x.nx, .none, x.node, x.has, x.nx.tail, x.out⟩
  | .push _ => ⟨x.ev, x.jo, x.en, folDoes x.nx, .none, x.node, x.has, x.nx.tail, x.out⟩
  | .retire _ => ⟨x.ev, x.jo, x.en, 0, .none, x.node, false, x.nx, x.out⟩
/-- The machine that a worker steps. -/
def atW (l : Lay) (who : Int) (x : WS) (d : Int) : Nw := match x.now with
  | .none => begW l who x.does x.node x.nx x.out d
  | n => n
def wStep (O : MOps) (s : Sy) (l : Lay) (who : Int) (x : WS) (d : Int) (a : O.A) : WS × O.A × Bool :=
  if x.en = true then (x, a, true)
  else if (nwStep O l x.node (atW l who x d) a).2.2 = true then (behW s l x (nwStep O l x.node (atW l who x d) a).1, (nwStep O l x.node (atW l who x d) a).2.1, (behW s l x (nwStep O l x.node (atW l who x d) a).1).en)
  else (⟨x.ev, x.jo, x.en, x.does, (nwStep O l x.node (atW l who x d) a).1, x.node, x.has, x.nx, x.out⟩, (nwStep O l x.node (atW l who x d) a).2.1, false)
/-- Is a machine one that may be stepped? -/
def okN (l : Lay) (nx : List Int) : Nw → Prop
  | .none => True
  | .pop q => q.at_ ≤ 5 ∧ 0 ≤ q.b
  | .steal q => q.at_ ≤ 3 ∧ 0 ≤ q.t
  | .quiet _ => True
  | .clear _ => True
  | .read x => (x.length < cw l.words ∨ (cw l.words = 0 ∧ x = [])) ∧ A64 x
  | .join j => j.at_ ≤ 1024 ∧ 0 < nx.length
  | .take _ => 0 < nx.length
  | .push q => (q.at_ ≤ 3 ∧ 0 ≤ q.b) ∧ 0 < nx.length
  | .retire _ => True
def okWk (l : Lay) (x : WS) : Prop := (x.does = 5 ∨ x.does = 6 ∨ x.does = 7 → 0 < x.nx.length) ∧ (x.does = 1 → nK l ≠ 0 ∧ l.k ≠ 0) ∧ okN l x.nx x.now
def okRd (c : AV) (acc : Hp) : Nw → Prop
  | .read x => L64 c acc x ∧ (x = [] → c = .nils)
  | _ => True
/-- A worker's blocks. -/
def WB (s : Sy) (l : Lay) (who : Int) (w r : Nat) (c : AV) (acc : Hp) (x : WS) : Hp := (w, wkC s l who x.ev x.jo x.en x.does (nwV r x.now) x.node x.has x.nx x.out) :: nwB l x.node r c acc x.now
end Go.Proofs.YtegpahamenjiaaaGreat
