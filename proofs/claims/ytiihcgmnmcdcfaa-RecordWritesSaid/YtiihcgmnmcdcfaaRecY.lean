/-
  soughlaw23: the walk of RecordWrites.
-/
import Derived.Test.YtiihcgmnmcdcfaaRecD
import Derived.Test.YtiihcgmnmcdcfaaRecX
namespace Go.Proofs.Ytiihcgmnmcdcfaa
open Go.RowKit
set_option maxRecDepth 100000
/-- What a write does. -/
def wOp (ws : List Int) (d : EvT) : List Int := if d.1 = 2 then mStore ws d.2.1 d.2.2.1 else if d.1 = 3 then mStore ws d.2.1 d.2.2.2.1 else mAddTo ws d.2.1 d.2.2.1
theorem writes_step {ws : List Int} {k t x y : Int} (hk : 1 ≤ k ∧ k ≤ 4) : (askOp listOps ws k t x y).2 = if keepE (askOp listOps ws k t x y).1.d then wOp ws (askOp listOps ws k t x y).1.d else ws := by
  rcases (show k = 1 ∨ k = 2 ∨ k = 3 ∨ k = 4 by omega) with rfl | rfl | rfl | rfl
  · rfl
  · rfl
  · show mCasTo ws t x y = if keepE (3, t, x, y, 0, mCas ws t x, ()) then wOp ws (3, t, x, y, 0, mCas ws t x, ()) else ws
    have e1 : keepE (3, t, x, y, 0, mCas ws t x, ()) = mCas ws t x := by simp [keepE]
    rw [e1]
    rfl
  · rfl
theorem writes_fwd : ∀ (B : List EvT) (es : List Ev) (ws : List Int), ∃ E, (B.foldl rstep (es, ws)).1 = es ++ E ∧ (E.map Ev.d = B → B.all kindB = true → (B.filter keepE).foldl wOp ws = (B.foldl rstep (es, ws)).2)
  | [], es, ws => ⟨[], by simp, fun _ _ => rfl⟩
  | d :: B, es, ws => by
    obtain ⟨e, he⟩ : ∃ e, e = (askOp listOps ws d.1 d.2.1 d.2.2.1 d.2.2.2.1).1 := ⟨_, rfl⟩
    obtain ⟨E, h1, h2⟩ := writes_fwd B (es ++ [e]) (askOp listOps ws d.1 d.2.1 d.2.2.1 d.2.2.2.1).2
    have hs : rstep (es, ws) d = (es ++ [e], (askOp listOps ws d.1 d.2.1 d.2.2.1 d.2.2.2.1).2) := by rw [he]; rfl
    refine ⟨e :: E, ?_, fun hE hk => ?_⟩
    · rw [List.foldl_cons, hs, h1, List.append_assoc]; rfl
    · rw [List.map_cons] at hE
      obtain ⟨hd, hE⟩ := List.cons.inj hE
      rw [List.all_cons, Bool.and_eq_true] at hk
      have hkk : 1 ≤ d.1 ∧ d.1 ≤ 4 := by simpa [kindB] using hk.1
      have hw := writes_step (ws := ws) (t := d.2.1) (x := d.2.2.1) (y := d.2.2.2.1) hkk
      rw [← he, hd] at hw
      rw [List.foldl_cons, hs, ← h2 hE hk.2, hw, List.filter_cons]
      cases hq : keepE d with
      | true => simp
      | false => simp
theorem writes_all {zs : List Int} {es : List Ev} {ws : List Int} (h : replay zs (es.map Ev.d) = (es, ws)) (hk : (es.map Ev.d).all kindB = true) : ((es.map Ev.d).filter keepE).foldl wOp zs = ws := by
  obtain ⟨E, h1, h2⟩ := writes_fwd (es.map Ev.d) [] zs
  unfold replay at h
  rw [h] at h1 h2
  have h1 : es = E := by simpa using h1
  rw [← h1] at h2
  exact h2 rfl hk
theorem wOp_length (ws : List Int) (d : EvT) : (wOp ws d).length = ws.length := by
  unfold wOp
  split
  · exact mStore_length _ _ _
  · split
    · exact mStore_length _ _ _
    · exact mAddTo_length _ _ _
theorem aAskNil (x y : Int) (σ : Hp) : ACalls Try.prog 15 [.nilp, .agg [.int .i64 2, .int .i64 0, .int .u64 x, .int .u64 y]] σ (Ret (.tup []) σ) := by
  have hS : ∀ σ, ACalls Try.prog 64 [.nilp, .int .i64 0, .int .u64 x] σ (Ret (.tup []) σ) := fun σ => by
    refine okF Try.func64 (by kernel_rfl) ?_
    refine callR [] (aMadeNil _) ?_
    exact .done ⟨rfl, rfl⟩
  refine okF Try.func15 (by kernel_rfl) ?_
  intro bl1
  refine LoadAt.mk 0 _ _ rfl rfl ?_
  refine LoadAt.mk 0 _ _ rfl rfl ?_
  refine LoadAt.mk 0 _ _ rfl rfl ?_
  refine callR [] (hS _) ?_
  exact .drop 0 1 (.done ⟨rfl, rfl⟩)
theorem aCountNil (σ : Hp) : ACalls Try.prog 22 [.nilp] σ (Ret (.int .i64 0) σ) := by
  have hE : ∀ σ, ACalls Try.prog 17 [.nilp] σ (Ret .nils σ) := fun σ => by
    refine okF Try.func17 (by kernel_rfl) ?_
    exact .done ⟨rfl, rfl⟩
  refine okF Try.func22 (by kernel_rfl) ?_
  refine callR [] (hE _) ?_
  exact .done ⟨rfl, rfl⟩
theorem aLenNil (σ : Hp) : ACalls Try.prog 23 [.nilp] σ (Ret (.int .i64 0) σ) := by
  refine okF Try.func23 (by kernel_rfl) ?_
  refine callR [] (aMadeNil _) ?_
  exact .done ⟨rfl, rfl⟩
theorem aAddNil (x : Int) (σ : Hp) : ACalls Try.prog 24 [.nilp, .int .i64 0, .int .u64 x] σ (Ret (.int .u64 0) σ) := by
  refine okF Try.func24 (by kernel_rfl) ?_
  refine callR [] (aMadeNil _) ?_
  exact .done ⟨rfl, rfl⟩
theorem recordWrites_walk (n : Int) (ax : List Act) : ACalls Try.prog 3 [.int .i64 n, .fsl actS ax] [] (fun r _ => r = .bool true) := by
  refine okF Try.func3 (by kernel_rfl) ?_
  refine callR [] awake23a ?_
  refine bcond_dec (fun h => ?_) (fun h1 => ?_)
  · exact .done rfl
  have h1 : ¬ 50 < n := h1
  refine bcond_dec (fun h => ?_) (fun h2 => ?_)
  · exact .done rfl
  have h2 : ¬ 60 < (ax.length : Int) := h2
  refine .mk [] _ (aNew n _) ?_
  rintro _ _ ⟨p, q, rfl, rfl⟩
  refine .mk [] _ (aNew n _) ?_
  rintro _ _ ⟨p2, q2, rfl, rfl⟩
  refine .mk [] _ (aLogNew (plainM p q) _) ?_
  rintro _ _ ⟨r, rfl, rfl⟩
  obtain ⟨zs, hzs⟩ : ∃ zs, zs = List.replicate (cutN n) (0 : Int) := ⟨_, rfl⟩
  have hlen : cutN n = zs.length := by rw [hzs]; simp
  have hz50 : zs.length ≤ 50 := by rw [← hlen]; unfold cutN; omega
  refine .shed (.pull [2, 2] (.refl _)) ?_
  refine loopS (S := Nat × LogS (plainM p q)) (fun s => [(5, .ptr p 0), (6, .ptr p2 0), (7, .ptr r 0), (29, .fsl actS ax), (30, .int .i64 ax.length), (31, .int .i64 s.1)])
    (fun s => plH p2 q2 zs ((r, [(plainM p q).v, s.2.c]) :: (s.2.acc ++ ((plainM p q).B s.2.m ++ []))))
    (fun s => s.1 ≤ ax.length ∧ s.2.es.length = s.1 ∧ replay zs (s.2.es.map Ev.d) = (s.2.es, s.2.m) ∧ (s.2.es.map Ev.d).all kindB = true ∧ List.length (α := Int) s.2.m ≤ 50) (fun s => ax.length - s.1)
    (0, ⟨zs, [], .nils, [], .nil⟩) ⟨⟨Nat.zero_le _, rfl, rfl, rfl, hz50⟩, ⟨rfl, rfl, rfl, rfl, rfl, rfl, trivial⟩, by rw [← hzs, hlen]; rfl⟩ ?_
  rintro ⟨k, ls⟩ g ⟨hk, hel, hrep, hall, hm50⟩
  have hk : k ≤ ax.length := hk
  have hel : ls.es.length = k := hel
  have hrep : replay zs (ls.es.map Ev.d) = (ls.es, ls.m) := hrep
  have hall : (ls.es.map Ev.d).all kindB = true := hall
  have hm50 : List.length (α := Int) ls.m ≤ 50 := hm50
  refine bcond_dec (fun hlt => ?_) (fun hge => ?_)
  · have hlt : k < ax.length := by have hlt : (k : Int) < ax.length := hlt; omega
    refine With.mk rfl (IdxF.mk ax[k] (by omega) (get_some hlt) ?_)
    intro b
    refine StoreAt.mk 0 _ _ rfl rfl ?_
    refine LoadAt.mk 0 _ _ rfl rfl ?_
    obtain ⟨dk, dt, dx, dy, du⟩ := ax[k]
    refine callR [] (aKind dk _) ?_
    refine StoreAt.mk 0 _ _ rfl rfl ?_
    refine LoadAt.mk 0 _ _ rfl rfl ?_
    refine .perm _ (log_perm [_, _, _] _ [] ls.acc _) (aAsk (plainM p q) r ls (kindN dk) dt dx dy ([_, _, _] ++ []) trivial (by omega)) ?_
    rintro _ _ ⟨rfl, ls', f1, f2, rfl⟩
    refine ⟨_, (log_perm [_, _, _] _ [] ls'.acc _).symm, ?_⟩
    have hm' : ls'.m = (askOp listOps ls.m (kindN dk) dt dx dy).2 := f1
    have f2 : ls'.es = ls.es ++ [(askOp listOps ls.m (kindN dk) dt dx dy).1] := f2
    refine nextS (k + 1, ls') ?_ ⟨hlt, ?_, ?_, ?_, ?_⟩ ⟨rfl, rfl, rfl, rfl, rfl, inc64 (by omega), trivial⟩ (.drop 0 1 (shed_eq rfl))
    · show ax.length - (k + 1) < ax.length - k; omega
    · show ls'.es.length = k + 1
      rw [f2]; simp [hel]
    · show replay zs (ls'.es.map Ev.d) = (ls'.es, ls'.m)
      rw [hm', f2]
      exact replay_more (kindN_ok dk) hrep
    · show (ls'.es.map Ev.d).all kindB = true
      rw [f2, List.map_append, List.all_append, hall]
      have := (ask_again ls.m (kindN dk) dt dx dy (kindN_ok dk) _ rfl).1
      simp [this]
    · show List.length (α := Int) ls'.m ≤ 50
      rw [hm']
      exact Nat.le_trans (Nat.le_of_eq (askOp_length ls.m _ _ _ _)) hm50
  · refine callP (log_perm [_, _] _ [] ls.acc _) (aEventsF (plainM p q) r ls _ (by omega)) (log_perm [_, _] _ [] ls.acc _).symm ?_
    obtain ⟨W, hW⟩ : ∃ W, W = (ls.es.map Ev.d).filter keepE := ⟨_, rfl⟩
    have hWr : ∀ σ, ACalls Try.prog 16 [.fsl evSh (ls.es.map Ev.d)] σ (Ret (.fsl evSh W) σ) := fun σ => by
      rw [hW]
      exact aWritesE (ls.es.map Ev.d) σ (Nat.le_trans (Nat.le_of_eq (List.length_map Ev.d)) (by omega))
    refine callR [] (hWr _) ?_
    have hWl : W.length ≤ 60 := by
      have := List.length_filter_le keepE (ls.es.map Ev.d)
      rw [← hW, List.length_map] at this
      omega
    have hfin := writes_all hrep hall
    rw [← hW] at hfin
    refine loopS (S := Nat × List Int) (fun s => [(5, .ptr p 0), (6, .ptr p2 0), (45, .fsl evSh W), (46, .int .i64 W.length), (47, .int .i64 s.1)])
      (fun s => plH p2 q2 s.2 ((r, [(plainM p q).v, ls.c]) :: (ls.acc ++ ((plainM p q).B ls.m ++ []))))
      (fun s => s.1 ≤ W.length ∧ s.2 = (W.take s.1).foldl wOp zs) (fun s => W.length - s.1) (0, zs) ⟨⟨Nat.zero_le _, rfl⟩, ⟨rfl, rfl, rfl, rfl, rfl, trivial⟩, rfl⟩ ?_
    rintro ⟨j, ws⟩ g ⟨hj, hws⟩
    have hj : j ≤ W.length := hj
    have hws : ws = (W.take j).foldl wOp zs := hws
    refine bcond_dec (fun hlt => ?_) (fun hge => ?_)
    · have hlt : j < W.length := by have hlt : (j : Int) < W.length := hlt; omega
      refine With.mk rfl (IdxF.mk W[j] (by omega) (get_some hlt) ?_)
      have hnext : wOp ws W[j] = (W.take (j + 1)).foldl wOp zs := by rw [List.take_succ_eq_append_getElem hlt, List.foldl_append, ← hws]; rfl
      generalize W[j] = d at hnext
      obtain ⟨dk, da, dx, dy, dg, dO, du⟩ := d
      intro bl1
      refine StoreAt.mk 0 _ _ rfl rfl ?_
      refine LoadAt.mk 0 _ _ rfl rfl ?_
      refine bcond_dec (fun c2 => ?_) (fun c2 => ?_)
      · have c2 : dk = 2 := c2
        refine LoadAt.mk 0 _ _ rfl rfl ?_
        refine LoadAt.mk 0 _ _ rfl rfl ?_
        refine callR [2, 2] (aStore p2 q2 ws da dx _) ?_
        refine nextS (j + 1, mStore ws da dx) (by show W.length - (j + 1) < W.length - j; omega) ⟨hlt, ?_⟩ ⟨rfl, rfl, rfl, rfl, inc64 (by omega), trivial⟩ (.drop 2 1 (shed_eq rfl))
        show mStore ws da dx = _
        rw [← hnext]; simp [wOp, c2]
      · have c2 : ¬ (dk = 2) := c2
        refine bcond_dec (fun c3 => ?_) (fun c3 => ?_)
        · have c3 : dk = 3 := c3
          refine LoadAt.mk 0 _ _ rfl rfl ?_
          refine LoadAt.mk 0 _ _ rfl rfl ?_
          refine callR [2, 2] (aStore p2 q2 ws da dy _) ?_
          refine nextS (j + 1, mStore ws da dy) (by show W.length - (j + 1) < W.length - j; omega) ⟨hlt, ?_⟩ ⟨rfl, rfl, rfl, rfl, inc64 (by omega), trivial⟩ (.drop 2 1 (shed_eq rfl))
          show mStore ws da dy = _
          rw [← hnext]; simp [wOp, c3]
        · have c3 : ¬ (dk = 3) := c3
          refine LoadAt.mk 0 _ _ rfl rfl ?_
          refine LoadAt.mk 0 _ _ rfl rfl ?_
          refine callR [2, 2] (aAdd p2 q2 ws da dx _) ?_
          refine nextS (j + 1, mAddTo ws da dx) (by show W.length - (j + 1) < W.length - j; omega) ⟨hlt, ?_⟩ ⟨rfl, rfl, rfl, rfl, inc64 (by omega), trivial⟩ (.drop 2 1 (shed_eq rfl))
          show mAddTo ws da dx = _
          rw [← hnext]; simp [wOp, c2, c3]
    · have hge : j = W.length := by have hge : ¬ (j : Int) < W.length := hge; omega
      rw [hge, List.take_length, hfin] at hws
      refine callR [] (aAskNil _ _ _) ?_
      refine callK (pl_perm _ [_, _, _] ls.acc) (aAll p q ls.m _ (Nat.le_trans hm50 (by decide))) ?_
      have hws : ws = ls.m := hws
      have hl50 : ws.length ≤ 1000000 := Nat.le_trans (Nat.le_of_eq (congrArg List.length hws)) (Nat.le_trans hm50 (by decide))
      refine callR [] (aAll p2 q2 ws _ hl50) ?_
      have hsame : ∀ σ, ACalls Try.prog 20 [.fsl (.int .u64) ls.m, .fsl (.int .u64) ws] σ (Ret (.bool true) σ) := fun σ => by
        rw [← hws]
        have h := same10 ws ws σ hl50
        rw [show decide (ws = ws) = true from decide_eq_true rfl] at h
        exact h
      refine callR [] (hsame _) ?_
      refine callR [] (aCountNil _) ?_
      refine callR [] (aLenNil _) ?_
      refine callR [] (aAddNil _ _) ?_
      exact .done rfl
end Go.Proofs.Ytiihcgmnmcdcfaa
