/-
  Cell: what the claim uses of them.
-/
import Derived.Test.YtegpahamenjiaaaGreatBn12
import Derived.Test.YtegpahamenjiaaaGreatBn35
namespace Go.Proofs.YtegpahamenjiaaaGreat
open Go.RowKit
set_option maxRecDepth 100000
set_option maxHeartbeats 4000000
theorem load_64 {ws : List Int} (h : A64 ws) (a : Int) : W64 (mLoad ws a) := by
  unfold mLoad
  split
  · exact ⟨by decide, by decide⟩
  · rw [List.getD_eq_getElem?_getD]
    cases hq : ws[a.toNat]? with
    | none => exact ⟨by decide, by decide⟩
    | some x => exact h x (List.mem_of_getElem? hq)
theorem aWd (a : List Int) (i : Nat) (σ : Hp) : ACalls Tryz.prog 282 [.fsl (.int .u64) a, .int .i64 i] σ (Ret (.int .u64 (wd a i)) σ) := by
  refine okF Tryz.func282 (by kernel_rfl) ?_
  refine bcond_dec (fun h => ?_) (fun h => ?_)
  · have h : (a.length : Int) ≤ i := h
    exact .done ⟨av_int (by simp [wd, List.getElem?_eq_none (show a.length ≤ i by omega)]), rfl⟩
  · have h : ¬ (a.length : Int) ≤ i := h
    have hi : i < a.length := by omega
    refine With.mk rfl (IdxF.mk a[i] (by omega) (get_some hi) ?_)
    exact .done ⟨av_int (by simp [wd, hi]), rfl⟩
/-- How many words there are. -/
def cw (n : Int) : Nat := (min (max n 0) 1024).toNat
theorem cw_le (n : Int) : cw n ≤ 1024 := by unfold cw; omega
theorem cw_int (n : Int) : (if (1024 : Int) < (if n < 0 then 0 else n) then (1024 : Int) else (if n < 0 then 0 else n)) = ((cw n : Nat) : Int) := by
  unfold cw
  by_cases h : n < 0
  · simp only [if_pos h]; omega
  · simp only [if_neg h]; split <;> omega
theorem aCWords (b w n : Int) (σ : Hp) : ACalls Tryz.prog 280 [.agg [.int .i64 b, .int .i64 w, .int .i64 n]] σ (Ret (.int .i64 (cw n)) σ) := by
  refine okF Tryz.func280 (by kernel_rfl) ?_
  intro bl1
  refine LoadAt.mk 0 _ _ rfl rfl ?_
  exact .drop 0 1 (.done ⟨av_int (cw_int n), rfl⟩)
/-- A Join. -/
structure Jn where
  base : Int
  what : Int
  words : Int
  a : List Int
  changed : Bool
  ended : Bool
  tries : Int
  at_ : Nat
  loaded : Bool
  x : Int
def jnC (j : Jn) : List AV := [.int .i64 j.base, .int .i64 j.what, .int .i64 j.words, .fsl (.int .u64) j.a, .bool j.changed, .bool j.ended, .int .i64 j.tries, .int .i64 j.at_, .bool j.loaded, .int .u64 j.x]
def jnNext (j : Jn) : Jn × Bool := if j.at_ + 1 < cw j.words then ({ j with at_ := j.at_ + 1 }, false) else ({ j with at_ := j.at_ + 1, ended := true }, true)
def jnStep (O : MOps) (j : Jn) (a : O.A) : Jn × O.A × Bool :=
  if j.ended then (j, a, true)
  else if j.at_ = cw j.words then ({ j with ended := true }, a, true)
  else if j.loaded then
    (if (O.cs a (wr (j.base + j.at_)) j.x (wordW j.what j.x (wd j.a j.at_))).1 then ((jnNext { j with loaded := false, changed := true }).1, (O.cs a (wr (j.base + j.at_)) j.x (wordW j.what j.x (wd j.a j.at_))).2, (jnNext { j with loaded := false, changed := true }).2)
    else ({ j with loaded := false, tries := wr (j.tries + 1) }, (O.cs a (wr (j.base + j.at_)) j.x (wordW j.what j.x (wd j.a j.at_))).2, false))
  else if wordW j.what (O.ld a (wr (j.base + j.at_))).1 (wd j.a j.at_) = (O.ld a (wr (j.base + j.at_))).1 then ((jnNext { j with x := (O.ld a (wr (j.base + j.at_))).1 }).1, (O.ld a (wr (j.base + j.at_))).2, (jnNext { j with x := (O.ld a (wr (j.base + j.at_))).1 }).2)
  else ({ j with x := (O.ld a (wr (j.base + j.at_))).1, loaded := true }, (O.ld a (wr (j.base + j.at_))).2, false)
theorem mPost' {M : AMem} {σ : Hp} {X : Type} {B : X → List AV} {r : Nat} {res : X × M.O.A × Bool} {x : X} {a : M.O.A} {b : Bool} {m' : M.S} {cs : List AV} (h : res = (x, a, b)) (hm : M.abs m' = a) (hc : cs = B x) : MPost M σ B r res (.bool b) ((r, cs) :: (M.B m' ++ σ)) := by
  subst hc
  exact mPost h hm
theorem aJoin (M : AMem) (r : Nat) (j : Jn) (m : M.S) (d : Int) (σ : Hp) (hf : M.O.free (M.abs m)) (hat : j.at_ ≤ 2000) : ACalls Tryz.prog 281 [.ptr r 0, M.v, .int .i64 d] ((r, jnC j) :: (M.B m ++ σ)) (MPost M σ jnC r (jnStep M.O j (M.abs m))) := by
  refine okF Tryz.func281 (by kernel_rfl) ?_
  have hw : IntKind.i64.wrap ((j.at_ : Int) + 1) = ((j.at_ + 1 : Nat) : Int) := by rw [IntKind.wrap_i64]; omega
  refine LoadAt.mkB 0 _ _ rfl rfl (fun h0 => ?_) (fun h0 => ?_)
  · exact .done (mPost (x := j) (by simp [jnStep, h0]) rfl)
  refine callR [] (aOr _ _ _) ?_
  refine .quiet (by kernel_rfl) ?_
  refine LoadAt.mk 0 _ _ rfl rfl ?_
  refine LoadAt.mk 0 _ _ rfl rfl ?_
  refine callQ [] (aCWords _ _ _ _) ?_
  refine bcond_dec (fun c1 => ?_) (fun c1 => ?_)
  · have c1 : (j.at_ : Int) = cw j.words := c1
    have c1 : j.at_ = cw j.words := by omega
    refine .fwd 1 ?_
    refine StoreAt.mk 0 _ _ rfl rfl ?_
    exact .done (mPost (x := { j with ended := true }) (by simp [jnStep, h0, c1]) rfl)
  · have c1 : ¬ (j.at_ : Int) = cw j.words := c1
    have c1 : ¬ j.at_ = cw j.words := by omega
    refine LoadAt.mkB 0 _ _ rfl rfl (fun c2 => ?_) (fun c2 => ?_)
    · refine StoreAt.mk 0 _ _ rfl rfl ?_
      refine .sched [36, 37] (upto [36, 37] 43 0) (by kernel_rfl) ?_
      refine LoadAt.mk 0 _ _ rfl rfl ?_
      refine LoadAt.mk 0 _ _ rfl rfl ?_
      refine LoadAt.mk 0 _ _ rfl rfl ?_
      refine LoadAt.mk 0 _ _ rfl rfl ?_
      refine LoadAt.mk 0 _ _ rfl rfl ?_
      refine LoadAt.mk 0 _ _ rfl rfl ?_
      refine LoadAt.mk 0 _ _ rfl rfl ?_
      refine callQ [] (aWd _ _ _) ?_
      refine callQ [] (aWord _ _ _ _) ?_
      refine AheadAt.mk M.hC ?_
      refine M.aCasB [_] hf (fun m' hm hb => ?_) (fun m' hm hb => ?_)
      · refine StoreAt.mk 0 _ _ rfl rfl ?_
        refine .fwd 1 ?_
        refine LoadAt.mk 0 _ _ rfl rfl ?_
        refine StoreAt.mk 0 _ _ rfl rfl ?_
        refine .quiet (by kernel_rfl) ?_
        refine LoadAt.mk 0 _ _ rfl rfl ?_
        refine LoadAt.mk 0 _ _ rfl rfl ?_
        refine callQ [] (aCWords _ _ _ _) ?_
        refine bcond_dec (fun c3 => ?_) (fun c3 => ?_)
        · have c3 : IntKind.i64.wrap (↑j.at_ + 1) < ↑(cw j.words) := c3
          exact .done (mPost' (x := { j with loaded := false, changed := true, at_ := j.at_ + 1 }) (by simp [jnStep, h0, c1, c2, hb, jnNext, show j.at_ + 1 < cw j.words by omega]) hm (by rw [hw]; rfl))
        · have c3 : ¬ (IntKind.i64.wrap (↑j.at_ + 1) < ↑(cw j.words)) := c3
          refine StoreAt.mk 0 _ _ rfl rfl ?_
          exact .done (mPost' (x := { j with loaded := false, changed := true, at_ := j.at_ + 1, ended := true }) (by simp [jnStep, h0, c1, c2, hb, jnNext, show ¬ j.at_ + 1 < cw j.words by omega]) hm (by rw [hw]; rfl))
      · refine LoadAt.mk 0 _ _ rfl rfl ?_
        refine StoreAt.mk 0 _ _ rfl rfl ?_
        exact .done (mPost (x := { j with loaded := false, tries := wr (j.tries + 1) }) (by simp [jnStep, h0, c1, c2, hb]) hm)
    · refine .sched [] (upto [] 21 0) (by kernel_rfl) ?_
      refine LoadAt.mk 0 _ _ rfl rfl ?_
      refine LoadAt.mk 0 _ _ rfl rfl ?_
      refine AheadAt.mk M.hL ?_
      refine M.aLoad [_] hf fun m' hm => ?_
      refine StoreAt.mk 0 _ _ rfl rfl ?_
      refine .quiet (by kernel_rfl) ?_
      refine LoadAt.mk 0 _ _ rfl rfl ?_
      refine LoadAt.mk 0 _ _ rfl rfl ?_
      refine LoadAt.mk 0 _ _ rfl rfl ?_
      refine LoadAt.mk 0 _ _ rfl rfl ?_
      refine callQ [] (aWd _ _ _) ?_
      refine callQ [] (aWord _ _ _ _) ?_
      refine LoadAt.mk 0 _ _ rfl rfl ?_
      refine bcond_split (fun c4 => ?_) (fun c4 => ?_)
      · have c4 : ¬ (wordW j.what (M.O.ld (M.abs m) (IntKind.i64.wrap (j.base + ↑j.at_))).fst (wd j.a j.at_) = (M.O.ld (M.abs m) (IntKind.i64.wrap (j.base + ↑j.at_))).fst) := by simpa using c4
        refine StoreAt.mk 0 _ _ rfl rfl ?_
        exact .done (mPost (x := { j with x := (M.O.ld (M.abs m) (wr (j.base + j.at_))).1, loaded := true }) (by simp [jnStep, h0, c1, c2, c4]) hm)
      · have c4 : wordW j.what (M.O.ld (M.abs m) (IntKind.i64.wrap (j.base + ↑j.at_))).fst (wd j.a j.at_) = (M.O.ld (M.abs m) (IntKind.i64.wrap (j.base + ↑j.at_))).fst := by simpa using c4
        refine LoadAt.mk 0 _ _ rfl rfl ?_
        refine StoreAt.mk 0 _ _ rfl rfl ?_
        refine .quiet (by kernel_rfl) ?_
        refine LoadAt.mk 0 _ _ rfl rfl ?_
        refine LoadAt.mk 0 _ _ rfl rfl ?_
        refine callQ [] (aCWords _ _ _ _) ?_
        refine bcond_dec (fun c5 => ?_) (fun c5 => ?_)
        · have c5 : IntKind.i64.wrap (↑j.at_ + 1) < ↑(cw j.words) := c5
          exact .done (mPost' (x := { j with x := (M.O.ld (M.abs m) (wr (j.base + j.at_))).1, at_ := j.at_ + 1 }) (by simp [jnStep, h0, c1, c2, c4, jnNext, show j.at_ + 1 < cw j.words by omega]) hm (by rw [hw]; rfl))
        · have c5 : ¬ (IntKind.i64.wrap (↑j.at_ + 1) < ↑(cw j.words)) := c5
          refine StoreAt.mk 0 _ _ rfl rfl ?_
          exact .done (mPost' (x := { j with x := (M.O.ld (M.abs m) (wr (j.base + j.at_))).1, at_ := j.at_ + 1, ended := true }) (by simp [jnStep, h0, c1, c2, c4, jnNext, show ¬ j.at_ + 1 < cw j.words by omega]) hm (by rw [hw]; rfl))
def rdC (v : AV) (base what words : Int) (ended : Bool) (at_ : Nat) (loaded : Bool) (x : Int) : List AV := [.int .i64 base, .int .i64 what, .int .i64 words, v, .bool ended, .int .i64 at_, .bool loaded, .int .u64 x]
/-- A list's variable in a block: nil, or a list that was made. -/
inductive L64 : AV → Hp → List Int → Prop where
  | nil : L64 .nils [] []
  | mref (b : Nat) (l : List Int) : L64 (.mref b 0 l.length 1) [(b, woC l)] l
theorem L64.push (b : Nat) (l : List Int) (x : Int) : L64 (.mref b 0 (l.length + 1) 1) [(b, (woC l).take (l.length * 1) ++ [.int .u64 x])] (l ++ [x]) := by
  have h := L64.mref b (l ++ [x])
  have e1 : (l ++ [x]).length = l.length + 1 := by simp
  have e2 : woC (l ++ [x]) = (woC l).take (l.length * 1) ++ [.int .u64 x] := by rw [List.take_of_length_le (by simp [woC])]; simp [woC]
  rw [e1, e2] at h
  exact h
theorem aClone64n (σ : Hp) : ACalls Tryz.prog 109 [.nils] σ (Ret .nils σ) := by
  refine okF Tryz.func109 (by kernel_rfl) ?_
  exact .done ⟨rfl, rfl⟩
theorem aClone64m (b k : Nat) (cs : List AV) (σ : Hp) (hm : (b, cs) ∈ σ) (h : cs.length = k * 1) (hl : k ≤ 1000000) : ACalls Tryz.prog 109 [.mref b 0 k 1] σ (fun x σ' => ∃ b', x = .mref b' 0 k 1 ∧ σ' = (b', cs) :: σ) := by
  refine okF Tryz.func109 (by kernel_rfl) ?_
  intro b2
  refine AppendAt.more 0 b2 0 k [] ((cs.drop 0).take (k * 1)) rfl rfl (Nat.le_of_ble_eq_true rfl) (.mem (List.mem_cons_of_mem _ hm) (by show 0 + k * 1 ≤ cs.length; omega)) (by omega) (by decide) (by decide) (fun b' => ?_)
  refine .done ⟨b', by rw [Nat.zero_add]; rfl, ?_⟩
  show (b', List.take (0 * 1) [] ++ (cs.drop 0).take (k * 1)) :: σ = _
  rw [show (cs.drop 0).take (k * 1) = cs by rw [List.drop_zero, List.take_of_length_le (by omega)]]; rfl
end Go.Proofs.YtegpahamenjiaaaGreat
