/-
  package cell over any memory, by the abstract walk: word, words, Put, Get, Join, Read; in plain Lean: what they do.
-/
import Derived.Test.YtiihcgmnmcdcfaaTk
import Derived.Test.YtiihcgmnmcdcfaaLat
namespace Go.Proofs.Ytiihcgmnmcdcfaa
open Go.RowKit
set_option maxRecDepth 100000
set_option maxHeartbeats 4000000
/-- A list's word; 0: there is none. -/
def wd (a : List Int) (i : Nat) : Int := (a[i]?).getD 0
theorem aWd (a : List Int) (i : Nat) (σ : Hp) : ACalls Try.prog 95 [.fsl (.int .u64) a, .int .i64 i] σ (Ret (.int .u64 (wd a i)) σ) := by
  refine okF Try.func95 (by kernel_rfl) ?_
  refine bcond_dec (fun h => ?_) (fun h => ?_)
  · have h : (a.length : Int) ≤ i := h
    exact .done ⟨av_int (by simp [wd, List.getElem?_eq_none (show a.length ≤ i by omega)]), rfl⟩
  · have h : ¬ (a.length : Int) ≤ i := h
    have hi : i < a.length := by omega
    refine With.mk rfl (IdxF.mk a[i] (by omega) (get_some hi) ?_)
    exact .done ⟨av_int (by simp [wd, hi]), rfl⟩
/-- How many words there are. -/
def cw (n : Int) : Nat := (min (max n 0) 1024).toNat
theorem cw_le (n : Int) : cw n ≤ 1024 := by unfold cw; omega
theorem cw_int (n : Int) : (if (1024 : Int) < (if n < 0 then 0 else n) then (1024 : Int) else (if n < 0 then 0 else n)) = ((cw n : Nat) : Int) := by
  unfold cw
  by_cases h : n < 0
  · simp only [if_pos h]; omega
  · simp only [if_neg h]; split <;> omega
theorem aCWords (b w n : Int) (σ : Hp) : ACalls Try.prog 94 [.agg [.int .i64 b, .int .i64 w, .int .i64 n]] σ (Ret (.int .i64 (cw n)) σ) := by
  refine okF Try.func94 (by kernel_rfl) ?_
  intro bl1
  refine LoadAt.mk 0 _ _ rfl rfl ?_
  exact .drop 0 1 (.done ⟨av_int (cw_int n), rfl⟩)
/-- A Join. -/
structure Jn where
  base : Int
  what : Int
  words : Int
  a : List Int
  changed : Bool
  ended : Bool
  tries : Int
  at_ : Nat
  loaded : Bool
  x : Int
def jnC (j : Jn) : List AV := [.int .i64 j.base, .int .i64 j.what, .int .i64 j.words, .fsl (.int .u64) j.a, .bool j.changed, .bool j.ended, .int .i64 j.tries, .int .i64 j.at_, .bool j.loaded, .int .u64 j.x]
def jnNext (j : Jn) : Jn × Bool := if j.at_ + 1 < cw j.words then ({ j with at_ := j.at_ + 1 }, false) else ({ j with at_ := j.at_ + 1, ended := true }, true)
def jnStep (O : MOps) (j : Jn) (a : O.A) : Jn × O.A × Bool :=
  if j.ended then (j, a, true)
  else if j.at_ = cw j.words then ({ j with ended := true }, a, true)
  else if j.loaded then
    (if (O.cs a (wr (j.base + j.at_)) j.x (wordW j.what j.x (wd j.a j.at_))).1 then ((jnNext { j with loaded := false, changed := true }).1, (O.cs a (wr (j.base + j.at_)) j.x (wordW j.what j.x (wd j.a j.at_))).2, (jnNext { j with loaded := false, changed := true }).2)
    else ({ j with loaded := false, tries := wr (j.tries + 1) }, (O.cs a (wr (j.base + j.at_)) j.x (wordW j.what j.x (wd j.a j.at_))).2, false))
  else if wordW j.what (O.ld a (wr (j.base + j.at_))).1 (wd j.a j.at_) = (O.ld a (wr (j.base + j.at_))).1 then ((jnNext { j with x := (O.ld a (wr (j.base + j.at_))).1 }).1, (O.ld a (wr (j.base + j.at_))).2, (jnNext { j with x := (O.ld a (wr (j.base + j.at_))).1 }).2)
  else ({ j with x := (O.ld a (wr (j.base + j.at_))).1, loaded := true }, (O.ld a (wr (j.base + j.at_))).2, false)

theorem mPost' {M : AMem} {σ : Hp} {X : Type} {B : X → List AV} {r : Nat} {res : X × M.O.A × Bool} {x : X} {a : M.O.A} {b : Bool} {m' : M.S} {cs : List AV} (h : res = (x, a, b)) (hm : M.abs m' = a) (hc : cs = B x) : MPost M σ B r res (.bool b) ((r, cs) :: (M.B m' ++ σ)) := by
  subst hc
  exact mPost h hm
theorem aJoin (M : AMem) (r : Nat) (j : Jn) (m : M.S) (d : Int) (σ : Hp) (hf : M.O.free (M.abs m)) (hat : j.at_ ≤ 2000) : ACalls Try.prog 90 [.ptr r 0, M.v, .int .i64 d] ((r, jnC j) :: (M.B m ++ σ)) (MPost M σ jnC r (jnStep M.O j (M.abs m))) := by
  refine okF Try.func90 (by kernel_rfl) ?_
  have hw : IntKind.i64.wrap ((j.at_ : Int) + 1) = ((j.at_ + 1 : Nat) : Int) := by rw [IntKind.wrap_i64]; omega
  refine LoadAt.mkB 0 _ _ rfl rfl (fun h0 => ?_) (fun h0 => ?_)
  · exact .done (mPost (x := j) (by simp [jnStep, h0]) rfl)
  refine callR [] (aOr _ _ _) ?_
  refine .quiet (by kernel_rfl) ?_
  refine LoadAt.mk 0 _ _ rfl rfl ?_
  refine LoadAt.mk 0 _ _ rfl rfl ?_
  refine callQ [] (aCWords _ _ _ _) ?_
  refine bcond_dec (fun c1 => ?_) (fun c1 => ?_)
  · have c1 : (j.at_ : Int) = cw j.words := c1
    have c1 : j.at_ = cw j.words := by omega
    refine .fwd 1 ?_
    refine StoreAt.mk 0 _ _ rfl rfl ?_
    exact .done (mPost (x := { j with ended := true }) (by simp [jnStep, h0, c1]) rfl)
  · have c1 : ¬ (j.at_ : Int) = cw j.words := c1
    have c1 : ¬ j.at_ = cw j.words := by omega
    refine LoadAt.mkB 0 _ _ rfl rfl (fun c2 => ?_) (fun c2 => ?_)
    · refine StoreAt.mk 0 _ _ rfl rfl ?_
      refine .sched [36, 37] (upto [36, 37] 43 0) (by kernel_rfl) ?_
      refine LoadAt.mk 0 _ _ rfl rfl ?_
      refine LoadAt.mk 0 _ _ rfl rfl ?_
      refine LoadAt.mk 0 _ _ rfl rfl ?_
      refine LoadAt.mk 0 _ _ rfl rfl ?_
      refine LoadAt.mk 0 _ _ rfl rfl ?_
      refine LoadAt.mk 0 _ _ rfl rfl ?_
      refine LoadAt.mk 0 _ _ rfl rfl ?_
      refine callQ [] (aWd _ _ _) ?_
      refine callQ [] (aWord _ _ _ _) ?_
      refine AheadAt.mk M.hC ?_
      refine M.aCasB [_] hf (fun m' hm hb => ?_) (fun m' hm hb => ?_)
      · refine StoreAt.mk 0 _ _ rfl rfl ?_
        refine .fwd 1 ?_
        refine LoadAt.mk 0 _ _ rfl rfl ?_
        refine StoreAt.mk 0 _ _ rfl rfl ?_
        refine .quiet (by kernel_rfl) ?_
        refine LoadAt.mk 0 _ _ rfl rfl ?_
        refine LoadAt.mk 0 _ _ rfl rfl ?_
        refine callQ [] (aCWords _ _ _ _) ?_
        refine bcond_dec (fun c3 => ?_) (fun c3 => ?_)
        · have c3 : IntKind.i64.wrap (↑j.at_ + 1) < ↑(cw j.words) := c3
          exact .done (mPost' (x := { j with loaded := false, changed := true, at_ := j.at_ + 1 }) (by simp [jnStep, h0, c1, c2, hb, jnNext, show j.at_ + 1 < cw j.words by omega]) hm (by rw [hw]; rfl))
        · have c3 : ¬ (IntKind.i64.wrap (↑j.at_ + 1) < ↑(cw j.words)) := c3
          refine StoreAt.mk 0 _ _ rfl rfl ?_
          exact .done (mPost' (x := { j with loaded := false, changed := true, at_ := j.at_ + 1, ended := true }) (by simp [jnStep, h0, c1, c2, hb, jnNext, show ¬ j.at_ + 1 < cw j.words by omega]) hm (by rw [hw]; rfl))
      · refine LoadAt.mk 0 _ _ rfl rfl ?_
        refine StoreAt.mk 0 _ _ rfl rfl ?_
        exact .done (mPost (x := { j with loaded := false, tries := wr (j.tries + 1) }) (by simp [jnStep, h0, c1, c2, hb]) hm)
    · refine .sched [] (upto [] 21 0) (by kernel_rfl) ?_
      refine LoadAt.mk 0 _ _ rfl rfl ?_
      refine LoadAt.mk 0 _ _ rfl rfl ?_
      refine AheadAt.mk M.hL ?_
      refine M.aLoad [_] hf fun m' hm => ?_
      refine StoreAt.mk 0 _ _ rfl rfl ?_
      refine .quiet (by kernel_rfl) ?_
      refine LoadAt.mk 0 _ _ rfl rfl ?_
      refine LoadAt.mk 0 _ _ rfl rfl ?_
      refine LoadAt.mk 0 _ _ rfl rfl ?_
      refine LoadAt.mk 0 _ _ rfl rfl ?_
      refine callQ [] (aWd _ _ _) ?_
      refine callQ [] (aWord _ _ _ _) ?_
      refine LoadAt.mk 0 _ _ rfl rfl ?_
      refine bcond_split (fun c4 => ?_) (fun c4 => ?_)
      · have c4 : ¬ (wordW j.what (M.O.ld (M.abs m) (IntKind.i64.wrap (j.base + ↑j.at_))).fst (wd j.a j.at_) = (M.O.ld (M.abs m) (IntKind.i64.wrap (j.base + ↑j.at_))).fst) := by simpa using c4
        refine StoreAt.mk 0 _ _ rfl rfl ?_
        exact .done (mPost (x := { j with x := (M.O.ld (M.abs m) (wr (j.base + j.at_))).1, loaded := true }) (by simp [jnStep, h0, c1, c2, c4]) hm)
      · have c4 : wordW j.what (M.O.ld (M.abs m) (IntKind.i64.wrap (j.base + ↑j.at_))).fst (wd j.a j.at_) = (M.O.ld (M.abs m) (IntKind.i64.wrap (j.base + ↑j.at_))).fst := by simpa using c4
        refine LoadAt.mk 0 _ _ rfl rfl ?_
        refine StoreAt.mk 0 _ _ rfl rfl ?_
        refine .quiet (by kernel_rfl) ?_
        refine LoadAt.mk 0 _ _ rfl rfl ?_
        refine LoadAt.mk 0 _ _ rfl rfl ?_
        refine callQ [] (aCWords _ _ _ _) ?_
        refine bcond_dec (fun c5 => ?_) (fun c5 => ?_)
        · have c5 : IntKind.i64.wrap (↑j.at_ + 1) < ↑(cw j.words) := c5
          exact .done (mPost' (x := { j with x := (M.O.ld (M.abs m) (wr (j.base + j.at_))).1, at_ := j.at_ + 1 }) (by simp [jnStep, h0, c1, c2, c4, jnNext, show j.at_ + 1 < cw j.words by omega]) hm (by rw [hw]; rfl))
        · have c5 : ¬ (IntKind.i64.wrap (↑j.at_ + 1) < ↑(cw j.words)) := c5
          refine StoreAt.mk 0 _ _ rfl rfl ?_
          exact .done (mPost' (x := { j with x := (M.O.ld (M.abs m) (wr (j.base + j.at_))).1, at_ := j.at_ + 1, ended := true }) (by simp [jnStep, h0, c1, c2, c4, jnNext, show ¬ j.at_ + 1 < cw j.words by omega]) hm (by rw [hw]; rfl))

theorem SrcAt.mem {σ : Hp} {b off len es : Nat} {cs : List AV} (h : (b, cs) ∈ σ) (h2 : off + len * es ≤ cs.length) : SrcAt σ es (.mref b off len es) len ((cs.drop off).take (len * es)) := by
  obtain ⟨j, hj⟩ := List.mem_iff_getElem?.1 h
  exact .mref j b off len cs hj h2
/-- Put: words laid one behind the other. -/
def putW (base : Int) (a : List Int) (ws : List Int) : Nat → List Int
  | 0 => ws
  | k + 1 => mStore (putW base a ws k) (wr (base + k)) (wd a k)
theorem putW_length (base : Int) (a ws : List Int) (k : Nat) : (putW base a ws k).length = ws.length := by
  induction k with
  | zero => rfl
  | succ k ih => rw [putW, mStore_length, ih]
theorem aPut (p q : Nat) (ws : List Int) (b w n : Int) (a : List Int) (σ : Hp) : ACalls Try.prog 44 [.agg [.int .i64 b, .int .i64 w, .int .i64 n], plI p, .fsl (.int .u64) a] (plH p q ws σ) (Ret (.tup []) (plH p q (putW b a ws (cw n)) σ)) := by
  have hc := cw_le n
  refine okF Try.func44 (by kernel_rfl) ?_
  intro bl1
  refine callR [] (aOr _ _ _) ?_
  refine LoadAt.mk 0 _ _ rfl rfl ?_
  refine callR [] (aCWords _ _ _ _) ?_
  refine loopS (S := Nat) (fun s => [(1, plI p), (2, .fsl (.int .u64) a), (3, .ptr bl1 0), (10, .int .i64 (cw n)), (11, .int .i64 s)]) (fun s => (bl1, [.int .i64 b, .int .i64 w, .int .i64 n]) :: plH p q (putW b a ws s) σ) (fun s => s ≤ cw n) (fun s => cw n - s) 0 ⟨Nat.zero_le _, ⟨rfl, rfl, rfl, rfl, rfl, trivial⟩, rfl⟩ ?_
  intro k g hk
  refine bcond_dec (fun h => ?_) (fun h => ?_)
  · have h : (k : Int) < cw n := h
    refine .sched [7] (upto [7] 12 0) (by kernel_rfl) ?_
    refine LoadAt.mk 0 _ _ rfl rfl ?_
    refine callQ [] (aWd _ _ _) ?_
    refine AheadAt.mk hStore_ ?_
    refine ⟨_, mStore_, ?_⟩
    refine callR [2, 2] (aStore p q _ _ _ _) ?_
    refine nextS (k + 1) ?_ ?_ ⟨rfl, rfl, rfl, rfl, inc64 (by omega), trivial⟩ (.pull [2] (shed_eq rfl))
    · show cw n - (k + 1) < cw n - k; omega
    · show k + 1 ≤ cw n; omega
  · have h : ¬ (k : Int) < cw n := h
    obtain rfl : k = cw n := by omega
    exact .drop 0 1 (.done ⟨rfl, rfl⟩)
/-- A cell's words. -/
def getW (base : Int) (ws : List Int) (k : Nat) : List Int := (List.range k).map fun i => mLoad ws (wr (base + (i : Nat)))
theorem getW_length (base : Int) (ws : List Int) (k : Nat) : (getW base ws k).length = k := by unfold getW; rw [List.length_map, List.length_range]
theorem getW_succ (base : Int) (ws : List Int) (k : Nat) : getW base ws (k + 1) = getW base ws k ++ [mLoad ws (wr (base + k))] := by unfold getW; rw [List.range_succ, List.map_append]; rfl
theorem aGet (p q : Nat) (ws : List Int) (b w n : Int) (σ : Hp) : ACalls Try.prog 46 [.agg [.int .i64 b, .int .i64 w, .int .i64 n], plI p] (plH p q ws σ) (Ret (.fsl (.int .u64) (getW b ws (cw n))) (plH p q ws σ)) := by
  have hc := cw_le n
  refine okF Try.func46 (by kernel_rfl) ?_
  intro bl1
  refine callR [] (aOr _ _ _) ?_
  refine LoadAt.mk 0 _ _ rfl rfl ?_
  refine callR [] (aCWords _ _ _ _) ?_
  refine .wrap 5 _ rfl rfl ?_
  refine loopS (S := Nat × AV × Hp) (fun s => [(1, plI p), (2, .ptr bl1 0), (5, .via s.2.1), (10, .int .i64 (cw n)), (11, .int .i64 s.1)]) (fun s => (bl1, [.int .i64 b, .int .i64 w, .int .i64 n]) :: (s.2.2 ++ plH p q ws σ)) (fun s => s.1 ≤ cw n ∧ Acc 1 s.1 s.2.1 s.2.2 (woC (getW b ws s.1))) (fun s => cw n - s.1) (0, .nils, []) ⟨⟨Nat.zero_le _, .nil⟩, ⟨rfl, rfl, rfl, rfl, rfl, trivial⟩, rfl⟩ ?_
  rintro ⟨k, v, acc⟩ g ⟨hk, hacc⟩
  have hk : k ≤ cw n := hk
  have hacc : Acc 1 k v acc (woC (getW b ws k)) := hacc
  refine bcond_dec (fun h => ?_) (fun h => ?_)
  · have h : (k : Int) < cw n := h
    refine LoadAt.mk 0 _ _ rfl rfl ?_
    refine ⟨_, mLoad_, ?_⟩
    refine .perm (σ2 := plH p q ws ((bl1, [.int .i64 b, .int .i64 w, .int .i64 n]) :: (acc ++ σ))) _ ?_ (aLoad p q ws _ _) ?_
    · exact front_perm' ((bl1, [.int .i64 b, .int .i64 w, .int .i64 n]) :: acc) [_, _] σ
    rintro _ _ ⟨rfl, rfl⟩
    refine ⟨_, (front_perm' ((bl1, [.int .i64 b, .int .i64 w, .int .i64 n]) :: acc) [_, _] σ).symm, ?_⟩
    intro bl2
    refine append_acc [_, _] hacc (.mref 0 bl2 0 1 _ rfl (Nat.le_of_ble_eq_true rfl)) rfl (by omega) (by decide) (by decide) (fun v' acc' h' => ?_)
    refine nextS (k + 1, v', acc') ?_ ⟨?_, ?_⟩ ⟨rfl, rfl, rfl, rfl, inc64 (by omega), trivial⟩ (.drop 0 1 (shed_eq rfl))
    · show cw n - (k + 1) < cw n - k; omega
    · show k + 1 ≤ cw n; omega
    · show Acc 1 (k + 1) v' acc' (woC (getW b ws (k + 1)))
      rw [getW_succ, woC, List.map_append]
      exact h'
  · have h : ¬ (k : Int) < cw n := h
    obtain rfl : k = cw n := by omega
    refine .drop 0 1 ?_
    exact fin_acc (s := .int .u64) (l := getW b ws (cw n)) [] hacc (getW_length b ws _).symm (by rw [woC_flat]) (by decide) (.done ⟨rfl, rfl⟩)

/-! ### A Read -/
def rdC (v : AV) (base what words : Int) (ended : Bool) (at_ : Nat) (loaded : Bool) (x : Int) : List AV := [.int .i64 base, .int .i64 what, .int .i64 words, v, .bool ended, .int .i64 at_, .bool loaded, .int .u64 x]
/-- A list's variable in a block: nil, or a list that was made. -/
inductive L64 : AV → Hp → List Int → Prop where
  | nil : L64 .nils [] []
  | mref (b : Nat) (l : List Int) : L64 (.mref b 0 l.length 1) [(b, woC l)] l
theorem L64.push (b : Nat) (l : List Int) (x : Int) : L64 (.mref b 0 (l.length + 1) 1) [(b, (woC l).take (l.length * 1) ++ [.int .u64 x])] (l ++ [x]) := by
  have h := L64.mref b (l ++ [x])
  have e1 : (l ++ [x]).length = l.length + 1 := by simp
  have e2 : woC (l ++ [x]) = (woC l).take (l.length * 1) ++ [.int .u64 x] := by rw [List.take_of_length_le (by simp [woC])]; simp [woC]
  rw [e1, e2] at h
  exact h
end Go.Proofs.Ytiihcgmnmcdcfaa
