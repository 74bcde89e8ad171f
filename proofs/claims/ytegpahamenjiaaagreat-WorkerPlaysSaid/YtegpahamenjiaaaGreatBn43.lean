/-
  CellP: what the claim uses of them.
-/
import Derived.Test.YtegpahamenjiaaaGreatBn42
namespace Go.Proofs.YtegpahamenjiaaaGreat
open Go.RowKit
set_option maxRecDepth 100000
set_option maxHeartbeats 4000000
def rjC (j : Jn) : List AV := [.int .i64 j.base, .int .i64 j.what, .int .i64 j.words, .fsl (.int .u64) j.a, .int .i64 j.at_, .bool j.loaded, .int .u64 j.x, .bool j.changed, .bool j.ended, .int .i64 j.tries]
/-- A Join that may be. -/
def Jn.ok (j : Jn) : Prop := j.at_ ≤ cw j.words ∧ A64 j.a ∧ W64 j.x
theorem store_64 {ws : List Int} (h : A64 ws) (a : Int) {x : Int} (hx : W64 x) : A64 (mStore ws a x) := by
  unfold mStore
  split
  · exact h
  · intro z hz
    rcases List.mem_or_eq_of_mem_set hz with hz | rfl
    · exact h z hz
    · exact hx
theorem rjEnd {r m q : Nat} {σ σ1 : Hp} {S : Jn × List Int × Bool} {j' : Jn} {ws' : List Int} {b b1 : Bool} (h : S = (j', ws', b)) (j1 : Jn) (ws1 : List Int) (hσ : σ1 = (r, rjC j1) :: reH m q ws1 σ) (hS : S = (j1, ws1, b1)) : Ret (.bool b) ((r, rjC j') :: reH m q ws' σ) (.bool b1) σ1 := by
  rw [hS] at h; cases h; exact ⟨rfl, hσ⟩
theorem jnE1 {j : Jn} {ws : List Int} (h : j.ended = true) : jnStep listOps j ws = ({ j with ended := true }, ws, true) := by
  obtain ⟨base, what, words, a, changed, ended, tries, at_, loaded, x⟩ := j
  have h : ended = true := h
  subst h; rfl
theorem jnE2 {j : Jn} {ws : List Int} (h : j.ended = false) (ha : j.at_ = cw j.words) : jnStep listOps j ws = ({ j with ended := true }, ws, true) := by
  unfold jnStep
  rw [if_neg (by rw [h]; decide), if_pos ha]
theorem jnE3 {j : Jn} {ws : List Int} (h : j.ended = false) (ha : ¬ j.at_ = cw j.words) (hl : j.loaded = true) (hd : mCas ws (wr (j.base + j.at_)) j.x = false) : jnStep listOps j ws = ({ j with loaded := false, tries := wr (j.tries + 1) }, mCasTo ws (wr (j.base + j.at_)) j.x (wordW j.what j.x (wd j.a j.at_)), false) := by
  unfold jnStep
  rw [if_neg (by rw [h]; decide), if_neg ha, if_pos hl]
  rw [if_neg (show ¬ (listOps.cs ws (wr (j.base + j.at_)) j.x (wordW j.what j.x (wd j.a j.at_))).1 = true from by show ¬ mCas ws (wr (j.base + j.at_)) j.x = true; rw [hd]; decide)]
theorem jnE4 {j : Jn} {ws : List Int} (h : j.ended = false) (ha : ¬ j.at_ = cw j.words) (hl : j.loaded = true) (hd : mCas ws (wr (j.base + j.at_)) j.x = true) (hn : j.at_ + 1 = cw j.words) : jnStep listOps j ws = ({ j with loaded := false, changed := true, at_ := j.at_ + 1, ended := true }, mCasTo ws (wr (j.base + j.at_)) j.x (wordW j.what j.x (wd j.a j.at_)), true) := by
  unfold jnStep jnNext
  dsimp only
  rw [if_neg (by rw [h]; decide), if_neg ha, if_pos hl]
  rw [if_pos (show (listOps.cs ws (wr (j.base + j.at_)) j.x (wordW j.what j.x (wd j.a j.at_))).1 = true from hd), if_neg (show ¬ j.at_ + 1 < cw j.words by omega)]
theorem jnE5 {j : Jn} {ws : List Int} (h : j.ended = false) (ha : j.at_ < cw j.words) (hl : j.loaded = true) (hd : mCas ws (wr (j.base + j.at_)) j.x = true) (hn : ¬ j.at_ + 1 = cw j.words) : jnStep listOps j ws = ({ j with loaded := false, changed := true, at_ := j.at_ + 1, ended := false }, mCasTo ws (wr (j.base + j.at_)) j.x (wordW j.what j.x (wd j.a j.at_)), false) := by
  unfold jnStep jnNext
  dsimp only
  rw [if_neg (by rw [h]; decide), if_neg (show ¬ j.at_ = cw j.words by omega), if_pos hl]
  rw [if_pos (show (listOps.cs ws (wr (j.base + j.at_)) j.x (wordW j.what j.x (wd j.a j.at_))).1 = true from hd), if_pos (show j.at_ + 1 < cw j.words by omega)]
  rw [h]
theorem jnE6 {j : Jn} {ws : List Int} (h : j.ended = false) (ha : ¬ j.at_ = cw j.words) (hl : j.loaded = false) (hd : wordW j.what (mLoad ws (wr (j.base + j.at_))) (wd j.a j.at_) = mLoad ws (wr (j.base + j.at_))) (hn : j.at_ + 1 = cw j.words) : jnStep listOps j ws = ({ j with x := mLoad ws (wr (j.base + j.at_)), at_ := j.at_ + 1, ended := true }, ws, true) := by
  unfold jnStep jnNext
  dsimp only
  rw [if_neg (by rw [h]; decide), if_neg ha, if_neg (by rw [hl]; decide)]
  rw [if_pos (show wordW j.what (listOps.ld ws (wr (j.base + j.at_))).1 (wd j.a j.at_) = (listOps.ld ws (wr (j.base + j.at_))).1 from hd), if_neg (show ¬ j.at_ + 1 < cw j.words by omega)]
theorem jnE7 {j : Jn} {ws : List Int} (h : j.ended = false) (ha : j.at_ < cw j.words) (hl : j.loaded = false) (hd : wordW j.what (mLoad ws (wr (j.base + j.at_))) (wd j.a j.at_) = mLoad ws (wr (j.base + j.at_))) (hn : ¬ j.at_ + 1 = cw j.words) : jnStep listOps j ws = ({ j with x := mLoad ws (wr (j.base + j.at_)), at_ := j.at_ + 1, ended := false }, ws, false) := by
  unfold jnStep jnNext
  dsimp only
  rw [if_neg (by rw [h]; decide), if_neg (show ¬ j.at_ = cw j.words by omega), if_neg (by rw [hl]; decide)]
  rw [if_pos (show wordW j.what (listOps.ld ws (wr (j.base + j.at_))).1 (wd j.a j.at_) = (listOps.ld ws (wr (j.base + j.at_))).1 from hd), if_pos (show j.at_ + 1 < cw j.words by omega)]
  rw [h]
theorem jnE8 {j : Jn} {ws : List Int} (h : j.ended = false) (ha : ¬ j.at_ = cw j.words) (hl : j.loaded = false) (hd : ¬ wordW j.what (mLoad ws (wr (j.base + j.at_))) (wd j.a j.at_) = mLoad ws (wr (j.base + j.at_))) : jnStep listOps j ws = ({ j with x := mLoad ws (wr (j.base + j.at_)), loaded := true, ended := false }, ws, false) := by
  unfold jnStep
  rw [if_neg (by rw [h]; decide), if_neg ha, if_neg (by rw [hl]; decide)]
  rw [if_neg (show ¬ wordW j.what (listOps.ld ws (wr (j.base + j.at_))).1 (wd j.a j.at_) = (listOps.ld ws (wr (j.base + j.at_))).1 from hd)]
  rw [h]
theorem aRJ (r m q : Nat) (j : Jn) (ws : List Int) (σ : Hp) (hj : j.ok) (hw : A64 ws) {j' : Jn} {ws' : List Int} {b : Bool} (h : jnStep listOps j ws = (j', ws', b)) : ACalls Tryz.prog 103 [.ptr r 0, .ptr m 0] ((r, rjC j) :: reH m q ws σ) (Ret (.bool b) ((r, rjC j') :: reH m q ws' σ)) := by
  have hc := cw_le j.words
  obtain ⟨h1, h2, h3⟩ := hj
  have hwrap : IntKind.i64.wrap ((j.at_ : Int) + 1) = ((j.at_ + 1 : Nat) : Int) := by rw [IntKind.wrap_i64]; omega
  refine okF Tryz.func103 (by kernel_rfl) ?_
  refine LoadAt.mk 0 _ _ rfl rfl ?_
  refine callR [] (aRWords _ _) ?_
  refine LoadAt.mkB 0 _ _ rfl rfl (fun ce => ?_) (fun ce => ?_)
  · refine StoreAt.mk 0 _ _ rfl rfl ?_
    exact .done (rjEnd h { j with ended := true } ws (by first | rfl | (rw [hwrap]; rfl)) (jnE1 ce))
  · refine LoadAt.mk 0 _ _ rfl rfl ?_
    refine bcond_dec (fun ca => ?_) (fun ca => ?_)
    · have ca : (↑(cw j.words) : Int) ≤ (↑j.at_ : Int) := ca
      refine StoreAt.mk 0 _ _ rfl rfl ?_
      exact .done (rjEnd h { j with ended := true } ws (by first | rfl | (rw [hwrap]; rfl)) (jnE2 ce (by omega)))
    · have ca : ¬ ((↑(cw j.words) : Int) ≤ (↑j.at_ : Int)) := ca
      refine .quiet (by kernel_rfl) ?_
      refine LoadAt.mk 0 _ _ rfl rfl ?_
      refine LoadAt.mk 0 _ _ rfl rfl ?_
      refine LoadAt.mk 0 _ _ rfl rfl ?_
      refine LoadAt.mk 0 _ _ rfl rfl ?_
      refine callQ [] (aRWd _ _ _) ?_
      refine callQ [] (aRWord _ _ _ _ h3.1 (wd_64 h2 _).1 h3.2 (wd_64 h2 _).2) ?_
      refine LoadAt.mkB 0 _ _ rfl rfl (fun cl => ?_) (fun cl => ?_)
      · refine StoreAt.mk 0 _ _ rfl rfl ?_
        refine .sched [] (upto [] 22 0) (by kernel_rfl) ?_
        refine LoadAt.mk 0 _ _ rfl rfl ?_
        refine LoadAt.mk 0 _ _ rfl rfl ?_
        refine LoadAt.mk 0 _ _ rfl rfl ?_
        refine callR [2, 2] (aDo m q ws 3 _ _ _ _) ?_
        cases hcs : doIs ws 3 (IntKind.i64.wrap (j.base + (j.at_ : Int))) j.x
        · refine LoadAt.mk 2 _ _ rfl rfl ?_
          refine StoreAt.mk 2 _ _ rfl rfl ?_
          exact .pull [2] (.done (rjEnd h { j with loaded := false, tries := wr (j.tries + 1) } (mCasTo ws (wr (j.base + j.at_)) j.x (wordW j.what j.x (wd j.a j.at_))) (by first | rfl | (rw [hwrap]; rfl)) (jnE3 ce (by omega) cl hcs)))
        · refine StoreAt.mk 2 _ _ rfl rfl ?_
          refine LoadAt.mk 2 _ _ rfl rfl ?_
          refine StoreAt.mk 2 _ _ rfl rfl ?_
          refine LoadAt.mk 2 _ _ rfl rfl ?_
          refine bcond_dec (fun c1 => ?_) (fun c1 => ?_)
          · have c1 : IntKind.i64.wrap ((↑j.at_ : Int) + 1) = (↑(cw j.words) : Int) := c1
            refine StoreAt.mk 2 _ _ rfl rfl ?_
            refine LoadAt.mk 2 _ _ rfl rfl ?_
            exact .pull [2] (.done (rjEnd h { j with loaded := false, changed := true, at_ := j.at_ + 1, ended := true } (mCasTo ws (wr (j.base + j.at_)) j.x (wordW j.what j.x (wd j.a j.at_))) (by first | rfl | (rw [hwrap]; rfl)) (jnE4 ce (by omega) cl hcs (by omega))))
          · have c1 : ¬ (IntKind.i64.wrap ((↑j.at_ : Int) + 1) = (↑(cw j.words) : Int)) := c1
            refine StoreAt.mk 2 _ _ rfl rfl ?_
            refine LoadAt.mk 2 _ _ rfl rfl ?_
            exact .pull [2] (.done (rjEnd h { j with loaded := false, changed := true, at_ := j.at_ + 1, ended := false } (mCasTo ws (wr (j.base + j.at_)) j.x (wordW j.what j.x (wd j.a j.at_))) (by first | rfl | (rw [hwrap]; rfl)) (jnE5 ce (by omega) cl hcs (by omega))))
      · refine .sched [] (upto [] 15 0) (by kernel_rfl) ?_
        refine LoadAt.mk 0 _ _ rfl rfl ?_
        refine LoadAt.mk 0 _ _ rfl rfl ?_
        refine callR [2, 2] (aRLoad m q ws _ _) ?_
        refine StoreAt.mk 2 _ _ rfl rfl ?_
        refine .quiet (by kernel_rfl) ?_
        refine LoadAt.mk 2 _ _ rfl rfl ?_
        refine LoadAt.mk 2 _ _ rfl rfl ?_
        refine LoadAt.mk 2 _ _ rfl rfl ?_
        refine LoadAt.mk 2 _ _ rfl rfl ?_
        refine callQ [] (aRWd _ _ _) ?_
        refine callQ [] (aRWord _ _ _ _ (load_64 hw _).1 (wd_64 h2 _).1 (load_64 hw _).2 (wd_64 h2 _).2) ?_
        refine LoadAt.mk 2 _ _ rfl rfl ?_
        refine bcond_dec (fun c1 => ?_) (fun c1 => ?_)
        · have c1 : wordW j.what (mLoad ws (IntKind.i64.wrap (j.base + (↑j.at_ : Int)))) (wd j.a j.at_) = mLoad ws (IntKind.i64.wrap (j.base + (↑j.at_ : Int))) := c1
          refine LoadAt.mk 2 _ _ rfl rfl ?_
          refine StoreAt.mk 2 _ _ rfl rfl ?_
          refine LoadAt.mk 2 _ _ rfl rfl ?_
          refine bcond_dec (fun c2 => ?_) (fun c2 => ?_)
          · have c2 : IntKind.i64.wrap ((↑j.at_ : Int) + 1) = (↑(cw j.words) : Int) := c2
            refine StoreAt.mk 2 _ _ rfl rfl ?_
            refine LoadAt.mk 2 _ _ rfl rfl ?_
            exact .pull [2] (.done (rjEnd h { j with x := mLoad ws (wr (j.base + j.at_)), at_ := j.at_ + 1, ended := true } ws (by first | rfl | (rw [hwrap]; rfl)) (jnE6 ce (by omega) cl c1 (by omega))))
          · have c2 : ¬ (IntKind.i64.wrap ((↑j.at_ : Int) + 1) = (↑(cw j.words) : Int)) := c2
            refine StoreAt.mk 2 _ _ rfl rfl ?_
            refine LoadAt.mk 2 _ _ rfl rfl ?_
            exact .pull [2] (.done (rjEnd h { j with x := mLoad ws (wr (j.base + j.at_)), at_ := j.at_ + 1, ended := false } ws (by first | rfl | (rw [hwrap]; rfl)) (jnE7 ce (by omega) cl c1 (by omega))))
        · have c1 : ¬ (wordW j.what (mLoad ws (IntKind.i64.wrap (j.base + (↑j.at_ : Int)))) (wd j.a j.at_) = mLoad ws (IntKind.i64.wrap (j.base + (↑j.at_ : Int)))) := c1
          refine StoreAt.mk 2 _ _ rfl rfl ?_
          refine LoadAt.mk 2 _ _ rfl rfl ?_
          refine bcond_dec (fun c3 => ?_) (fun c3 => ?_)
          · have c3 : (↑j.at_ : Int) = (↑(cw j.words) : Int) := c3
            refine StoreAt.mk 2 _ _ rfl rfl ?_
            refine LoadAt.mk 2 _ _ rfl rfl ?_
            exact .pull [2] (.done (rjEnd h { j with x := mLoad ws (wr (j.base + j.at_)), loaded := true, ended := true } ws (by first | rfl | (rw [hwrap]; rfl)) (absurd c3 (by omega))))
          · have c3 : ¬ ((↑j.at_ : Int) = (↑(cw j.words) : Int)) := c3
            refine StoreAt.mk 2 _ _ rfl rfl ?_
            refine LoadAt.mk 2 _ _ rfl rfl ?_
            exact .pull [2] (.done (rjEnd h { j with x := mLoad ws (wr (j.base + j.at_)), loaded := true, ended := false } ws (by first | rfl | (rw [hwrap]; rfl)) (jnE8 ce (by omega) cl c1)))
end Go.Proofs.YtegpahamenjiaaaGreat
