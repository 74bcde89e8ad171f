/-
  soughref30's Join, Get; soughlaw30: few.
-/
import Derived.Test.YtiihcgmnmcdcfaaCellR
namespace Go.Proofs.Ytiihcgmnmcdcfaa
open Go.RowKit
set_option maxRecDepth 100000
set_option maxHeartbeats 4000000
def rjC (j : Jn) : List AV := [.int .i64 j.base, .int .i64 j.what, .int .i64 j.words, .fsl (.int .u64) j.a, .int .i64 j.at_, .bool j.loaded, .int .u64 j.x, .bool j.changed, .bool j.ended, .int .i64 j.tries]
/-- A Join that may be. -/
def Jn.ok (j : Jn) : Prop := j.at_ ≤ cw j.words ∧ A64 j.a ∧ W64 j.x
theorem load_64 {ws : List Int} (h : A64 ws) (a : Int) : W64 (mLoad ws a) := by
  unfold mLoad
  split
  · exact ⟨by decide, by decide⟩
  · rw [List.getD_eq_getElem?_getD]
    cases hq : ws[a.toNat]? with
    | none => exact ⟨by decide, by decide⟩
    | some x => exact h x (List.mem_of_getElem? hq)
theorem store_64 {ws : List Int} (h : A64 ws) (a : Int) {x : Int} (hx : W64 x) : A64 (mStore ws a x) := by
  unfold mStore
  split
  · exact h
  · intro z hz
    rcases List.mem_or_eq_of_mem_set hz with hz | rfl
    · exact h z hz
    · exact hx
theorem casTo_64 {ws : List Int} (h : A64 ws) (a o : Int) {x : Int} (hx : W64 x) : A64 (mCasTo ws a o x) := by
  unfold mCasTo
  split
  · exact store_64 h a hx
  · exact h
theorem jn_keeps {j : Jn} {ws : List Int} (hj : j.ok) (hw : A64 ws) {j' : Jn} {ws' : List Int} {b : Bool} (h : jnStep listOps j ws = (j', ws', b)) : j'.ok ∧ A64 ws' ∧ ws'.length = ws.length := by
  obtain ⟨h1, h2, h3⟩ := hj
  have hx := word_64 (what := j.what) h3 (wd_64 h2 j.at_)
  unfold jnStep jnNext at h
  dsimp only at h
  repeat' split at h
  all_goals
    cases h
    first
      | exact ⟨⟨h1, h2, h3⟩, hw, rfl⟩
      | exact ⟨⟨by show j.at_ + 1 ≤ cw j.words; omega, h2, h3⟩, casTo_64 hw _ _ hx, mCasTo_length _ _ _ _⟩
      | exact ⟨⟨h1, h2, h3⟩, casTo_64 hw _ _ hx, mCasTo_length _ _ _ _⟩
      | exact ⟨⟨by show j.at_ + 1 ≤ cw j.words; omega, h2, load_64 hw _⟩, hw, rfl⟩
      | exact ⟨⟨h1, h2, load_64 hw _⟩, hw, rfl⟩
theorem rjEnd {r m q : Nat} {σ σ1 : Hp} {S : Jn × List Int × Bool} {j' : Jn} {ws' : List Int} {b b1 : Bool} (h : S = (j', ws', b)) (j1 : Jn) (ws1 : List Int) (hσ : σ1 = (r, rjC j1) :: reH m q ws1 σ) (hS : S = (j1, ws1, b1)) : Ret (.bool b) ((r, rjC j') :: reH m q ws' σ) (.bool b1) σ1 := by
  rw [hS] at h; cases h; exact ⟨rfl, hσ⟩
theorem jnE1 {j : Jn} {ws : List Int} (h : j.ended = true) : jnStep listOps j ws = ({ j with ended := true }, ws, true) := by
  obtain ⟨base, what, words, a, changed, ended, tries, at_, loaded, x⟩ := j
  have h : ended = true := h
  subst h; rfl
theorem jnE2 {j : Jn} {ws : List Int} (h : j.ended = false) (ha : j.at_ = cw j.words) : jnStep listOps j ws = ({ j with ended := true }, ws, true) := by
  unfold jnStep
  rw [if_neg (by rw [h]; decide), if_pos ha]
theorem jnE3 {j : Jn} {ws : List Int} (h : j.ended = false) (ha : ¬ j.at_ = cw j.words) (hl : j.loaded = true) (hd : mCas ws (wr (j.base + j.at_)) j.x = false) : jnStep listOps j ws = ({ j with loaded := false, tries := wr (j.tries + 1) }, mCasTo ws (wr (j.base + j.at_)) j.x (wordW j.what j.x (wd j.a j.at_)), false) := by
  unfold jnStep
  rw [if_neg (by rw [h]; decide), if_neg ha, if_pos hl]
  rw [if_neg (show ¬ (listOps.cs ws (wr (j.base + j.at_)) j.x (wordW j.what j.x (wd j.a j.at_))).1 = true from by show ¬ mCas ws (wr (j.base + j.at_)) j.x = true; rw [hd]; decide)]
theorem jnE4 {j : Jn} {ws : List Int} (h : j.ended = false) (ha : ¬ j.at_ = cw j.words) (hl : j.loaded = true) (hd : mCas ws (wr (j.base + j.at_)) j.x = true) (hn : j.at_ + 1 = cw j.words) : jnStep listOps j ws = ({ j with loaded := false, changed := true, at_ := j.at_ + 1, ended := true }, mCasTo ws (wr (j.base + j.at_)) j.x (wordW j.what j.x (wd j.a j.at_)), true) := by
  unfold jnStep jnNext
  dsimp only
  rw [if_neg (by rw [h]; decide), if_neg ha, if_pos hl]
  rw [if_pos (show (listOps.cs ws (wr (j.base + j.at_)) j.x (wordW j.what j.x (wd j.a j.at_))).1 = true from hd), if_neg (show ¬ j.at_ + 1 < cw j.words by omega)]
theorem jnE5 {j : Jn} {ws : List Int} (h : j.ended = false) (ha : j.at_ < cw j.words) (hl : j.loaded = true) (hd : mCas ws (wr (j.base + j.at_)) j.x = true) (hn : ¬ j.at_ + 1 = cw j.words) : jnStep listOps j ws = ({ j with loaded := false, changed := true, at_ := j.at_ + 1, ended := false }, mCasTo ws (wr (j.base + j.at_)) j.x (wordW j.what j.x (wd j.a j.at_)), false) := by
  unfold jnStep jnNext
  dsimp only
  rw [if_neg (by rw [h]; decide), if_neg (show ¬ j.at_ = cw j.words by omega), if_pos hl]
  rw [if_pos (show (listOps.cs ws (wr (j.base + j.at_)) j.x (wordW j.what j.x (wd j.a j.at_))).1 = true from hd), if_pos (show j.at_ + 1 < cw j.words by omega)]
  rw [h]
theorem jnE6 {j : Jn} {ws : List Int} (h : j.ended = false) (ha : ¬ j.at_ = cw j.words) (hl : j.loaded = false) (hd : wordW j.what (mLoad ws (wr (j.base + j.at_))) (wd j.a j.at_) = mLoad ws (wr (j.base + j.at_))) (hn : j.at_ + 1 = cw j.words) : jnStep listOps j ws = ({ j with x := mLoad ws (wr (j.base + j.at_)), at_ := j.at_ + 1, ended := true }, ws, true) := by
  unfold jnStep jnNext
  dsimp only
  rw [if_neg (by rw [h]; decide), if_neg ha, if_neg (by rw [hl]; decide)]
  rw [if_pos (show wordW j.what (listOps.ld ws (wr (j.base + j.at_))).1 (wd j.a j.at_) = (listOps.ld ws (wr (j.base + j.at_))).1 from hd), if_neg (show ¬ j.at_ + 1 < cw j.words by omega)]
theorem jnE7 {j : Jn} {ws : List Int} (h : j.ended = false) (ha : j.at_ < cw j.words) (hl : j.loaded = false) (hd : wordW j.what (mLoad ws (wr (j.base + j.at_))) (wd j.a j.at_) = mLoad ws (wr (j.base + j.at_))) (hn : ¬ j.at_ + 1 = cw j.words) : jnStep listOps j ws = ({ j with x := mLoad ws (wr (j.base + j.at_)), at_ := j.at_ + 1, ended := false }, ws, false) := by
  unfold jnStep jnNext
  dsimp only
  rw [if_neg (by rw [h]; decide), if_neg (show ¬ j.at_ = cw j.words by omega), if_neg (by rw [hl]; decide)]
  rw [if_pos (show wordW j.what (listOps.ld ws (wr (j.base + j.at_))).1 (wd j.a j.at_) = (listOps.ld ws (wr (j.base + j.at_))).1 from hd), if_pos (show j.at_ + 1 < cw j.words by omega)]
  rw [h]
theorem jnE8 {j : Jn} {ws : List Int} (h : j.ended = false) (ha : ¬ j.at_ = cw j.words) (hl : j.loaded = false) (hd : ¬ wordW j.what (mLoad ws (wr (j.base + j.at_))) (wd j.a j.at_) = mLoad ws (wr (j.base + j.at_))) : jnStep listOps j ws = ({ j with x := mLoad ws (wr (j.base + j.at_)), loaded := true, ended := false }, ws, false) := by
  unfold jnStep
  rw [if_neg (by rw [h]; decide), if_neg ha, if_neg (by rw [hl]; decide)]
  rw [if_neg (show ¬ wordW j.what (listOps.ld ws (wr (j.base + j.at_))).1 (wd j.a j.at_) = (listOps.ld ws (wr (j.base + j.at_))).1 from hd)]
  rw [h]
/-- Are lists and words few? -/
def fewB (w : Int) (a : List Int) (l : List (List Int)) : Bool := l.all (fun x => decide (x.length ≤ 8)) && ((decide (w ≤ 5) || decide (2000 < w)) && (decide (a.length ≤ 8) && decide (l.length ≤ 5)))
theorem fewT {w : Int} {a : List Int} {l : List (List Int)} (h : l.all (fun x => decide (x.length ≤ 8)) = true) (hw : w ≤ 5 ∨ 2000 < w) (ha : a.length ≤ 8) (hl : l.length ≤ 5) : AV.bool true = .bool (fewB w a l) := by
  unfold fewB
  rw [h, decide_eq_true ha, decide_eq_true hl]
  rcases hw with hw | hw <;> simp [hw]
theorem fewF {w : Int} {a : List Int} {l : List (List Int)} (h : ¬ ((w ≤ 5 ∨ 2000 < w) ∧ a.length ≤ 8 ∧ l.length ≤ 5)) : AV.bool false = .bool (fewB w a l) := by
  have : fewB w a l = false := by
    cases hb : fewB w a l with
    | false => rfl
    | true => simp [fewB] at hb; exact absurd hb.2 h
  rw [this]
theorem fewL {w : Int} {a : List Int} {l : List (List Int)} {k : Nat} (h : k < l.length) (h8 : ¬ l[k].length ≤ 8) : false = fewB w a l := by
  cases hb : fewB w a l with
  | false => rfl
  | true => simp [fewB] at hb; exact absurd (hb.1 _ (List.getElem_mem h)) h8
theorem incL {k n : Nat} (h : k < n) (hn : n ≤ maxLen) : AV.int .i64 (IntKind.i64.wrap ((k : Int) + 1)) = AV.int .i64 ((k + 1 : Nat) : Int) := by
  have : maxLen = 9223372036854775807 := by decide
  rw [show IntKind.i64.wrap ((k : Int) + 1) = ((k + 1 : Nat) : Int) by rw [IntKind.wrap_i64]; omega]
theorem aFew30 (w : Int) (a : List Int) (l : List (List Int)) (σ : Hp) (hL : l.length ≤ maxLen) : ACalls Try.prog 41 [.int .i64 w, .fsl (.int .u64) a, .fsl (.slice (.int .u64)) l] σ (Ret (.bool (fewB w a l)) σ) := by
  refine okF Try.func41 (by kernel_rfl) ?_
  refine loopS (S := Nat) (fun s => [(0, .int .i64 w), (1, .fsl (.int .u64) a), (2, .fsl (.slice (.int .u64)) l), (9, .fsl (.slice (.int .u64)) l), (10, .int .i64 l.length), (11, .int .i64 s)]) (fun _ => σ) (fun s => s ≤ l.length ∧ (l.take s).all (fun x => decide (x.length ≤ 8)) = true) (fun s => l.length - s) 0 ⟨⟨Nat.zero_le _, rfl⟩, ⟨rfl, rfl, rfl, rfl, rfl, rfl, trivial⟩, rfl⟩ ?_
  rintro k g ⟨hk, hall⟩
  refine bcond_dec (fun h => ?_) (fun h => ?_)
  · have h : (k : Int) < l.length := h
    have hkl : k < l.length := by omega
    refine With.mk rfl (IdxF.mk l[k] (by omega) (get_some hkl) ?_)
    refine bcond_dec (fun c1 => ?_) (fun c1 => ?_)
    · have c1 : 8 < (↑l[k].length : Int) := c1
      exact .done ⟨congrArg AV.bool (fewL hkl (by omega)), rfl⟩
    · have c1 : ¬ (8 < (↑l[k].length : Int)) := c1
      refine nextS (k + 1) ?_ ⟨hkl, ?_⟩ ⟨rfl, rfl, rfl, rfl, rfl, incL hkl hL, trivial⟩ (shed_eq rfl)
      · show l.length - (k + 1) < l.length - k; omega
      · rw [List.take_succ_eq_append_getElem hkl, List.all_append, hall]; simp; omega
  · have h : ¬ (k : Int) < l.length := h
    refine bcond_dec (fun c1 => ?_) (fun c1 => ?_)
    · have c1 : w ≤ 5 := c1
      refine bcond_dec (fun c2 => ?_) (fun c2 => ?_)
      · have c2 : (↑a.length : Int) ≤ 8 := c2
        refine bcond_dec (fun c3 => ?_) (fun c3 => ?_)
        · have c3 : (↑l.length : Int) ≤ 5 := c3
          exact .done ⟨fewT (by rw [← List.take_of_length_le (show l.length ≤ k by omega)]; exact hall) (.inl c1) (by omega) (by omega), rfl⟩
        · have c3 : ¬ ((↑l.length : Int) ≤ 5) := c3
          exact .done ⟨fewF (by omega), rfl⟩
      · have c2 : ¬ ((↑a.length : Int) ≤ 8) := c2
        exact .done ⟨fewF (by omega), rfl⟩
    · have c1 : ¬ (w ≤ 5) := c1
      refine bcond_dec (fun c4 => ?_) (fun c4 => ?_)
      · have c4 : 2000 < w := c4
        refine bcond_dec (fun c5 => ?_) (fun c5 => ?_)
        · have c5 : (↑a.length : Int) ≤ 8 := c5
          refine bcond_dec (fun c6 => ?_) (fun c6 => ?_)
          · have c6 : (↑l.length : Int) ≤ 5 := c6
            exact .done ⟨fewT (by rw [← List.take_of_length_le (show l.length ≤ k by omega)]; exact hall) (.inr c4) (by omega) (by omega), rfl⟩
          · have c6 : ¬ ((↑l.length : Int) ≤ 5) := c6
            exact .done ⟨fewF (by omega), rfl⟩
        · have c5 : ¬ ((↑a.length : Int) ≤ 8) := c5
          exact .done ⟨fewF (by omega), rfl⟩
      · have c4 : ¬ (2000 < w) := c4
        exact .done ⟨fewF (by omega), rfl⟩
end Go.Proofs.Ytiihcgmnmcdcfaa
