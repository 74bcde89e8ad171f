/-
  Lat: what the claim uses of them.
-/
import Derived.Test.YtljbnigceammdaaGreatDoorBn13
namespace Go.Proofs.YtljbnigceammdaaGreatDoor
open Go.RowKit
set_option maxRecDepth 100000
/-- A row of words, in cells. -/
def woC (ws : List Int) : List AV := ws.map (.int .u64)
theorem rep_woC (n : Nat) : repC [.int .u64 0] n = woC (List.replicate n 0) := by
  unfold woC
  induction n with
  | zero => rfl
  | succ n ih => simp [repC, ih, List.replicate_succ]
theorem woC_flat : ∀ (ws : List Int), woC ws = ws.flatMap (Sh.cells (.int .u64))
  | [] => rfl
  | z :: ws => congrArg (AV.int .u64 z :: ·) (woC_flat ws)
theorem aGWrap (n : Int) (σ : Hp) : ACalls Tryz.prog 194 [.int .i64 n] σ (fun r σ' => ∃ m, r = .int .i64 m ∧ σ' = σ) := by
  refine okF Tryz.func194 (by kernel_rfl) ?_
  refine With.mk (by omega) ?_
  refine bcond_dec (fun h1 => ?_) (fun h1 => ?_)
  · have h1 : 32767 < n.tmod 65536 := h1
    exact .done ⟨_, rfl, rfl⟩
  · have h1 : ¬ (32767 < n.tmod 65536) := h1
    refine bcond_dec (fun h2 => ?_) (fun h2 => ?_)
    · have h2 : n.tmod 65536 < -32768 := h2
      exact .done ⟨_, rfl, rfl⟩
    · have h2 : ¬ (n.tmod 65536 < -32768) := h2
      exact .done ⟨_, rfl, rfl⟩
theorem aGOf (a b : Int) (σ : Hp) : ACalls Tryz.prog 195 [.int .i64 a, .int .i64 b] σ (fun r σ' => ∃ x y, r = .agg [.int .i64 x, .int .i64 y] ∧ σ' = σ) := by
  refine okF Tryz.func195 (by kernel_rfl) ?_
  intro b1
  (refine .mk [] _ (aGWrap _ _) ?_; rintro _ _ ⟨x, rfl, rfl⟩)
  (refine .mk [] _ (aGWrap _ _) ?_; rintro _ _ ⟨x, rfl, rfl⟩)
  refine StoreAt.mk 0 _ _ rfl rfl ?_
  refine LoadAt.mk 0 _ _ rfl rfl ?_
  exact .drop 0 1 (.done ⟨_, _, rfl, rfl⟩)
theorem shr_lit {w : Int} {k m : Nat} (hk : min (Int.toNat (k : Int)) IntKind.u64.bits = m) : w.fdiv (2 ^ min (Int.toNat (k : Int)) IntKind.u64.bits) = w / 2 ^ m := by
  rw [hk]; exact Int.fdiv_eq_ediv_of_nonneg _ (Int.le_of_lt (Int.pow_pos (by decide)))
theorem and3u (w : Int) : bits .and .u64 w 3 = w % 4 := by
  show IntKind.u64.wrap ((BitVec.ofInt 64 w &&& BitVec.ofInt 64 3).toNat : Int) = _
  have h3 : (BitVec.ofInt 64 3 : BitVec 64).toNat = 2 ^ 2 - 1 := by decide
  rw [BitVec.toNat_and, h3, Nat.and_two_pow_sub_one_eq_mod, BitVec.toNat_ofInt, IntKind.wrap_u64]
  omega
/-- A word that is a number's. -/
def numOk (w : Int) : Bool := decide (w % 4 = 2) && decide (0 ≤ w ∧ w < 17179869184)
theorem aUnword (w : Int) (σ : Hp) : ACalls Tryz.prog 192 [.int .u64 w] σ (fun r σ' => ∃ x y, r = .tup [.agg [.int .i64 x, .int .i64 y], .bool (decide (0 ≤ w ∧ w < 4294967296))] ∧ σ' = σ) := by
  have e := shr_lit (k := 32) (m := 32) (w := w) (by decide)
  refine okF Tryz.func192 (by kernel_rfl) ?_
  intro b1
  refine With.mk (by omega) ?_
  refine bcond_split (fun h2 => ?_) (fun h2 => ?_)
  · have h2 : ¬ (w.fdiv (2 ^ min (Int.toNat 32) IntKind.u64.bits) = 0) := by simpa using h2
    have hw : ¬ (0 ≤ w ∧ w < 4294967296) := fun h => h2 (by rw [show w.fdiv (2 ^ min (Int.toNat 32) IntKind.u64.bits) = w / 2 ^ 32 from e]; omega)
    refine StoreAt.mk 0 _ _ rfl rfl ?_
    refine LoadAt.mk 0 _ _ rfl rfl ?_
    exact .drop 0 1 (.done ⟨_, _, by rw [decide_eq_false hw]; rfl, rfl⟩)
  · have h2 : w.fdiv (2 ^ min (Int.toNat 32) IntKind.u64.bits) = 0 := by simpa using h2
    have hw : 0 ≤ w ∧ w < 4294967296 := by rw [show w.fdiv (2 ^ min (Int.toNat 32) IntKind.u64.bits) = w / 2 ^ 32 from e] at h2; omega
    refine With.mk (by omega) ?_
    (refine .mk [] _ (aGOf _ _ _) ?_; rintro _ _ ⟨x, y, rfl, rfl⟩)
    refine StoreAt.mk 0 _ _ rfl rfl ?_
    refine LoadAt.mk 0 _ _ rfl rfl ?_
    exact .drop 0 1 (.done ⟨_, _, by rw [decide_eq_true hw]; rfl, rfl⟩)
theorem aNum (w : Int) (σ : Hp) : ACalls Tryz.prog 184 [.int .u64 w] σ (fun r σ' => ∃ x y, r = .tup [.agg [.int .i64 x, .int .i64 y], .bool (numOk w)] ∧ σ' = σ) := by
  have e := shr_lit (k := 2) (m := 2) (w := w) (by decide)
  refine okF Tryz.func184 (by kernel_rfl) ?_
  intro b1
  refine bcond_split (fun h2 => ?_) (fun h2 => ?_)
  · have h2 : ¬ (bits BinOp.and IntKind.u64 w 3 = 2) := by simpa using h2
    rw [and3u] at h2
    refine StoreAt.mk 0 _ _ rfl rfl ?_
    refine LoadAt.mk 0 _ _ rfl rfl ?_
    exact .drop 0 1 (.done ⟨_, _, by rw [show numOk w = false by simp [numOk, h2]]; rfl, rfl⟩)
  · have h2 : bits BinOp.and IntKind.u64 w 3 = 2 := by simpa using h2
    rw [and3u] at h2
    refine With.mk (by omega) ?_
    have e' : w.fdiv (2 ^ min (Int.toNat 2) IntKind.u64.bits) = w / 4 := e
    refine .mk [] _ (aUnword _ _) ?_
    rintro _ _ ⟨x, y, rfl, rfl⟩
    have hk : decide (0 ≤ w.fdiv (2 ^ min (Int.toNat 2) IntKind.u64.bits) ∧ w.fdiv (2 ^ min (Int.toNat 2) IntKind.u64.bits) < 4294967296) = numOk w := by
      rw [e', show numOk w = decide (0 ≤ w ∧ w < 17179869184) by simp [numOk, h2]]; exact decide_eq_decide.2 (by omega)
    refine StoreAt.mk 0 _ _ rfl rfl ?_
    refine LoadAt.mk 0 _ _ rfl rfl ?_
    exact .drop 0 1 (.done ⟨_, _, by rw [hk]; rfl, rfl⟩)
/-- The word that counts. -/
def normW (w : Int) : Int := if w = 0 then 0 else if w = 1 then 1 else if numOk w then w else 1
theorem numOk_ne {w : Int} (h : numOk w = true) : w ≠ 0 ∧ w ≠ 1 := by
  unfold numOk at h; simp at h; omega
theorem aIs (w : Int) (σ : Hp) : ACalls Tryz.prog 170 [.int .u64 w] σ (Ret (.bool (numOk w || decide (w = 0) || decide (w = 1))) σ) := by
  refine okF Tryz.func170 (by kernel_rfl) ?_
  refine .mk [] _ (aNum w _) ?_
  rintro _ _ ⟨x, y, rfl, rfl⟩
  cases hn : numOk w
  · intro bl1
    refine StoreAt.mk 0 _ _ rfl rfl ?_
    refine bcond_dec (fun c2 => ?_) (fun c2 => ?_)
    · have c2 : w = 0 := c2
      exact .drop 0 1 (.done ⟨av_bool (by simp [*]), rfl⟩)
    · have c2 : ¬ (w = 0) := c2
      refine bcond_dec (fun c3 => ?_) (fun c3 => ?_)
      · have c3 : w = 1 := c3
        exact .drop 0 1 (.done ⟨av_bool (by simp [*]), rfl⟩)
      · have c3 : ¬ (w = 1) := c3
        exact .drop 0 1 (.done ⟨av_bool (by simp [*]), rfl⟩)
  · intro bl1
    refine StoreAt.mk 0 _ _ rfl rfl ?_
    exact .drop 0 1 (.done ⟨av_bool (by simp [*]), rfl⟩)
theorem aNorm (w : Int) (σ : Hp) : ACalls Tryz.prog 190 [.int .u64 w] σ (Ret (.int .u64 (normW w)) σ) := by
  refine okF Tryz.func190 (by kernel_rfl) ?_
  refine callB [] (aIs w σ) (fun h => ?_) (fun h => ?_)
  · refine .done ⟨av_int ?_, rfl⟩
    unfold normW
    simp at h
    rcases h with (h | h) | h
    · simp [h, numOk_ne h]
    · simp [h]
    · simp [h]
  · exact .done ⟨av_int (by unfold normW; simp at h; simp [h]), rfl⟩
/-- What is less known of two words. -/
def joinW (a b : Int) : Int := if normW a = normW b ∨ normW b = 0 then normW a else if normW a = 0 then normW b else 1
theorem aCJoin (a b : Int) (σ : Hp) : ACalls Tryz.prog 181 [.int .u64 a, .int .u64 b] σ (Ret (.int .u64 (joinW a b)) σ) := by
  refine okF Tryz.func181 (by kernel_rfl) ?_
  refine callR [] (aNorm _ _) ?_
  refine callR [] (aNorm _ _) ?_
  refine bcond_dec (fun c1 => ?_) (fun c1 => ?_)
  · have c1 : normW a = normW b := c1
    exact .done ⟨av_int (by unfold joinW; split <;> (try split) <;> omega), rfl⟩
  · have c1 : ¬ (normW a = normW b) := c1
    refine bcond_dec (fun c2 => ?_) (fun c2 => ?_)
    · have c2 : normW b = 0 := c2
      exact .done ⟨av_int (by unfold joinW; split <;> (try split) <;> omega), rfl⟩
    · have c2 : ¬ (normW b = 0) := c2
      refine bcond_dec (fun c3 => ?_) (fun c3 => ?_)
      · have c3 : normW a = 0 := c3
        exact .done ⟨av_int (by unfold joinW; split <;> (try split) <;> omega), rfl⟩
      · have c3 : ¬ (normW a = 0) := c3
        exact .done ⟨av_int (by unfold joinW; split <;> (try split) <;> omega), rfl⟩
/-- Two words put together. -/
def wordW (what a b : Int) : Int := if what = 1 then bits .or .u64 a b else if what = 2 then bits .and .u64 a b else if what = 3 then joinW a b else 0
theorem aWord (what a b : Int) (σ : Hp) : ACalls Tryz.prog 164 [.int .i64 what, .int .u64 a, .int .u64 b] σ (Ret (.int .u64 (wordW what a b)) σ) := by
  refine okF Tryz.func164 (by kernel_rfl) ?_
  refine bcond_dec (fun c1 => ?_) (fun c1 => ?_)
  · have c1 : what = 1 := c1
    exact .done ⟨av_int (by simp [wordW, *]), rfl⟩
  · have c1 : ¬ (what = 1) := c1
    refine bcond_dec (fun c2 => ?_) (fun c2 => ?_)
    · have c2 : what = 2 := c2
      exact .done ⟨av_int (by simp [wordW, *]), rfl⟩
    · have c2 : ¬ (what = 2) := c2
      refine bcond_dec (fun c3 => ?_) (fun c3 => ?_)
      · have c3 : what = 3 := c3
        refine callR [] (aCJoin _ _ _) ?_
        exact .done ⟨av_int (by simp [wordW, *]), rfl⟩
      · have c3 : ¬ (what = 3) := c3
        exact .done ⟨av_int (by simp [wordW, *]), rfl⟩
/-- A list's word; 0: there is none. -/
def wd (a : List Int) (i : Nat) : Int := (a[i]?).getD 0
def W64 (z : Int) : Prop := 0 ≤ z ∧ z < 18446744073709551616
def A64 (l : List Int) : Prop := ∀ z ∈ l, W64 z
theorem wrap_64 (n : Int) : W64 (IntKind.u64.wrap n) := by rw [IntKind.wrap_u64]; unfold W64; omega
theorem norm_64 {w : Int} (h : W64 w) : W64 (normW w) := by
  unfold normW
  split
  · exact ⟨by decide, by decide⟩
  · split
    · exact ⟨by decide, by decide⟩
    · split
      · exact h
      · exact ⟨by decide, by decide⟩
theorem word_64 {what a b : Int} (ha : W64 a) (hb : W64 b) : W64 (wordW what a b) := by
  unfold wordW
  split
  · exact wrap_64 _
  · split
    · exact wrap_64 _
    · split
      · unfold joinW
        split
        · exact norm_64 ha
        · split
          · exact norm_64 hb
          · exact ⟨by decide, by decide⟩
      · exact ⟨by decide, by decide⟩
theorem wd_64 {l : List Int} (h : A64 l) (i : Nat) : W64 (wd l i) := by
  unfold wd
  cases hq : l[i]? with
  | none => exact ⟨by decide, by decide⟩
  | some x => exact h x (List.mem_of_getElem? hq)
end Go.Proofs.YtljbnigceammdaaGreatDoor
