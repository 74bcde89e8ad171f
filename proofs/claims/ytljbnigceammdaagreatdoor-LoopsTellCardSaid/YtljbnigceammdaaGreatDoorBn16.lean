/-
  Lat; Ones: what the claim uses of them.
-/
import Derived.Test.YtljbnigceammdaaGreatDoorBn12
import Derived.Test.YtljbnigceammdaaGreatDoorBn15
namespace Go.Proofs.YtljbnigceammdaaGreatDoor
open Go.RowKit
set_option maxRecDepth 100000
/-- A row of words, in cells. -/
def woC (ws : List Int) : List AV := ws.map (.int .u64)
theorem rep_woC (n : Nat) : repC [.int .u64 0] n = woC (List.replicate n 0) := by
  unfold woC
  induction n with
  | zero => rfl
  | succ n ih => simp [repC, ih, List.replicate_succ]
theorem woC_flat : ∀ (ws : List Int), woC ws = ws.flatMap (Sh.cells (.int .u64))
  | [] => rfl
  | z :: ws => congrArg (AV.int .u64 z :: ·) (woC_flat ws)
theorem aGWrap (n : Int) (σ : Hp) : ACalls Tryz.prog 194 [.int .i64 n] σ (fun r σ' => ∃ m, r = .int .i64 m ∧ σ' = σ) := by
  refine okF Tryz.func194 (by kernel_rfl) ?_
  refine With.mk (by omega) ?_
  refine bcond_dec (fun h1 => ?_) (fun h1 => ?_)
  · have h1 : 32767 < n.tmod 65536 := h1
    exact .done ⟨_, rfl, rfl⟩
  · have h1 : ¬ (32767 < n.tmod 65536) := h1
    refine bcond_dec (fun h2 => ?_) (fun h2 => ?_)
    · have h2 : n.tmod 65536 < -32768 := h2
      exact .done ⟨_, rfl, rfl⟩
    · have h2 : ¬ (n.tmod 65536 < -32768) := h2
      exact .done ⟨_, rfl, rfl⟩
theorem aGOf (a b : Int) (σ : Hp) : ACalls Tryz.prog 195 [.int .i64 a, .int .i64 b] σ (fun r σ' => ∃ x y, r = .agg [.int .i64 x, .int .i64 y] ∧ σ' = σ) := by
  refine okF Tryz.func195 (by kernel_rfl) ?_
  intro b1
  (refine .mk [] _ (aGWrap _ _) ?_; rintro _ _ ⟨x, rfl, rfl⟩)
  (refine .mk [] _ (aGWrap _ _) ?_; rintro _ _ ⟨x, rfl, rfl⟩)
  refine StoreAt.mk 0 _ _ rfl rfl ?_
  refine LoadAt.mk 0 _ _ rfl rfl ?_
  exact .drop 0 1 (.done ⟨_, _, rfl, rfl⟩)
theorem shr_lit {w : Int} {k m : Nat} (hk : min (Int.toNat (k : Int)) IntKind.u64.bits = m) : w.fdiv (2 ^ min (Int.toNat (k : Int)) IntKind.u64.bits) = w / 2 ^ m := by
  rw [hk]; exact Int.fdiv_eq_ediv_of_nonneg _ (Int.le_of_lt (Int.pow_pos (by decide)))
theorem and3u (w : Int) : bits .and .u64 w 3 = w % 4 := by
  show IntKind.u64.wrap ((BitVec.ofInt 64 w &&& BitVec.ofInt 64 3).toNat : Int) = _
  have h3 : (BitVec.ofInt 64 3 : BitVec 64).toNat = 2 ^ 2 - 1 := by decide
  rw [BitVec.toNat_and, h3, Nat.and_two_pow_sub_one_eq_mod, BitVec.toNat_ofInt, IntKind.wrap_u64]
  omega
/-- A word that is a number's. -/
def numOk (w : Int) : Bool := decide (w % 4 = 2) && decide (0 ≤ w ∧ w < 17179869184)
theorem aUnword (w : Int) (σ : Hp) : ACalls Tryz.prog 192 [.int .u64 w] σ (fun r σ' => ∃ x y, r = .tup [.agg [.int .i64 x, .int .i64 y], .bool (decide (0 ≤ w ∧ w < 4294967296))] ∧ σ' = σ) := by
  have e := shr_lit (k := 32) (m := 32) (w := w) (by decide)
  refine okF Tryz.func192 (by kernel_rfl) ?_
  intro b1
  refine With.mk (by omega) ?_
  refine bcond_split (fun h2 => ?_) (fun h2 => ?_)
  · have h2 : ¬ (w.fdiv (2 ^ min (Int.toNat 32) IntKind.u64.bits) = 0) := by simpa using h2
    have hw : ¬ (0 ≤ w ∧ w < 4294967296) := fun h => h2 (by rw [show w.fdiv (2 ^ min (Int.toNat 32) IntKind.u64.bits) = w / 2 ^ 32 from e]; omega)
    refine StoreAt.mk 0 _ _ rfl rfl ?_
    refine LoadAt.mk 0 _ _ rfl rfl ?_
    exact .drop 0 1 (.done ⟨_, _, by rw [decide_eq_false hw]; rfl, rfl⟩)
  · have h2 : w.fdiv (2 ^ min (Int.toNat 32) IntKind.u64.bits) = 0 := by simpa using h2
    have hw : 0 ≤ w ∧ w < 4294967296 := by rw [show w.fdiv (2 ^ min (Int.toNat 32) IntKind.u64.bits) = w / 2 ^ 32 from e] at h2; omega
    refine With.mk (by omega) ?_
    (refine .mk [] _ (aGOf _ _ _) ?_; rintro _ _ ⟨x, y, rfl, rfl⟩)
    refine StoreAt.mk 0 _ _ rfl rfl ?_
    refine LoadAt.mk 0 _ _ rfl rfl ?_
    exact .drop 0 1 (.done ⟨_, _, by rw [decide_eq_true hw]; rfl, rfl⟩)
theorem aNum (w : Int) (σ : Hp) : ACalls Tryz.prog 184 [.int .u64 w] σ (fun r σ' => ∃ x y, r = .tup [.agg [.int .i64 x, .int .i64 y], .bool (numOk w)] ∧ σ' = σ) := by
  have e := shr_lit (k := 2) (m := 2) (w := w) (by decide)
  refine okF Tryz.func184 (by kernel_rfl) ?_
  intro b1
  refine bcond_split (fun h2 => ?_) (fun h2 => ?_)
  · have h2 : ¬ (bits BinOp.and IntKind.u64 w 3 = 2) := by simpa using h2
    rw [and3u] at h2
    refine StoreAt.mk 0 _ _ rfl rfl ?_
    refine LoadAt.mk 0 _ _ rfl rfl ?_
    exact .drop 0 1 (.done ⟨_, _, by rw [show numOk w = false by simp [numOk, h2]]; rfl, rfl⟩)
  · have h2 : bits BinOp.and IntKind.u64 w 3 = 2 := by simpa using h2
    rw [and3u] at h2
    refine With.mk (by omega) ?_
    have e' : w.fdiv (2 ^ min (Int.toNat 2) IntKind.u64.bits) = w / 4 := e
    refine .mk [] _ (aUnword _ _) ?_
    rintro _ _ ⟨x, y, rfl, rfl⟩
    have hk : decide (0 ≤ w.fdiv (2 ^ min (Int.toNat 2) IntKind.u64.bits) ∧ w.fdiv (2 ^ min (Int.toNat 2) IntKind.u64.bits) < 4294967296) = numOk w := by
      rw [e', show numOk w = decide (0 ≤ w ∧ w < 17179869184) by simp [numOk, h2]]; exact decide_eq_decide.2 (by omega)
    refine StoreAt.mk 0 _ _ rfl rfl ?_
    refine LoadAt.mk 0 _ _ rfl rfl ?_
    exact .drop 0 1 (.done ⟨_, _, by rw [hk]; rfl, rfl⟩)
/-- The word that counts. -/
def normW (w : Int) : Int := if w = 0 then 0 else if w = 1 then 1 else if numOk w then w else 1
theorem numOk_ne {w : Int} (h : numOk w = true) : w ≠ 0 ∧ w ≠ 1 := by
  unfold numOk at h; simp at h; omega
theorem aIs (w : Int) (σ : Hp) : ACalls Tryz.prog 170 [.int .u64 w] σ (Ret (.bool (numOk w || decide (w = 0) || decide (w = 1))) σ) := by
  refine okF Tryz.func170 (by kernel_rfl) ?_
  refine .mk [] _ (aNum w _) ?_
  rintro _ _ ⟨x, y, rfl, rfl⟩
  cases hn : numOk w
  · intro bl1
    refine StoreAt.mk 0 _ _ rfl rfl ?_
    refine bcond_dec (fun c2 => ?_) (fun c2 => ?_)
    · have c2 : w = 0 := c2
      exact .drop 0 1 (.done ⟨av_bool (by simp [*]), rfl⟩)
    · have c2 : ¬ (w = 0) := c2
      refine bcond_dec (fun c3 => ?_) (fun c3 => ?_)
      · have c3 : w = 1 := c3
        exact .drop 0 1 (.done ⟨av_bool (by simp [*]), rfl⟩)
      · have c3 : ¬ (w = 1) := c3
        exact .drop 0 1 (.done ⟨av_bool (by simp [*]), rfl⟩)
  · intro bl1
    refine StoreAt.mk 0 _ _ rfl rfl ?_
    exact .drop 0 1 (.done ⟨av_bool (by simp [*]), rfl⟩)
theorem aNorm (w : Int) (σ : Hp) : ACalls Tryz.prog 190 [.int .u64 w] σ (Ret (.int .u64 (normW w)) σ) := by
  refine okF Tryz.func190 (by kernel_rfl) ?_
  refine callB [] (aIs w σ) (fun h => ?_) (fun h => ?_)
  · refine .done ⟨av_int ?_, rfl⟩
    unfold normW
    simp at h
    rcases h with (h | h) | h
    · simp [h, numOk_ne h]
    · simp [h]
    · simp [h]
  · exact .done ⟨av_int (by unfold normW; simp at h; simp [h]), rfl⟩
/-- What is less known of two words. -/
def joinW (a b : Int) : Int := if normW a = normW b ∨ normW b = 0 then normW a else if normW a = 0 then normW b else 1
theorem aCJoin (a b : Int) (σ : Hp) : ACalls Tryz.prog 181 [.int .u64 a, .int .u64 b] σ (Ret (.int .u64 (joinW a b)) σ) := by
  refine okF Tryz.func181 (by kernel_rfl) ?_
  refine callR [] (aNorm _ _) ?_
  refine callR [] (aNorm _ _) ?_
  refine bcond_dec (fun c1 => ?_) (fun c1 => ?_)
  · have c1 : normW a = normW b := c1
    exact .done ⟨av_int (by unfold joinW; split <;> (try split) <;> omega), rfl⟩
  · have c1 : ¬ (normW a = normW b) := c1
    refine bcond_dec (fun c2 => ?_) (fun c2 => ?_)
    · have c2 : normW b = 0 := c2
      exact .done ⟨av_int (by unfold joinW; split <;> (try split) <;> omega), rfl⟩
    · have c2 : ¬ (normW b = 0) := c2
      refine bcond_dec (fun c3 => ?_) (fun c3 => ?_)
      · have c3 : normW a = 0 := c3
        exact .done ⟨av_int (by unfold joinW; split <;> (try split) <;> omega), rfl⟩
      · have c3 : ¬ (normW a = 0) := c3
        exact .done ⟨av_int (by unfold joinW; split <;> (try split) <;> omega), rfl⟩
/-- Two words put together. -/
def wordW (what a b : Int) : Int := if what = 1 then bits .or .u64 a b else if what = 2 then bits .and .u64 a b else if what = 3 then joinW a b else 0
theorem aWord (what a b : Int) (σ : Hp) : ACalls Tryz.prog 164 [.int .i64 what, .int .u64 a, .int .u64 b] σ (Ret (.int .u64 (wordW what a b)) σ) := by
  refine okF Tryz.func164 (by kernel_rfl) ?_
  refine bcond_dec (fun c1 => ?_) (fun c1 => ?_)
  · have c1 : what = 1 := c1
    exact .done ⟨av_int (by simp [wordW, *]), rfl⟩
  · have c1 : ¬ (what = 1) := c1
    refine bcond_dec (fun c2 => ?_) (fun c2 => ?_)
    · have c2 : what = 2 := c2
      exact .done ⟨av_int (by simp [wordW, *]), rfl⟩
    · have c2 : ¬ (what = 2) := c2
      refine bcond_dec (fun c3 => ?_) (fun c3 => ?_)
      · have c3 : what = 3 := c3
        refine callR [] (aCJoin _ _ _) ?_
        exact .done ⟨av_int (by simp [wordW, *]), rfl⟩
      · have c3 : ¬ (what = 3) := c3
        exact .done ⟨av_int (by simp [wordW, *]), rfl⟩
/-- A list's word; 0: there is none. -/
def wd (a : List Int) (i : Nat) : Int := (a[i]?).getD 0
def W64 (z : Int) : Prop := 0 ≤ z ∧ z < 18446744073709551616
def A64 (l : List Int) : Prop := ∀ z ∈ l, W64 z
theorem wrap_64 (n : Int) : W64 (IntKind.u64.wrap n) := by rw [IntKind.wrap_u64]; unfold W64; omega
theorem norm_64 {w : Int} (h : W64 w) : W64 (normW w) := by
  unfold normW
  split
  · exact ⟨by decide, by decide⟩
  · split
    · exact ⟨by decide, by decide⟩
    · split
      · exact h
      · exact ⟨by decide, by decide⟩
theorem word_64 {what a b : Int} (ha : W64 a) (hb : W64 b) : W64 (wordW what a b) := by
  unfold wordW
  split
  · exact wrap_64 _
  · split
    · exact wrap_64 _
    · split
      · unfold joinW
        split
        · exact norm_64 ha
        · split
          · exact norm_64 hb
          · exact ⟨by decide, by decide⟩
      · exact ⟨by decide, by decide⟩
theorem wd_64 {l : List Int} (h : A64 l) (i : Nat) : W64 (wd l i) := by
  unfold wd
  cases hq : l[i]? with
  | none => exact ⟨by decide, by decide⟩
  | some x => exact h x (List.mem_of_getElem? hq)
end Go.Proofs.YtljbnigceammdaaGreatDoor
namespace Go.Proofs.YtljbnigceammdaaGreatDoor
open Go.RowKit
set_option maxRecDepth 100000
theorem toNat_w {z : Int} (h : W64 z) : (z.toNat : Int) = z := by unfold W64 at h; omega
theorem lt_w {z : Int} (h : W64 z) : z.toNat < 18446744073709551616 := by unfold W64 at h; omega
theorem w64_nat {n : Nat} (h : n < 18446744073709551616) : W64 (n : Int) := by unfold W64; omega
theorem bits_u64_and {a b : Nat} (ha : a < 18446744073709551616) (hb : b < 18446744073709551616) : bits .and .u64 (a : Int) (b : Int) = ((a &&& b : Nat) : Int) := by
  show IntKind.u64.wrap ((BitVec.ofInt 64 (a : Int) &&& BitVec.ofInt 64 (b : Int)).toNat : Int) = _
  rw [BitVec.toNat_and, BitVec.ofInt_natCast, BitVec.ofInt_natCast, BitVec.toNat_ofNat, BitVec.toNat_ofNat, Nat.mod_eq_of_lt ha, Nat.mod_eq_of_lt hb, IntKind.wrap_u64]
  have : a &&& b ≤ a := Nat.and_le_left
  omega
theorem bits_u64_or {a b : Nat} (ha : a < 18446744073709551616) (hb : b < 18446744073709551616) : bits .or .u64 (a : Int) (b : Int) = ((a ||| b : Nat) : Int) := by
  show IntKind.u64.wrap ((BitVec.ofInt 64 (a : Int) ||| BitVec.ofInt 64 (b : Int)).toNat : Int) = _
  rw [BitVec.toNat_or, BitVec.ofInt_natCast, BitVec.ofInt_natCast, BitVec.toNat_ofNat, BitVec.toNat_ofNat, Nat.mod_eq_of_lt ha, Nat.mod_eq_of_lt hb, IntKind.wrap_u64]
  have : a ||| b < 2 ^ 64 := Nat.or_lt_two_pow ha hb
  have h64 : (2 : Nat) ^ 64 = 18446744073709551616 := by decide
  omega
theorem fdiv_nat (a : Nat) (k : Nat) (j : Int) (hj : min j.toNat IntKind.u64.bits = k) : (a : Int).fdiv (2 ^ min j.toNat IntKind.u64.bits) = ((a / 2 ^ k : Nat) : Int) := by
  rw [hj, Int.fdiv_eq_ediv_of_nonneg _ (Int.pow_nonneg (by decide)), Int.natCast_ediv, Int.natCast_pow]; rfl
theorem valB_lt : ∀ (l : List Nat), (∀ b ∈ l, b < 256) → valB l < 256 ^ l.length
  | [], _ => by decide
  | b :: l, h => by
    have := valB_lt l (fun x hx => h x (.tail _ hx))
    have hb := h b (.head _)
    show valB l * 256 + b < 256 ^ (l.length + 1)
    rw [Nat.pow_succ]
    omega
def oA (k m x : Int) : Int := IntKind.u64.wrap (bits .and .u64 (x.fdiv (2 ^ min k.toNat IntKind.u64.bits)) m + bits .and .u64 x m)
def oB (x : Int) : Int := bits .and .u64 (IntKind.u64.wrap (x.fdiv (2 ^ min (4 : Int).toNat IntKind.u64.bits) + x)) 1085102592571150095
def oC (k x : Int) : Int := IntKind.u64.wrap (x + x.fdiv (2 ^ min k.toNat IntKind.u64.bits))
def oD (x : Int) : Int := bits .and .i64 (IntKind.i64.wrap x) 127
theorem wrap_n {n : Nat} (h : n < 18446744073709551616) : IntKind.u64.wrap (n : Int) = n := by rw [IntKind.wrap_u64]; omega
theorem and127 (n : Nat) (h : n < 9223372036854775808) : oD (n : Int) = ((n % 128 : Nat) : Int) := by
  unfold oD
  rw [show IntKind.i64.wrap (n : Int) = n by rw [IntKind.wrap_i64]; omega]
  show IntKind.i64.wrap ((BitVec.ofInt 64 (n : Int) &&& BitVec.ofInt 64 (127 : Int)).toNat : Int) = _
  rw [BitVec.toNat_and, BitVec.ofInt_natCast, BitVec.toNat_ofNat, Nat.mod_eq_of_lt (show n < 2 ^ 64 from Nat.lt_trans h (by decide)), show (BitVec.ofInt 64 (127 : Int)).toNat = 2 ^ 7 - 1 by decide, Nat.and_two_pow_sub_one_eq_mod, IntKind.wrap_i64]
  have : (2 : Nat) ^ 7 = 128 := by decide
  omega
theorem ones_val {n : Nat} (h : n < 18446744073709551616) : oD (oC 32 (oC 16 (oC 8 (oB (oA 2 3689348814741910323 (oA 1 6148914691236517205 (n : Int))))))) = (popN n : Int) := by
  have hb := bytes8_lt n
  have hv := bytes8_val h
  obtain ⟨l, hl⟩ : ∃ l, l = bytes8 n := ⟨_, rfl⟩
  have hlen : l.length = 8 := by rw [hl]; rfl
  rw [← hl] at hb hv
  have h256 : (256 : Nat) ^ 8 = 18446744073709551616 := by decide
  have hb1 : ∀ b ∈ l.map g1, b < 256 := fun b hm => by
    obtain ⟨c, hc, rfl⟩ := List.mem_map.1 hm
    have := g1_small c (hb c hc); omega
  have hb2 : ∀ b ∈ (l.map g1).map g2, b % 16 ≤ 4 ∧ b / 16 ≤ 4 := fun b hm => by
    obtain ⟨c, hc, rfl⟩ := List.mem_map.1 hm
    obtain ⟨d, hd, rfl⟩ := List.mem_map.1 hc
    exact g2_small d (hb d hd)
  have hb2' : ∀ b ∈ (l.map g1).map g2, b < 256 := fun b hm => by have := hb2 b hm; omega
  have m1 : valB (l.map fun _ => 85) = 6148914691236517205 := by rw [List.map_const', hlen]; rfl
  have m2 : valB ((l.map g1).map fun _ => 51) = 3689348814741910323 := by rw [List.map_const', List.length_map, hlen]; rfl
  have m3 : valB (((l.map g1).map g2).map fun _ => 15) = 1085102592571150095 := by rw [List.map_const', List.length_map, List.length_map, hlen]; rfl
  have s1 := stage1 l hb
  have s2 := stage2 (l.map g1) hb1
  have s3 := stage3 ((l.map g1).map g2) hb2
  rw [m1, hv] at s1
  rw [m2] at s2
  rw [m3] at s3
  have l1 := valB_lt _ hb1
  have l2 := valB_lt _ hb2'
  rw [List.length_map, hlen, h256] at l1
  rw [List.length_map, List.length_map, hlen, h256] at l2
  have hA : ∀ (x m y k : Nat) (j : Int), min j.toNat IntKind.u64.bits = k → x < 18446744073709551616 → m < 18446744073709551616 → (x / 2 ^ k &&& m) + (x &&& m) = y → y < 18446744073709551616 → oA j (m : Int) (x : Int) = (y : Int) := by
    intro x m y k j hj hx hm hy hy2
    unfold oA
    rw [fdiv_nat x k j hj, bits_u64_and (Nat.lt_of_le_of_lt (Nat.div_le_self _ _) hx) hm, bits_u64_and hx hm, ← Int.natCast_add, hy]
    exact wrap_n hy2
  have e1 := hA n 6148914691236517205 _ 1 1 rfl h (by decide) s1 l1
  have e2 := hA _ 3689348814741910323 _ 2 2 rfl l1 (by decide) s2 l2
  have hl3 : valB ((l.map g1).map g2) / 16 + valB ((l.map g1).map g2) < 18446744073709551616 := by
    have hz : ∀ (q : List Nat), (∀ b ∈ q, b % 16 ≤ 4 ∧ b / 16 ≤ 4) → valB q * 2 < 256 ^ q.length ∨ q = [] := by
      intro q
      induction q with
      | nil => intro _; exact .inr rfl
      | cons b q ih =>
        intro h
        have hb := h b (.head _)
        refine .inl ?_
        show (valB q * 256 + b) * 2 < 256 ^ (q.length + 1)
        rw [Nat.pow_succ]
        rcases ih (fun x hx => h x (.tail _ hx)) with h1 | rfl
        · omega
        · show (0 * 256 + b) * 2 < 256 ^ 0 * 256
          omega
    rcases hz _ hb2 with h1 | h1
    · rw [List.length_map, List.length_map, hlen, h256] at h1
      omega
    · have := congrArg List.length h1
      rw [List.length_map, List.length_map, hlen] at this
      cases this
  have e3 : oB (valB ((l.map g1).map g2) : Int) = (valB (((l.map g1).map g2).map g3) : Int) := by
    unfold oB
    rw [fdiv_nat _ 4 4 rfl, ← Int.natCast_add, show (2 : Nat) ^ 4 = 16 by decide, wrap_n hl3]
    have := bits_u64_and (b := 1085102592571150095) hl3 (by decide)
    rw [s3] at this
    exact this
  have hC : ∀ (x k : Nat) (j : Int), min j.toNat IntKind.u64.bits = k → x + x / 2 ^ k < 18446744073709551616 → oC j (x : Int) = ((x + x / 2 ^ k : Nat) : Int) := by
    intro x k j hj hx
    unfold oC
    rw [fdiv_nat x k j hj, ← Int.natCast_add]
    exact wrap_n hx
  have hpop : ((l.map g1).map g2).map g3 = l.map popB := by simp [popB, Function.comp_def]
  rw [hpop] at e3
  obtain ⟨e0, f1, f2, f3, f4, f5, f6, f7, hq, hsum, hle⟩ : ∃ e0 e1 e2 e3 e4 e5 e6 e7, l.map popB = [e0, e1, e2, e3, e4, e5, e6, e7] ∧ popN n = e0 + e1 + e2 + e3 + e4 + e5 + e6 + e7 ∧ (e0 ≤ 8 ∧ e1 ≤ 8 ∧ e2 ≤ 8 ∧ e3 ≤ 8 ∧ e4 ≤ 8 ∧ e5 ≤ 8 ∧ e6 ≤ 8 ∧ e7 ≤ 8) := by
    refine ⟨_, _, _, _, _, _, _, _, by rw [hl]; rfl, ?_, ?_⟩
    · unfold popN bytes8
      simp only [List.map_cons, List.map_nil, List.sum_cons, List.sum_nil]
      omega
    · refine ⟨?_, ?_, ?_, ?_, ?_, ?_, ?_, ?_⟩ <;> exact popB_le _ (Nat.mod_lt _ (by decide))
  obtain ⟨X, hX⟩ : ∃ X, X = valB (l.map popB) := ⟨_, rfl⟩
  rw [← hX] at e3
  rw [hq] at hX
  obtain ⟨g1', g2', g3', g4'⟩ := fold3 hle hX rfl rfl rfl
  have e4 := hC X 8 8 rfl g4'
  have e5 := hC (X + X / 256) 16 16 rfl g3'
  have e6 := hC (X + X / 256 + (X + X / 256) / 65536) 32 32 rfl (Nat.lt_trans g2' (by decide))
  have hm1 : oA 1 6148914691236517205 (n : Int) = _ := e1
  rw [hm1]
  have hm2 : oA 2 3689348814741910323 (valB (l.map g1) : Int) = _ := e2
  rw [hm2, e3, e4]
  have e5 : oC 16 ((X + X / 256 : Nat) : Int) = _ := e5
  have e6 : oC 32 ((X + X / 256 + (X + X / 256) / 65536 : Nat) : Int) = _ := e6
  rw [show ((X + X / 2 ^ 8 : Nat) : Int) = ((X + X / 256 : Nat) : Int) from rfl, e5, show ((X + X / 256 + (X + X / 256) / 2 ^ 16 : Nat) : Int) = ((X + X / 256 + (X + X / 256) / 65536 : Nat) : Int) from rfl, e6]
  rw [and127 _ g2', hsum, ← g1']
theorem aOnes {x : Int} (h : W64 x) (σ : Hp) : ACalls Tryz.prog 200 [.int .u64 x] σ (Ret (.int .i64 (popN x.toNat)) σ) := by
  refine okF Tryz.func200 (by kernel_rfl) ?_
  have hv := ones_val (lt_w h)
  rw [toNat_w h] at hv
  refine With.mk (by decide) ?_
  refine With.mk (by omega) ?_
  refine With.mk (by omega) ?_
  refine With.mk (by omega) ?_
  refine With.mk (by omega) ?_
  refine With.mk (by omega) ?_
  exact .done ⟨av_int hv, rfl⟩
end Go.Proofs.YtljbnigceammdaaGreatDoor
