/-
  float64 at whole numbers: sums, differences, products, and back: exact below 2^53. Plain.
-/
import Derived.Laws.ComplexArith
namespace Go.Proofs.Ytphifpfndhfdfaa
open Ieee
/-- A datum that is a whole number. -/
def IsInt (d : Datum) (N : Int) : Prop := ∃ s m p, d = .number s m p ∧ m * 2 ^ p.toNat = N.natAbs * 2 ^ (-p).toNat ∧ (N ≠ 0 → s = decide (N < 0))
theorem shl_pow (m k : Nat) : m <<< k = m * 2 ^ k := Nat.shiftLeft_eq m k
theorem signed_abs (s : Bool) (m u : Nat) : (signed s m u).natAbs = m * 2 ^ u := by
  unfold signed
  rw [shl_pow]
  split
  · rw [Int.natAbs_neg, Int.natAbs_natCast]
  · rw [Int.natAbs_natCast]
theorem pow_split {a b : Nat} (h : a ≤ b) : (2 : Nat) ^ b = 2 ^ a * 2 ^ (b - a) := by rw [← Nat.pow_add]; congr 1; omega
/-- m * 2^p is N: at whatever place it is written. -/
theorem scale_nat {m A : Nat} {p base : Int} (h : m * 2 ^ p.toNat = A * 2 ^ (-p).toNat) (hb : base ≤ p) : m * 2 ^ (p - base).toNat * 2 ^ base.toNat = A * 2 ^ (-base).toNat := by
  rcases Int.lt_or_le base 0 with h0 | h0
  · rcases Int.lt_or_le p 0 with h1 | h1
    · have e1 : p.toNat = 0 := by omega
      have e2 : base.toNat = 0 := by omega
      rw [e1, Nat.pow_zero, Nat.mul_one] at h
      rw [e2, Nat.pow_zero, Nat.mul_one, h, Nat.mul_assoc, ← Nat.pow_add]
      congr 2; omega
    · have e1 : (-p).toNat = 0 := by omega
      have e2 : base.toNat = 0 := by omega
      have e3 : (p - base).toNat = p.toNat + (-base).toNat := by omega
      rw [e1, Nat.pow_zero, Nat.mul_one] at h
      rw [e2, Nat.pow_zero, Nat.mul_one, e3, Nat.pow_add, ← Nat.mul_assoc, h]
  · have e1 : (-p).toNat = 0 := by omega
    have e2 : (-base).toNat = 0 := by omega
    rw [e1, Nat.pow_zero, Nat.mul_one] at h
    rw [e2, Nat.pow_zero, Nat.mul_one, Nat.mul_assoc, ← Nat.pow_add, ← h]
    congr 2; omega
theorem signed_val {s : Bool} {m u : Nat} {N : Int} {A B : Nat} (h : m * 2 ^ u * A = N.natAbs * B) (hs : N ≠ 0 → s = decide (N < 0)) (hA : 0 < A) : signed s m u * (A : Int) = N * (B : Int) := by
  have h' : ((m * 2 ^ u : Nat) : Int) * (A : Int) = (N.natAbs : Int) * (B : Int) := by exact_mod_cast h
  by_cases h0 : N = 0
  · subst h0
    have hm : m * 2 ^ u = 0 := by
      have : m * 2 ^ u * A = 0 := by rw [h]; simp
      rcases Nat.mul_eq_zero.1 this with h1 | h1
      · exact h1
      · omega
    have : signed s m u = 0 := Int.natAbs_eq_zero.1 (by rw [signed_abs, hm])
    rw [this]; simp
  · have hs := hs h0
    subst hs
    unfold signed
    rw [shl_pow]
    by_cases hn : N < 0
    · rw [decide_eq_true hn, if_pos rfl, Int.neg_mul, h', ← Int.neg_mul]
      congr 1; omega
    · rw [decide_eq_false hn, if_neg (by decide), h']
      congr 1; omega
theorem pow_pos' (k : Nat) : 0 < 2 ^ k := Nat.two_pow_pos k
theorem isInt_sum {d e : Datum} {N M : Int} (hd : IsInt d N) (he : IsInt e M) : ∃ x, d.sum e = some x ∧ IsInt x (N + M) := by
  obtain ⟨s, m, i, rfl, h1, h2⟩ := hd
  obtain ⟨t, n, j, rfl, h3, h4⟩ := he
  refine ⟨_, rfl, _, _, _, rfl, ?_, ?_⟩
  all_goals
    have e1 := signed_val (scale_nat h1 (Int.min_le_left i j)) h2 (pow_pos' _)
    have e2 := signed_val (scale_nat h3 (Int.min_le_right i j)) h4 (pow_pos' _)
    have e3 : (signed s m (i - min i j).toNat + signed t n (j - min i j).toNat) * ((2 ^ (min i j).toNat : Nat) : Int) = (N + M) * ((2 ^ (-(min i j)).toNat : Nat) : Int) := by rw [Int.add_mul, e1, e2, Int.add_mul]
  · have := congrArg Int.natAbs e3
    rw [Int.natAbs_mul, Int.natAbs_mul, Int.natAbs_natCast, Int.natAbs_natCast] at this
    exact this
  · intro hne
    generalize signed s m (i - min i j).toNat + signed t n (j - min i j).toNat = T at e3
    have hp := pow_pos' (min i j).toNat
    have hq := pow_pos' (-(min i j)).toNat
    generalize (2 : Nat) ^ (min i j).toNat = P at e3 hp
    generalize (2 : Nat) ^ (-(min i j)).toNat = Q at e3 hq
    have hT : T ≠ 0 := by
      intro h0
      rw [h0, Int.zero_mul] at e3
      rcases Int.mul_eq_zero.1 e3.symm with h5 | h5
      · exact hne h5
      · omega
    rw [if_neg hT]
    refine decide_eq_decide.2 ⟨fun h => ?_, fun h => ?_⟩
    · have : T * (P : Int) < 0 := Int.mul_neg_of_neg_of_pos h (by omega)
      rw [e3] at this
      rcases Int.lt_or_le (N + M) 0 with h5 | h5
      · exact h5
      · have := Int.mul_nonneg h5 (show (0 : Int) ≤ Q by omega)
        omega
    · have : (N + M) * (Q : Int) < 0 := Int.mul_neg_of_neg_of_pos h (by omega)
      rw [← e3] at this
      rcases Int.lt_or_le T 0 with h5 | h5
      · exact h5
      · have := Int.mul_nonneg h5 (show (0 : Int) ≤ P by omega)
        omega
theorem isInt_opp {d : Datum} {N : Int} (h : IsInt d N) : IsInt d.opposite (-N) := by
  obtain ⟨s, m, p, rfl, h1, h2⟩ := h
  refine ⟨_, _, _, rfl, by rw [Int.natAbs_neg]; exact h1, fun hne => ?_⟩
  rw [h2 (by omega)]
  by_cases hn : N < 0
  · rw [decide_eq_true hn, decide_eq_false (by omega)]; rfl
  · rw [decide_eq_false hn, decide_eq_true (by omega)]; rfl
theorem isInt_prod {d e : Datum} {N M : Int} (hd : IsInt d N) (he : IsInt e M) : ∃ x, d.product e = some x ∧ IsInt x (N * M) := by
  obtain ⟨s, m, i, rfl, h1, h2⟩ := hd
  obtain ⟨t, n, j, rfl, h3, h4⟩ := he
  refine ⟨_, rfl, _, _, _, rfl, ?_, fun hne => ?_⟩
  · rw [Int.natAbs_mul]
    have h5 : (m * 2 ^ i.toNat) * (n * 2 ^ j.toNat) = (N.natAbs * 2 ^ (-i).toNat) * (M.natAbs * 2 ^ (-j).toNat) := by rw [h1, h3]
    obtain ⟨c, hc1, hc2⟩ : ∃ c, i.toNat + j.toNat = (i + j).toNat + c ∧ (-i).toNat + (-j).toNat = (-(i + j)).toNat + c := ⟨i.toNat + j.toNat - (i + j).toNat, by omega, by omega⟩
    have e1 : (m * 2 ^ i.toNat) * (n * 2 ^ j.toNat) = (m * n * 2 ^ (i + j).toNat) * 2 ^ c := by
      rw [Nat.mul_assoc (m * n), ← Nat.pow_add, ← hc1, Nat.pow_add]; ac_rfl
    have e2 : (N.natAbs * 2 ^ (-i).toNat) * (M.natAbs * 2 ^ (-j).toNat) = (N.natAbs * M.natAbs * 2 ^ (-(i + j)).toNat) * 2 ^ c := by
      rw [Nat.mul_assoc (N.natAbs * M.natAbs), ← Nat.pow_add, ← hc2, Nat.pow_add]; ac_rfl
    rw [e1, e2] at h5
    exact Nat.eq_of_mul_eq_mul_right (pow_pos' c) h5
  · have hN : N ≠ 0 := fun h => hne (by rw [h, Int.zero_mul])
    have hM : M ≠ 0 := fun h => hne (by rw [h, Int.mul_zero])
    rw [h2 hN, h4 hM]
    rcases Int.lt_or_gt_of_ne hN with a | a <;> rcases Int.lt_or_gt_of_ne hM with b | b
    · have := Int.mul_pos_of_neg_of_neg a b
      rw [decide_eq_true a, decide_eq_true b, decide_eq_false (by omega)]; rfl
    · have := Int.mul_neg_of_neg_of_pos a b
      rw [decide_eq_true a, decide_eq_false (by omega), decide_eq_true this]; rfl
    · have := Int.mul_neg_of_pos_of_neg a b
      rw [decide_eq_false (by omega), decide_eq_true b, decide_eq_true this]; rfl
    · have := Int.mul_pos a b
      rw [decide_eq_false (by omega), decide_eq_false (by omega), decide_eq_false (by omega)]; rfl
theorem log2_mul_pow {A k : Nat} (h : A ≠ 0) : (A * 2 ^ k).log2 = A.log2 + k := by
  have hne : A * 2 ^ k ≠ 0 := Nat.mul_ne_zero h (Nat.pos_iff_ne_zero.1 (pow_pos' k))
  refine (Nat.log2_eq_iff hne).2 ⟨?_, ?_⟩
  · rw [Nat.pow_add]; exact Nat.mul_le_mul_right _ ((Nat.log2_eq_iff h).1 rfl).1
  · rw [show A.log2 + k + 1 = A.log2 + 1 + k by omega, Nat.pow_add]
    exact Nat.mul_lt_mul_of_pos_right ((Nat.log2_eq_iff h).1 rfl).2 (pow_pos' k)
/-- A cut that leaves nothing over. -/
theorem cut_exact (way : Toward) (neg : Bool) {A k : Nat} (h : A ≠ 0) : way.cut neg (A * 2 ^ k) k = A := by
  have hmin : min k ((A * 2 ^ k).log2 + 2) = k := by rw [log2_mul_pow h]; omega
  unfold Toward.cut
  dsimp only
  rw [hmin, shl_pow, Nat.one_mul, Nat.mul_div_cancel _ (pow_pos' k), Nat.mul_mod_left]
  cases way
  · have h1 : ¬ 2 ^ k < 2 * 0 := by simp
    have h2 : ((2 ^ k : Nat) == 2 * 0) = false := by
      have := pow_pos' k
      simp
    simp [h2]
  · cases neg <;> rfl
  · cases neg <;> rfl
  · rfl
theorem cut_zero (way : Toward) (neg : Bool) (k : Nat) : way.cut neg 0 k = 0 := by
  unfold Toward.cut
  dsimp only
  have hmin : 1 <<< min k ((0 : Nat).log2 + 2) ≠ 0 := by rw [shl_pow, Nat.one_mul]; exact Nat.pos_iff_ne_zero.1 (pow_pos' _)
  generalize (1 : Nat) <<< min k ((0 : Nat).log2 + 2) = g at hmin
  rw [Nat.zero_div, Nat.zero_mod]
  cases way
  · have h2 : (g == 2 * 0) = false := by simpa using hmin
    simp [h2]
  · cases neg <;> rfl
  · cases neg <;> rfl
  · rfl
theorem isInt_toInt {d : Datum} {N : Int} (h : IsInt d N) : d.toInt .zero = some N := by
  obtain ⟨s, m, p, rfl, h1, h2⟩ := h
  have e : Toward.zero.cut s (m <<< p.toNat) (-p).toNat = N.natAbs := by
    rw [shl_pow, h1]
    by_cases h0 : N = 0
    · subst h0; rw [Int.natAbs_zero, Nat.zero_mul]; exact cut_zero _ _ _
    · exact cut_exact _ _ (by omega)
  show some (signed s (Toward.zero.cut s (m <<< p.toNat) (-p).toNat) 0) = some N
  rw [e]
  congr 1
  have := signed_val (s := s) (m := N.natAbs) (u := 0) (N := N) (A := 1) (B := 1) (by simp) h2 (by decide)
  simpa using this
theorem word_read (s : Bool) {rung : Nat} (h : rung < 2 ^ 63) : (double.word s rung / double.signWeight % 2 == 1) = s ∧ double.word s rung % double.signWeight = rung := by
  have hw : double.signWeight = 9223372036854775808 := by decide
  have h' : rung < 9223372036854775808 := h
  unfold Format.word
  rw [hw]
  cases s
  · rw [if_neg (by decide)]
    refine ⟨?_, by omega⟩
    rw [show rung / 9223372036854775808 = 0 by omega]; rfl
  · rw [if_pos rfl]
    refine ⟨?_, by omega⟩
    rw [show (9223372036854775808 + rung) / 9223372036854775808 = 1 by omega]; rfl
theorem read_zero (s : Bool) : double.read (double.word s 0) = .number s 0 (-1074) := by
  cases s <;> decide
theorem read_normal (s : Bool) {L kept : Nat} (hL : L ≤ 52) (h1 : 4503599627370496 ≤ kept) (h2 : kept < 9007199254740992) : double.read (double.word s ((L + 1022) * 4503599627370496 + kept)) = .number s kept ((L : Int) - 52) := by
  have hb : double.binade = 4503599627370496 := by decide
  have hi : double.infRung = 9218868437227405312 := by decide
  have hl : double.leastPlace = -1074 := by decide
  obtain ⟨e1, e2⟩ := word_read s (rung := (L + 1022) * 4503599627370496 + kept) (by show _ < 9223372036854775808; omega)
  unfold Format.read
  dsimp only
  rw [e1, e2, hb, hi, hl, if_neg (by omega), if_pos (by omega)]
  congr 1
  · omega
  · have : ((L + 1022) * 4503599627370496 + kept) / 4503599627370496 = L + 1023 := by omega
    rw [this]; omega
theorem isInt_write {d : Datum} {N : Int} (h : IsInt d N) (hN : N.natAbs < 9007199254740992) : IsInt (double.read (double.write d)) N := by
  obtain ⟨s, m, p, rfl, h1, h2⟩ := h
  have hb : double.binade = 4503599627370496 := by decide
  have hi : double.infRung = 9218868437227405312 := by decide
  have hl : double.leastPlace = -1074 := by decide
  show IsInt (double.read (double.nearest s m p)) N
  by_cases h0 : N = 0
  · subst h0
    have hm : m = 0 := by
      rw [Int.natAbs_zero, Nat.zero_mul] at h1
      rcases Nat.mul_eq_zero.1 h1 with h | h
      · exact h
      · exact absurd h (Nat.pos_iff_ne_zero.1 (pow_pos' _))
    subst hm
    have : double.nearest s 0 p = double.word s 0 := rfl
    rw [this, read_zero]
    exact ⟨s, 0, -1074, rfl, by rw [Nat.zero_mul, Int.natAbs_zero, Nat.zero_mul], fun h => absurd rfl h⟩
  · obtain ⟨A, hA⟩ : ∃ A, A = N.natAbs := ⟨_, rfl⟩
    rw [← hA] at h1 hN
    have hA0 : A ≠ 0 := by omega
    have hm0 : m ≠ 0 := by
      intro h
      subst h
      rw [Nat.zero_mul] at h1
      rcases Nat.mul_eq_zero.1 h1.symm with h | h
      · exact hA0 h
      · exact absurd h (Nat.pos_iff_ne_zero.1 (pow_pos' _))
    have hlog : (p : Int) + m.log2 = A.log2 := by
      have e := congrArg Nat.log2 h1
      rw [log2_mul_pow hm0, log2_mul_pow hA0] at e
      omega
    obtain ⟨L, hL⟩ : ∃ L, L = A.log2 := ⟨_, rfl⟩
    rw [← hL] at hlog
    have hA1 := ((Nat.log2_eq_iff hA0).1 hL.symm).1
    have hA2 := ((Nat.log2_eq_iff hA0).1 hL.symm).2
    have hL52 : L ≤ 52 := by
      refine Nat.le_of_not_lt fun h => ?_
      have : 2 ^ 53 ≤ 2 ^ L := Nat.pow_le_pow_right (by decide) h
      have : (2 : Nat) ^ 53 = 9007199254740992 := by decide
      omega
    obtain ⟨K, hK⟩ : ∃ K, K = A * 2 ^ (52 - L) := ⟨_, rfl⟩
    have hK1 : 4503599627370496 ≤ K := by
      have : 2 ^ L * 2 ^ (52 - L) ≤ K := by rw [hK]; exact Nat.mul_le_mul_right _ hA1
      rw [← Nat.pow_add, show L + (52 - L) = 52 by omega] at this
      exact this
    have hK2 : K < 9007199254740992 := by
      have : K < 2 ^ (L + 1) * 2 ^ (52 - L) := by rw [hK]; exact Nat.mul_lt_mul_of_pos_right hA2 (pow_pos' _)
      rw [← Nat.pow_add, show L + 1 + (52 - L) = 53 by omega] at this
      exact this
    have hK0 : K ≠ 0 := by omega
    have hlast : max (p + (m.log2 : Int) - 52) (-1074) = (L : Int) - 52 := by omega
    have hcut : Toward.even.cut s (m <<< (p - ((L : Int) - 52)).toNat) (((L : Int) - 52) - p).toNat = K := by
      rw [shl_pow]
      rcases Int.lt_or_le p ((L : Int) - 52) with h | h
      · have e1 : (p - ((L : Int) - 52)).toNat = 0 := by omega
        have e2 : p.toNat = 0 := by omega
        rw [e2, Nat.pow_zero, Nat.mul_one] at h1
        rw [e1, Nat.pow_zero, Nat.mul_one, h1]
        have e3 : (-p).toNat = (52 - L) + (((L : Int) - 52) - p).toNat := by omega
        rw [e3, Nat.pow_add, ← Nat.mul_assoc, ← hK]
        exact cut_exact _ _ hK0
      · have e1 : (((L : Int) - 52) - p).toNat = 0 := by omega
        have e2 := scale_nat h1 h
        rw [show ((L : Int) - 52).toNat = 0 by omega, Nat.pow_zero, Nat.mul_one, show (-((L : Int) - 52)).toNat = 52 - L by omega, ← hK] at e2
        rw [e1, e2]
        have := cut_exact .even s (A := K) (k := 0) hK0
        rw [Nat.pow_zero, Nat.mul_one] at this
        exact this
    have hn : double.nearest s m p = double.word s ((L + 1022) * 4503599627370496 + K) := by
      unfold Format.nearest
      rw [if_neg hm0]
      dsimp only
      rw [hl, hb, hi]
      show double.word s (min ((max (p + (m.log2 : Int) - 52) (-1074) - -1074).toNat * 4503599627370496 + Toward.even.cut s (m <<< (p - max (p + (m.log2 : Int) - 52) (-1074)).toNat) (max (p + (m.log2 : Int) - 52) (-1074) - p).toNat) 9218868437227405312) = _
      rw [hlast, hcut, show ((L : Int) - 52 - -1074).toNat = L + 1022 by omega]
      have hmin : (L + 1022) * 4503599627370496 + K ≤ 9218868437227405312 := by omega
      exact congrArg (double.word s) (Nat.min_eq_left hmin)
    have e : double.read (double.nearest s m p) = .number s K ((L : Int) - 52) := (congrArg double.read hn).trans (read_normal s hL52 hK1 hK2)
    rw [e]
    refine ⟨s, K, (L : Int) - 52, rfl, ?_, h2⟩
    rw [← hA, show ((L : Int) - 52).toNat = 0 by omega, Nat.pow_zero, Nat.mul_one, show (-((L : Int) - 52)).toNat = 52 - L by omega]
    exact hK
/-- The bits of a float64 that is a whole number below 2^53. -/
structure IsF (b : Nat) (N : Int) : Prop where
  lt : b < 2 ^ 64
  isInt : IsInt (double.read b) N
theorem isInt_nat (N : Int) : IsInt (.number (decide (N < 0)) N.natAbs 0) N := ⟨_, _, _, rfl, by simp, fun _ => rfl⟩
theorem isF_write {d : Datum} {N : Int} (h : IsInt d N) (hN : N.natAbs < 9007199254740992) : IsF (double.write d) N := ⟨double.write_lt d, isInt_write h hN⟩
theorem isF_of {N : Int} (hN : N.natAbs < 9007199254740992) : IsF (Go.FloatKind.nearest .f64 N) N := isF_write (isInt_nat N) hN
theorem isF_add {x y : Nat} {N M : Int} (hx : IsF x N) (hy : IsF y M) (h : (N + M).natAbs < 9007199254740992) : ∃ r, floatBits .add .f64 x y = some r ∧ IsF r (N + M) := by
  obtain ⟨d, e1, e2⟩ := isInt_sum hx.isInt hy.isInt
  exact ⟨double.write d, congrArg (Option.map double.write) e1, isF_write e2 h⟩
theorem isF_sub {x y : Nat} {N M : Int} (hx : IsF x N) (hy : IsF y M) (h : (N - M).natAbs < 9007199254740992) : ∃ r, floatBits .sub .f64 x y = some r ∧ IsF r (N - M) := by
  obtain ⟨d, e1, e2⟩ := isInt_sum hx.isInt (isInt_opp hy.isInt)
  rw [← Int.sub_eq_add_neg] at e2
  exact ⟨double.write d, congrArg (Option.map double.write) e1, isF_write e2 h⟩
theorem isF_mul {x y : Nat} {N M : Int} (hx : IsF x N) (hy : IsF y M) (h : (N * M).natAbs < 9007199254740992) : ∃ r, floatBits .mul .f64 x y = some r ∧ IsF r (N * M) := by
  obtain ⟨d, e1, e2⟩ := isInt_prod hx.isInt hy.isInt
  exact ⟨double.write d, congrArg (Option.map double.write) e1, isF_write e2 h⟩
theorem isF_int {x : Nat} {N : Int} (hx : IsF x N) (k : IntKind) (h : k.min ≤ N ∧ N ≤ k.max) : floatToIntVal .f64 x k = some N := by
  unfold floatToIntVal
  have : (FloatKind.f64.decode x).toInt .zero = some N := isInt_toInt hx.isInt
  rw [this]
  exact if_pos h
theorem isF_zero : IsF 0 0 := ⟨by decide, ⟨false, 0, -1074, read_zero false, by rw [Nat.zero_mul, Int.natAbs_zero, Nat.zero_mul], fun h => absurd rfl h⟩⟩
theorem flip_bit {b : Nat} (h : b < 2 ^ 64) : b ^^^ 2 ^ 63 = if b < 2 ^ 63 then b + 2 ^ 63 else b - 2 ^ 63 := by
  have e : ((BitVec.ofNat 64 b) ^^^ (BitVec.ofNat 64 (2 ^ 63))).toNat = b ^^^ 2 ^ 63 := by
    rw [BitVec.toNat_xor, BitVec.toNat_ofNat, BitVec.toNat_ofNat, Nat.mod_eq_of_lt h, Nat.mod_eq_of_lt (by decide)]
  by_cases hb : b < 2 ^ 63
  · rw [if_pos hb]
    have := Nat.two_pow_add_eq_or_of_lt hb 1
    rw [Nat.mul_one] at this
    rw [Nat.add_comm, this]
    refine Nat.eq_of_testBit_eq fun i => ?_
    rw [Nat.testBit_xor, Nat.testBit_or, Nat.testBit_two_pow]
    by_cases hi : 63 = i
    · subst hi
      rw [Nat.testBit_lt_two_pow hb]; rfl
    · rw [decide_eq_false hi]; simp
  · rw [if_neg hb]
    obtain ⟨c, rfl⟩ : ∃ c, b = 2 ^ 63 + c := ⟨b - 2 ^ 63, by omega⟩
    have hc : c < 2 ^ 63 := by
      have : (2 : Nat) ^ 64 = 2 ^ 63 + 2 ^ 63 := by decide
      omega
    have := Nat.two_pow_add_eq_or_of_lt hc 1
    rw [Nat.mul_one] at this
    rw [Nat.add_sub_cancel_left, this]
    refine Nat.eq_of_testBit_eq fun i => ?_
    rw [Nat.testBit_xor, Nat.testBit_or, Nat.testBit_two_pow]
    by_cases hi : 63 = i
    · subst hi
      rw [Nat.testBit_lt_two_pow hc]; rfl
    · rw [decide_eq_false hi]; simp
theorem isF_neg {x : Nat} {N : Int} (hx : IsF x N) : IsF (Go.Op.negFloat .f64 x) (-N) := by
  have e : Go.Op.negFloat .f64 x = x ^^^ 2 ^ 63 := rfl
  have hlt : x < 18446744073709551616 := hx.lt
  have hsw : double.signWeight = 9223372036854775808 := by decide
  have hread : double.read (x ^^^ 2 ^ 63) = (double.read x).opposite := by
    rw [flip_bit hx.lt]
    have h63 : (2 : Nat) ^ 63 = 9223372036854775808 := by decide
    rw [h63]
    unfold Format.read
    dsimp only
    rw [hsw]
    by_cases hb : x < 9223372036854775808
    · rw [if_pos hb, show (x + 9223372036854775808) / 9223372036854775808 % 2 = 1 by omega, show (x + 9223372036854775808) % 9223372036854775808 = x by omega, show x / 9223372036854775808 % 2 = 0 by omega, show x % 9223372036854775808 = x by omega]
      repeat' split
      all_goals rfl
    · rw [if_neg hb, show (x - 9223372036854775808) / 9223372036854775808 % 2 = 0 by omega, show (x - 9223372036854775808) % 9223372036854775808 = x - 9223372036854775808 by omega, show x / 9223372036854775808 % 2 = 1 by omega, show x % 9223372036854775808 = x - 9223372036854775808 by omega]
      repeat' split
      all_goals rfl
  rw [e]
  refine ⟨?_, by rw [hread]; exact isInt_opp hx.isInt⟩
  rw [flip_bit hx.lt]
  have h63 : (2 : Nat) ^ 63 = 9223372036854775808 := by decide
  have h64 : (2 : Nat) ^ 64 = 18446744073709551616 := by decide
  rw [h63, h64]
  split <;> omega
end Go.Proofs.Ytphifpfndhfdfaa
