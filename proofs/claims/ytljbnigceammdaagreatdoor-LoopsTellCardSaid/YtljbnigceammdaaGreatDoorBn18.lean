/-
  Gs: what the claim uses of them.
-/
import Derived.Test.YtljbnigceammdaaGreatDoorBn17
namespace Go.Proofs.YtljbnigceammdaaGreatDoor
open Go.RowKit
set_option maxRecDepth 100000
/-- A part of a number. -/
def wrapP (n : Int) : Int := (n + 32768) % 65536 - 32768
theorem wrapP_lo (n : Int) : -32768 ≤ wrapP n := by unfold wrapP; omega
theorem wrapP_hi (n : Int) : wrapP n ≤ 32767 := by unfold wrapP; omega
theorem tmod_cases (n : Int) : (0 ≤ n ∧ n.tmod 65536 = n % 65536) ∨ (n < 0 ∧ n.tmod 65536 = -((-n) % 65536)) := by
  by_cases h : 0 ≤ n
  · exact .inl ⟨h, Int.tmod_eq_emod_of_nonneg h⟩
  · refine .inr ⟨by omega, ?_⟩
    have := Int.neg_tmod (-n) 65536
    rw [Int.neg_neg, Int.tmod_eq_emod_of_nonneg (a := -n) (by omega)] at this
    exact this
theorem gWrapX (n : Int) (σ : Hp) : ACalls Tryz.prog 194 [.int .i64 n] σ (Ret (.int .i64 (wrapP n)) σ) := by
  refine okF Tryz.func194 (by kernel_rfl) ?_
  have hc := tmod_cases n
  refine With.mk (by omega) ?_
  refine bcond_dec (fun h1 => ?_) (fun h1 => ?_)
  · have h1 : 32767 < n.tmod 65536 := h1
    exact .done ⟨av_int (by rw [IntKind.wrap_i64]; unfold wrapP; omega), rfl⟩
  · have h1 : ¬ (32767 < n.tmod 65536) := h1
    refine bcond_dec (fun h2 => ?_) (fun h2 => ?_)
    · have h2 : n.tmod 65536 < -32768 := h2
      exact .done ⟨av_int (by rw [IntKind.wrap_i64]; unfold wrapP; omega), rfl⟩
    · have h2 : ¬ (n.tmod 65536 < -32768) := h2
      exact .done ⟨av_int (by unfold wrapP; omega), rfl⟩
/-- A number's cells. -/
abbrev nC (x y : Int) : List AV := [.int .i64 x, .int .i64 y]
theorem gOfX (a b : Int) (σ : Hp) : ACalls Tryz.prog 195 [.int .i64 a, .int .i64 b] σ (Ret (.agg (nC (wrapP a) (wrapP b))) σ) := by
  refine okF Tryz.func195 (by kernel_rfl) ?_
  intro b1
  refine callR [] (gWrapX _ _) ?_
  refine callR [] (gWrapX _ _) ?_
  refine StoreAt.mk 0 _ _ rfl rfl ?_
  refine LoadAt.mk 0 _ _ rfl rfl ?_
  exact .drop 0 1 (.done ⟨rfl, rfl⟩)
theorem gIsX (x y : Int) (σ : Hp) : ACalls Tryz.prog 193 [.agg (nC x y)] σ (Ret (.bool (decide (x = wrapP x) && decide (y = wrapP y))) σ) := by
  refine okF Tryz.func193 (by kernel_rfl) ?_
  intro bl1
  refine .quiet (by kernel_rfl) ?_
  refine LoadAt.mk 0 _ _ rfl rfl ?_
  refine LoadAt.mk 0 _ _ rfl rfl ?_
  refine LoadAt.mk 0 _ _ rfl rfl ?_
  refine callQ [] (gOfX _ _ _) ?_
  refine EqAt.mk (by kernel_rfl) (by kernel_rfl) ?_
  have e : allB (eqAll (nC x y) (nC (wrapP x) (wrapP y))) = (decide (x = wrapP x) && decide (y = wrapP y)) := by
    show (decide (x = wrapP x) && (decide (y = wrapP y) && true)) = _
    rw [Bool.and_true]
  rw [← e]
  refine bcond_split (fun c => ?_) (fun c => ?_)
  · have c : allB (eqAll (nC x y) (nC (wrapP x) (wrapP y))) = true := c
    rw [c]
    exact .drop 0 1 (.done ⟨rfl, rfl⟩)
  · have c : allB (eqAll (nC x y) (nC (wrapP x) (wrapP y))) = false := c
    rw [c]
    exact .drop 0 1 (.done ⟨rfl, rfl⟩)
theorem gNumberX (x y : Int) (σ : Hp) : ACalls Tryz.prog 202 [.agg (nC x y)] σ (Ret (.cpx (wrapP x) (wrapP y)) σ) := by
  have h1 := wrapP_lo x
  have h2 := wrapP_hi x
  have h3 := wrapP_lo y
  have h4 := wrapP_hi y
  refine okF Tryz.func202 (by kernel_rfl) ?_
  intro bl1
  refine LoadAt.mk 0 _ _ rfl rfl ?_
  refine LoadAt.mk 0 _ _ rfl rfl ?_
  refine callR [] (gOfX _ _ _) ?_
  refine StoreAt.mk 0 _ _ rfl rfl ?_
  refine LoadAt.mk 0 _ _ rfl rfl ?_
  refine .mk (by unfold fits53; omega) ?_
  refine LoadAt.mk 0 _ _ rfl rfl ?_
  refine .mk (by unfold fits53; omega) ?_
  exact .drop 0 1 (.done ⟨rfl, rfl⟩)
theorem i64_of {x : Int} (h : fits53 x) : IntKind.i64.min ≤ x ∧ x ≤ IntKind.i64.max := by
  unfold fits53 at h
  have e1 : IntKind.i64.min = -9223372036854775808 := by decide
  have e2 : IntKind.i64.max = 9223372036854775807 := by decide
  rw [e1, e2]; omega
theorem gBackX (x y : Int) (σ : Hp) (hx : fits53 x) (hy : fits53 y) : ACalls Tryz.prog 201 [.cpx x y] σ (Ret (.agg (nC (wrapP x) (wrapP y))) σ) := by
  refine okF Tryz.func201 (by kernel_rfl) ?_
  intro bl1
  refine .mk (i64_of hx) ?_
  refine .mk (i64_of hy) ?_
  refine callR [] (gOfX _ _ _) ?_
  refine StoreAt.mk 0 _ _ rfl rfl ?_
  refine LoadAt.mk 0 _ _ rfl rfl ?_
  exact .drop 0 1 (.done ⟨rfl, rfl⟩)
/-- Products of parts are small. -/
theorem mul_small {a b : Int} (ha : -32768 ≤ a ∧ a ≤ 32768) (hb : -32768 ≤ b ∧ b ≤ 32768) : -1073741824 ≤ a * b ∧ a * b ≤ 1073741824 := by
  have h1 : a.natAbs * b.natAbs ≤ 32768 * 32768 := Nat.mul_le_mul (by omega) (by omega)
  rw [← Int.natAbs_mul] at h1
  omega
theorem partsF (a b c d : Int) : (-32768 ≤ wrapP a ∧ wrapP a ≤ 32767) ∧ (-32768 ≤ wrapP b ∧ wrapP b ≤ 32767) ∧ (-32768 ≤ wrapP c ∧ wrapP c ≤ 32767) ∧ -32768 ≤ wrapP d ∧ wrapP d ≤ 32767 :=
  ⟨⟨wrapP_lo a, wrapP_hi a⟩, ⟨wrapP_lo b, wrapP_hi b⟩, ⟨wrapP_lo c, wrapP_hi c⟩, wrapP_lo d, wrapP_hi d⟩
theorem mulF (a b c d : Int) : (-1073741824 ≤ wrapP a * wrapP c ∧ wrapP a * wrapP c ≤ 1073741824) ∧ (-1073741824 ≤ wrapP b * wrapP d ∧ wrapP b * wrapP d ≤ 1073741824) ∧ (-1073741824 ≤ wrapP a * wrapP d ∧ wrapP a * wrapP d ≤ 1073741824) ∧ -1073741824 ≤ wrapP b * wrapP c ∧ wrapP b * wrapP c ≤ 1073741824 := by
  have h := partsF a b c d
  exact ⟨mul_small (by omega) (by omega), mul_small (by omega) (by omega), mul_small (by omega) (by omega), mul_small (by omega) (by omega)⟩
theorem gAddX (a b c d : Int) (σ : Hp) : ACalls Tryz.prog 196 [.agg (nC a b), .agg (nC c d)] σ (Ret (.agg (nC (wrapP (wrapP a + wrapP c)) (wrapP (wrapP b + wrapP d)))) σ) := by
  have hF := partsF a b c d
  refine okF Tryz.func196 (by kernel_rfl) ?_
  intro bl1
  intro bl2
  intro bl3
  refine .sched [1, 3, 5] (upto [1, 3, 5] 7 0) (by kernel_rfl) ?_
  refine LoadAt.mk 2 _ _ rfl rfl ?_
  refine callQ [] (gNumberX _ _ _) ?_
  refine LoadAt.mk 1 _ _ rfl rfl ?_
  refine callQ [] (gNumberX _ _ _) ?_
  refine .mk (by unfold fits53; omega) ?_
  refine callQ [] (gBackX _ _ _ (by unfold fits53; omega) (by unfold fits53; omega)) ?_
  refine StoreAt.mk 0 _ _ rfl rfl ?_
  refine LoadAt.mk 0 _ _ rfl rfl ?_
  exact .drop 0 3 (.done ⟨rfl, rfl⟩)
theorem gSubX (a b c d : Int) (σ : Hp) : ACalls Tryz.prog 197 [.agg (nC a b), .agg (nC c d)] σ (Ret (.agg (nC (wrapP (wrapP a - wrapP c)) (wrapP (wrapP b - wrapP d)))) σ) := by
  have hF := partsF a b c d
  refine okF Tryz.func197 (by kernel_rfl) ?_
  intro bl1
  intro bl2
  intro bl3
  refine .sched [1, 3, 5] (upto [1, 3, 5] 7 0) (by kernel_rfl) ?_
  refine LoadAt.mk 2 _ _ rfl rfl ?_
  refine callQ [] (gNumberX _ _ _) ?_
  refine LoadAt.mk 1 _ _ rfl rfl ?_
  refine callQ [] (gNumberX _ _ _) ?_
  refine .mk (by unfold fits53; omega) ?_
  refine callQ [] (gBackX _ _ _ (by unfold fits53; omega) (by unfold fits53; omega)) ?_
  refine StoreAt.mk 0 _ _ rfl rfl ?_
  refine LoadAt.mk 0 _ _ rfl rfl ?_
  exact .drop 0 3 (.done ⟨rfl, rfl⟩)
theorem gMulX (a b c d : Int) (σ : Hp) : ACalls Tryz.prog 198 [.agg (nC a b), .agg (nC c d)] σ (Ret (.agg (nC (wrapP (wrapP a * wrapP c - wrapP b * wrapP d)) (wrapP (wrapP a * wrapP d + wrapP b * wrapP c)))) σ) := by
  have hF := mulF a b c d
  refine okF Tryz.func198 (by kernel_rfl) ?_
  intro bl1
  intro bl2
  intro bl3
  refine .sched [1, 3, 5] (upto [1, 3, 5] 7 0) (by kernel_rfl) ?_
  refine LoadAt.mk 2 _ _ rfl rfl ?_
  refine callQ [] (gNumberX _ _ _) ?_
  refine LoadAt.mk 1 _ _ rfl rfl ?_
  refine callQ [] (gNumberX _ _ _) ?_
  refine .mk (by unfold fits53; omega) ?_
  refine callQ [] (gBackX _ _ _ (by unfold fits53; omega) (by unfold fits53; omega)) ?_
  refine StoreAt.mk 0 _ _ rfl rfl ?_
  refine LoadAt.mk 0 _ _ rfl rfl ?_
  exact .drop 0 3 (.done ⟨rfl, rfl⟩)
theorem gConjX (a b : Int) (σ : Hp) : ACalls Tryz.prog 199 [.agg (nC a b)] σ (Ret (.agg (nC (wrapP (wrapP a)) (wrapP (-wrapP b)))) σ) := by
  have hF := partsF a b 0 0
  refine okF Tryz.func199 (by kernel_rfl) ?_
  intro bl1
  intro bl2
  refine LoadAt.mk 1 _ _ rfl rfl ?_
  refine callR [] (gNumberX _ _ _) ?_
  refine callR [] (gBackX _ _ _ (by unfold fits53; omega) (by unfold fits53; omega)) ?_
  refine StoreAt.mk 0 _ _ rfl rfl ?_
  refine LoadAt.mk 0 _ _ rfl rfl ?_
  exact .drop 0 2 (.done ⟨rfl, rfl⟩)
/-- What an operation makes of two numbers; none: there is no such operation. -/
def opP (op a b c d : Int) : Option (Int × Int) :=
  if op = 0 then some (wrapP a, wrapP b) else
  if op = 1 then some (wrapP (wrapP a + wrapP c), wrapP (wrapP b + wrapP d)) else
  if op = 2 then some (wrapP (wrapP a - wrapP c), wrapP (wrapP b - wrapP d)) else
  if op = 3 then some (wrapP (wrapP a * wrapP c - wrapP b * wrapP d), wrapP (wrapP a * wrapP d + wrapP b * wrapP c)) else
  if op = 4 then some (wrapP (wrapP a), wrapP (-wrapP b)) else none
def opV (r : Option (Int × Int)) (ok err : AV) : AV := match r with | some (x, y) => .tup [.agg (nC x y), ok] | none => .tup [.agg (nC 0 0), err]
theorem gOpX (op a b c d : Int) (σ : Hp) : ACalls Tryz.prog 189 [.int .i64 op, .agg (nC a b), .agg (nC c d)] σ (Ret (opV (opP op a b c d) (.int .i64 0) (.int .i64 10)) σ) := by
  refine okF Tryz.func189 (by kernel_rfl) ?_
  intro bl1
  intro bl2
  intro bl3
  intro bl4
  refine bcond_dec (fun c5 => ?_) (fun c5 => ?_)
  · have c5 : op = 0 := c5
    refine LoadAt.mk 3 _ _ rfl rfl ?_
    refine LoadAt.mk 3 _ _ rfl rfl ?_
    refine callR [] (gOfX _ _ _) ?_
    refine StoreAt.mk 0 _ _ rfl rfl ?_
    refine .fwd 1 ?_
    refine LoadAt.mk 0 _ _ rfl rfl ?_
    refine StoreAt.mk 1 _ _ rfl rfl ?_
    refine LoadAt.mk 1 _ _ rfl rfl ?_
    exact .drop 0 4 (.done ⟨(by simp [opP, opV, *]; rfl), rfl⟩)
  · have c5 : ¬ (op = 0) := c5
    refine bcond_dec (fun c6 => ?_) (fun c6 => ?_)
    · have c6 : op = 1 := c6
      refine LoadAt.mk 3 _ _ rfl rfl ?_
      refine LoadAt.mk 2 _ _ rfl rfl ?_
      refine callR [] (gAddX _ _ _ _ _) ?_
      refine StoreAt.mk 0 _ _ rfl rfl ?_
      refine .fwd 1 ?_
      refine LoadAt.mk 0 _ _ rfl rfl ?_
      refine StoreAt.mk 1 _ _ rfl rfl ?_
      refine LoadAt.mk 1 _ _ rfl rfl ?_
      exact .drop 0 4 (.done ⟨(by simp [opP, opV, *]; rfl), rfl⟩)
    · have c6 : ¬ (op = 1) := c6
      refine bcond_dec (fun c7 => ?_) (fun c7 => ?_)
      · have c7 : op = 2 := c7
        refine LoadAt.mk 3 _ _ rfl rfl ?_
        refine LoadAt.mk 2 _ _ rfl rfl ?_
        refine callR [] (gSubX _ _ _ _ _) ?_
        refine StoreAt.mk 0 _ _ rfl rfl ?_
        refine .fwd 1 ?_
        refine LoadAt.mk 0 _ _ rfl rfl ?_
        refine StoreAt.mk 1 _ _ rfl rfl ?_
        refine LoadAt.mk 1 _ _ rfl rfl ?_
        exact .drop 0 4 (.done ⟨(by simp [opP, opV, *]; rfl), rfl⟩)
      · have c7 : ¬ (op = 2) := c7
        refine bcond_dec (fun c8 => ?_) (fun c8 => ?_)
        · have c8 : op = 3 := c8
          refine LoadAt.mk 3 _ _ rfl rfl ?_
          refine LoadAt.mk 2 _ _ rfl rfl ?_
          refine callR [] (gMulX _ _ _ _ _) ?_
          refine StoreAt.mk 0 _ _ rfl rfl ?_
          refine .fwd 1 ?_
          refine LoadAt.mk 0 _ _ rfl rfl ?_
          refine StoreAt.mk 1 _ _ rfl rfl ?_
          refine LoadAt.mk 1 _ _ rfl rfl ?_
          exact .drop 0 4 (.done ⟨(by simp [opP, opV, *]; rfl), rfl⟩)
        · have c8 : ¬ (op = 3) := c8
          refine bcond_dec (fun c9 => ?_) (fun c9 => ?_)
          · have c9 : op = 4 := c9
            refine LoadAt.mk 3 _ _ rfl rfl ?_
            refine callR [] (gConjX _ _ _) ?_
            refine StoreAt.mk 0 _ _ rfl rfl ?_
            refine .fwd 1 ?_
            refine LoadAt.mk 0 _ _ rfl rfl ?_
            refine StoreAt.mk 1 _ _ rfl rfl ?_
            refine LoadAt.mk 1 _ _ rfl rfl ?_
            exact .drop 0 4 (.done ⟨(by simp [opP, opV, *]; rfl), rfl⟩)
          · have c9 : ¬ (op = 4) := c9
            refine StoreAt.mk 1 _ _ rfl rfl ?_
            refine LoadAt.mk 1 _ _ rfl rfl ?_
            exact .drop 0 4 (.done ⟨(by simp [opP, opV, *]; rfl), rfl⟩)
/-- A number's word. -/
def wordP (x y : Int) : Int := wrapP x % 65536 + 65536 * (wrapP y % 65536)
theorem wordP_lo (x y : Int) : 0 ≤ wordP x y := by unfold wordP; omega
theorem wordP_hi (x y : Int) : wordP x y < 4294967296 := by unfold wordP; omega
theorem u16w (n : Int) : IntKind.u16.wrap n = n % 65536 := by simp [IntKind.wrap, IntKind.bits, IntKind.signed]
theorem or_pow (k : Nat) {a b : Nat} (ha : a < 2 ^ k) (hb : 2 ^ k * b < 18446744073709551616) (hk : 2 ^ k < 18446744073709551616) : bits .or .u64 (a : Int) ((2 ^ k * b : Nat) : Int) = ((2 ^ k * b + a : Nat) : Int) := by
  rw [bits_u64_or (by omega) hb, Nat.or_comm, Nat.two_pow_add_eq_or_of_lt ha b]
theorem word_or (x y : Int) : bits BinOp.or IntKind.u64 (IntKind.u64.wrap (IntKind.u16.wrap (wrapP x))) (IntKind.u64.wrap (IntKind.u64.wrap (IntKind.u16.wrap (wrapP y)) * 2 ^ min (Int.toNat 16) IntKind.u64.bits)) = wordP x y := by
  have e : (2 : Int) ^ min (Int.toNat 16) IntKind.u64.bits = 65536 := by decide
  rw [e, u16w, u16w, IntKind.wrap_u64, IntKind.wrap_u64, IntKind.wrap_u64]
  unfold wordP
  generalize wrapP x = p
  generalize wrapP y = q
  have h := or_pow 16 (a := (p % 65536).toNat) (b := (q % 65536).toNat) (by omega) (by omega) (by decide)
  have e1 : (((p % 65536).toNat : Nat) : Int) = p % 65536 % 18446744073709551616 := by omega
  have e2 : ((2 ^ 16 * (q % 65536).toNat : Nat) : Int) = q % 65536 % 18446744073709551616 * 65536 % 18446744073709551616 := by omega
  rw [e1, e2] at h
  rw [h]; omega
theorem gWordX (x y : Int) (σ : Hp) : ACalls Tryz.prog 187 [.agg (nC x y)] σ (Ret (.int .u64 (wordP x y)) σ) := by
  refine okF Tryz.func187 (by kernel_rfl) ?_
  intro bl1
  refine .quiet (by kernel_rfl) ?_
  refine LoadAt.mk 0 _ _ rfl rfl ?_
  refine callQ [] (gWrapX _ _) ?_
  refine LoadAt.mk 0 _ _ rfl rfl ?_
  refine callQ [] (gWrapX _ _) ?_
  refine With.mk (by omega) ?_
  exact .drop 0 1 (.done ⟨av_int (word_or x y), rfl⟩)
/-- A number's word among the words of the lattice. -/
def ofP (x y : Int) : Int := 2 + 4 * wordP x y
theorem gCOfX (x y : Int) (σ : Hp) : ACalls Tryz.prog 178 [.agg (nC x y)] σ (Ret (.int .u64 (ofP x y)) σ) := by
  refine okF Tryz.func178 (by kernel_rfl) ?_
  intro bl1
  refine LoadAt.mk 0 _ _ rfl rfl ?_
  refine callR [] (gWordX _ _ _) ?_
  refine With.mk (by omega) ?_
  have e : bits BinOp.or IntKind.u64 2 (IntKind.u64.wrap (wordP x y * 2 ^ min (Int.toNat 2) IntKind.u64.bits)) = ofP x y := by
    have e : (2 : Int) ^ min (Int.toNat 2) IntKind.u64.bits = 4 := by decide
    have h1 := wordP_lo x y
    have h2 := wordP_hi x y
    rw [e, IntKind.wrap_u64]
    unfold ofP
    generalize wordP x y = p at h1 h2 ⊢
    have h := or_pow 2 (a := 2) (b := p.toNat) (by decide) (by omega) (by decide)
    have e2 : ((2 ^ 2 * p.toNat : Nat) : Int) = p * 4 % 18446744073709551616 := by omega
    rw [e2] at h
    exact h.trans (by omega)
  exact .drop 0 1 (.done ⟨av_int e, rfl⟩)
/-- The number of a word. -/
def numRe (w : Int) : Int := if numOk w then wrapP (w / 4 % 65536) else 0
def numIm (w : Int) : Int := if numOk w then wrapP (w / 4 / 65536) else 0
theorem gUnwordX (w : Int) (σ : Hp) (h : W64 w) : ACalls Tryz.prog 192 [.int .u64 w] σ (Ret (if w < 4294967296 then .tup [.agg (nC (wrapP (w % 65536)) (wrapP (w / 65536))), .bool true] else .tup [.agg (nC 0 0), .bool false]) σ) := by
  have e := shr_lit (k := 32) (m := 32) (w := w) (by decide)
  have e16 : w.fdiv (2 ^ min (Int.toNat 16) IntKind.u64.bits) = w / 65536 := shr_lit (k := 16) (m := 16) (w := w) (by decide)
  have ea : bits .and .u64 w 65535 = w % 65536 := by
    show IntKind.u64.wrap ((BitVec.ofInt 64 w &&& BitVec.ofInt 64 65535).toNat : Int) = _
    have h3 : (BitVec.ofInt 64 65535 : BitVec 64).toNat = 2 ^ 16 - 1 := by decide
    rw [BitVec.toNat_and, h3, Nat.and_two_pow_sub_one_eq_mod, BitVec.toNat_ofInt, IntKind.wrap_u64]
    omega
  have h1 := h.1
  have h2 := h.2
  refine okF Tryz.func192 (by kernel_rfl) ?_
  intro b1
  refine With.mk (by omega) ?_
  refine bcond_split (fun h2 => ?_) (fun h2 => ?_)
  · have h2 : ¬ (w.fdiv (2 ^ min (Int.toNat 32) IntKind.u64.bits) = 0) := by simpa using h2
    have hw : ¬ (w < 4294967296) := fun h => h2 (by rw [show w.fdiv (2 ^ min (Int.toNat 32) IntKind.u64.bits) = w / 2 ^ 32 from e]; omega)
    refine StoreAt.mk 0 _ _ rfl rfl ?_
    refine LoadAt.mk 0 _ _ rfl rfl ?_
    rw [if_neg hw]
    exact .drop 0 1 (.done ⟨rfl, rfl⟩)
  · have h2 : w.fdiv (2 ^ min (Int.toNat 32) IntKind.u64.bits) = 0 := by simpa using h2
    have hw : w < 4294967296 := by rw [show w.fdiv (2 ^ min (Int.toNat 32) IntKind.u64.bits) = w / 2 ^ 32 from e] at h2; omega
    refine With.mk (by omega) ?_
    refine callR [] (gOfX _ _ _) ?_
    refine StoreAt.mk 0 _ _ rfl rfl ?_
    refine LoadAt.mk 0 _ _ rfl rfl ?_
    rw [if_pos hw]
    have x1 : IntKind.i64.wrap (bits .and .u64 w 65535) = w % 65536 := by rw [ea, IntKind.wrap_i64]; omega
    have x2 : IntKind.i64.wrap (w.fdiv (2 ^ min (Int.toNat 16) IntKind.u64.bits)) = w / 65536 := by rw [e16, IntKind.wrap_i64]; omega
    rw [← x1, ← x2]
    exact .drop 0 1 (.done ⟨rfl, rfl⟩)
theorem gNumX (w : Int) (σ : Hp) (h : W64 w) : ACalls Tryz.prog 184 [.int .u64 w] σ (Ret (.tup [.agg (nC (numRe w) (numIm w)), .bool (numOk w)]) σ) := by
  have e := shr_lit (k := 2) (m := 2) (w := w) (by decide)
  have h0 := h.1
  have h00 := h.2
  refine okF Tryz.func184 (by kernel_rfl) ?_
  intro b1
  refine bcond_split (fun h2 => ?_) (fun h2 => ?_)
  · have h2 : ¬ (bits BinOp.and IntKind.u64 w 3 = 2) := by simpa using h2
    rw [and3u] at h2
    have hn : numOk w = false := by simp [numOk, h2]
    refine StoreAt.mk 0 _ _ rfl rfl ?_
    refine LoadAt.mk 0 _ _ rfl rfl ?_
    unfold numRe numIm
    rw [hn]
    exact .drop 0 1 (.done ⟨rfl, rfl⟩)
  · have h2 : bits BinOp.and IntKind.u64 w 3 = 2 := by simpa using h2
    rw [and3u] at h2
    refine With.mk (by omega) ?_
    have e' : w.fdiv (2 ^ min (Int.toNat 2) IntKind.u64.bits) = w / 4 := e
    refine callR [] (gUnwordX _ _ ⟨by rw [e']; omega, by rw [e']; omega⟩) ?_
    unfold numRe numIm
    by_cases hw : w < 17179869184
    · have hn : numOk w = true := by simp [numOk, h2]; omega
      rw [if_pos (show w.fdiv (2 ^ min (Int.toNat 2) IntKind.u64.bits) < 4294967296 by rw [e']; omega), hn]
      refine StoreAt.mk 0 _ _ rfl rfl ?_
      refine LoadAt.mk 0 _ _ rfl rfl ?_
      rw [e']
      exact .drop 0 1 (.done ⟨rfl, rfl⟩)
    · have hn : numOk w = false := by simp [numOk, h2]; omega
      rw [if_neg (show ¬ w.fdiv (2 ^ min (Int.toNat 2) IntKind.u64.bits) < 4294967296 by rw [e']; omega), hn]
      refine StoreAt.mk 0 _ _ rfl rfl ?_
      refine LoadAt.mk 0 _ _ rfl rfl ?_
      exact .drop 0 1 (.done ⟨rfl, rfl⟩)
theorem w64 {n : Int} (h : -4611686018427387904 ≤ n ∧ n ≤ 4611686018427387904) : IntKind.i64.wrap n = n := by rw [IntKind.wrap_i64]; omega
end Go.Proofs.YtljbnigceammdaaGreatDoor
