/-
  Wb: what the claim uses of them.
-/
import Derived.Test.YtljbnigceammdaaGreatDoorBn17
namespace Go.Proofs.YtljbnigceammdaaGreatDoor
open Go.RowKit
/-- Is a number in a set? -/
def hasB (a : List Int) (n : Nat) : Bool := (wd a (n / 64)).toNat.testBit (n % 64)
/-- Words by words. -/
def bothW (f : Int → Int → Int) (a b : List Int) : List Int := (List.range (max a.length b.length)).map fun i => f (wd a i) (wd b i)
theorem bothW_length (f : Int → Int → Int) (a b : List Int) : (bothW f a b).length = max a.length b.length := by simp [bothW]
theorem bothW_wd (f : Int → Int → Int) (a b : List Int) {i : Nat} (h : i < max a.length b.length) : wd (bothW f a b) i = f (wd a i) (wd b i) := by
  unfold bothW wd
  rw [List.getElem?_map, List.getElem?_range h]
  rfl
theorem wd_none {a : List Int} {i : Nat} (h : a.length ≤ i) : wd a i = 0 := by unfold wd; rw [List.getElem?_eq_none h]; rfl
theorem wd_get (b : List Int) {i : Nat} (h : i < b.length) : wd b i = b[i] := by unfold wd; rw [List.getElem?_eq_getElem h]; rfl
theorem wd_ext {a b : List Int} (hl : a.length = b.length) (h : ∀ i, i < a.length → wd a i = wd b i) : a = b := by
  refine List.ext_getElem hl fun i h1 h2 => ?_
  have := h i h1
  rw [wd_get a h1, wd_get b h2] at this
  exact this
theorem A64_map {n : Nat} {f : Nat → Int} (h : ∀ i, i < n → W64 (f i)) : A64 ((List.range n).map f) := fun z hz => by
  obtain ⟨i, hi, rfl⟩ := List.mem_map.1 hz
  exact h i (List.mem_range.1 hi)
/-- or, and not, of words. -/
abbrev orW (x y : Int) : Int := bits .or .u64 x y
abbrev anW (x y : Int) : Int := bits .andNot .u64 x y
theorem orW_64 (x y : Int) : W64 (orW x y) := wrap_64 _
theorem anW_64 (x y : Int) : W64 (anW x y) := wrap_64 _
theorem toNat_ofInt {z : Int} (h : W64 z) : (BitVec.ofInt 64 z).toNat = z.toNat := by
  have := lt_w h
  rw [BitVec.toNat_ofInt]
  unfold W64 at h
  omega
theorem orW_bit {x y : Int} (hx : W64 x) (hy : W64 y) (k : Nat) : (orW x y).toNat.testBit k = (x.toNat.testBit k || y.toNat.testBit k) := by
  have e : orW x y = ((BitVec.ofInt 64 x ||| BitVec.ofInt 64 y).toNat : Int) := by
    show IntKind.u64.wrap _ = _
    exact wrap_n (BitVec.isLt _)
  rw [e, Int.toNat_natCast, BitVec.toNat_or, Nat.testBit_or, toNat_ofInt hx, toNat_ofInt hy]
theorem anW_bit {x y : Int} (hx : W64 x) (hy : W64 y) {k : Nat} (hk : k < 64) : (anW x y).toNat.testBit k = (x.toNat.testBit k && !y.toNat.testBit k) := by
  have e : anW x y = ((BitVec.ofInt 64 x &&& ~~~BitVec.ofInt 64 y).toNat : Int) := by
    show IntKind.u64.wrap _ = _
    exact wrap_n (BitVec.isLt _)
  rw [e, Int.toNat_natCast, BitVec.testBit_toNat, BitVec.getLsbD_and, BitVec.getLsbD_not, decide_eq_true hk, Bool.true_and, ← BitVec.testBit_toNat, ← BitVec.testBit_toNat, toNat_ofInt hx, toNat_ofInt hy]
/-- Of a row the bits below n. -/
def ptW (T : List Int) (n : Nat) : List Int := (List.range T.length).map fun i => (((wd T i).toNat % 2 ^ min 64 (n - 64 * i) : Nat) : Int)
theorem ptW_length (T : List Int) (n : Nat) : (ptW T n).length = T.length := by simp [ptW]
theorem ptW_wd (T : List Int) (n : Nat) {i : Nat} (h : i < T.length) : wd (ptW T n) i = (((wd T i).toNat % 2 ^ min 64 (n - 64 * i) : Nat) : Int) := by
  unfold ptW
  unfold wd
  rw [List.getElem?_map, List.getElem?_range h]
  rfl
theorem ptW_zero (T : List Int) : ptW T 0 = List.replicate T.length 0 := by
  refine List.ext_getElem (by simp [ptW]) fun i h1 h2 => ?_
  rw [List.getElem_replicate, ← wd_get _ h1, ptW_wd T 0 (by simpa [ptW] using h1), Nat.zero_sub, Nat.min_zero, Nat.pow_zero, Nat.mod_one]
  rfl
theorem mod_succ (x k : Nat) : x % 2 ^ (k + 1) = if x.testBit k then x % 2 ^ k ||| 2 ^ k else x % 2 ^ k := by
  refine Nat.eq_of_testBit_eq fun i => ?_
  cases hb : x.testBit k with
  | false =>
    rw [if_neg (by decide), Nat.testBit_mod_two_pow, Nat.testBit_mod_two_pow]
    by_cases h1 : i < k
    · rw [decide_eq_true (show i < k + 1 by omega), decide_eq_true h1]
    · by_cases h2 : i = k
      · subst h2; rw [hb]; simp
      · rw [decide_eq_false (show ¬ i < k + 1 by omega), decide_eq_false h1]
  | true =>
    rw [if_pos rfl, Nat.testBit_or, Nat.testBit_mod_two_pow, Nat.testBit_mod_two_pow, Nat.testBit_two_pow]
    by_cases h1 : i < k
    · rw [decide_eq_true (show i < k + 1 by omega), decide_eq_true h1, decide_eq_false (show ¬ k = i by omega)]; simp
    · by_cases h2 : i = k
      · subst h2; rw [hb]; simp
      · rw [decide_eq_false (show ¬ i < k + 1 by omega), decide_eq_false h1, decide_eq_false (show ¬ k = i by omega)]; rfl
theorem ptW_step {T : List Int} {n : Nat} (h : n < 64 * T.length) : ptW T (n + 1) = if hasB T n then (ptW T n).set (n / 64) (orW (wd (ptW T n) (n / 64)) ((2 ^ (n % 64) : Nat) : Int)) else ptW T n := by
  have hi : n / 64 < T.length := by omega
  have hk : n % 64 < 64 := Nat.mod_lt _ (by decide)
  have hlt : ∀ m, (wd T (n / 64)).toNat % 2 ^ min 64 m < 18446744073709551616 := fun m => by
    have h1 : (wd T (n / 64)).toNat % 2 ^ min 64 m < 2 ^ min 64 m := Nat.mod_lt _ (Nat.two_pow_pos _)
    have h2 : 2 ^ min 64 m ≤ 2 ^ 64 := Nat.pow_le_pow_right (by decide) (Nat.min_le_left _ _)
    have h3 : (2 : Nat) ^ 64 = 18446744073709551616 := by decide
    omega
  have hp : 2 ^ (n % 64) < 18446744073709551616 := by
    have h2 : 2 ^ (n % 64) < 2 ^ 64 := Nat.pow_lt_pow_right (by decide) hk
    exact h2
  have e1 : min 64 (n - 64 * (n / 64)) = n % 64 := by omega
  have e2 : min 64 (n + 1 - 64 * (n / 64)) = n % 64 + 1 := by omega
  have hm := mod_succ (wd T (n / 64)).toNat (n % 64)
  have hother : ∀ i, i ≠ n / 64 → min 64 (n + 1 - 64 * i) = min 64 (n - 64 * i) := fun i hne => by omega
  unfold hasB
  refine wd_ext ?_ fun i hiT => ?_
  · rw [ptW_length]
    split
    · rw [List.length_set, ptW_length]
    · rw [ptW_length]
  · rw [ptW_length] at hiT
    rw [ptW_wd T _ hiT]
    cases hb : (wd T (n / 64)).toNat.testBit (n % 64) with
    | true =>
      rw [hb, if_pos rfl] at hm
      rw [if_pos rfl]
      by_cases hc : i = n / 64
      · subst hc
        have hs : wd ((ptW T n).set (n / 64) (orW (wd (ptW T n) (n / 64)) ((2 ^ (n % 64) : Nat) : Int))) (n / 64) = orW (wd (ptW T n) (n / 64)) ((2 ^ (n % 64) : Nat) : Int) := by
          unfold wd
          rw [List.getElem?_set_self (by rw [ptW_length]; exact hi)]; rfl
        have hlt' := hlt (n - 64 * (n / 64))
        rw [hs, ptW_wd T n hi, show orW _ _ = _ from bits_u64_or hlt' hp, e2, e1, hm]
      · have hs : wd ((ptW T n).set (n / 64) (orW (wd (ptW T n) (n / 64)) ((2 ^ (n % 64) : Nat) : Int))) i = wd (ptW T n) i := by
          unfold wd
          rw [List.getElem?_set_ne (fun h => hc h.symm)]
        rw [hs, ptW_wd T n hiT, hother i hc]
    | false =>
      rw [hb, if_neg (by decide)] at hm
      rw [if_neg (by decide), ptW_wd T n hiT]
      by_cases hc : i = n / 64
      · subst hc
        rw [e2, e1, hm]
      · rw [hother i hc]
/-- A width that counts; how many words it takes. -/
def cutW (w : Int) : Nat := (min (max w 0) 1024).toNat
def sizeW (w : Int) : Nat := (cutW w + 63) / 64
theorem cutW_le (w : Int) : cutW w ≤ 1024 := by unfold cutW; omega
theorem sizeW_le (w : Int) : sizeW w ≤ 16 := by have := cutW_le w; unfold sizeW; omega
theorem cutW_int (n : Int) : (if (1024 : Int) < (if n < 0 then 0 else n) then (1024 : Int) else (if n < 0 then 0 else n)) = ((cutW n : Nat) : Int) := by
  unfold cutW
  by_cases h : n < 0
  · simp only [if_pos h]; omega
  · simp only [if_neg h]; split <;> omega
/-- All numbers below a width. -/
def fullW (w : Int) : List Int := (List.range (sizeW w)).map fun i => ((2 ^ min 64 (cutW w - 64 * i) - 1 : Nat) : Int)
theorem fullW_length (w : Int) : (fullW w).length = sizeW w := by simp [fullW]
theorem fullW_wd (w : Int) {i : Nat} (h : i < sizeW w) : wd (fullW w) i = ((2 ^ min 64 (cutW w - 64 * i) - 1 : Nat) : Int) := by
  unfold fullW wd
  rw [List.getElem?_map, List.getElem?_range h]
  rfl
theorem pow64 (m : Nat) : 2 ^ min 64 m ≤ 18446744073709551616 := Nat.pow_le_pow_right (by decide) (Nat.min_le_left _ _)
theorem fullW_64 (w : Int) : A64 (fullW w) := A64_map fun i _ => w64_nat (by
  have := pow64 (cutW w - 64 * i)
  have := Nat.two_pow_pos (min 64 (cutW w - 64 * i))
  omega)
/-- Are words numbers below a width? -/
def fitsW (a : List Int) (w : Int) : Bool := decide (a.length = sizeW w) && (List.range a.length).all fun i => decide ((wd a i).toNat < 2 ^ min 64 (cutW w - 64 * i))
theorem fits_none {a : List Int} {w : Int} (h64 : A64 a) (hl : a.length = sizeW w) : fitsW a w = true ↔ ∀ n, cutW w ≤ n → n < 64 * a.length → hasB a n = false := by
  unfold fitsW hasB
  rw [decide_eq_true hl, Bool.true_and, List.all_eq_true]
  constructor
  · intro h n h1 h2
    have hi : n / 64 < a.length := by omega
    have := h (n / 64) (List.mem_range.2 hi)
    simp only [decide_eq_true_eq] at this
    refine Nat.testBit_lt_two_pow (Nat.lt_of_lt_of_le this (Nat.pow_le_pow_right (by decide) ?_))
    omega
  · intro h i hi
    have hi := List.mem_range.1 hi
    rw [decide_eq_true_eq]
    have h64' := lt_w (wd_64 h64 i)
    rcases Nat.lt_or_ge (cutW w - 64 * i) 64 with hc | hc
    · rw [Nat.min_eq_right (by omega)]
      refine Nat.lt_pow_two_of_testBit _ fun k hk => ?_
      rcases Nat.lt_or_ge k 64 with hk2 | hk2
      · have := h (64 * i + k) (by omega) (by omega)
        rw [show (64 * i + k) / 64 = i by omega, show (64 * i + k) % 64 = k by omega] at this
        exact this
      · refine Nat.testBit_lt_two_pow (Nat.lt_of_lt_of_le h64' ?_)
        exact Nat.pow_le_pow_right (by decide : 0 < 2) hk2
    · rw [Nat.min_eq_left hc]
      exact h64'
/-- What is over of words beside all numbers below a width. -/
theorem fits_over {a : List Int} {w : Int} (h64 : A64 a) (hl : a.length = sizeW w) : fitsW a w = true ↔ ∀ i, i < a.length → anW (wd a i) (wd (fullW w) i) = 0 := by
  unfold fitsW
  rw [decide_eq_true hl, Bool.true_and, List.all_eq_true]
  have hf : ∀ i, i < a.length → ((wd a i).toNat < 2 ^ min 64 (cutW w - 64 * i) ↔ anW (wd a i) (wd (fullW w) i) = 0) := by
    intro i hi
    have ha := wd_64 h64 i
    have hb := wd_64 (fullW_64 w) i
    have hn : (wd (fullW w) i).toNat = 2 ^ min 64 (cutW w - 64 * i) - 1 := by rw [fullW_wd w (by omega), Int.toNat_natCast]
    constructor
    · intro h
      have hz : (anW (wd a i) (wd (fullW w) i)).toNat = 0 := by
        refine Nat.eq_of_testBit_eq fun k => ?_
        rw [Nat.zero_testBit]
        rcases Nat.lt_or_ge k 64 with hk | hk
        · rw [anW_bit ha hb hk, hn, Nat.testBit_two_pow_sub_one]
          by_cases hk2 : k < min 64 (cutW w - 64 * i)
          · rw [decide_eq_true hk2]; simp
          · rw [Nat.testBit_lt_two_pow (Nat.lt_of_lt_of_le h (Nat.pow_le_pow_right (by decide) (by omega)))]; rfl
        · exact Nat.testBit_lt_two_pow (Nat.lt_of_lt_of_le (lt_w (anW_64 _ _)) (Nat.pow_le_pow_right (by decide : 0 < 2) hk))
      have := toNat_w (anW_64 (wd a i) (wd (fullW w) i))
      omega
    · intro h
      refine Nat.lt_pow_two_of_testBit _ fun k hk => ?_
      rcases Nat.lt_or_ge k 64 with hk2 | hk2
      · have hz := anW_bit ha hb hk2
        rw [h, hn, Nat.testBit_two_pow_sub_one, decide_eq_false (by omega)] at hz
        have h0 : (0 : Int).toNat.testBit k = false := Nat.zero_testBit k
        rw [h0] at hz
        simpa using hz.symm
      · exact Nat.testBit_lt_two_pow (Nat.lt_of_lt_of_le (lt_w ha) (Nat.pow_le_pow_right (by decide : 0 < 2) hk2))
  constructor
  · intro h i hi
    exact (hf i hi).1 (by simpa using h i (List.mem_range.2 hi))
  · intro h i hi
    have hi := List.mem_range.1 hi
    rw [decide_eq_true_eq]
    exact (hf i hi).2 (h i hi)
end Go.Proofs.YtljbnigceammdaaGreatDoor
