/-
  Wb; Wr: what the claim uses of them.
-/
import Derived.Test.YtljbnigceammdaaGreatDoorBn16
import Derived.Test.YtljbnigceammdaaGreatDoorBn12
namespace Go.Proofs.YtljbnigceammdaaGreatDoor
open Go.RowKit
/-- Is a number in a set? -/
def hasB (a : List Int) (n : Nat) : Bool := (wd a (n / 64)).toNat.testBit (n % 64)
/-- Words by words. -/
def bothW (f : Int → Int → Int) (a b : List Int) : List Int := (List.range (max a.length b.length)).map fun i => f (wd a i) (wd b i)
theorem bothW_length (f : Int → Int → Int) (a b : List Int) : (bothW f a b).length = max a.length b.length := by simp [bothW]
theorem bothW_wd (f : Int → Int → Int) (a b : List Int) {i : Nat} (h : i < max a.length b.length) : wd (bothW f a b) i = f (wd a i) (wd b i) := by
  unfold bothW wd
  rw [List.getElem?_map, List.getElem?_range h]
  rfl
theorem wd_none {a : List Int} {i : Nat} (h : a.length ≤ i) : wd a i = 0 := by unfold wd; rw [List.getElem?_eq_none h]; rfl
theorem wd_get (b : List Int) {i : Nat} (h : i < b.length) : wd b i = b[i] := by unfold wd; rw [List.getElem?_eq_getElem h]; rfl
theorem wd_ext {a b : List Int} (hl : a.length = b.length) (h : ∀ i, i < a.length → wd a i = wd b i) : a = b := by
  refine List.ext_getElem hl fun i h1 h2 => ?_
  have := h i h1
  rw [wd_get a h1, wd_get b h2] at this
  exact this
theorem A64_map {n : Nat} {f : Nat → Int} (h : ∀ i, i < n → W64 (f i)) : A64 ((List.range n).map f) := fun z hz => by
  obtain ⟨i, hi, rfl⟩ := List.mem_map.1 hz
  exact h i (List.mem_range.1 hi)
/-- or, and not, of words. -/
abbrev orW (x y : Int) : Int := bits .or .u64 x y
abbrev anW (x y : Int) : Int := bits .andNot .u64 x y
theorem orW_64 (x y : Int) : W64 (orW x y) := wrap_64 _
theorem anW_64 (x y : Int) : W64 (anW x y) := wrap_64 _
theorem toNat_ofInt {z : Int} (h : W64 z) : (BitVec.ofInt 64 z).toNat = z.toNat := by
  have := lt_w h
  rw [BitVec.toNat_ofInt]
  unfold W64 at h
  omega
theorem orW_bit {x y : Int} (hx : W64 x) (hy : W64 y) (k : Nat) : (orW x y).toNat.testBit k = (x.toNat.testBit k || y.toNat.testBit k) := by
  have e : orW x y = ((BitVec.ofInt 64 x ||| BitVec.ofInt 64 y).toNat : Int) := by
    show IntKind.u64.wrap _ = _
    exact wrap_n (BitVec.isLt _)
  rw [e, Int.toNat_natCast, BitVec.toNat_or, Nat.testBit_or, toNat_ofInt hx, toNat_ofInt hy]
theorem anW_bit {x y : Int} (hx : W64 x) (hy : W64 y) {k : Nat} (hk : k < 64) : (anW x y).toNat.testBit k = (x.toNat.testBit k && !y.toNat.testBit k) := by
  have e : anW x y = ((BitVec.ofInt 64 x &&& ~~~BitVec.ofInt 64 y).toNat : Int) := by
    show IntKind.u64.wrap _ = _
    exact wrap_n (BitVec.isLt _)
  rw [e, Int.toNat_natCast, BitVec.testBit_toNat, BitVec.getLsbD_and, BitVec.getLsbD_not, decide_eq_true hk, Bool.true_and, ← BitVec.testBit_toNat, ← BitVec.testBit_toNat, toNat_ofInt hx, toNat_ofInt hy]
/-- Of a row the bits below n. -/
def ptW (T : List Int) (n : Nat) : List Int := (List.range T.length).map fun i => (((wd T i).toNat % 2 ^ min 64 (n - 64 * i) : Nat) : Int)
theorem ptW_length (T : List Int) (n : Nat) : (ptW T n).length = T.length := by simp [ptW]
theorem ptW_wd (T : List Int) (n : Nat) {i : Nat} (h : i < T.length) : wd (ptW T n) i = (((wd T i).toNat % 2 ^ min 64 (n - 64 * i) : Nat) : Int) := by
  unfold ptW
  unfold wd
  rw [List.getElem?_map, List.getElem?_range h]
  rfl
theorem ptW_zero (T : List Int) : ptW T 0 = List.replicate T.length 0 := by
  refine List.ext_getElem (by simp [ptW]) fun i h1 h2 => ?_
  rw [List.getElem_replicate, ← wd_get _ h1, ptW_wd T 0 (by simpa [ptW] using h1), Nat.zero_sub, Nat.min_zero, Nat.pow_zero, Nat.mod_one]
  rfl
theorem mod_succ (x k : Nat) : x % 2 ^ (k + 1) = if x.testBit k then x % 2 ^ k ||| 2 ^ k else x % 2 ^ k := by
  refine Nat.eq_of_testBit_eq fun i => ?_
  cases hb : x.testBit k with
  | false =>
    rw [if_neg (by decide), Nat.testBit_mod_two_pow, Nat.testBit_mod_two_pow]
    by_cases h1 : i < k
    · rw [decide_eq_true (show i < k + 1 by omega), decide_eq_true h1]
    · by_cases h2 : i = k
      · subst h2; rw [hb]; simp
      · rw [decide_eq_false (show ¬ i < k + 1 by omega), decide_eq_false h1]
  | true =>
    rw [if_pos rfl, Nat.testBit_or, Nat.testBit_mod_two_pow, Nat.testBit_mod_two_pow, Nat.testBit_two_pow]
    by_cases h1 : i < k
    · rw [decide_eq_true (show i < k + 1 by omega), decide_eq_true h1, decide_eq_false (show ¬ k = i by omega)]; simp
    · by_cases h2 : i = k
      · subst h2; rw [hb]; simp
      · rw [decide_eq_false (show ¬ i < k + 1 by omega), decide_eq_false h1, decide_eq_false (show ¬ k = i by omega)]; rfl
theorem ptW_step {T : List Int} {n : Nat} (h : n < 64 * T.length) : ptW T (n + 1) = if hasB T n then (ptW T n).set (n / 64) (orW (wd (ptW T n) (n / 64)) ((2 ^ (n % 64) : Nat) : Int)) else ptW T n := by
  have hi : n / 64 < T.length := by omega
  have hk : n % 64 < 64 := Nat.mod_lt _ (by decide)
  have hlt : ∀ m, (wd T (n / 64)).toNat % 2 ^ min 64 m < 18446744073709551616 := fun m => by
    have h1 : (wd T (n / 64)).toNat % 2 ^ min 64 m < 2 ^ min 64 m := Nat.mod_lt _ (Nat.two_pow_pos _)
    have h2 : 2 ^ min 64 m ≤ 2 ^ 64 := Nat.pow_le_pow_right (by decide) (Nat.min_le_left _ _)
    have h3 : (2 : Nat) ^ 64 = 18446744073709551616 := by decide
    omega
  have hp : 2 ^ (n % 64) < 18446744073709551616 := by
    have h2 : 2 ^ (n % 64) < 2 ^ 64 := Nat.pow_lt_pow_right (by decide) hk
    exact h2
  have e1 : min 64 (n - 64 * (n / 64)) = n % 64 := by omega
  have e2 : min 64 (n + 1 - 64 * (n / 64)) = n % 64 + 1 := by omega
  have hm := mod_succ (wd T (n / 64)).toNat (n % 64)
  have hother : ∀ i, i ≠ n / 64 → min 64 (n + 1 - 64 * i) = min 64 (n - 64 * i) := fun i hne => by omega
  unfold hasB
  refine wd_ext ?_ fun i hiT => ?_
  · rw [ptW_length]
    split
    · rw [List.length_set, ptW_length]
    · rw [ptW_length]
  · rw [ptW_length] at hiT
    rw [ptW_wd T _ hiT]
    cases hb : (wd T (n / 64)).toNat.testBit (n % 64) with
    | true =>
      rw [hb, if_pos rfl] at hm
      rw [if_pos rfl]
      by_cases hc : i = n / 64
      · subst hc
        have hs : wd ((ptW T n).set (n / 64) (orW (wd (ptW T n) (n / 64)) ((2 ^ (n % 64) : Nat) : Int))) (n / 64) = orW (wd (ptW T n) (n / 64)) ((2 ^ (n % 64) : Nat) : Int) := by
          unfold wd
          rw [List.getElem?_set_self (by rw [ptW_length]; exact hi)]; rfl
        have hlt' := hlt (n - 64 * (n / 64))
        rw [hs, ptW_wd T n hi, show orW _ _ = _ from bits_u64_or hlt' hp, e2, e1, hm]
      · have hs : wd ((ptW T n).set (n / 64) (orW (wd (ptW T n) (n / 64)) ((2 ^ (n % 64) : Nat) : Int))) i = wd (ptW T n) i := by
          unfold wd
          rw [List.getElem?_set_ne (fun h => hc h.symm)]
        rw [hs, ptW_wd T n hiT, hother i hc]
    | false =>
      rw [hb, if_neg (by decide)] at hm
      rw [if_neg (by decide), ptW_wd T n hiT]
      by_cases hc : i = n / 64
      · subst hc
        rw [e2, e1, hm]
      · rw [hother i hc]
/-- A width that counts; how many words it takes. -/
def cutW (w : Int) : Nat := (min (max w 0) 1024).toNat
def sizeW (w : Int) : Nat := (cutW w + 63) / 64
theorem cutW_le (w : Int) : cutW w ≤ 1024 := by unfold cutW; omega
theorem sizeW_le (w : Int) : sizeW w ≤ 16 := by have := cutW_le w; unfold sizeW; omega
theorem cutW_int (n : Int) : (if (1024 : Int) < (if n < 0 then 0 else n) then (1024 : Int) else (if n < 0 then 0 else n)) = ((cutW n : Nat) : Int) := by
  unfold cutW
  by_cases h : n < 0
  · simp only [if_pos h]; omega
  · simp only [if_neg h]; split <;> omega
/-- All numbers below a width. -/
def fullW (w : Int) : List Int := (List.range (sizeW w)).map fun i => ((2 ^ min 64 (cutW w - 64 * i) - 1 : Nat) : Int)
theorem fullW_length (w : Int) : (fullW w).length = sizeW w := by simp [fullW]
theorem fullW_wd (w : Int) {i : Nat} (h : i < sizeW w) : wd (fullW w) i = ((2 ^ min 64 (cutW w - 64 * i) - 1 : Nat) : Int) := by
  unfold fullW wd
  rw [List.getElem?_map, List.getElem?_range h]
  rfl
theorem pow64 (m : Nat) : 2 ^ min 64 m ≤ 18446744073709551616 := Nat.pow_le_pow_right (by decide) (Nat.min_le_left _ _)
theorem fullW_64 (w : Int) : A64 (fullW w) := A64_map fun i _ => w64_nat (by
  have := pow64 (cutW w - 64 * i)
  have := Nat.two_pow_pos (min 64 (cutW w - 64 * i))
  omega)
/-- Are words numbers below a width? -/
def fitsW (a : List Int) (w : Int) : Bool := decide (a.length = sizeW w) && (List.range a.length).all fun i => decide ((wd a i).toNat < 2 ^ min 64 (cutW w - 64 * i))
theorem fits_none {a : List Int} {w : Int} (h64 : A64 a) (hl : a.length = sizeW w) : fitsW a w = true ↔ ∀ n, cutW w ≤ n → n < 64 * a.length → hasB a n = false := by
  unfold fitsW hasB
  rw [decide_eq_true hl, Bool.true_and, List.all_eq_true]
  constructor
  · intro h n h1 h2
    have hi : n / 64 < a.length := by omega
    have := h (n / 64) (List.mem_range.2 hi)
    simp only [decide_eq_true_eq] at this
    refine Nat.testBit_lt_two_pow (Nat.lt_of_lt_of_le this (Nat.pow_le_pow_right (by decide) ?_))
    omega
  · intro h i hi
    have hi := List.mem_range.1 hi
    rw [decide_eq_true_eq]
    have h64' := lt_w (wd_64 h64 i)
    rcases Nat.lt_or_ge (cutW w - 64 * i) 64 with hc | hc
    · rw [Nat.min_eq_right (by omega)]
      refine Nat.lt_pow_two_of_testBit _ fun k hk => ?_
      rcases Nat.lt_or_ge k 64 with hk2 | hk2
      · have := h (64 * i + k) (by omega) (by omega)
        rw [show (64 * i + k) / 64 = i by omega, show (64 * i + k) % 64 = k by omega] at this
        exact this
      · refine Nat.testBit_lt_two_pow (Nat.lt_of_lt_of_le h64' ?_)
        exact Nat.pow_le_pow_right (by decide : 0 < 2) hk2
    · rw [Nat.min_eq_left hc]
      exact h64'
/-- What is over of words beside all numbers below a width. -/
theorem fits_over {a : List Int} {w : Int} (h64 : A64 a) (hl : a.length = sizeW w) : fitsW a w = true ↔ ∀ i, i < a.length → anW (wd a i) (wd (fullW w) i) = 0 := by
  unfold fitsW
  rw [decide_eq_true hl, Bool.true_and, List.all_eq_true]
  have hf : ∀ i, i < a.length → ((wd a i).toNat < 2 ^ min 64 (cutW w - 64 * i) ↔ anW (wd a i) (wd (fullW w) i) = 0) := by
    intro i hi
    have ha := wd_64 h64 i
    have hb := wd_64 (fullW_64 w) i
    have hn : (wd (fullW w) i).toNat = 2 ^ min 64 (cutW w - 64 * i) - 1 := by rw [fullW_wd w (by omega), Int.toNat_natCast]
    constructor
    · intro h
      have hz : (anW (wd a i) (wd (fullW w) i)).toNat = 0 := by
        refine Nat.eq_of_testBit_eq fun k => ?_
        rw [Nat.zero_testBit]
        rcases Nat.lt_or_ge k 64 with hk | hk
        · rw [anW_bit ha hb hk, hn, Nat.testBit_two_pow_sub_one]
          by_cases hk2 : k < min 64 (cutW w - 64 * i)
          · rw [decide_eq_true hk2]; simp
          · rw [Nat.testBit_lt_two_pow (Nat.lt_of_lt_of_le h (Nat.pow_le_pow_right (by decide) (by omega)))]; rfl
        · exact Nat.testBit_lt_two_pow (Nat.lt_of_lt_of_le (lt_w (anW_64 _ _)) (Nat.pow_le_pow_right (by decide : 0 < 2) hk))
      have := toNat_w (anW_64 (wd a i) (wd (fullW w) i))
      omega
    · intro h
      refine Nat.lt_pow_two_of_testBit _ fun k hk => ?_
      rcases Nat.lt_or_ge k 64 with hk2 | hk2
      · have hz := anW_bit ha hb hk2
        rw [h, hn, Nat.testBit_two_pow_sub_one, decide_eq_false (by omega)] at hz
        have h0 : (0 : Int).toNat.testBit k = false := Nat.zero_testBit k
        rw [h0] at hz
        simpa using hz.symm
      · exact Nat.testBit_lt_two_pow (Nat.lt_of_lt_of_le (lt_w ha) (Nat.pow_le_pow_right (by decide : 0 < 2) hk2))
  constructor
  · intro h i hi
    exact (hf i hi).1 (by simpa using h i (List.mem_range.2 hi))
  · intro h i hi
    have hi := List.mem_range.1 hi
    rw [decide_eq_true_eq]
    exact (hf i hi).2 (h i hi)
end Go.Proofs.YtljbnigceammdaaGreatDoor
namespace Go.Proofs.YtljbnigceammdaaGreatDoor
open Go.RowKit
set_option maxRecDepth 100000
theorem aWsWord (a : List Int) (i : Nat) (σ : Hp) : ACalls Tryz.prog 106 [.fsl (.int .u64) a, .int .i64 i] σ (Ret (.int .u64 (wd a i)) σ) := by
  refine okF Tryz.func106 (by kernel_rfl) ?_
  refine bcond_dec (fun c => ?_) (fun c => ?_)
  · have c : (a.length : Int) ≤ (i : Int) := c
    exact .done ⟨av_int (wd_none (by omega)).symm, rfl⟩
  · have c : i < a.length := by have c : ¬ (a.length : Int) ≤ (i : Int) := c; omega
    refine With.mk rfl (IdxF.mk a[i] (by omega) (get_some c) ?_)
    exact .done ⟨av_int (wd_get a c).symm, rfl⟩
theorem aCut10 (n : Int) (σ : Hp) : ACalls Tryz.prog 74 [.int .i64 n] σ (Ret (.int .i64 (cutW n)) σ) := by
  refine okF Tryz.func74 (by kernel_rfl) ?_
  exact .done ⟨av_int (cutW_int n), rfl⟩
theorem size_int (n : Int) : (IntKind.i64.wrap (IntKind.i64.wrap ((cutW n : Nat) + 64) - 1)).tdiv 64 = ((sizeW n : Nat) : Int) := by
  have := cutW_le n
  rw [IntKind.wrap_i64, IntKind.wrap_i64]
  unfold sizeW
  rw [Int.tdiv_eq_ediv_of_nonneg (by omega)]
  omega
theorem wrap_size (n : Int) : IntKind.i64.wrap ((sizeW n : Nat) : Int) = ((sizeW n : Nat) : Int) := by
  have := sizeW_le n
  rw [IntKind.wrap_i64]; omega
theorem aSize10 (n : Int) (σ : Hp) : ACalls Tryz.prog 73 [.int .i64 n] σ (Ret (.int .i64 (sizeW n)) σ) := by
  refine okF Tryz.func73 (by kernel_rfl) ?_
  refine callR [] (aCut10 n _) ?_
  refine With.mk (by decide) ?_
  exact .done ⟨av_int (by rw [size_int, wrap_size]), rfl⟩
theorem aBothF (g : FuncId) (f : Int → Int → Int) (hg : ∀ (x y : Int) (σ : Hp), ACalls Tryz.prog g [.int .u64 x, .int .u64 y] σ (Ret (.int .u64 (f x y)) σ)) (a b : List Int) (σ : Hp) (ha : a.length ≤ 100000) (hb : b.length ≤ 100000) : ACalls Tryz.prog 78 [.fsl (.int .u64) a, .fsl (.int .u64) b, .fn (.func g) [] []] σ (Ret (.fsl (.int .u64) (bothW f a b)) σ) := by
  refine okF Tryz.func78 (by kernel_rfl) ?_
  obtain ⟨n, hn⟩ : ∃ n, n = max a.length b.length := ⟨_, rfl⟩
  have hmax : (if (a.length : Int) < b.length then (b.length : Int) else a.length) = (n : Int) := by split <;> omega
  have hbl : (bothW f a b).length = n := by rw [bothW_length, hn]
  refine .wrap 7 _ rfl rfl ?_
  refine loopS (S := Nat × AV × Hp) (fun s => [(0, .fsl (.int .u64) a), (1, .fsl (.int .u64) b), (2, .fn (.func g) [] []), (7, .via s.2.1), (13, .int .i64 n), (14, .int .i64 s.1)]) (fun s => s.2.2 ++ σ) (fun s => s.1 ≤ n ∧ Acc 1 s.1 s.2.1 s.2.2 (woC ((bothW f a b).take s.1))) (fun s => n - s.1) (0, .nils, []) ⟨⟨Nat.zero_le _, .nil⟩, ⟨rfl, rfl, rfl, rfl, av_int hmax, rfl, trivial⟩, rfl⟩ ?_
  rintro ⟨k, v, acc⟩ s ⟨hk0, hacc0⟩
  have hk : k ≤ n := hk0
  have hacc : Acc 1 k v acc (woC ((bothW f a b).take k)) := hacc0
  clear hk0 hacc0
  refine bcond_dec (fun hlt => ?_) (fun hge => ?_)
  · have hlt : k < n := by have hlt : (k : Int) < n := hlt; omega
    have he : (bothW f a b)[k]'(by omega) = f (wd a k) (wd b k) := by rw [← wd_get, bothW_wd f a b (by omega)]
    refine callR [] (aWsWord a k _) ?_
    refine callR [] (aWsWord b k _) ?_
    refine callR [] (hg _ _ _) ?_
    intro bl1
    refine append_acc [_] hacc (.mref 0 bl1 0 1 _ rfl (Nat.le_of_ble_eq_true rfl)) rfl (by omega) (by decide) (by decide) (fun v' acc' h' => ?_)
    refine nextS (k + 1, v', acc') (by show n - (k + 1) < n - k; omega) ⟨hlt, ?_⟩ ⟨rfl, rfl, rfl, rfl, rfl, inc64 (by omega), trivial⟩ (.drop 0 1 (shed_eq rfl))
    show Acc 1 (k + 1) v' acc' (woC ((bothW f a b).take (k + 1)))
    rw [List.take_succ_eq_append_getElem (by omega), he, woC, List.map_append]
    exact h'
  · have hge : k = n := by have hge : ¬ (k : Int) < n := hge; omega
    subst hge
    rw [List.take_of_length_le (by omega)] at hacc
    exact fin_acc (s := .int .u64) (l := bothW f a b) [] hacc hbl.symm (by rw [woC_flat]) (by decide) (.done ⟨rfl, rfl⟩)
theorem aUnion1 (x y : Int) (σ : Hp) : ACalls Tryz.prog 79 [.int .u64 x, .int .u64 y] σ (Ret (.int .u64 (orW x y)) σ) := by
  refine okF Tryz.func79 (by kernel_rfl) ?_
  exact .done ⟨rfl, rfl⟩
theorem aMinus1 (x y : Int) (σ : Hp) : ACalls Tryz.prog 175 [.int .u64 x, .int .u64 y] σ (Ret (.int .u64 (anW x y)) σ) := by
  refine okF Tryz.func175 (by kernel_rfl) ?_
  exact .done ⟨rfl, rfl⟩
theorem aUnion (a b : List Int) (σ : Hp) (ha : a.length ≤ 100000) (hb : b.length ≤ 100000) : ACalls Tryz.prog 43 [.fsl (.int .u64) a, .fsl (.int .u64) b] σ (Ret (.fsl (.int .u64) (bothW orW a b)) σ) := by
  refine okF Tryz.func43 (by kernel_rfl) ?_
  refine callR [] (aBothF _ _ aUnion1 a b _ ha hb) ?_
  exact .done ⟨rfl, rfl⟩
theorem aMinus (a b : List Int) (σ : Hp) (ha : a.length ≤ 100000) (hb : b.length ≤ 100000) : ACalls Tryz.prog 160 [.fsl (.int .u64) a, .fsl (.int .u64) b] σ (Ret (.fsl (.int .u64) (bothW anW a b)) σ) := by
  refine okF Tryz.func160 (by kernel_rfl) ?_
  refine callR [] (aBothF _ _ aMinus1 a b _ ha hb) ?_
  exact .done ⟨rfl, rfl⟩
theorem div64 (n : Nat) (h : n ≤ 100000000) : IntKind.i64.wrap ((n : Int).tdiv 64) = ((n / 64 : Nat) : Int) := by
  rw [Int.tdiv_eq_ediv_of_nonneg (by omega), IntKind.wrap_i64]; omega
theorem mod64 (n : Nat) : (n : Int).tmod 64 = ((n % 64 : Nat) : Int) := by
  rw [Int.tmod_eq_emod_of_nonneg (by omega)]; omega
theorem shl64 (k : Nat) (h : k < 64) : IntKind.u64.wrap (1 * 2 ^ min ((k : Nat) : Int).toNat IntKind.u64.bits) = ((2 ^ k : Nat) : Int) := by
  have e : min ((k : Nat) : Int).toNat IntKind.u64.bits = k := by show min k 64 = k; omega
  rw [e, Int.one_mul, show ((2 : Int) ^ k) = ((2 ^ k : Nat) : Int) by rw [Int.natCast_pow]; rfl]
  exact wrap_n (Nat.lt_of_lt_of_le (Nat.pow_lt_pow_right (by decide) h) (Nat.le_refl _))
/-- A row of words, held open: one bit more. -/
theorem put64 {l : List Int} {i : Nat} (h : i < l.length) (x : Int) {z : Int} (hz : z = i) : writeAs ⟨.int .u64, 1, 8, [.int .u64 0]⟩ (woC l) (0 + z.toNat * 1) (.int .u64 x) = some (woC (l.set i x)) := by
  subst hz
  have e : 0 + ((i : Int)).toNat * 1 = i := by omega
  rw [e]
  have h2 : Nat.ble (i + 1) (woC l).length = true := Nat.ble_eq_true_of_le (by simp [woC]; omega)
  show (match Nat.beq 1 1, Nat.ble (i + 1) (woC l).length with | true, true => some (splice (woC l) i [.int .u64 x]) | _, _ => none) = _
  rw [h2]
  show some ((woC l).set i (.int .u64 x)) = _
  simp [woC, List.map_set]
theorem get64 {l : List Int} {i : Nat} (h : i < l.length) {z : Int} (hz : z = i) : readAs ⟨.int .u64, 1, 8, [.int .u64 0]⟩ (woC l) (0 + z.toNat * 1) = some (.int .u64 (wd l i)) := by
  subst hz
  have e : 0 + ((i : Int)).toNat * 1 = i := by omega
  rw [e]
  show (woC l)[i]? = _
  unfold woC wd
  rw [List.getElem?_map, List.getElem?_eq_getElem h]; rfl
theorem full_step (w : Int) {n : Nat} (h : n < cutW w) : ptW (fullW w) (n + 1) = (ptW (fullW w) n).set (n / 64) (orW (wd (ptW (fullW w) n) (n / 64)) ((2 ^ (n % 64) : Nat) : Int)) := by
  have hs : (fullW w).length = sizeW w := fullW_length w
  have hl : n < 64 * (fullW w).length := by rw [hs]; unfold sizeW; omega
  have hb : hasB (fullW w) n = true := by
    unfold hasB
    rw [fullW_wd w (by unfold sizeW; omega), Int.toNat_natCast, Nat.testBit_two_pow_sub_one]
    exact decide_eq_true (by omega)
  rw [ptW_step hl, if_pos hb]
theorem full_cut (w : Int) : ptW (fullW w) (cutW w) = fullW w := by
  refine wd_ext (ptW_length _ _) fun i hi => ?_
  rw [ptW_length] at hi
  rw [ptW_wd _ _ hi]
  rw [fullW_length] at hi
  rw [fullW_wd w hi, Int.toNat_natCast, Nat.mod_eq_of_lt]
  have := Nat.two_pow_pos (min 64 (cutW w - 64 * i))
  omega
theorem aFull (w : Int) (σ : Hp) : ACalls Tryz.prog 155 [.int .i64 w] σ (Ret (.fsl (.int .u64) (fullW w)) σ) := by
  refine okF Tryz.func155 (by kernel_rfl) ?_
  have hsz := sizeW_le w
  have hcw := cutW_le w
  refine callR [] (aSize10 w _) ?_
  refine With.mk ⟨by omega, by omega, by omega, by decide⟩ ?_
  intro q
  refine callR [] (aCut10 w _) ?_
  refine loopS (S := Nat) (fun s => [(3, .mref q 0 (sizeW w) 1), (9, .int .i64 (cutW w)), (10, .int .i64 s)]) (fun s => (q, woC (ptW (fullW w) s)) :: σ) (fun s => s ≤ cutW w) (fun s => cutW w - s) 0 ⟨Nat.zero_le _, ⟨rfl, rfl, rfl, trivial⟩, ?_⟩ ?_
  · show (q, repC [.int .u64 0] (((sizeW w : Nat) : Int)).toNat) :: σ = (q, woC (ptW (fullW w) 0)) :: σ
    rw [ptW_zero, fullW_length, Int.toNat_natCast, rep_woC]
  intro n g hn0
  have hn : n ≤ cutW w := hn0
  clear hn0
  refine bcond_dec (fun hlt => ?_) (fun hge => ?_)
  · have hlt : n < cutW w := by have hlt : (n : Int) < cutW w := hlt; omega
    have hi : n / 64 < (ptW (fullW w) n).length := by rw [ptW_length, fullW_length]; unfold sizeW; omega
    have hi2 : n / 64 < sizeW w := by unfold sizeW; omega
    have hd := div64 n (by omega)
    have hm := mod64 n
    refine .sched [] (upto [] 11 0) (by kernel_rfl) ?_
    refine With.mk (by omega) ?_
    refine With.mk ⟨rfl, by omega, by omega⟩ ?_
    refine LoadAt.mk 0 _ _ rfl (get64 hi hd) ?_
    have e64 := shl64 (n % 64) (by omega)
    rw [← hm] at e64
    refine With.mk (by omega) ?_
    refine With.mk (by omega) ?_
    refine With.mk ⟨rfl, by omega, by omega⟩ ?_
    refine StoreAt.mk 0 _ _ rfl (put64 hi _ hd) ?_
    refine nextS (n + 1) (by show cutW w - (n + 1) < cutW w - n; omega) hlt ⟨rfl, rfl, inc64 (by omega), trivial⟩ (shed_eq ?_)
    rw [full_step w hlt, ← e64]
    rfl
  · have hge : n = cutW w := by have hge : ¬ (n : Int) < cutW w := hge; omega
    subst hge
    rw [full_cut]
    exact .frz 0 q 0 (sizeW w) 1 _ (.int .u64) (fullW w) rfl (by rw [List.drop_zero, ← woC_flat]; exact List.take_of_length_le (by simp [woC, fullW_length])) ⟨fullW_length w, rfl, by decide⟩ .here (.done ⟨rfl, rfl⟩)
/-- How many numbers. -/
def cntW (a : List Int) : Nat := (a.map fun z => popN z.toNat).sum
theorem cntW_le (a : List Int) : cntW a ≤ 64 * a.length := by
  unfold cntW
  induction a with
  | nil => simp
  | cons x a ih => have := popN_le x.toNat; simp only [List.map_cons, List.sum_cons, List.length_cons]; omega
theorem cntW_succ (a : List Int) {k : Nat} (h : k < a.length) : cntW (a.take (k + 1)) = cntW (a.take k) + popN (a[k]).toNat := by
  unfold cntW
  rw [List.take_succ_eq_append_getElem h, List.map_append, List.sum_append]; simp
theorem cntW_zero {a : List Int} (ha : A64 a) : cntW a = 0 ↔ ∀ i, i < a.length → wd a i = 0 := by
  unfold cntW
  rw [List.sum_eq_zero_iff_forall_eq_nat]
  constructor
  · intro h i hi
    have h1 := h _ (List.mem_map.2 ⟨a[i], List.getElem_mem hi, rfl⟩)
    have := popN_zero (lt_w (ha _ (List.getElem_mem hi))) h1
    have hw := toNat_w (ha _ (List.getElem_mem hi))
    rw [wd_get a hi, ← hw, this]; rfl
  · intro h x hx
    obtain ⟨z, hz, rfl⟩ := List.mem_map.1 hx
    obtain ⟨i, hi, rfl⟩ := List.mem_iff_getElem.1 hz
    have := h i hi
    rw [wd_get a hi] at this
    rw [this]; rfl
theorem add64 {a b : Nat} (h : a + b < 1000000000) : IntKind.i64.wrap ((a : Int) + (b : Int)) = ((a + b : Nat) : Int) := by rw [IntKind.wrap_i64]; omega
theorem aLen10 (a : List Int) (σ : Hp) (hl : a.length ≤ 100000) (ha : A64 a) : ACalls Tryz.prog 191 [.fsl (.int .u64) a] σ (Ret (.int .i64 (cntW a)) σ) := by
  refine okF Tryz.func191 (by kernel_rfl) ?_
  refine loopS (S := Nat) (fun s => [(3, .int .i64 (cntW (a.take s))), (6, .fsl (.int .u64) a), (7, .int .i64 a.length), (8, .int .i64 s)]) (fun _ => σ) (fun s => s ≤ a.length) (fun s => a.length - s) 0 ⟨Nat.zero_le _, ⟨rfl, rfl, rfl, rfl, trivial⟩, rfl⟩ ?_
  intro k g hk0
  have hk : k ≤ a.length := hk0
  clear hk0
  refine bcond_dec (fun hlt => ?_) (fun hge => ?_)
  · have hlt : k < a.length := by have hlt : (k : Int) < a.length := hlt; omega
    refine With.mk rfl (IdxF.mk a[k] (by omega) (get_some hlt) ?_)
    refine callR [] (aOnes (ha _ (List.getElem_mem hlt)) _) ?_
    have h1 := cntW_le (a.take (k + 1))
    have h2 := cntW_succ a hlt
    rw [List.length_take] at h1
    refine nextS (k + 1) (by show a.length - (k + 1) < a.length - k; omega) hlt ⟨av_int (by rw [h2]; exact add64 (by omega)), rfl, rfl, inc64 (by omega), trivial⟩ (.refl _)
  · have hge : k = a.length := by have hge : ¬ (k : Int) < a.length := hge; omega
    subst hge
    rw [List.take_length]
    exact .done ⟨rfl, rfl⟩
theorem minus_64 (a b : List Int) : A64 (bothW anW a b) := A64_map fun _ _ => anW_64 _ _
theorem aWithin (a b : List Int) (σ : Hp) (ha : a.length ≤ 10000) (hb : b.length ≤ 10000) : ACalls Tryz.prog 182 [.fsl (.int .u64) a, .fsl (.int .u64) b] σ (Ret (.bool (decide (cntW (bothW anW a b) = 0))) σ) := by
  refine okF Tryz.func182 (by kernel_rfl) ?_
  refine callR [] (aMinus a b _ (by omega) (by omega)) ?_
  refine callR [] (aLen10 _ _ (by rw [bothW_length]; omega) (minus_64 a b)) ?_
  refine bcond_dec (fun c => ?_) (fun c => ?_)
  · have c : cntW (bothW anW a b) = 0 := by have c : ((cntW (bothW anW a b) : Nat) : Int) = 0 := c; omega
    exact .done ⟨av_bool (decide_eq_true c).symm, rfl⟩
  · have c : cntW (bothW anW a b) ≠ 0 := by have c : ¬ ((cntW (bothW anW a b) : Nat) : Int) = 0 := c; omega
    exact .done ⟨av_bool (decide_eq_false c).symm, rfl⟩
theorem within_fits {a : List Int} {w : Int} (h64 : A64 a) (hl : a.length = sizeW w) : decide (cntW (bothW anW a (fullW w)) = 0) = fitsW a w := by
  rw [Bool.eq_iff_iff, decide_eq_true_eq, cntW_zero (minus_64 _ _), fits_over h64 hl, bothW_length, fullW_length, hl, Nat.max_self]
  refine ⟨fun h i hi => ?_, fun h i hi => ?_⟩
  · rw [← bothW_wd anW a (fullW w) (by rw [hl]; omega)]; exact h i hi
  · rw [bothW_wd anW a (fullW w) (by rw [hl]; omega)]; exact h i hi
theorem aFits10 (a : List Int) (w : Int) (σ : Hp) (h64 : A64 a) (ha : a.length ≤ 10000) : ACalls Tryz.prog 167 [.fsl (.int .u64) a, .int .i64 w] σ (Ret (.bool (fitsW a w)) σ) := by
  refine okF Tryz.func167 (by kernel_rfl) ?_
  refine callR [] (aSize10 w _) ?_
  have hsz := sizeW_le w
  refine bcond_dec (fun c => ?_) (fun c => ?_)
  · have c : a.length = sizeW w := by have c : (a.length : Int) = sizeW w := c; omega
    refine callR [] (aFull w _) ?_
    refine callR [] (aWithin a _ _ ha (by rw [fullW_length]; omega)) ?_
    exact .done ⟨av_bool (within_fits h64 c), rfl⟩
  · have c : a.length ≠ sizeW w := by have c : ¬ (a.length : Int) = sizeW w := c; omega
    have hf : fitsW a w = false := by unfold fitsW; rw [decide_eq_false c]; rfl
    rw [hf]
    exact .done ⟨rfl, rfl⟩
set_option maxRecDepth 100000
end Go.Proofs.YtljbnigceammdaaGreatDoor
