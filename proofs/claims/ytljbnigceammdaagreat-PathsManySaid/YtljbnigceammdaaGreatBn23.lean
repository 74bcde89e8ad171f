/-
  Wr: what the claim uses of them.
-/
import Derived.Test.YtljbnigceammdaaGreatBn22
import Derived.Test.YtljbnigceammdaaGreatBn21
namespace Go.Proofs.YtljbnigceammdaaGreat
open Go.RowKit
set_option maxRecDepth 100000
theorem aWsWord (a : List Int) (i : Nat) (σ : Hp) : ACalls Tryz.prog 132 [.fsl (.int .u64) a, .int .i64 i] σ (Ret (.int .u64 (wd a i)) σ) := by
  refine okF Tryz.func132 (by kernel_rfl) ?_
  refine bcond_dec (fun c => ?_) (fun c => ?_)
  · have c : (a.length : Int) ≤ (i : Int) := c
    exact .done ⟨av_int (wd_none (by omega)).symm, rfl⟩
  · have c : i < a.length := by have c : ¬ (a.length : Int) ≤ (i : Int) := c; omega
    refine With.mk rfl (IdxF.mk a[i] (by omega) (get_some c) ?_)
    exact .done ⟨av_int (wd_get a c).symm, rfl⟩
theorem aCut10 (n : Int) (σ : Hp) : ACalls Tryz.prog 93 [.int .i64 n] σ (Ret (.int .i64 (cutW n)) σ) := by
  refine okF Tryz.func93 (by kernel_rfl) ?_
  exact .done ⟨av_int (cutW_int n), rfl⟩
theorem size_int (n : Int) : (IntKind.i64.wrap (IntKind.i64.wrap ((cutW n : Nat) + 64) - 1)).tdiv 64 = ((sizeW n : Nat) : Int) := by
  have := cutW_le n
  rw [IntKind.wrap_i64, IntKind.wrap_i64]
  unfold sizeW
  rw [Int.tdiv_eq_ediv_of_nonneg (by omega)]
  omega
theorem wrap_size (n : Int) : IntKind.i64.wrap ((sizeW n : Nat) : Int) = ((sizeW n : Nat) : Int) := by
  have := sizeW_le n
  rw [IntKind.wrap_i64]; omega
theorem aSize10 (n : Int) (σ : Hp) : ACalls Tryz.prog 92 [.int .i64 n] σ (Ret (.int .i64 (sizeW n)) σ) := by
  refine okF Tryz.func92 (by kernel_rfl) ?_
  refine callR [] (aCut10 n _) ?_
  refine With.mk (by decide) ?_
  exact .done ⟨av_int (by rw [size_int, wrap_size]), rfl⟩
theorem aBothF (g : FuncId) (f : Int → Int → Int) (hg : ∀ (x y : Int) (σ : Hp), ACalls Tryz.prog g [.int .u64 x, .int .u64 y] σ (Ret (.int .u64 (f x y)) σ)) (a b : List Int) (σ : Hp) (ha : a.length ≤ 100000) (hb : b.length ≤ 100000) : ACalls Tryz.prog 107 [.fsl (.int .u64) a, .fsl (.int .u64) b, .fn (.func g) [] []] σ (Ret (.fsl (.int .u64) (bothW f a b)) σ) := by
  refine okF Tryz.func107 (by kernel_rfl) ?_
  obtain ⟨n, hn⟩ : ∃ n, n = max a.length b.length := ⟨_, rfl⟩
  have hmax : (if (a.length : Int) < b.length then (b.length : Int) else a.length) = (n : Int) := by split <;> omega
  have hbl : (bothW f a b).length = n := by rw [bothW_length, hn]
  refine .wrap 7 _ rfl rfl ?_
  refine loopS (S := Nat × AV × Hp) (fun s => [(0, .fsl (.int .u64) a), (1, .fsl (.int .u64) b), (2, .fn (.func g) [] []), (7, .via s.2.1), (13, .int .i64 n), (14, .int .i64 s.1)]) (fun s => s.2.2 ++ σ) (fun s => s.1 ≤ n ∧ Acc 1 s.1 s.2.1 s.2.2 (woC ((bothW f a b).take s.1))) (fun s => n - s.1) (0, .nils, []) ⟨⟨Nat.zero_le _, .nil⟩, ⟨rfl, rfl, rfl, rfl, av_int hmax, rfl, trivial⟩, rfl⟩ ?_
  rintro ⟨k, v, acc⟩ s ⟨hk0, hacc0⟩
  have hk : k ≤ n := hk0
  have hacc : Acc 1 k v acc (woC ((bothW f a b).take k)) := hacc0
  clear hk0 hacc0
  refine bcond_dec (fun hlt => ?_) (fun hge => ?_)
  · have hlt : k < n := by have hlt : (k : Int) < n := hlt; omega
    have he : (bothW f a b)[k]'(by omega) = f (wd a k) (wd b k) := by rw [← wd_get, bothW_wd f a b (by omega)]
    refine callR [] (aWsWord a k _) ?_
    refine callR [] (aWsWord b k _) ?_
    refine callR [] (hg _ _ _) ?_
    intro bl1
    refine append_acc [_] hacc (.mref 0 bl1 0 1 _ rfl (Nat.le_of_ble_eq_true rfl)) rfl (by omega) (by decide) (by decide) (fun v' acc' h' => ?_)
    refine nextS (k + 1, v', acc') (by show n - (k + 1) < n - k; omega) ⟨hlt, ?_⟩ ⟨rfl, rfl, rfl, rfl, rfl, inc64 (by omega), trivial⟩ (.drop 0 1 (shed_eq rfl))
    show Acc 1 (k + 1) v' acc' (woC ((bothW f a b).take (k + 1)))
    rw [List.take_succ_eq_append_getElem (by omega), he, woC, List.map_append]
    exact h'
  · have hge : k = n := by have hge : ¬ (k : Int) < n := hge; omega
    subst hge
    rw [List.take_of_length_le (by omega)] at hacc
    exact fin_acc (s := .int .u64) (l := bothW f a b) [] hacc hbl.symm (by rw [woC_flat]) (by decide) (.done ⟨rfl, rfl⟩)
theorem aUnion1 (x y : Int) (σ : Hp) : ACalls Tryz.prog 108 [.int .u64 x, .int .u64 y] σ (Ret (.int .u64 (orW x y)) σ) := by
  refine okF Tryz.func108 (by kernel_rfl) ?_
  exact .done ⟨rfl, rfl⟩
theorem aMinus1 (x y : Int) (σ : Hp) : ACalls Tryz.prog 109 [.int .u64 x, .int .u64 y] σ (Ret (.int .u64 (anW x y)) σ) := by
  refine okF Tryz.func109 (by kernel_rfl) ?_
  exact .done ⟨rfl, rfl⟩
theorem aUnion (a b : List Int) (σ : Hp) (ha : a.length ≤ 100000) (hb : b.length ≤ 100000) : ACalls Tryz.prog 67 [.fsl (.int .u64) a, .fsl (.int .u64) b] σ (Ret (.fsl (.int .u64) (bothW orW a b)) σ) := by
  refine okF Tryz.func67 (by kernel_rfl) ?_
  refine callR [] (aBothF _ _ aUnion1 a b _ ha hb) ?_
  exact .done ⟨rfl, rfl⟩
theorem aMinus (a b : List Int) (σ : Hp) (ha : a.length ≤ 100000) (hb : b.length ≤ 100000) : ACalls Tryz.prog 68 [.fsl (.int .u64) a, .fsl (.int .u64) b] σ (Ret (.fsl (.int .u64) (bothW anW a b)) σ) := by
  refine okF Tryz.func68 (by kernel_rfl) ?_
  refine callR [] (aBothF _ _ aMinus1 a b _ ha hb) ?_
  exact .done ⟨rfl, rfl⟩
theorem div64 (n : Nat) (h : n ≤ 100000000) : IntKind.i64.wrap ((n : Int).tdiv 64) = ((n / 64 : Nat) : Int) := by
  rw [Int.tdiv_eq_ediv_of_nonneg (by omega), IntKind.wrap_i64]; omega
theorem mod64 (n : Nat) : (n : Int).tmod 64 = ((n % 64 : Nat) : Int) := by
  rw [Int.tmod_eq_emod_of_nonneg (by omega)]; omega
theorem shl64 (k : Nat) (h : k < 64) : IntKind.u64.wrap (1 * 2 ^ min ((k : Nat) : Int).toNat IntKind.u64.bits) = ((2 ^ k : Nat) : Int) := by
  have e : min ((k : Nat) : Int).toNat IntKind.u64.bits = k := by show min k 64 = k; omega
  rw [e, Int.one_mul, show ((2 : Int) ^ k) = ((2 ^ k : Nat) : Int) by rw [Int.natCast_pow]; rfl]
  exact wrap_n (Nat.lt_of_lt_of_le (Nat.pow_lt_pow_right (by decide) h) (Nat.le_refl _))
/-- A row of words, held open: one bit more. -/
theorem put64 {l : List Int} {i : Nat} (h : i < l.length) (x : Int) {z : Int} (hz : z = i) : writeAs ⟨.int .u64, 1, 8, [.int .u64 0]⟩ (woC l) (0 + z.toNat * 1) (.int .u64 x) = some (woC (l.set i x)) := by
  subst hz
  have e : 0 + ((i : Int)).toNat * 1 = i := by omega
  rw [e]
  have h2 : Nat.ble (i + 1) (woC l).length = true := Nat.ble_eq_true_of_le (by simp [woC]; omega)
  show (match Nat.beq 1 1, Nat.ble (i + 1) (woC l).length with | true, true => some (splice (woC l) i [.int .u64 x]) | _, _ => none) = _
  rw [h2]
  show some ((woC l).set i (.int .u64 x)) = _
  simp [woC, List.map_set]
theorem get64 {l : List Int} {i : Nat} (h : i < l.length) {z : Int} (hz : z = i) : readAs ⟨.int .u64, 1, 8, [.int .u64 0]⟩ (woC l) (0 + z.toNat * 1) = some (.int .u64 (wd l i)) := by
  subst hz
  have e : 0 + ((i : Int)).toNat * 1 = i := by omega
  rw [e]
  show (woC l)[i]? = _
  unfold woC wd
  rw [List.getElem?_map, List.getElem?_eq_getElem h]; rfl
theorem full_step (w : Int) {n : Nat} (h : n < cutW w) : ptW (fullW w) (n + 1) = (ptW (fullW w) n).set (n / 64) (orW (wd (ptW (fullW w) n) (n / 64)) ((2 ^ (n % 64) : Nat) : Int)) := by
  have hs : (fullW w).length = sizeW w := fullW_length w
  have hl : n < 64 * (fullW w).length := by rw [hs]; unfold sizeW; omega
  have hb : hasB (fullW w) n = true := by
    unfold hasB
    rw [fullW_wd w (by unfold sizeW; omega), Int.toNat_natCast, Nat.testBit_two_pow_sub_one]
    exact decide_eq_true (by omega)
  rw [ptW_step hl, if_pos hb]
theorem full_cut (w : Int) : ptW (fullW w) (cutW w) = fullW w := by
  refine wd_ext (ptW_length _ _) fun i hi => ?_
  rw [ptW_length] at hi
  rw [ptW_wd _ _ hi]
  rw [fullW_length] at hi
  rw [fullW_wd w hi, Int.toNat_natCast, Nat.mod_eq_of_lt]
  have := Nat.two_pow_pos (min 64 (cutW w - 64 * i))
  omega
theorem aFull (w : Int) (σ : Hp) : ACalls Tryz.prog 51 [.int .i64 w] σ (Ret (.fsl (.int .u64) (fullW w)) σ) := by
  refine okF Tryz.func51 (by kernel_rfl) ?_
  have hsz := sizeW_le w
  have hcw := cutW_le w
  refine callR [] (aSize10 w _) ?_
  refine With.mk ⟨by omega, by omega, by omega, by decide⟩ ?_
  intro q
  refine callR [] (aCut10 w _) ?_
  refine loopS (S := Nat) (fun s => [(3, .mref q 0 (sizeW w) 1), (9, .int .i64 (cutW w)), (10, .int .i64 s)]) (fun s => (q, woC (ptW (fullW w) s)) :: σ) (fun s => s ≤ cutW w) (fun s => cutW w - s) 0 ⟨Nat.zero_le _, ⟨rfl, rfl, rfl, trivial⟩, ?_⟩ ?_
  · show (q, repC [.int .u64 0] (((sizeW w : Nat) : Int)).toNat) :: σ = (q, woC (ptW (fullW w) 0)) :: σ
    rw [ptW_zero, fullW_length, Int.toNat_natCast, rep_woC]
  intro n g hn0
  have hn : n ≤ cutW w := hn0
  clear hn0
  refine bcond_dec (fun hlt => ?_) (fun hge => ?_)
  · have hlt : n < cutW w := by have hlt : (n : Int) < cutW w := hlt; omega
    have hi : n / 64 < (ptW (fullW w) n).length := by rw [ptW_length, fullW_length]; unfold sizeW; omega
    have hi2 : n / 64 < sizeW w := by unfold sizeW; omega
    have hd := div64 n (by omega)
    have hm := mod64 n
    refine .sched [] (upto [] 11 0) (by kernel_rfl) ?_
    refine With.mk (by omega) ?_
    refine With.mk ⟨rfl, by omega, by omega⟩ ?_
    refine LoadAt.mk 0 _ _ rfl (get64 hi hd) ?_
    have e64 := shl64 (n % 64) (by omega)
    rw [← hm] at e64
    refine With.mk (by omega) ?_
    refine With.mk (by omega) ?_
    refine With.mk ⟨rfl, by omega, by omega⟩ ?_
    refine StoreAt.mk 0 _ _ rfl (put64 hi _ hd) ?_
    refine nextS (n + 1) (by show cutW w - (n + 1) < cutW w - n; omega) hlt ⟨rfl, rfl, inc64 (by omega), trivial⟩ (shed_eq ?_)
    rw [full_step w hlt, ← e64]
    rfl
  · have hge : n = cutW w := by have hge : ¬ (n : Int) < cutW w := hge; omega
    subst hge
    rw [full_cut]
    exact .frz 0 q 0 (sizeW w) 1 _ (.int .u64) (fullW w) rfl (by rw [List.drop_zero, ← woC_flat]; exact List.take_of_length_le (by simp [woC, fullW_length])) ⟨fullW_length w, rfl, by decide⟩ .here (.done ⟨rfl, rfl⟩)
/-- How many numbers. -/
def cntW (a : List Int) : Nat := (a.map fun z => popN z.toNat).sum
theorem cntW_le (a : List Int) : cntW a ≤ 64 * a.length := by
  unfold cntW
  induction a with
  | nil => simp
  | cons x a ih => have := popN_le x.toNat; simp only [List.map_cons, List.sum_cons, List.length_cons]; omega
theorem cntW_succ (a : List Int) {k : Nat} (h : k < a.length) : cntW (a.take (k + 1)) = cntW (a.take k) + popN (a[k]).toNat := by
  unfold cntW
  rw [List.take_succ_eq_append_getElem h, List.map_append, List.sum_append]; simp
theorem cntW_zero {a : List Int} (ha : A64 a) : cntW a = 0 ↔ ∀ i, i < a.length → wd a i = 0 := by
  unfold cntW
  rw [List.sum_eq_zero_iff_forall_eq_nat]
  constructor
  · intro h i hi
    have h1 := h _ (List.mem_map.2 ⟨a[i], List.getElem_mem hi, rfl⟩)
    have := popN_zero (lt_w (ha _ (List.getElem_mem hi))) h1
    have hw := toNat_w (ha _ (List.getElem_mem hi))
    rw [wd_get a hi, ← hw, this]; rfl
  · intro h x hx
    obtain ⟨z, hz, rfl⟩ := List.mem_map.1 hx
    obtain ⟨i, hi, rfl⟩ := List.mem_iff_getElem.1 hz
    have := h i hi
    rw [wd_get a hi] at this
    rw [this]; rfl
theorem add64 {a b : Nat} (h : a + b < 1000000000) : IntKind.i64.wrap ((a : Int) + (b : Int)) = ((a + b : Nat) : Int) := by rw [IntKind.wrap_i64]; omega
theorem aLen10 (a : List Int) (σ : Hp) (hl : a.length ≤ 100000) (ha : A64 a) : ACalls Tryz.prog 136 [.fsl (.int .u64) a] σ (Ret (.int .i64 (cntW a)) σ) := by
  refine okF Tryz.func136 (by kernel_rfl) ?_
  refine loopS (S := Nat) (fun s => [(3, .int .i64 (cntW (a.take s))), (6, .fsl (.int .u64) a), (7, .int .i64 a.length), (8, .int .i64 s)]) (fun _ => σ) (fun s => s ≤ a.length) (fun s => a.length - s) 0 ⟨Nat.zero_le _, ⟨rfl, rfl, rfl, rfl, trivial⟩, rfl⟩ ?_
  intro k g hk0
  have hk : k ≤ a.length := hk0
  clear hk0
  refine bcond_dec (fun hlt => ?_) (fun hge => ?_)
  · have hlt : k < a.length := by have hlt : (k : Int) < a.length := hlt; omega
    refine With.mk rfl (IdxF.mk a[k] (by omega) (get_some hlt) ?_)
    refine callR [] (aOnes (ha _ (List.getElem_mem hlt)) _) ?_
    have h1 := cntW_le (a.take (k + 1))
    have h2 := cntW_succ a hlt
    rw [List.length_take] at h1
    refine nextS (k + 1) (by show a.length - (k + 1) < a.length - k; omega) hlt ⟨av_int (by rw [h2]; exact add64 (by omega)), rfl, rfl, inc64 (by omega), trivial⟩ (.refl _)
  · have hge : k = a.length := by have hge : ¬ (k : Int) < a.length := hge; omega
    subst hge
    rw [List.take_length]
    exact .done ⟨rfl, rfl⟩
theorem minus_64 (a b : List Int) : A64 (bothW anW a b) := A64_map fun _ _ => anW_64 _ _
theorem aWithin (a b : List Int) (σ : Hp) (ha : a.length ≤ 10000) (hb : b.length ≤ 10000) : ACalls Tryz.prog 114 [.fsl (.int .u64) a, .fsl (.int .u64) b] σ (Ret (.bool (decide (cntW (bothW anW a b) = 0))) σ) := by
  refine okF Tryz.func114 (by kernel_rfl) ?_
  refine callR [] (aMinus a b _ (by omega) (by omega)) ?_
  refine callR [] (aLen10 _ _ (by rw [bothW_length]; omega) (minus_64 a b)) ?_
  refine bcond_dec (fun c => ?_) (fun c => ?_)
  · have c : cntW (bothW anW a b) = 0 := by have c : ((cntW (bothW anW a b) : Nat) : Int) = 0 := c; omega
    exact .done ⟨av_bool (decide_eq_true c).symm, rfl⟩
  · have c : cntW (bothW anW a b) ≠ 0 := by have c : ¬ ((cntW (bothW anW a b) : Nat) : Int) = 0 := c; omega
    exact .done ⟨av_bool (decide_eq_false c).symm, rfl⟩
theorem within_fits {a : List Int} {w : Int} (h64 : A64 a) (hl : a.length = sizeW w) : decide (cntW (bothW anW a (fullW w)) = 0) = fitsW a w := by
  rw [Bool.eq_iff_iff, decide_eq_true_eq, cntW_zero (minus_64 _ _), fits_over h64 hl, bothW_length, fullW_length, hl, Nat.max_self]
  refine ⟨fun h i hi => ?_, fun h i hi => ?_⟩
  · rw [← bothW_wd anW a (fullW w) (by rw [hl]; omega)]; exact h i hi
  · rw [bothW_wd anW a (fullW w) (by rw [hl]; omega)]; exact h i hi
theorem aFits10 (a : List Int) (w : Int) (σ : Hp) (h64 : A64 a) (ha : a.length ≤ 10000) : ACalls Tryz.prog 72 [.fsl (.int .u64) a, .int .i64 w] σ (Ret (.bool (fitsW a w)) σ) := by
  refine okF Tryz.func72 (by kernel_rfl) ?_
  refine callR [] (aSize10 w _) ?_
  have hsz := sizeW_le w
  refine bcond_dec (fun c => ?_) (fun c => ?_)
  · have c : a.length = sizeW w := by have c : (a.length : Int) = sizeW w := c; omega
    refine callR [] (aFull w _) ?_
    refine callR [] (aWithin a _ _ ha (by rw [fullW_length]; omega)) ?_
    exact .done ⟨av_bool (within_fits h64 c), rfl⟩
  · have c : a.length ≠ sizeW w := by have c : ¬ (a.length : Int) = sizeW w := c; omega
    have hf : fitsW a w = false := by unfold fitsW; rw [decide_eq_false c]; rfl
    rw [hf]
    exact .done ⟨rfl, rfl⟩
set_option maxRecDepth 100000
theorem aWidthR (n : Int) (σ : Hp) : ACalls Tryz.prog 97 [.int .i64 n] σ (Ret (.int .i64 (cutW n)) σ) := by
  refine okF Tryz.func97 (by kernel_rfl) ?_
  exact .done ⟨av_int (cutW_int n), rfl⟩
theorem sizeR_int (n : Int) : (IntKind.i64.wrap ((cutW n : Nat) + 63)).tdiv 64 = ((sizeW n : Nat) : Int) := by
  have := cutW_le n
  rw [IntKind.wrap_i64]
  unfold sizeW
  rw [Int.tdiv_eq_ediv_of_nonneg (by omega)]
  omega
theorem aSizeR (n : Int) (σ : Hp) : ACalls Tryz.prog 96 [.int .i64 n] σ (Ret (.int .i64 (sizeW n)) σ) := by
  refine okF Tryz.func96 (by kernel_rfl) ?_
  refine callR [] (aWidthR n _) ?_
  refine With.mk (by decide) ?_
  exact .done ⟨av_int (by rw [sizeR_int, wrap_size]), rfl⟩
/-- The bit that is asked, as the text asks it. -/
theorem has_int {x : Int} (ha : W64 x) {k : Nat} (h : k < 64) {z : Int} (hz : z = k) : (bits .and .u64 (x.fdiv (2 ^ min z.toNat IntKind.u64.bits)) 1 = 1) ↔ x.toNat.testBit k = true := by
  subst hz
  have e : min ((k : Int)).toNat IntKind.u64.bits = k := by show min k 64 = k; omega
  have hw := toNat_w ha
  rw [← hw, fdiv_nat _ _ _ e]
  have hlt := lt_w ha
  rw [show (1 : Int) = ((1 : Nat) : Int) from rfl, bits_u64_and (Nat.lt_of_le_of_lt (Nat.div_le_self _ _) hlt) (by decide)]
  rw [Int.toNat_natCast, Nat.and_one_is_mod, Nat.testBit_eq_decide_div_mod_eq, decide_eq_true_eq]
  omega
theorem aHasB (a : List Int) (n : Nat) (σ : Hp) (h64 : A64 a) (hn : n ≤ 1000000) : ACalls Tryz.prog 98 [.fsl (.int .u64) a, .int .i64 n] σ (Ret (.bool (hasB a n)) σ) := by
  refine okF Tryz.func98 (by kernel_rfl) ?_
  have hd := div64 n (by omega)
  have hm := mod64 n
  refine With.mk (by omega) ?_
  refine bcond_dec (fun c1 => ?_) (fun c1 => ?_)
  · have c1 : IntKind.i64.wrap ((↑n : Int).tdiv 64) < (↑a.length : Int) := c1
    refine With.mk (by omega) ?_
    have hi : n / 64 < a.length := by omega
    refine With.mk rfl (IdxF.mk a[n / 64] (by omega) (by rw [hd]; exact get_some hi) ?_)
    have hq := has_int (ha := h64 _ (List.getElem_mem hi)) (k := n % 64) (by omega) hm
    have hb : hasB a n = a[n / 64].toNat.testBit (n % 64) := by unfold hasB; rw [wd_get a hi]
    refine With.mk (by omega) ?_
    refine With.mk (by omega) ?_
    refine bcond_dec (fun c2 => .done ⟨av_bool ?_, rfl⟩) (fun c2 => .done ⟨av_bool ?_, rfl⟩)
    · rw [hb]; exact (hq.1 c2).symm
    · rw [hb]; exact (Bool.eq_false_iff.2 fun h => c2 (hq.2 h)).symm
  · have c1 : ¬ (IntKind.i64.wrap ((↑n : Int).tdiv 64) < (↑a.length : Int)) := c1
    have hb : hasB a n = false := by unfold hasB; rw [wd_none (by omega)]; simp
    rw [hb]
    exact .done ⟨rfl, rfl⟩
/-- A set and a number: a new row. -/
theorem aWithB (l : List Int) (n q len : Nat) (σ : Hp) (hl : l.length = len) (hm : len ≤ 10000) (hn : n / 64 < len) : ACalls Tryz.prog 128 [.mref q 0 len 1, .int .i64 n] ((q, woC l) :: σ) (fun r σ' => ∃ b, r = .mref b 0 len 1 ∧ σ' = (b, woC (l.set (n / 64) (orW (wd l (n / 64)) ((2 ^ (n % 64) : Nat) : Int)))) :: (q, woC l) :: σ) := by
  refine okF Tryz.func128 (by kernel_rfl) ?_
  have hd := div64 n (by omega)
  have hm := mod64 n
  intro bl1
  have hle2 : (woC l).length = len * 1 := by simp [woC, hl]
  have hle : 0 + len * 1 ≤ (woC l).length := by omega
  have hcut : ((woC l).drop 0).take (len * 1) = woC l := List.take_of_length_le (by rw [List.drop_zero]; omega)
  refine append_acc [] (acc := [(bl1, [])]) (k := 0) (cs := []) (n := len) (.mref bl1 0 [] rfl) (.mref 1 q 0 len (woC l) rfl hle) (by rw [hcut]; exact hle2) (by omega) (by decide) (by decide) (fun v' acc' h' => ?_)
  rw [Nat.zero_add, hcut, List.nil_append] at h'
  generalize hcs : woC l = cs at h'
  cases h' with
  | nil => omega
  | mref b k cs h =>
  subst hcs
  have hi : n / 64 < l.length := by omega
  refine .sched [] (upto [] 14 0) (by kernel_rfl) ?_
  refine With.mk (by omega) ?_
  refine With.mk (by omega) ?_
  refine With.mk ⟨rfl, by omega, by omega⟩ ?_
  refine LoadAt.mk 0 _ _ rfl (get64 hi hd) ?_
  have e64 := shl64 (n % 64) (by omega)
  rw [← hm] at e64
  refine With.mk (by omega) ?_
  refine With.mk (by omega) ?_
  refine With.mk ⟨rfl, by omega, by omega⟩ ?_
  refine StoreAt.mk 0 _ _ rfl (put64 hi _ hd) ?_
  rw [← e64]
  exact .done ⟨_, rfl, rfl⟩
set_option maxHeartbeats 4000000 in
theorem aBothR1 (a b : List Int) (σ : Hp) (ha : A64 a) (hb : A64 b) (la : a.length ≤ 10000) (lb : b.length ≤ 10000) : ACalls Tryz.prog 129 [.fsl (.int .u64) a, .fsl (.int .u64) b, .int .i64 1] σ (Ret (.fsl (.int .u64) (bothW orW a b)) σ) := by
  refine okF Tryz.func129 (by kernel_rfl) ?_
  obtain ⟨n, hn⟩ : ∃ n, n = max a.length b.length := ⟨_, rfl⟩
  have hmax : (if (a.length : Int) < b.length then (b.length : Int) else a.length) = (n : Int) := by split <;> omega
  have hT : (bothW orW a b).length = n := by rw [bothW_length, hn]
  have hT64 : A64 (bothW orW a b) := A64_map fun _ _ => orW_64 _ _
  have hbit : ∀ k, k < 64 * n → hasB (bothW orW a b) k = ((hasB a k).or (hasB b k)) := fun k hk => by
    unfold hasB
    rw [bothW_wd orW a b (by omega)]
    exact orW_bit (wd_64 ha _) (wd_64 hb _) _
  have hM : (0 : Int) ≤ (if (a.length : Int) < b.length then (b.length : Int) else a.length) ∧ (if (a.length : Int) < b.length then (b.length : Int) else a.length) ≤ 1048576 := by rw [hmax]; omega
  refine With.mk ⟨hM.1, Int.le_refl _, hM.2, by decide⟩ ?_
  intro q
  refine loopS (S := Nat × Nat) (fun s => [(0, .fsl (.int .u64) a), (1, .fsl (.int .u64) b), (2, .int .i64 1), (7, .mref s.2 0 n 1), (8, .int .i64 s.1)]) (fun s => (s.2, woC (ptW (bothW orW a b) s.1)) :: σ) (fun s => s.1 ≤ 64 * n) (fun s => 64 * n - s.1) (0, q) ⟨Nat.zero_le _, ⟨rfl, rfl, rfl, ?_, rfl, trivial⟩, ?_⟩ ?_
  · show AV.mref q 0 (if (a.length : Int) < b.length then (b.length : Int) else a.length).toNat 1 = .mref q 0 n 1
    rw [hmax, Int.toNat_natCast]
  · show (q, repC [.int .u64 0] (if (a.length : Int) < b.length then (b.length : Int) else a.length).toNat) :: σ = (q, woC (ptW (bothW orW a b) 0)) :: σ
    rw [hmax, Int.toNat_natCast, ptW_zero, hT, rep_woC]
  rintro ⟨k, p⟩ g hk0
  have hk : k ≤ 64 * n := hk0
  clear hk0
  have hlen : (ptW (bothW orW a b) k).length = n := by rw [ptW_length, hT]
  refine bcond_dec (fun hlt => ?_) (fun hge => ?_)
  · have hlt : k < 64 * n := by
      have hlt : (k : Int) < IntKind.i64.wrap (64 * (n : Int)) := hlt
      rw [IntKind.wrap_i64] at hlt; omega
    have hs := ptW_step (T := bothW orW a b) (n := k) (by omega)
    have hbk := hbit k hlt
    refine callB [] (aHasB a k _ ha (by omega)) (fun cA => ?_) (fun cA => ?_) <;> refine callB [] (aHasB b k _ hb (by omega)) (fun cB => ?_) (fun cB => ?_) <;> rw [cA, cB] at hbk <;> rw [hbk] at hs
    all_goals first
      | (refine .mk [] _ (aWithB _ k _ _ _ hlen (by omega) (by omega)) ?_
         rintro r σ' ⟨b', rfl, rfl⟩
         refine nextS (k + 1, b') (by show 64 * n - (k + 1) < 64 * n - k; omega) hlt ⟨rfl, rfl, rfl, rfl, inc64 (by omega), trivial⟩ (.drop 1 1 (shed_eq ?_))
         rw [hs.trans (if_pos rfl)]
         rfl)
      | (refine nextS (k + 1, p) (by show 64 * n - (k + 1) < 64 * n - k; omega) hlt ⟨rfl, rfl, rfl, rfl, inc64 (by omega), trivial⟩ (shed_eq ?_)
         rw [hs.trans (if_neg (by decide))]
         rfl)
  · have hge : k = 64 * n := by
      have hge : ¬ (k : Int) < IntKind.i64.wrap (64 * (n : Int)) := hge
      rw [IntKind.wrap_i64] at hge; omega
    subst hge
    rw [← hT, ptW_all hT64]
    exact .frz 0 p 0 _ 1 _ (.int .u64) (bothW orW a b) rfl (by rw [List.drop_zero, ← woC_flat]; exact List.take_of_length_le (by simp [woC]; exact Nat.le_refl _)) ⟨rfl, rfl, by decide⟩ .here (.done ⟨rfl, rfl⟩)
set_option maxHeartbeats 4000000 in
theorem aBothR3 (a b : List Int) (σ : Hp) (ha : A64 a) (hb : A64 b) (la : a.length ≤ 10000) (lb : b.length ≤ 10000) : ACalls Tryz.prog 129 [.fsl (.int .u64) a, .fsl (.int .u64) b, .int .i64 3] σ (Ret (.fsl (.int .u64) (bothW anW a b)) σ) := by
  refine okF Tryz.func129 (by kernel_rfl) ?_
  obtain ⟨n, hn⟩ : ∃ n, n = max a.length b.length := ⟨_, rfl⟩
  have hmax : (if (a.length : Int) < b.length then (b.length : Int) else a.length) = (n : Int) := by split <;> omega
  have hT : (bothW anW a b).length = n := by rw [bothW_length, hn]
  have hT64 : A64 (bothW anW a b) := A64_map fun _ _ => anW_64 _ _
  have hbit : ∀ k, k < 64 * n → hasB (bothW anW a b) k = ((hasB a k).and (!hasB b k)) := fun k hk => by
    unfold hasB
    rw [bothW_wd anW a b (by omega)]
    exact anW_bit (wd_64 ha _) (wd_64 hb _) (by omega)
  have hM : (0 : Int) ≤ (if (a.length : Int) < b.length then (b.length : Int) else a.length) ∧ (if (a.length : Int) < b.length then (b.length : Int) else a.length) ≤ 1048576 := by rw [hmax]; omega
  refine With.mk ⟨hM.1, Int.le_refl _, hM.2, by decide⟩ ?_
  intro q
  refine loopS (S := Nat × Nat) (fun s => [(0, .fsl (.int .u64) a), (1, .fsl (.int .u64) b), (2, .int .i64 3), (7, .mref s.2 0 n 1), (8, .int .i64 s.1)]) (fun s => (s.2, woC (ptW (bothW anW a b) s.1)) :: σ) (fun s => s.1 ≤ 64 * n) (fun s => 64 * n - s.1) (0, q) ⟨Nat.zero_le _, ⟨rfl, rfl, rfl, ?_, rfl, trivial⟩, ?_⟩ ?_
  · show AV.mref q 0 (if (a.length : Int) < b.length then (b.length : Int) else a.length).toNat 1 = .mref q 0 n 1
    rw [hmax, Int.toNat_natCast]
  · show (q, repC [.int .u64 0] (if (a.length : Int) < b.length then (b.length : Int) else a.length).toNat) :: σ = (q, woC (ptW (bothW anW a b) 0)) :: σ
    rw [hmax, Int.toNat_natCast, ptW_zero, hT, rep_woC]
  rintro ⟨k, p⟩ g hk0
  have hk : k ≤ 64 * n := hk0
  clear hk0
  have hlen : (ptW (bothW anW a b) k).length = n := by rw [ptW_length, hT]
  refine bcond_dec (fun hlt => ?_) (fun hge => ?_)
  · have hlt : k < 64 * n := by
      have hlt : (k : Int) < IntKind.i64.wrap (64 * (n : Int)) := hlt
      rw [IntKind.wrap_i64] at hlt; omega
    have hs := ptW_step (T := bothW anW a b) (n := k) (by omega)
    have hbk := hbit k hlt
    refine callB [] (aHasB a k _ ha (by omega)) (fun cA => ?_) (fun cA => ?_) <;> refine callB [] (aHasB b k _ hb (by omega)) (fun cB => ?_) (fun cB => ?_) <;> rw [cA, cB] at hbk <;> rw [hbk] at hs
    all_goals first
      | (refine .mk [] _ (aWithB _ k _ _ _ hlen (by omega) (by omega)) ?_
         rintro r σ' ⟨b', rfl, rfl⟩
         refine nextS (k + 1, b') (by show 64 * n - (k + 1) < 64 * n - k; omega) hlt ⟨rfl, rfl, rfl, rfl, inc64 (by omega), trivial⟩ (.drop 1 1 (shed_eq ?_))
         rw [hs.trans (if_pos rfl)]
         rfl)
      | (refine nextS (k + 1, p) (by show 64 * n - (k + 1) < 64 * n - k; omega) hlt ⟨rfl, rfl, rfl, rfl, inc64 (by omega), trivial⟩ (shed_eq ?_)
         rw [hs.trans (if_neg (by decide))]
         rfl)
  · have hge : k = 64 * n := by
      have hge : ¬ (k : Int) < IntKind.i64.wrap (64 * (n : Int)) := hge
      rw [IntKind.wrap_i64] at hge; omega
    subst hge
    rw [← hT, ptW_all hT64]
    exact .frz 0 p 0 _ 1 _ (.int .u64) (bothW anW a b) rfl (by rw [List.drop_zero, ← woC_flat]; exact List.take_of_length_le (by simp [woC]; exact Nat.le_refl _)) ⟨rfl, rfl, by decide⟩ .here (.done ⟨rfl, rfl⟩)
theorem aFitsR (a : List Int) (w : Int) (σ : Hp) (h64 : A64 a) : ACalls Tryz.prog 56 [.fsl (.int .u64) a, .int .i64 w] σ (Ret (.bool (fitsW a w)) σ) := by
  refine okF Tryz.func56 (by kernel_rfl) ?_
  have hsz := sizeW_le w
  have hcw := cutW_le w
  refine callR [] (aSizeR w _) ?_
  refine bcond_split (fun c => ?_) (fun c => ?_)
  · have c : a.length ≠ sizeW w := by have c : (!decide ((a.length : Int) = (sizeW w : Int))) = true := c; simp at c; omega
    have hf : fitsW a w = false := by unfold fitsW; rw [decide_eq_false c]; rfl
    rw [hf]
    exact .done ⟨rfl, rfl⟩
  · have c : a.length = sizeW w := by have c : (!decide ((a.length : Int) = (sizeW w : Int))) = false := c; simp at c; omega
    refine callR [] (aWidthR w _) ?_
    refine loopS (S := Nat) (fun s => [(0, .fsl (.int .u64) a), (5, .int .i64 s)]) (fun _ => σ) (fun s => cutW w ≤ s ∧ s ≤ 64 * a.length ∧ ∀ n, cutW w ≤ n → n < s → hasB a n = false) (fun s => 64 * a.length - s) (cutW w) ⟨⟨Nat.le_refl _, ?_, fun n h1 h2 => by omega⟩, ⟨rfl, rfl, trivial⟩, rfl⟩ ?_
    · rw [c]; unfold sizeW; omega
    intro k g hk0
    obtain ⟨hk1, hk2, hk3⟩ : cutW w ≤ k ∧ k ≤ 64 * a.length ∧ ∀ n, cutW w ≤ n → n < k → hasB a n = false := hk0
    refine bcond_dec (fun hlt => ?_) (fun hge => ?_)
    · have hlt : k < 64 * a.length := by
        have hlt : (k : Int) < IntKind.i64.wrap (64 * (a.length : Int)) := hlt
        rw [IntKind.wrap_i64] at hlt; omega
      refine callB [] (aHasB a k _ h64 (by omega)) (fun cA => ?_) (fun cA => ?_)
      · have hf : fitsW a w = false := Bool.eq_false_iff.2 fun h => by
          have := (fits_none h64 c).1 h k hk1 hlt
          rw [cA] at this; exact absurd this (by decide)
        rw [hf]
        exact .done ⟨rfl, rfl⟩
      · refine nextS (k + 1) (by show 64 * a.length - (k + 1) < 64 * a.length - k; omega) ⟨by omega, by omega, fun n h1 h2 => ?_⟩ ⟨rfl, inc64 (by omega), trivial⟩ (.refl _)
        rcases Nat.lt_or_ge n k with h3 | h3
        · exact hk3 n h1 h3
        · rw [show n = k by omega]; exact cA
    · have hge : k = 64 * a.length := by
        have hge : ¬ (k : Int) < IntKind.i64.wrap (64 * (a.length : Int)) := hge
        rw [IntKind.wrap_i64] at hge; omega
      have hf : fitsW a w = true := (fits_none h64 c).2 fun n h1 h2 => hk3 n h1 (by omega)
      rw [hf]
      exact .done ⟨rfl, rfl⟩
end Go.Proofs.YtljbnigceammdaaGreat
