/-
  Wr: what the claim uses of them.
-/
import Derived.Test.YtljbnigceammdaaGreatDoorBn13
import Derived.Test.YtljbnigceammdaaGreatDoorBn18
namespace Go.Proofs.YtljbnigceammdaaGreatDoor
open Go.RowKit
set_option maxRecDepth 100000
theorem aWsWord (a : List Int) (i : Nat) (σ : Hp) : ACalls Tryz.prog 106 [.fsl (.int .u64) a, .int .i64 i] σ (Ret (.int .u64 (wd a i)) σ) := by
  refine okF Tryz.func106 (by kernel_rfl) ?_
  refine bcond_dec (fun c => ?_) (fun c => ?_)
  · have c : (a.length : Int) ≤ (i : Int) := c
    exact .done ⟨av_int (wd_none (by omega)).symm, rfl⟩
  · have c : i < a.length := by have c : ¬ (a.length : Int) ≤ (i : Int) := c; omega
    refine With.mk rfl (IdxF.mk a[i] (by omega) (get_some c) ?_)
    exact .done ⟨av_int (wd_get a c).symm, rfl⟩
theorem aCut10 (n : Int) (σ : Hp) : ACalls Tryz.prog 74 [.int .i64 n] σ (Ret (.int .i64 (cutW n)) σ) := by
  refine okF Tryz.func74 (by kernel_rfl) ?_
  exact .done ⟨av_int (cutW_int n), rfl⟩
theorem size_int (n : Int) : (IntKind.i64.wrap (IntKind.i64.wrap ((cutW n : Nat) + 64) - 1)).tdiv 64 = ((sizeW n : Nat) : Int) := by
  have := cutW_le n
  rw [IntKind.wrap_i64, IntKind.wrap_i64]
  unfold sizeW
  rw [Int.tdiv_eq_ediv_of_nonneg (by omega)]
  omega
theorem wrap_size (n : Int) : IntKind.i64.wrap ((sizeW n : Nat) : Int) = ((sizeW n : Nat) : Int) := by
  have := sizeW_le n
  rw [IntKind.wrap_i64]; omega
theorem aSize10 (n : Int) (σ : Hp) : ACalls Tryz.prog 73 [.int .i64 n] σ (Ret (.int .i64 (sizeW n)) σ) := by
  refine okF Tryz.func73 (by kernel_rfl) ?_
  refine callR [] (aCut10 n _) ?_
  refine With.mk (by decide) ?_
  exact .done ⟨av_int (by rw [size_int, wrap_size]), rfl⟩
theorem aBothF (g : FuncId) (f : Int → Int → Int) (hg : ∀ (x y : Int) (σ : Hp), ACalls Tryz.prog g [.int .u64 x, .int .u64 y] σ (Ret (.int .u64 (f x y)) σ)) (a b : List Int) (σ : Hp) (ha : a.length ≤ 100000) (hb : b.length ≤ 100000) : ACalls Tryz.prog 78 [.fsl (.int .u64) a, .fsl (.int .u64) b, .fn (.func g) [] []] σ (Ret (.fsl (.int .u64) (bothW f a b)) σ) := by
  refine okF Tryz.func78 (by kernel_rfl) ?_
  obtain ⟨n, hn⟩ : ∃ n, n = max a.length b.length := ⟨_, rfl⟩
  have hmax : (if (a.length : Int) < b.length then (b.length : Int) else a.length) = (n : Int) := by split <;> omega
  have hbl : (bothW f a b).length = n := by rw [bothW_length, hn]
  refine .wrap 7 _ rfl rfl ?_
  refine loopS (S := Nat × AV × Hp) (fun s => [(0, .fsl (.int .u64) a), (1, .fsl (.int .u64) b), (2, .fn (.func g) [] []), (7, .via s.2.1), (13, .int .i64 n), (14, .int .i64 s.1)]) (fun s => s.2.2 ++ σ) (fun s => s.1 ≤ n ∧ Acc 1 s.1 s.2.1 s.2.2 (woC ((bothW f a b).take s.1))) (fun s => n - s.1) (0, .nils, []) ⟨⟨Nat.zero_le _, .nil⟩, ⟨rfl, rfl, rfl, rfl, av_int hmax, rfl, trivial⟩, rfl⟩ ?_
  rintro ⟨k, v, acc⟩ s ⟨hk0, hacc0⟩
  have hk : k ≤ n := hk0
  have hacc : Acc 1 k v acc (woC ((bothW f a b).take k)) := hacc0
  clear hk0 hacc0
  refine bcond_dec (fun hlt => ?_) (fun hge => ?_)
  · have hlt : k < n := by have hlt : (k : Int) < n := hlt; omega
    have he : (bothW f a b)[k]'(by omega) = f (wd a k) (wd b k) := by rw [← wd_get, bothW_wd f a b (by omega)]
    refine callR [] (aWsWord a k _) ?_
    refine callR [] (aWsWord b k _) ?_
    refine callR [] (hg _ _ _) ?_
    intro bl1
    refine append_acc [_] hacc (.mref 0 bl1 0 1 _ rfl (Nat.le_of_ble_eq_true rfl)) rfl (by omega) (by decide) (by decide) (fun v' acc' h' => ?_)
    refine nextS (k + 1, v', acc') (by show n - (k + 1) < n - k; omega) ⟨hlt, ?_⟩ ⟨rfl, rfl, rfl, rfl, rfl, inc64 (by omega), trivial⟩ (.drop 0 1 (shed_eq rfl))
    show Acc 1 (k + 1) v' acc' (woC ((bothW f a b).take (k + 1)))
    rw [List.take_succ_eq_append_getElem (by omega), he, woC, List.map_append]
    exact h'
  · have hge : k = n := by have hge : ¬ (k : Int) < n := hge; omega
    subst hge
    rw [List.take_of_length_le (by omega)] at hacc
    exact fin_acc (s := .int .u64) (l := bothW f a b) [] hacc hbl.symm (by rw [woC_flat]) (by decide) (.done ⟨rfl, rfl⟩)
theorem aUnion1 (x y : Int) (σ : Hp) : ACalls Tryz.prog 79 [.int .u64 x, .int .u64 y] σ (Ret (.int .u64 (orW x y)) σ) := by
  refine okF Tryz.func79 (by kernel_rfl) ?_
  exact .done ⟨rfl, rfl⟩
theorem aMinus1 (x y : Int) (σ : Hp) : ACalls Tryz.prog 175 [.int .u64 x, .int .u64 y] σ (Ret (.int .u64 (anW x y)) σ) := by
  refine okF Tryz.func175 (by kernel_rfl) ?_
  exact .done ⟨rfl, rfl⟩
theorem aUnion (a b : List Int) (σ : Hp) (ha : a.length ≤ 100000) (hb : b.length ≤ 100000) : ACalls Tryz.prog 43 [.fsl (.int .u64) a, .fsl (.int .u64) b] σ (Ret (.fsl (.int .u64) (bothW orW a b)) σ) := by
  refine okF Tryz.func43 (by kernel_rfl) ?_
  refine callR [] (aBothF _ _ aUnion1 a b _ ha hb) ?_
  exact .done ⟨rfl, rfl⟩
theorem aMinus (a b : List Int) (σ : Hp) (ha : a.length ≤ 100000) (hb : b.length ≤ 100000) : ACalls Tryz.prog 160 [.fsl (.int .u64) a, .fsl (.int .u64) b] σ (Ret (.fsl (.int .u64) (bothW anW a b)) σ) := by
  refine okF Tryz.func160 (by kernel_rfl) ?_
  refine callR [] (aBothF _ _ aMinus1 a b _ ha hb) ?_
  exact .done ⟨rfl, rfl⟩
theorem div64 (n : Nat) (h : n ≤ 100000000) : IntKind.i64.wrap ((n : Int).tdiv 64) = ((n / 64 : Nat) : Int) := by
  rw [Int.tdiv_eq_ediv_of_nonneg (by omega), IntKind.wrap_i64]; omega
theorem mod64 (n : Nat) : (n : Int).tmod 64 = ((n % 64 : Nat) : Int) := by
  rw [Int.tmod_eq_emod_of_nonneg (by omega)]; omega
theorem shl64 (k : Nat) (h : k < 64) : IntKind.u64.wrap (1 * 2 ^ min ((k : Nat) : Int).toNat IntKind.u64.bits) = ((2 ^ k : Nat) : Int) := by
  have e : min ((k : Nat) : Int).toNat IntKind.u64.bits = k := by show min k 64 = k; omega
  rw [e, Int.one_mul, show ((2 : Int) ^ k) = ((2 ^ k : Nat) : Int) by rw [Int.natCast_pow]; rfl]
  exact wrap_n (Nat.lt_of_lt_of_le (Nat.pow_lt_pow_right (by decide) h) (Nat.le_refl _))
/-- A row of words, held open: one bit more. -/
theorem put64 {l : List Int} {i : Nat} (h : i < l.length) (x : Int) {z : Int} (hz : z = i) : writeAs ⟨.int .u64, 1, 8, [.int .u64 0]⟩ (woC l) (0 + z.toNat * 1) (.int .u64 x) = some (woC (l.set i x)) := by
  subst hz
  have e : 0 + ((i : Int)).toNat * 1 = i := by omega
  rw [e]
  have h2 : Nat.ble (i + 1) (woC l).length = true := Nat.ble_eq_true_of_le (by simp [woC]; omega)
  show (match Nat.beq 1 1, Nat.ble (i + 1) (woC l).length with | true, true => some (splice (woC l) i [.int .u64 x]) | _, _ => none) = _
  rw [h2]
  show some ((woC l).set i (.int .u64 x)) = _
  simp [woC, List.map_set]
theorem get64 {l : List Int} {i : Nat} (h : i < l.length) {z : Int} (hz : z = i) : readAs ⟨.int .u64, 1, 8, [.int .u64 0]⟩ (woC l) (0 + z.toNat * 1) = some (.int .u64 (wd l i)) := by
  subst hz
  have e : 0 + ((i : Int)).toNat * 1 = i := by omega
  rw [e]
  show (woC l)[i]? = _
  unfold woC wd
  rw [List.getElem?_map, List.getElem?_eq_getElem h]; rfl
theorem full_step (w : Int) {n : Nat} (h : n < cutW w) : ptW (fullW w) (n + 1) = (ptW (fullW w) n).set (n / 64) (orW (wd (ptW (fullW w) n) (n / 64)) ((2 ^ (n % 64) : Nat) : Int)) := by
  have hs : (fullW w).length = sizeW w := fullW_length w
  have hl : n < 64 * (fullW w).length := by rw [hs]; unfold sizeW; omega
  have hb : hasB (fullW w) n = true := by
    unfold hasB
    rw [fullW_wd w (by unfold sizeW; omega), Int.toNat_natCast, Nat.testBit_two_pow_sub_one]
    exact decide_eq_true (by omega)
  rw [ptW_step hl, if_pos hb]
theorem full_cut (w : Int) : ptW (fullW w) (cutW w) = fullW w := by
  refine wd_ext (ptW_length _ _) fun i hi => ?_
  rw [ptW_length] at hi
  rw [ptW_wd _ _ hi]
  rw [fullW_length] at hi
  rw [fullW_wd w hi, Int.toNat_natCast, Nat.mod_eq_of_lt]
  have := Nat.two_pow_pos (min 64 (cutW w - 64 * i))
  omega
theorem aFull (w : Int) (σ : Hp) : ACalls Tryz.prog 155 [.int .i64 w] σ (Ret (.fsl (.int .u64) (fullW w)) σ) := by
  refine okF Tryz.func155 (by kernel_rfl) ?_
  have hsz := sizeW_le w
  have hcw := cutW_le w
  refine callR [] (aSize10 w _) ?_
  refine With.mk ⟨by omega, by omega, by omega, by decide⟩ ?_
  intro q
  refine callR [] (aCut10 w _) ?_
  refine loopS (S := Nat) (fun s => [(3, .mref q 0 (sizeW w) 1), (9, .int .i64 (cutW w)), (10, .int .i64 s)]) (fun s => (q, woC (ptW (fullW w) s)) :: σ) (fun s => s ≤ cutW w) (fun s => cutW w - s) 0 ⟨Nat.zero_le _, ⟨rfl, rfl, rfl, trivial⟩, ?_⟩ ?_
  · show (q, repC [.int .u64 0] (((sizeW w : Nat) : Int)).toNat) :: σ = (q, woC (ptW (fullW w) 0)) :: σ
    rw [ptW_zero, fullW_length, Int.toNat_natCast, rep_woC]
  intro n g hn0
  have hn : n ≤ cutW w := hn0
  clear hn0
  refine bcond_dec (fun hlt => ?_) (fun hge => ?_)
  · have hlt : n < cutW w := by have hlt : (n : Int) < cutW w := hlt; omega
    have hi : n / 64 < (ptW (fullW w) n).length := by rw [ptW_length, fullW_length]; unfold sizeW; omega
    have hi2 : n / 64 < sizeW w := by unfold sizeW; omega
    have hd := div64 n (by omega)
    have hm := mod64 n
    refine .sched [] (upto [] 11 0) (by kernel_rfl) ?_
    refine With.mk (by omega) ?_
    refine With.mk ⟨rfl, by omega, by omega⟩ ?_
    refine LoadAt.mk 0 _ _ rfl (get64 hi hd) ?_
    have e64 := shl64 (n % 64) (by omega)
    rw [← hm] at e64
    refine With.mk (by omega) ?_
    refine With.mk (by omega) ?_
    refine With.mk ⟨rfl, by omega, by omega⟩ ?_
    refine StoreAt.mk 0 _ _ rfl (put64 hi _ hd) ?_
    refine nextS (n + 1) (by show cutW w - (n + 1) < cutW w - n; omega) hlt ⟨rfl, rfl, inc64 (by omega), trivial⟩ (shed_eq ?_)
    rw [full_step w hlt, ← e64]
    rfl
  · have hge : n = cutW w := by have hge : ¬ (n : Int) < cutW w := hge; omega
    subst hge
    rw [full_cut]
    exact .frz 0 q 0 (sizeW w) 1 _ (.int .u64) (fullW w) rfl (by rw [List.drop_zero, ← woC_flat]; exact List.take_of_length_le (by simp [woC, fullW_length])) ⟨fullW_length w, rfl, by decide⟩ .here (.done ⟨rfl, rfl⟩)
/-- How many numbers. -/
def cntW (a : List Int) : Nat := (a.map fun z => popN z.toNat).sum
theorem cntW_le (a : List Int) : cntW a ≤ 64 * a.length := by
  unfold cntW
  induction a with
  | nil => simp
  | cons x a ih => have := popN_le x.toNat; simp only [List.map_cons, List.sum_cons, List.length_cons]; omega
theorem cntW_succ (a : List Int) {k : Nat} (h : k < a.length) : cntW (a.take (k + 1)) = cntW (a.take k) + popN (a[k]).toNat := by
  unfold cntW
  rw [List.take_succ_eq_append_getElem h, List.map_append, List.sum_append]; simp
theorem cntW_zero {a : List Int} (ha : A64 a) : cntW a = 0 ↔ ∀ i, i < a.length → wd a i = 0 := by
  unfold cntW
  rw [List.sum_eq_zero_iff_forall_eq_nat]
  constructor
  · intro h i hi
    have h1 := h _ (List.mem_map.2 ⟨a[i], List.getElem_mem hi, rfl⟩)
    have := popN_zero (lt_w (ha _ (List.getElem_mem hi))) h1
    have hw := toNat_w (ha _ (List.getElem_mem hi))
    rw [wd_get a hi, ← hw, this]; rfl
  · intro h x hx
    obtain ⟨z, hz, rfl⟩ := List.mem_map.1 hx
    obtain ⟨i, hi, rfl⟩ := List.mem_iff_getElem.1 hz
    have := h i hi
    rw [wd_get a hi] at this
    rw [this]; rfl
theorem add64 {a b : Nat} (h : a + b < 1000000000) : IntKind.i64.wrap ((a : Int) + (b : Int)) = ((a + b : Nat) : Int) := by rw [IntKind.wrap_i64]; omega
theorem aLen10 (a : List Int) (σ : Hp) (hl : a.length ≤ 100000) (ha : A64 a) : ACalls Tryz.prog 191 [.fsl (.int .u64) a] σ (Ret (.int .i64 (cntW a)) σ) := by
  refine okF Tryz.func191 (by kernel_rfl) ?_
  refine loopS (S := Nat) (fun s => [(3, .int .i64 (cntW (a.take s))), (6, .fsl (.int .u64) a), (7, .int .i64 a.length), (8, .int .i64 s)]) (fun _ => σ) (fun s => s ≤ a.length) (fun s => a.length - s) 0 ⟨Nat.zero_le _, ⟨rfl, rfl, rfl, rfl, trivial⟩, rfl⟩ ?_
  intro k g hk0
  have hk : k ≤ a.length := hk0
  clear hk0
  refine bcond_dec (fun hlt => ?_) (fun hge => ?_)
  · have hlt : k < a.length := by have hlt : (k : Int) < a.length := hlt; omega
    refine With.mk rfl (IdxF.mk a[k] (by omega) (get_some hlt) ?_)
    refine callR [] (aOnes (ha _ (List.getElem_mem hlt)) _) ?_
    have h1 := cntW_le (a.take (k + 1))
    have h2 := cntW_succ a hlt
    rw [List.length_take] at h1
    refine nextS (k + 1) (by show a.length - (k + 1) < a.length - k; omega) hlt ⟨av_int (by rw [h2]; exact add64 (by omega)), rfl, rfl, inc64 (by omega), trivial⟩ (.refl _)
  · have hge : k = a.length := by have hge : ¬ (k : Int) < a.length := hge; omega
    subst hge
    rw [List.take_length]
    exact .done ⟨rfl, rfl⟩
theorem minus_64 (a b : List Int) : A64 (bothW anW a b) := A64_map fun _ _ => anW_64 _ _
theorem aWithin (a b : List Int) (σ : Hp) (ha : a.length ≤ 10000) (hb : b.length ≤ 10000) : ACalls Tryz.prog 182 [.fsl (.int .u64) a, .fsl (.int .u64) b] σ (Ret (.bool (decide (cntW (bothW anW a b) = 0))) σ) := by
  refine okF Tryz.func182 (by kernel_rfl) ?_
  refine callR [] (aMinus a b _ (by omega) (by omega)) ?_
  refine callR [] (aLen10 _ _ (by rw [bothW_length]; omega) (minus_64 a b)) ?_
  refine bcond_dec (fun c => ?_) (fun c => ?_)
  · have c : cntW (bothW anW a b) = 0 := by have c : ((cntW (bothW anW a b) : Nat) : Int) = 0 := c; omega
    exact .done ⟨av_bool (decide_eq_true c).symm, rfl⟩
  · have c : cntW (bothW anW a b) ≠ 0 := by have c : ¬ ((cntW (bothW anW a b) : Nat) : Int) = 0 := c; omega
    exact .done ⟨av_bool (decide_eq_false c).symm, rfl⟩
theorem within_fits {a : List Int} {w : Int} (h64 : A64 a) (hl : a.length = sizeW w) : decide (cntW (bothW anW a (fullW w)) = 0) = fitsW a w := by
  rw [Bool.eq_iff_iff, decide_eq_true_eq, cntW_zero (minus_64 _ _), fits_over h64 hl, bothW_length, fullW_length, hl, Nat.max_self]
  refine ⟨fun h i hi => ?_, fun h i hi => ?_⟩
  · rw [← bothW_wd anW a (fullW w) (by rw [hl]; omega)]; exact h i hi
  · rw [bothW_wd anW a (fullW w) (by rw [hl]; omega)]; exact h i hi
theorem aFits10 (a : List Int) (w : Int) (σ : Hp) (h64 : A64 a) (ha : a.length ≤ 10000) : ACalls Tryz.prog 167 [.fsl (.int .u64) a, .int .i64 w] σ (Ret (.bool (fitsW a w)) σ) := by
  refine okF Tryz.func167 (by kernel_rfl) ?_
  refine callR [] (aSize10 w _) ?_
  have hsz := sizeW_le w
  refine bcond_dec (fun c => ?_) (fun c => ?_)
  · have c : a.length = sizeW w := by have c : (a.length : Int) = sizeW w := c; omega
    refine callR [] (aFull w _) ?_
    refine callR [] (aWithin a _ _ ha (by rw [fullW_length]; omega)) ?_
    exact .done ⟨av_bool (within_fits h64 c), rfl⟩
  · have c : a.length ≠ sizeW w := by have c : ¬ (a.length : Int) = sizeW w := c; omega
    have hf : fitsW a w = false := by unfold fitsW; rw [decide_eq_false c]; rfl
    rw [hf]
    exact .done ⟨rfl, rfl⟩
set_option maxRecDepth 100000
end Go.Proofs.YtljbnigceammdaaGreatDoor
