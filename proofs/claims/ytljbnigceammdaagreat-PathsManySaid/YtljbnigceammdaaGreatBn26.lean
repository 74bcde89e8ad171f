/-
  L12: what the claim uses of them.
-/
import Derived.Test.YtljbnigceammdaaGreatBn19
import Derived.Test.YtljbnigceammdaaGreatBn22
namespace Go.Proofs.YtljbnigceammdaaGreat
open Go.RowKit
set_option maxRecDepth 100000
def is12 (what width : Int) : Bool := decide (1 ≤ what) && decide (what ≤ 3) && decide (0 ≤ width) && decide (width ≤ 1024)
theorem aRIs (what width : Int) (σ : Hp) : ACalls Tryz.prog 25 [.int .i64 what, .int .i64 width] σ (Ret (.bool (is12 what width)) σ) := by
  refine okF Tryz.func25 (by kernel_rfl) ?_
  refine bcond_dec (fun c1 => ?_) (fun c1 => ?_)
  · have c1 : 1 ≤ what := c1
    refine bcond_dec (fun c2 => ?_) (fun c2 => ?_)
    · have c2 : what ≤ 3 := c2
      refine bcond_dec (fun c3 => ?_) (fun c3 => ?_)
      · have c3 : 0 ≤ width := c3
        refine bcond_dec (fun c4 => ?_) (fun c4 => ?_)
        · have c4 : width ≤ 1024 := c4
          exact .done ⟨av_bool (by first | (simp_all [is12]; done) | (simp_all [is12]; intros; omega)), rfl⟩
        · have c4 : ¬ (width ≤ 1024) := c4
          exact .done ⟨av_bool (by first | (simp_all [is12]; done) | (simp_all [is12]; intros; omega)), rfl⟩
      · have c3 : ¬ (0 ≤ width) := c3
        exact .done ⟨av_bool (by first | (simp_all [is12]; done) | (simp_all [is12]; intros; omega)), rfl⟩
    · have c2 : ¬ (what ≤ 3) := c2
      exact .done ⟨av_bool (by first | (simp_all [is12]; done) | (simp_all [is12]; intros; omega)), rfl⟩
  · have c1 : ¬ (1 ≤ what) := c1
    exact .done ⟨av_bool (by first | (simp_all [is12]; done) | (simp_all [is12]; intros; omega)), rfl⟩
/-- Values put together. -/
def join12 (what : Int) (xs ys : List Int) : List Int := List.zipWith (wordW what) xs ys
theorem join12_length (what : Int) (xs ys : List Int) (h : xs.length = ys.length) : (join12 what xs ys).length = xs.length := by simp [join12, h]
theorem aRJoin12 (what : Int) (xs ys : List Int) (σ : Hp) (hx : A64 xs) (hy : A64 ys) (h : xs.length = ys.length) (hl : xs.length ≤ 1000000) : ACalls Tryz.prog 31 [.int .i64 what, .fsl (.int .u64) xs, .fsl (.int .u64) ys] σ (Ret (.fsl (.int .u64) (join12 what xs ys)) σ) := by
  refine okF Tryz.func31 (by kernel_rfl) ?_
  refine .wrap 7 _ rfl rfl ?_
  refine loopS (S := Nat × AV × Hp) (fun s => [(0, .int .i64 what), (1, .fsl (.int .u64) xs), (2, .fsl (.int .u64) ys), (7, .via s.2.1), (9, .fsl (.int .u64) xs), (10, .int .i64 xs.length), (11, .int .i64 s.1)]) (fun s => s.2.2 ++ σ) (fun s => s.1 ≤ xs.length ∧ Acc 1 s.1 s.2.1 s.2.2 (woC ((join12 what xs ys).take s.1))) (fun s => xs.length - s.1) (0, .nils, []) ⟨⟨Nat.zero_le _, .nil⟩, ⟨rfl, rfl, rfl, rfl, rfl, rfl, rfl, trivial⟩, rfl⟩ ?_
  rintro ⟨k, v, acc⟩ g ⟨hk0, hacc0⟩
  have hk : k ≤ xs.length := hk0
  have hacc : Acc 1 k v acc (woC ((join12 what xs ys).take k)) := hacc0
  clear hk0 hacc0
  have hjl := join12_length what xs ys h
  refine bcond_dec (fun hlt => ?_) (fun hge => ?_)
  · have hlt : k < xs.length := by have hlt : (k : Int) < xs.length := hlt; omega
    have hlt2 : k < ys.length := by omega
    have hz := hx _ (List.getElem_mem hlt)
    have hz2 := hy _ (List.getElem_mem hlt2)
    have hje : (join12 what xs ys)[k]'(by omega) = wordW what xs[k] ys[k] := by simp [join12]
    refine .sched [10] (upto [10] 14 0) (by kernel_rfl) ?_
    refine With.mk rfl ?_
    refine IdxF.mk xs[k] (by omega) (get_some hlt) ?_
    refine With.mk rfl ?_
    refine IdxF.mk ys[k] (by omega) (get_some hlt2) ?_
    refine callQ [] (aRWord what xs[k] ys[k] _ hz.1 hz2.1 hz.2 hz2.2) ?_
    intro bl1
    refine append_acc [_] hacc (.mref 0 bl1 0 1 _ rfl (Nat.le_of_ble_eq_true rfl)) rfl (by omega) (by decide) (by decide) (fun v' acc' h' => ?_)
    refine nextS (k + 1, v', acc') (by show xs.length - (k + 1) < xs.length - k; omega) ⟨hlt, ?_⟩ ⟨rfl, rfl, rfl, rfl, rfl, rfl, inc64 (by omega), trivial⟩ (.drop 0 1 (shed_eq rfl))
    show Acc 1 (k + 1) v' acc' (woC ((join12 what xs ys).take (k + 1)))
    rw [List.take_succ_eq_append_getElem (by omega), hje, woC, List.map_append]
    exact h'
  · have hge : k = xs.length := by have hge : ¬ (k : Int) < xs.length := hge; omega
    subst hge
    rw [List.take_of_length_le (Nat.le_of_eq hjl)] at hacc
    exact fin_acc (s := .int .u64) (l := join12 what xs ys) [] hacc hjl.symm (by rw [woC_flat]) (by decide) (.done ⟨rfl, rfl⟩)
end Go.Proofs.YtljbnigceammdaaGreat
