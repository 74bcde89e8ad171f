/-
  LaysF; Zz: what the claim uses of them.
-/
import Derived.Shelf.SlSortCmp.NoneTotal
import Derived.Test.YtljbnigceammdaaGreatDoorBn12
import Derived.Test.YtljbnigceammdaaGreatDoorBn35
namespace Go.Proofs.YtljbnigceammdaaGreatDoor
open Go.Shelf
def laysF6_ren : Go.Shelf.Ren := ⟨fun | 6 => 67 | 15 => 86 | 14 => 97 | 28 => 116 | 29 => 117 | 20 => 124 | 21 => 125 | 22 => 126 | 23 => 127 | 24 => 128 | 25 => 129 | 26 => 130 | 27 => 131 | 46 => 150 | 47 => 142 | 48 => 143 | 49 => 151 | 50 => 152 | 57 => 166 | n => n, fun | 22 => 22 | 24 => 67 | 25 => 95 | 3 => 3 | 39 => 118 | 0 => 0 | 53 => 140 | 55 => 99 | 4 => 4 | 46 => 133 | 45 => 132 | 50 => 137 | 5 => 5 | 9 => 9 | 66 => 159 | 70 => 163 | 76 => 183 | 77 => 184 | n => n, fun | n => n⟩
theorem laysF6 : Go.Proofs.SlLaysF0.n6 Tryz.prog laysF6_ren := {
  mixed := by kernel_rfl
  f6 := ⟨"slices.SortFunc[[]sough/api.Edge,sough/api.Edge]", by decide, Tryz.func67.trans (congrArg some (by kernel_rfl))⟩
  f14 := ⟨"slices.pdqsortCmpFunc[sough/api.Edge]", by decide, Tryz.func97.trans (congrArg some (by kernel_rfl))⟩
  f15 := Tryz.func86.trans (congrArg some (by kernel_rfl))
  f20 := ⟨"slices.insertionSortCmpFunc[sough/api.Edge]", by decide, Tryz.func124.trans (congrArg some (by kernel_rfl))⟩
  f21 := ⟨"slices.heapSortCmpFunc[sough/api.Edge]", by decide, Tryz.func125.trans (congrArg some (by kernel_rfl))⟩
  f22 := ⟨"slices.breakPatternsCmpFunc[sough/api.Edge]", by decide, Tryz.func126.trans (congrArg some (by kernel_rfl))⟩
  f23 := ⟨"slices.choosePivotCmpFunc[sough/api.Edge]", by decide, Tryz.func127.trans (congrArg some (by kernel_rfl))⟩
  f24 := ⟨"slices.reverseRangeCmpFunc[sough/api.Edge]", by decide, Tryz.func128.trans (congrArg some (by kernel_rfl))⟩
  f25 := ⟨"slices.partialInsertionSortCmpFunc[sough/api.Edge]", by decide, Tryz.func129.trans (congrArg some (by kernel_rfl))⟩
  f26 := ⟨"slices.partitionEqualCmpFunc[sough/api.Edge]", by decide, Tryz.func130.trans (congrArg some (by kernel_rfl))⟩
  f27 := ⟨"slices.partitionCmpFunc[sough/api.Edge]", by decide, Tryz.func131.trans (congrArg some (by kernel_rfl))⟩
  f28 := Tryz.func116.trans (congrArg some (by kernel_rfl))
  f29 := Tryz.func117.trans (congrArg some (by kernel_rfl))
  f46 := ⟨"slices.siftDownCmpFunc[sough/api.Edge]", by decide, Tryz.func150.trans (congrArg some (by kernel_rfl))⟩
  f47 := Tryz.func142.trans (congrArg some (by kernel_rfl))
  f48 := Tryz.func143.trans (congrArg some (by kernel_rfl))
  f49 := ⟨"slices.medianAdjacentCmpFunc[sough/api.Edge]", by decide, Tryz.func151.trans (congrArg some (by kernel_rfl))⟩
  f50 := ⟨"slices.medianCmpFunc[sough/api.Edge]", by decide, Tryz.func152.trans (congrArg some (by kernel_rfl))⟩
  f57 := ⟨"slices.order2CmpFunc[sough/api.Edge]", by decide, Tryz.func166.trans (congrArg some (by kernel_rfl))⟩
  t0 := Tryz.underlying0
  a0 := Tryz.isAgg0
  z0 := Tryz.sizeOf0
  v0 := Tryz.zeroValue0
  t3 := Tryz.underlying3
  a3 := Tryz.isAgg3
  z3 := Tryz.sizeOf3
  v3 := Tryz.zeroValue3
  t4 := Tryz.underlying4
  a4 := Tryz.isAgg4
  z4 := Tryz.sizeOf4
  v4 := Tryz.zeroValue4
  t5 := Tryz.underlying5
  a5 := Tryz.isAgg5
  z5 := Tryz.sizeOf5
  v5 := Tryz.zeroValue5
  t9 := Tryz.underlying9
  a9 := Tryz.isAgg9
  z9 := Tryz.sizeOf9
  v9 := Tryz.zeroValue9
  t22 := Tryz.underlying22
  a22 := Tryz.isAgg22
  z22 := Tryz.sizeOf22
  v22 := Tryz.zeroValue22
  t25 := Tryz.underlying95
  a25 := Tryz.isAgg95
  z25 := Tryz.sizeOf95
  v25 := Tryz.zeroValue95
  t39 := Tryz.underlying118
  a39 := Tryz.isAgg118
  z39 := Tryz.sizeOf118
  v39 := Tryz.zeroValue118
  t45 := Tryz.underlying132
  a45 := Tryz.isAgg132
  z45 := Tryz.sizeOf132
  v45 := Tryz.zeroValue132
  t46 := Tryz.underlying133
  a46 := Tryz.isAgg133
  z46 := Tryz.sizeOf133
  v46 := Tryz.zeroValue133
  t50 := Tryz.underlying137
  a50 := Tryz.isAgg137
  z50 := Tryz.sizeOf137
  v50 := Tryz.zeroValue137
  t53 := Tryz.underlying140
  a53 := Tryz.isAgg140
  z53 := Tryz.sizeOf140
  v53 := Tryz.zeroValue140
  t55 := Tryz.underlying99
  a55 := Tryz.isAgg99
  z55 := Tryz.sizeOf99
  v55 := Tryz.zeroValue99
  t66 := Tryz.underlying159
  a66 := Tryz.isAgg159
  z66 := Tryz.sizeOf159
  v66 := Tryz.zeroValue159
  t70 := Tryz.underlying163
  a70 := Tryz.isAgg163
  z70 := Tryz.sizeOf163
  v70 := Tryz.zeroValue163
  t76 := Tryz.underlying183
  a76 := Tryz.isAgg183
  z76 := Tryz.sizeOf183
  v76 := Tryz.zeroValue183
  t77 := Tryz.underlying184
  a77 := Tryz.isAgg184
  z77 := Tryz.sizeOf184
  v77 := Tryz.zeroValue184 }
end Go.Proofs.YtljbnigceammdaaGreatDoor
namespace Go.Proofs.YtljbnigceammdaaGreatDoor
open Go.RowKit
set_option maxRecDepth 100000
abbrev PrT : Type := Int × Int × Unit
def cmpP (x y : PrT) : Int := cmpE x.1 x.2.1 y.1 y.2.1
theorem vrel_pr {F : Nat → Prop} {w : World} (x : PrT) : VRel F w (.agg [.int .i64 x.1, .int .i64 x.2.1]) (.agg (prV x).toArray) := by
  refine .agg _ _ rfl (fun i a h => ?_) (fun i a h => ?_)
  · match i, h with
    | 0, h => cases h; rfl
    | 1, h => cases h; rfl
  · match i, h with
    | 0, h => cases h; exact .int _ _
    | 1, h => cases h; exact .int _ _
theorem cmp_lays (blk off size : Nat) (w : World) : CmpLays Tryz.prog 68 #[] prV 2 cmpP blk off size w := fun m os dk _ x y => by
  have h := calls_grow (fun σ => aCmpE x.1 x.2.1 y.1 y.2.1 σ) (w := sortWorldK prV 2 w blk off m dk os) (vs := #[.agg (prV x).toArray, .agg (prV y).toArray]) ⟨rfl, fun i a h => by
    match i, h with
    | 0, h => cases h; exact vrel_pr x
    | 1, h => cases h; exact vrel_pr y⟩
  exact h
theorem lt_cmpP (x y : PrT) : ltOf cmpP x y = decide (x.1 < y.1 ∨ (x.1 = y.1 ∧ x.2.1 < y.2.1)) := by
  unfold ltOf
  rw [decide_eq_decide]
  unfold cmpP cmpE or2 cmpI
  split <;> split at * <;> (try split at *) <;> (try split) <;> omega
theorem swoP : Go.Sort.SWO (ltOf cmpP) where
  irrefl x := by rw [lt_cmpP]; simp
  trans x y z h1 h2 := by rw [lt_cmpP] at *; simp only [decide_eq_true_eq] at *; omega
  ntrans x y z h1 h2 := by rw [lt_cmpP] at *; simp only [decide_eq_false_iff_not] at *; omega
theorem totP (x y : PrT) (h1 : ltOf cmpP x y = false) (h2 : ltOf cmpP y x = false) : x = y := by
  rw [lt_cmpP] at *
  simp only [decide_eq_false_iff_not] at *
  obtain ⟨a, b, _⟩ := x
  obtain ⟨c, d, _⟩ := y
  have e1 : a = c := by simp only at h1 h2; omega
  have e2 : b = d := by simp only at h1 h2; omega
  rw [e1, e2]
def sortP (l : List PrT) : List PrT := l.mergeSort fun x y => !(ltOf cmpP) y x
theorem sortP_length (l : List PrT) : (sortP l).length = l.length := List.length_mergeSort ..
theorem enters_sortP : Enters Tryz.prog 67 := enters_of Tryz.func67 (by kernel_rfl)
theorem enters_cmpP : Enters Tryz.prog 68 := enters_of Tryz.func68 (by kernel_rfl)
theorem two_args {vs : Array Value} (h : 2 = vs.size) : ∃ v u, vs = #[v, u] := by
  refine ⟨vs.getD 0 undef, vs.getD 1 undef, Array.ext ?_ fun i h2 h3 => ?_⟩
  · simp [← h]
  · have : i = 0 ∨ i = 1 := by omega
    rcases this with rfl | rfl <;> simp [Array.getD, h2]
theorem fnv {F : Nat → Prop} {w : World} {f : Fn} {v : Value} (h : VRel F w (.fn f [] []) v) : v = .func f #[] #[] := by
  cases h with
  | fn _ _ _ v1 v2 hs1 hs2 _ _ =>
    rw [Array.eq_empty_of_size_eq_zero hs1.symm, Array.eq_empty_of_size_eq_zero hs2.symm]
theorem prV_one (x : PrT) : ∀ v ∈ prV x, v.oneCell' = true := by
  intro v hv
  simp only [prV, List.mem_cons, List.not_mem_nil, or_false] at hv
  rcases hv with rfl | rfl <;> rfl
theorem aSortP (b : Nat) (L : List PrT) (n : Nat) (σ : Hp) (hz : L.length = n) (hl : n ≤ 1000000) : ACalls Tryz.prog 67 [.mref b 0 n 2, .fn (.func 68) [] []] ((b, prC L) :: σ) (Ret (.tup []) ((b, prC (sortP L)) :: σ)) := by
  subst hz
  refine ⟨enters_sortP, fun F w vs hvs hσ => ?_⟩
  obtain ⟨v, u, rfl⟩ := two_args hvs.1
  have hv : VRel F w (.mref b 0 L.length 2) v := hvs.2 0 _ rfl
  obtain rfl := fnv (show VRel F w (.fn (.func 68) [] []) u from hvs.2 1 _ rfl)
  obtain ⟨a, cap, rfl, c, T, fz, m1, m2, m3, m4⟩ := hv.mrefv
  rcases m4 with ⟨rfl, _⟩ | ⟨_, _, h0, _⟩
  · obtain ⟨h1, h2⟩ := holdsV (d := Go.Sort.flatK prV 2 L.toArray) hσ (prC_nm L) (by rw [Go.Sort.size_flatK, prC_length]; rfl) (fun i x hx v hv => by
      obtain ⟨z, rfl, hz⟩ := pr_flat L i x hx
      rw [hz]; exact hv.intv)
    have h : Calls Tryz.prog 67 #[.slice (some ⟨b, 0, none⟩) L.length cap, .func (.func 68) #[] #[]] w fun e w' => e = .returned (.tuple #[]) ∧ ∃ n os, w' = sortWorldK prV 2 w b 0 n (sortP L).toArray os := AnyQ.slices_SortFunc_total laysF6 2 Tryz.isAgg67 Tryz.sizeOf67 prV (fun _ => rfl) prV_one cmpP swoP 68 #[] b 0 cap L.toArray w enters_cmpP (cmp_lays b 0 L.length w) h1 h2 (by show L.length < _; omega) totP
    refine h.mono ?_
    rintro e w' ⟨rfl, n, os, rfl⟩
    obtain ⟨k1, k2⟩ := put_relV (n := n) (cs' := prC (sortP L)) (d := Go.Sort.flatK prV 2 (sortP L).toArray) hσ (prC_nm L) (by rw [prC_length, prC_length, sortP_length]) (by rw [Go.Sort.size_flatK, prC_length]; rfl) (fun i x hx => by
      obtain ⟨z, rfl, hz⟩ := pr_flat (sortP L) i x hx
      rw [hz]; exact ⟨rfl, .int _ _⟩) os
    exact ⟨.tup [], .tuple #[], _, F, rfl, k1, k2, .tup [] #[] rfl fun i x h => by simp at h, rfl, rfl⟩
  · have hz : L = [] := List.length_eq_zero_iff.1 h0
    subst hz
    have h : Calls Tryz.prog 67 #[.slice (some a) 0 cap, .func (.func 68) #[] #[]] w fun e w' => e = .returned (.tuple #[]) ∧ w' = w := AnyF.slices_SortFunc_none laysF6 (some a) cap _ w
    have he : sortP [] = [] := List.length_eq_zero_iff.1 (sortP_length [])
    rw [he]
    refine h.mono ?_
    rintro e w' ⟨rfl, rfl⟩
    exact ⟨.tup [], .tuple #[], _, F, rfl, .refl _ _, hσ, .tup [] #[] rfl fun i x h => by simp at h, rfl, rfl⟩
end Go.Proofs.YtljbnigceammdaaGreatDoor
