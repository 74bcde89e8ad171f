/-
  LaysF; Zz: what the claim uses of them.
-/
import Derived.Shelf.SlSortCmp.NoneTotal
import Derived.Test.YtljbnigceammdaaGreatBn13
import Derived.Test.YtljbnigceammdaaGreatBn14
namespace Go.Proofs.YtljbnigceammdaaGreat
open Go.Shelf
def laysF6_ren : Go.Shelf.Ren := ⟨fun | 6 => 84 | 15 => 123 | 14 => 122 | 28 => 147 | 29 => 148 | 20 => 139 | 21 => 140 | 22 => 141 | 23 => 142 | 24 => 143 | 25 => 144 | 26 => 145 | 27 => 146 | 46 => 167 | 47 => 168 | 48 => 169 | 49 => 170 | 50 => 171 | 57 => 178 | n => n, fun | 22 => 25 | 24 => 34 | 25 => 114 | 3 => 3 | 39 => 109 | 0 => 0 | 53 => 135 | 55 => 23 | 4 => 4 | 46 => 155 | 45 => 154 | 50 => 159 | 5 => 5 | 9 => 9 | 66 => 172 | 70 => 176 | 76 => 184 | 77 => 185 | n => n, fun | n => n⟩
theorem laysF6 : Go.Proofs.SlLaysF0.n6 Tryz.prog laysF6_ren := {
  mixed := by kernel_rfl
  f6 := ⟨"slices.SortFunc[[]sough/api.Edge,sough/api.Edge]", by decide, Tryz.func84.trans (congrArg some (by kernel_rfl))⟩
  f14 := ⟨"slices.pdqsortCmpFunc[sough/api.Edge]", by decide, Tryz.func122.trans (congrArg some (by kernel_rfl))⟩
  f15 := Tryz.func123.trans (congrArg some (by kernel_rfl))
  f20 := ⟨"slices.insertionSortCmpFunc[sough/api.Edge]", by decide, Tryz.func139.trans (congrArg some (by kernel_rfl))⟩
  f21 := ⟨"slices.heapSortCmpFunc[sough/api.Edge]", by decide, Tryz.func140.trans (congrArg some (by kernel_rfl))⟩
  f22 := ⟨"slices.breakPatternsCmpFunc[sough/api.Edge]", by decide, Tryz.func141.trans (congrArg some (by kernel_rfl))⟩
  f23 := ⟨"slices.choosePivotCmpFunc[sough/api.Edge]", by decide, Tryz.func142.trans (congrArg some (by kernel_rfl))⟩
  f24 := ⟨"slices.reverseRangeCmpFunc[sough/api.Edge]", by decide, Tryz.func143.trans (congrArg some (by kernel_rfl))⟩
  f25 := ⟨"slices.partialInsertionSortCmpFunc[sough/api.Edge]", by decide, Tryz.func144.trans (congrArg some (by kernel_rfl))⟩
  f26 := ⟨"slices.partitionEqualCmpFunc[sough/api.Edge]", by decide, Tryz.func145.trans (congrArg some (by kernel_rfl))⟩
  f27 := ⟨"slices.partitionCmpFunc[sough/api.Edge]", by decide, Tryz.func146.trans (congrArg some (by kernel_rfl))⟩
  f28 := Tryz.func147.trans (congrArg some (by kernel_rfl))
  f29 := Tryz.func148.trans (congrArg some (by kernel_rfl))
  f46 := ⟨"slices.siftDownCmpFunc[sough/api.Edge]", by decide, Tryz.func167.trans (congrArg some (by kernel_rfl))⟩
  f47 := Tryz.func168.trans (congrArg some (by kernel_rfl))
  f48 := Tryz.func169.trans (congrArg some (by kernel_rfl))
  f49 := ⟨"slices.medianAdjacentCmpFunc[sough/api.Edge]", by decide, Tryz.func170.trans (congrArg some (by kernel_rfl))⟩
  f50 := ⟨"slices.medianCmpFunc[sough/api.Edge]", by decide, Tryz.func171.trans (congrArg some (by kernel_rfl))⟩
  f57 := ⟨"slices.order2CmpFunc[sough/api.Edge]", by decide, Tryz.func178.trans (congrArg some (by kernel_rfl))⟩
  t0 := Tryz.underlying0
  a0 := Tryz.isAgg0
  z0 := Tryz.sizeOf0
  v0 := Tryz.zeroValue0
  t3 := Tryz.underlying3
  a3 := Tryz.isAgg3
  z3 := Tryz.sizeOf3
  v3 := Tryz.zeroValue3
  t4 := Tryz.underlying4
  a4 := Tryz.isAgg4
  z4 := Tryz.sizeOf4
  v4 := Tryz.zeroValue4
  t5 := Tryz.underlying5
  a5 := Tryz.isAgg5
  z5 := Tryz.sizeOf5
  v5 := Tryz.zeroValue5
  t9 := Tryz.underlying9
  a9 := Tryz.isAgg9
  z9 := Tryz.sizeOf9
  v9 := Tryz.zeroValue9
  t22 := Tryz.underlying25
  a22 := Tryz.isAgg25
  z22 := Tryz.sizeOf25
  v22 := Tryz.zeroValue25
  t25 := Tryz.underlying114
  a25 := Tryz.isAgg114
  z25 := Tryz.sizeOf114
  v25 := Tryz.zeroValue114
  t39 := Tryz.underlying109
  a39 := Tryz.isAgg109
  z39 := Tryz.sizeOf109
  v39 := Tryz.zeroValue109
  t45 := Tryz.underlying154
  a45 := Tryz.isAgg154
  z45 := Tryz.sizeOf154
  v45 := Tryz.zeroValue154
  t46 := Tryz.underlying155
  a46 := Tryz.isAgg155
  z46 := Tryz.sizeOf155
  v46 := Tryz.zeroValue155
  t50 := Tryz.underlying159
  a50 := Tryz.isAgg159
  z50 := Tryz.sizeOf159
  v50 := Tryz.zeroValue159
  t53 := Tryz.underlying135
  a53 := Tryz.isAgg135
  z53 := Tryz.sizeOf135
  v53 := Tryz.zeroValue135
  t55 := Tryz.underlying23
  a55 := Tryz.isAgg23
  z55 := Tryz.sizeOf23
  v55 := Tryz.zeroValue23
  t66 := Tryz.underlying172
  a66 := Tryz.isAgg172
  z66 := Tryz.sizeOf172
  v66 := Tryz.zeroValue172
  t70 := Tryz.underlying176
  a70 := Tryz.isAgg176
  z70 := Tryz.sizeOf176
  v70 := Tryz.zeroValue176
  t76 := Tryz.underlying184
  a76 := Tryz.isAgg184
  z76 := Tryz.sizeOf184
  v76 := Tryz.zeroValue184
  t77 := Tryz.underlying185
  a77 := Tryz.isAgg185
  z77 := Tryz.sizeOf185
  v77 := Tryz.zeroValue185 }
end Go.Proofs.YtljbnigceammdaaGreat
namespace Go.Proofs.YtljbnigceammdaaGreat
open Go.RowKit
set_option maxRecDepth 100000
abbrev PrT : Type := Int × Int × Unit
def cmpP (x y : PrT) : Int := cmpE x.1 x.2.1 y.1 y.2.1
theorem vrel_pr {F : Nat → Prop} {w : World} (x : PrT) : VRel F w (.agg [.int .i64 x.1, .int .i64 x.2.1]) (.agg (prV x).toArray) := by
  refine .agg _ _ rfl (fun i a h => ?_) (fun i a h => ?_)
  · match i, h with
    | 0, h => cases h; rfl
    | 1, h => cases h; rfl
  · match i, h with
    | 0, h => cases h; exact .int _ _
    | 1, h => cases h; exact .int _ _
theorem cmp_lays (blk off size : Nat) (w : World) : CmpLays Tryz.prog 85 #[] prV 2 cmpP blk off size w := fun m os dk _ x y => by
  have h := calls_grow (fun σ => aCmpE x.1 x.2.1 y.1 y.2.1 σ) (w := sortWorldK prV 2 w blk off m dk os) (vs := #[.agg (prV x).toArray, .agg (prV y).toArray]) ⟨rfl, fun i a h => by
    match i, h with
    | 0, h => cases h; exact vrel_pr x
    | 1, h => cases h; exact vrel_pr y⟩
  exact h
theorem lt_cmpP (x y : PrT) : ltOf cmpP x y = decide (x.1 < y.1 ∨ (x.1 = y.1 ∧ x.2.1 < y.2.1)) := by
  unfold ltOf
  rw [decide_eq_decide]
  unfold cmpP cmpE or2 cmpI
  split <;> split at * <;> (try split at *) <;> (try split) <;> omega
theorem swoP : Go.Sort.SWO (ltOf cmpP) where
  irrefl x := by rw [lt_cmpP]; simp
  trans x y z h1 h2 := by rw [lt_cmpP] at *; simp only [decide_eq_true_eq] at *; omega
  ntrans x y z h1 h2 := by rw [lt_cmpP] at *; simp only [decide_eq_false_iff_not] at *; omega
theorem totP (x y : PrT) (h1 : ltOf cmpP x y = false) (h2 : ltOf cmpP y x = false) : x = y := by
  rw [lt_cmpP] at *
  simp only [decide_eq_false_iff_not] at *
  obtain ⟨a, b, _⟩ := x
  obtain ⟨c, d, _⟩ := y
  have e1 : a = c := by simp only at h1 h2; omega
  have e2 : b = d := by simp only at h1 h2; omega
  rw [e1, e2]
def sortP (l : List PrT) : List PrT := l.mergeSort fun x y => !(ltOf cmpP) y x
theorem sortP_length (l : List PrT) : (sortP l).length = l.length := List.length_mergeSort ..
theorem enters_sortP : Enters Tryz.prog 84 := enters_of Tryz.func84 (by kernel_rfl)
theorem enters_cmpP : Enters Tryz.prog 85 := enters_of Tryz.func85 (by kernel_rfl)
theorem two_args {vs : Array Value} (h : 2 = vs.size) : ∃ v u, vs = #[v, u] := by
  refine ⟨vs.getD 0 undef, vs.getD 1 undef, Array.ext ?_ fun i h2 h3 => ?_⟩
  · simp [← h]
  · have : i = 0 ∨ i = 1 := by omega
    rcases this with rfl | rfl <;> simp [Array.getD, h2]
theorem fnv {F : Nat → Prop} {w : World} {f : Fn} {v : Value} (h : VRel F w (.fn f [] []) v) : v = .func f #[] #[] := by
  cases h with
  | fn _ _ _ v1 v2 hs1 hs2 _ _ =>
    rw [Array.eq_empty_of_size_eq_zero hs1.symm, Array.eq_empty_of_size_eq_zero hs2.symm]
theorem prV_one (x : PrT) : ∀ v ∈ prV x, v.oneCell' = true := by
  intro v hv
  simp only [prV, List.mem_cons, List.not_mem_nil, or_false] at hv
  rcases hv with rfl | rfl <;> rfl
theorem aSortP (b : Nat) (L : List PrT) (n : Nat) (σ : Hp) (hz : L.length = n) (hl : n ≤ 1000000) : ACalls Tryz.prog 84 [.mref b 0 n 2, .fn (.func 85) [] []] ((b, prC L) :: σ) (Ret (.tup []) ((b, prC (sortP L)) :: σ)) := by
  subst hz
  refine ⟨enters_sortP, fun F w vs hvs hσ => ?_⟩
  obtain ⟨v, u, rfl⟩ := two_args hvs.1
  have hv : VRel F w (.mref b 0 L.length 2) v := hvs.2 0 _ rfl
  obtain rfl := fnv (show VRel F w (.fn (.func 85) [] []) u from hvs.2 1 _ rfl)
  obtain ⟨a, cap, rfl, c, T, fz, m1, m2, m3, m4⟩ := hv.mrefv
  rcases m4 with ⟨rfl, _⟩ | ⟨_, _, h0, _⟩
  · obtain ⟨h1, h2⟩ := holdsV (d := Go.Sort.flatK prV 2 L.toArray) hσ (prC_nm L) (by rw [Go.Sort.size_flatK, prC_length]; rfl) (fun i x hx v hv => by
      obtain ⟨z, rfl, hz⟩ := pr_flat L i x hx
      rw [hz]; exact hv.intv)
    have h : Calls Tryz.prog 84 #[.slice (some ⟨b, 0, none⟩) L.length cap, .func (.func 85) #[] #[]] w fun e w' => e = .returned (.tuple #[]) ∧ ∃ n os, w' = sortWorldK prV 2 w b 0 n (sortP L).toArray os := AnyQ.slices_SortFunc_total laysF6 2 Tryz.isAgg34 Tryz.sizeOf34 prV (fun _ => rfl) prV_one cmpP swoP 85 #[] b 0 cap L.toArray w enters_cmpP (cmp_lays b 0 L.length w) h1 h2 (by show L.length < _; omega) totP
    refine h.mono ?_
    rintro e w' ⟨rfl, n, os, rfl⟩
    obtain ⟨k1, k2⟩ := put_relV (n := n) (cs' := prC (sortP L)) (d := Go.Sort.flatK prV 2 (sortP L).toArray) hσ (prC_nm L) (by rw [prC_length, prC_length, sortP_length]) (by rw [Go.Sort.size_flatK, prC_length]; rfl) (fun i x hx => by
      obtain ⟨z, rfl, hz⟩ := pr_flat (sortP L) i x hx
      rw [hz]; exact ⟨rfl, .int _ _⟩) os
    exact ⟨.tup [], .tuple #[], _, F, rfl, k1, k2, .tup [] #[] rfl fun i x h => by simp at h, rfl, rfl⟩
  · have hz : L = [] := List.length_eq_zero_iff.1 h0
    subst hz
    have h : Calls Tryz.prog 84 #[.slice (some a) 0 cap, .func (.func 85) #[] #[]] w fun e w' => e = .returned (.tuple #[]) ∧ w' = w := AnyF.slices_SortFunc_none laysF6 (some a) cap _ w
    have he : sortP [] = [] := List.length_eq_zero_iff.1 (sortP_length [])
    rw [he]
    refine h.mono ?_
    rintro e w' ⟨rfl, rfl⟩
    exact ⟨.tup [], .tuple #[], _, F, rfl, .refl _ _, hσ, .tup [] #[] rfl fun i x h => by simp at h, rfl, rfl⟩
end Go.Proofs.YtljbnigceammdaaGreat
