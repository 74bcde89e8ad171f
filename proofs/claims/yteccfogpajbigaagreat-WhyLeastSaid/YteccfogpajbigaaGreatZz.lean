/-
  slices.SortFunc of edges, off the kit's shelf, as a contract of the walk.
-/
import Derived.Test.YteccfogpajbigaaGreatZf
import Derived.Test.YteccfogpajbigaaGreatLaysF
namespace Go.Proofs.YteccfogpajbigaaGreat
open Go.RowKit
set_option maxRecDepth 100000
abbrev PrT : Type := Int × Int × Unit
def cmpP (x y : PrT) : Int := cmpE x.1 x.2.1 y.1 y.2.1
theorem vrel_pr {F : Nat → Prop} {w : World} (x : PrT) : VRel F w (.agg [.int .i64 x.1, .int .i64 x.2.1]) (.agg (prV x).toArray) := by
  refine .agg _ _ rfl (fun i a h => ?_) (fun i a h => ?_)
  · match i, h with
    | 0, h => cases h; rfl
    | 1, h => cases h; rfl
  · match i, h with
    | 0, h => cases h; exact .int _ _
    | 1, h => cases h; exact .int _ _
theorem cmp_lays (blk off size : Nat) (w : World) : CmpLays Tryz.prog 120 #[] prV 2 cmpP blk off size w := fun m os dk _ x y => by
  have h := calls_grow (fun σ => aCmpE x.1 x.2.1 y.1 y.2.1 σ) (w := sortWorldK prV 2 w blk off m dk os) (vs := #[.agg (prV x).toArray, .agg (prV y).toArray]) ⟨rfl, fun i a h => by
    match i, h with
    | 0, h => cases h; exact vrel_pr x
    | 1, h => cases h; exact vrel_pr y⟩
  exact h
theorem lt_cmpP (x y : PrT) : ltOf cmpP x y = decide (x.1 < y.1 ∨ (x.1 = y.1 ∧ x.2.1 < y.2.1)) := by
  unfold ltOf
  rw [decide_eq_decide]
  unfold cmpP cmpE or2 cmpI
  split <;> split at * <;> (try split at *) <;> (try split) <;> omega
theorem swoP : Go.Sort.SWO (ltOf cmpP) where
  irrefl x := by rw [lt_cmpP]; simp
  trans x y z h1 h2 := by rw [lt_cmpP] at *; simp only [decide_eq_true_eq] at *; omega
  ntrans x y z h1 h2 := by rw [lt_cmpP] at *; simp only [decide_eq_false_iff_not] at *; omega
theorem totP (x y : PrT) (h1 : ltOf cmpP x y = false) (h2 : ltOf cmpP y x = false) : x = y := by
  rw [lt_cmpP] at *
  simp only [decide_eq_false_iff_not] at *
  obtain ⟨a, b, _⟩ := x
  obtain ⟨c, d, _⟩ := y
  have e1 : a = c := by simp only at h1 h2; omega
  have e2 : b = d := by simp only at h1 h2; omega
  rw [e1, e2]
def sortP (l : List PrT) : List PrT := l.mergeSort fun x y => !(ltOf cmpP) y x
theorem sortP_length (l : List PrT) : (sortP l).length = l.length := List.length_mergeSort ..
theorem enters_sortP : Enters Tryz.prog 119 := enters_of Tryz.func119 (by kernel_rfl)
theorem enters_cmpP : Enters Tryz.prog 120 := enters_of Tryz.func120 (by kernel_rfl)
theorem two_args {vs : Array Value} (h : 2 = vs.size) : ∃ v u, vs = #[v, u] := by
  refine ⟨vs.getD 0 undef, vs.getD 1 undef, Array.ext ?_ fun i h2 h3 => ?_⟩
  · simp [← h]
  · have : i = 0 ∨ i = 1 := by omega
    rcases this with rfl | rfl <;> simp [Array.getD, h2]
theorem fnv {F : Nat → Prop} {w : World} {f : Fn} {v : Value} (h : VRel F w (.fn f [] []) v) : v = .func f #[] #[] := by
  cases h with
  | fn _ _ _ v1 v2 hs1 hs2 _ _ =>
    rw [Array.eq_empty_of_size_eq_zero hs1.symm, Array.eq_empty_of_size_eq_zero hs2.symm]
theorem prV_one (x : PrT) : ∀ v ∈ prV x, v.oneCell' = true := by
  intro v hv
  simp only [prV, List.mem_cons, List.not_mem_nil, or_false] at hv
  rcases hv with rfl | rfl <;> rfl
theorem aSortP (b : Nat) (L : List PrT) (n : Nat) (σ : Hp) (hz : L.length = n) (hl : n ≤ 1000000) : ACalls Tryz.prog 119 [.mref b 0 n 2, .fn (.func 120) [] []] ((b, prC L) :: σ) (Ret (.tup []) ((b, prC (sortP L)) :: σ)) := by
  subst hz
  refine ⟨enters_sortP, fun F w vs hvs hσ => ?_⟩
  obtain ⟨v, u, rfl⟩ := two_args hvs.1
  have hv : VRel F w (.mref b 0 L.length 2) v := hvs.2 0 _ rfl
  obtain rfl := fnv (show VRel F w (.fn (.func 120) [] []) u from hvs.2 1 _ rfl)
  obtain ⟨a, cap, rfl, c, T, fz, m1, m2, m3, m4⟩ := hv.mrefv
  rcases m4 with ⟨rfl, _⟩ | ⟨_, _, h0, _⟩
  · obtain ⟨h1, h2⟩ := holdsV (d := Go.Sort.flatK prV 2 L.toArray) hσ (prC_nm L) (by rw [Go.Sort.size_flatK, prC_length]; rfl) (fun i x hx v hv => by
      obtain ⟨z, rfl, hz⟩ := pr_flat L i x hx
      rw [hz]; exact hv.intv)
    have h : Calls Tryz.prog 119 #[.slice (some ⟨b, 0, none⟩) L.length cap, .func (.func 120) #[] #[]] w fun e w' => e = .returned (.tuple #[]) ∧ ∃ n os, w' = sortWorldK prV 2 w b 0 n (sortP L).toArray os := AnyQ.slices_SortFunc_total laysF6 2 Tryz.isAgg52 Tryz.sizeOf52 prV (fun _ => rfl) prV_one cmpP swoP 120 #[] b 0 cap L.toArray w enters_cmpP (cmp_lays b 0 L.length w) h1 h2 (by show L.length < _; omega) totP
    refine h.mono ?_
    rintro e w' ⟨rfl, n, os, rfl⟩
    obtain ⟨k1, k2⟩ := put_relV (n := n) (cs' := prC (sortP L)) (d := Go.Sort.flatK prV 2 (sortP L).toArray) hσ (prC_nm L) (by rw [prC_length, prC_length, sortP_length]) (by rw [Go.Sort.size_flatK, prC_length]; rfl) (fun i x hx => by
      obtain ⟨z, rfl, hz⟩ := pr_flat (sortP L) i x hx
      rw [hz]; exact ⟨rfl, .int _ _⟩) os
    exact ⟨.tup [], .tuple #[], _, F, rfl, k1, k2, .tup [] #[] rfl fun i x h => by simp at h, rfl, rfl⟩
  · have hz : L = [] := List.length_eq_zero_iff.1 h0
    subst hz
    have h : Calls Tryz.prog 119 #[.slice (some a) 0 cap, .func (.func 120) #[] #[]] w fun e w' => e = .returned (.tuple #[]) ∧ w' = w := AnyF.slices_SortFunc_none laysF6 (some a) cap _ w
    have he : sortP [] = [] := List.length_eq_zero_iff.1 (sortP_length [])
    rw [he]
    refine h.mono ?_
    rintro e w' ⟨rfl, rfl⟩
    exact ⟨.tup [], .tuple #[], _, F, rfl, .refl _ _, hσ, .tup [] #[] rfl fun i x h => by simp at h, rfl, rfl⟩
end Go.Proofs.YteccfogpajbigaaGreat
