/-
  Zb; Qa: what the claim uses of them.
-/
import Derived.Test.YtljbnigceammdaaGreatBn40
import Derived.Test.YtljbnigceammdaaGreatBn35
import Derived.Test.YtljbnigceammdaaGreatBn38
import Derived.Test.YtljbnigceammdaaGreatBn16
namespace Go.Proofs.YtljbnigceammdaaGreat
open Go.RowKit
theorem mem_toS {n : Int} {l : List EdgeT} {a b : Int} : b ∈ toS n l a ↔ (0 ≤ b ∧ b < n) ∧ (0 ≤ a ∧ a < n) ∧ ∃ e ∈ l, e.1 = a ∧ e.2.1 = b := by
  unfold toS nextZ
  rw [List.mem_filter, decide_eq_true_eq, List.mem_map, List.mem_map]
  constructor
  · rintro ⟨⟨i, hi, rfl⟩, e, he, h2⟩
    have hi := List.mem_range.1 hi
    obtain ⟨h3, h4⟩ := List.mem_filter.1 he
    simp only [Bool.and_eq_true, decide_eq_true_eq, node_iff] at h4
    exact ⟨by omega, h4.1.2, e, h3, h4.1.1, h2⟩
  · rintro ⟨h1, h2, e, h3, h4, h5⟩
    refine ⟨⟨b.toNat, List.mem_range.2 (by omega), by omega⟩, e, List.mem_filter.2 ⟨h3, ?_⟩, h5⟩
    simp only [Bool.and_eq_true, decide_eq_true_eq, node_iff]
    exact ⟨⟨h4, h2⟩, by omega⟩
theorem toS_length (n : Int) (l : List EdgeT) (a : Int) : (toS n l a).length ≤ n.toNat := by
  unfold toS
  exact Nat.le_trans (List.length_filter_le _ _) (by simp)
/-- Do a list's first k numbers follow edges? -/
def chainB (n : Int) (l : List EdgeT) (way : List Int) (k : Nat) : Bool := (List.range k).all fun i => decide (i = 0) || decide (way.getD i 0 ∈ toS n l (way.getD (i - 1) 0))
theorem chainB_succ (n : Int) (l : List EdgeT) (way : List Int) (k : Nat) : chainB n l way (k + 1) = (chainB n l way k && (decide (k = 0) || decide (way.getD k 0 ∈ toS n l (way.getD (k - 1) 0)))) := by
  unfold chainB; rw [List.range_succ, List.all_append]; simp
theorem chainB_mono {n : Int} {l : List EdgeT} {way : List Int} {k m : Nat} (h : chainB n l way m = true) (hk : k ≤ m) : chainB n l way k = true := by
  unfold chainB at h ⊢
  rw [List.all_eq_true] at h ⊢
  exact fun i hi => h i (List.mem_range.2 (Nat.lt_of_lt_of_le (List.mem_range.1 hi) hk))
theorem chainB_get {n : Int} {l : List EdgeT} {way : List Int} {m i : Nat} (h : chainB n l way m = true) (hi : i < m) (h0 : i ≠ 0) : way.getD i 0 ∈ toS n l (way.getD (i - 1) 0) := by
  unfold chainB at h
  have := List.all_eq_true.1 h i (List.mem_range.2 hi)
  simpa [h0] using this
/-- Is a list a way? -/
def wayB (s : Sy) (way : List Int) : Bool := decide (0 < way.length) && nodeB s.n (way.getD 0 0) && chainB s.n s.edges way way.length
theorem way_node {s : Sy} {way : List Int} (h : wayB s way = true) {i : Nat} (hi : i < way.length) : 0 ≤ way.getD i 0 ∧ way.getD i 0 < s.n := by
  unfold wayB at h
  simp only [Bool.and_eq_true, decide_eq_true_eq] at h
  by_cases h0 : i = 0
  · subst h0; exact node_iff.1 h.1.2
  · exact (mem_toS.1 (chainB_get h.2 hi h0)).1
def isS (s : Sy) (way : List Int) : Bool := decide (checkS s = 0) && wayB s way
/-- What is known behind k of a way's nodes. -/
def alongK (s : Sy) (way : List Int) (k : Nat) : List Int := (way.take k).foldl (fun a v => outS s a v.toNat) (startS s (way.getD 0 0))
def alongS (s : Sy) (way : List Int) : List Int := alongK s way (way.length - 1)
theorem alongK_succ (s : Sy) (way : List Int) {k : Nat} (h : k < way.length) : alongK s way (k + 1) = outS s (alongK s way k) (way.getD k 0).toNat := by
  unfold alongK
  have e : way.getD k 0 = way[k] := by rw [List.getD_eq_getElem?_getD, List.getElem?_eq_getElem h]; rfl
  rw [List.take_succ_eq_append_getElem h, List.foldl_append, e]; rfl
theorem along_Val {s : Sy} (hf : Fit s) (hg : Good s) {way : List Int} (hw : wayB s way = true) : ∀ k, k ≤ way.length → Val s.what s.w (alongK s way k)
  | 0, _ => start_Val hf hg _
  | k + 1, h => by
    have ih := along_Val hf hg hw k (by omega)
    rw [alongK_succ s way (by omega)]
    have hn := way_node hw (i := k) (by omega)
    have := out_val hf hg ih.w64 ih.v (v := (way.getD k 0).toNat) (by omega)
    exact ⟨this.1, this.2⟩
/-- A Step brings what goes along an edge. -/
theorem stepV_edge {s : Sy} (hf : Fit s) (hg : Good s) {a : List (List Int)} (ha : Vals s a) (v : Nat) : ∀ k, k ≤ s.edges.length → leV s.what s.w (startS s v) (stepV s a k v) ∧ ∀ e ∈ s.edges.take k, e.2.1 = v → leV s.what s.w (outS s (a.getD e.1.toNat []) e.1.toNat) (stepV s a k v)
  | 0, _ => ⟨leV.refl (start_Val hf hg v), fun e he => by cases he⟩
  | k + 1, hk => by
    obtain ⟨h1, h2⟩ := stepV_edge hf hg ha v k (by omega)
    have hlt : k < s.edges.length := by omega
    have hv := stepV_Val hf hg ha v k (by omega)
    have he := hg.edge _ (List.getElem_mem hlt)
    have ho : Val s.what s.w (outS s (a.getD s.edges[k].1.toNat []) s.edges[k].1.toNat) := by
      have hx := ha.get (i := s.edges[k].1.toNat) (by omega)
      have := out_val hf hg hx.w64 hx.v (v := s.edges[k].1.toNat) (by omega)
      exact ⟨this.1, this.2⟩
    have hup : leV s.what s.w (stepV s a k v) (stepV s a (k + 1) v) := by
      rw [stepV_succ s a hlt]
      unfold joinE
      split
      · exact leV.left hv ho
      · exact leV.refl hv
    refine ⟨h1.trans hup, fun e hm hev => ?_⟩
    rw [List.take_succ_eq_append_getElem hlt] at hm
    rcases List.mem_append.1 hm with hm | hm
    · exact (h2 e hm hev).trans hup
    · rw [List.mem_singleton.1 hm] at hev ⊢
      rw [stepV_succ s a hlt]
      unfold joinE
      rw [if_pos hev]
      exact leV.right hv ho
end Go.Proofs.YtljbnigceammdaaGreat
namespace Go.Proofs.YtljbnigceammdaaGreat
open Go.RowKit
structure QS where
  vals : List (List Int)
  wait : List Int
  ev : Nat
  jo : Nat
def startsS (s : Sy) : List (List Int) := (List.range s.n.toNat).map fun v : Nat => startS s (v : Int)
def q0 (s : Sy) (first : List Int) : QS := ⟨startsS s, first, 0, 0⟩
end Go.Proofs.YtljbnigceammdaaGreat
