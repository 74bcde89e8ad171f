/-
  Hn: what the claim uses of them.
-/
import Derived.Test.YtljbnigceammdaaGreatBn47
import Derived.Test.YtljbnigceammdaaGreatBn48
namespace Go.Proofs.YtljbnigceammdaaGreat
open Go.RowKit
set_option maxRecDepth 100000
def fullE (n : Nat) : List EdgeT := (List.range n).flatMap fun a : Nat => (List.range n).map fun b : Nat => ((a : Int), (b : Int), ())
def manyS (n : Nat) : Sy := ⟨1, 1, n, fullE n, [], [0], List.replicate n ([0], [0], [], ())⟩
/-- As cntK, the edges put in one by one. -/
def cntJ (n : Nat) : Nat → List Int
  | 0 => List.replicate n 1
  | k + 1 => (fullE n).foldl (addC (cntJ n k)) (List.replicate n 0)
theorem full_sorted : ∀ n, n ≤ 6 → (fullE n).foldl (fun o x => insE x o) [] = fullE n := by decide +kernel
theorem cntJ_eq (n : Nat) (hn : n ≤ 6) : ∀ k, cntK (manyS n) k = cntJ n k
  | 0 => rfl
  | k + 1 => by
    show cntE (sortedE (fullE n)) n (cntK (manyS n) k) (sortedE (fullE n)).length = _
    rw [cntJ_eq n hn k, ← fold_ins, full_sorted n hn]
    unfold cntE
    rw [List.take_length]; rfl
theorem cntJ_big : ∀ n, n ≤ 6 → 3 ≤ n → ∀ v, v < n → 4096 < ((List.range 9).map fun k => (cntJ n k).getD v 0).sum := by decide +kernel
theorem cntJ_few : ∀ n, n ≤ 2 → ∀ v, v < n → ((List.range 9).map fun k => (cntJ n k).getD v 0).sum ≤ 4096 := by decide +kernel
theorem sumC_many (n : Nat) (hn : n ≤ 6) (v m : Nat) : sumC (manyS n) v m = ((List.range m).map fun k => (cntJ n k).getD v 0).sum := by
  unfold sumC
  congr 1
  refine List.map_congr_left fun k _ => ?_
  rw [cntJ_eq n hn k]
/-- Ways in a full graph. -/
def extF (n : Nat) : Nat → List Int → List (List Int)
  | 0, w => [w]
  | k + 1, w => (List.range n).flatMap fun b : Nat => extF n k (w ++ [(b : Int)])
def allF (n : Nat) (v : Int) (m : Nat) : List (List Int) := (List.range (m + 1)).flatMap fun k => ((List.range n).flatMap fun a : Nat => extF n k [(a : Int)]).filter (isTo v)
theorem toS_full (n : Nat) {a : Int} (ha : 0 ≤ a ∧ a < n) : toS n (fullE n) a = (List.range n).map fun b : Nat => (b : Int) := by
  unfold toS
  rw [Int.toNat_natCast]
  refine List.filter_eq_self.2 fun b hb => decide_eq_true ?_
  obtain ⟨k, hk, rfl⟩ := List.mem_map.1 hb
  have hk := List.mem_range.1 hk
  refine (mem_nextZ (by omega)).2 (mem_toS.2 ⟨by omega, ha, (a, (k : Int), ()), ?_, rfl, rfl⟩)
  unfold fullE
  exact List.mem_flatMap.2 ⟨a.toNat, List.mem_range.2 (by omega), List.mem_map.2 ⟨k, List.mem_range.2 hk, by rw [Int.toNat_of_nonneg ha.1]⟩⟩
theorem extF_eq (n : Nat) : ∀ (k : Nat) (w : List Int), 0 ≤ lastD w ∧ lastD w < n → extP (manyS n) k w = extF n k w
  | 0, _, _ => rfl
  | k + 1, w, h => by
    show ((toS n (fullE n) (lastD w)).flatMap fun b => extP (manyS n) k (w ++ [b])) = (List.range n).flatMap fun b : Nat => extF n k (w ++ [(b : Int)])
    rw [toS_full n h, List.flatMap_map]
    have key : ∀ l : List Nat, (∀ b ∈ l, b < n) → (l.flatMap fun b : Nat => extP (manyS n) k (w ++ [(b : Int)])) = l.flatMap fun b : Nat => extF n k (w ++ [(b : Int)]) := by
      intro l
      induction l with
      | nil => intro _; rfl
      | cons b l ih =>
        intro hb
        have h1 := hb b (List.mem_cons_self ..)
        rw [List.flatMap_cons, List.flatMap_cons, ih fun x hx => hb x (List.mem_cons_of_mem _ hx), extF_eq n k (w ++ [(b : Int)]) (by rw [last_app]; omega)]
    exact key _ fun b hb => List.mem_range.1 hb
theorem allF_eq (n : Nat) (v : Int) (m : Nat) : allP (manyS n) v m = allF n v m := by
  unfold allP allF
  congr 1
  funext k
  unfold toP
  congr 1
  show ((List.range ((n : Int)).toNat).flatMap fun a : Nat => extP (manyS n) k [(a : Int)]) = _
  rw [Int.toNat_natCast]
  have key : ∀ l : List Nat, (∀ b ∈ l, b < n) → (l.flatMap fun a : Nat => extP (manyS n) k [(a : Int)]) = l.flatMap fun a : Nat => extF n k [(a : Int)] := by
    intro l
    induction l with
    | nil => intro _; rfl
    | cons b l ih =>
      intro hb
      have h1 := hb b (List.mem_cons_self ..)
      rw [List.flatMap_cons, List.flatMap_cons, ih fun x hx => hb x (List.mem_cons_of_mem _ hx), extF_eq n k [(b : Int)] (by show 0 ≤ (b : Int) ∧ (b : Int) < n; omega)]
  exact key _ fun b hb => List.mem_range.1 hb
/-- As many as the law counts: 1 + n + .. (nine terms). -/
def wayN (n : Nat) : Nat → Nat × Nat
  | 0 => (0, 1)
  | k + 1 => ((wayN n k).1 + (wayN n k).2, (wayN n k).2 * n)
theorem way_few : ∀ n, n ≤ 2 → ∀ v, v < n → (allF n v 8).length = (wayN n 9).1 ∧ (allF n v 8).head? = some [(v : Int)] := by decide +kernel
theorem way_big : ∀ n, n ≤ 6 → (4096 < (wayN n 9).1 ↔ 3 ≤ n) := by decide +kernel
theorem many_chk : ∀ n, n ≤ 6 → 1 ≤ n → checkS (manyS n) = 0 := by decide +kernel
end Go.Proofs.YtljbnigceammdaaGreat
