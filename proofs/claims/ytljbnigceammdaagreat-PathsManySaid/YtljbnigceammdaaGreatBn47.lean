/-
  Hc; Hd: what the claim uses of them.
-/
import Derived.Test.YtljbnigceammdaaGreatBn46
import Derived.Test.YtljbnigceammdaaGreatBn16
namespace Go.Proofs.YtljbnigceammdaaGreat
open Go.RowKit
set_option maxRecDepth 100000
/-- A way, with each edge behind it. -/
def growP (s : Sy) (w : List Int) : List (List Int) := (toS s.n s.edges (lastD w)).map fun b => w ++ [b]
/-- The ways of just so many edges, as the document finds them. -/
def longP (s : Sy) : Nat → List (List Int)
  | 0 => (List.range s.n.toNat).map fun a : Nat => [(a : Int)]
  | k + 1 => (longP s k).flatMap (growP s)
theorem ext_grow (s : Sy) : ∀ (k : Nat) (w : List Int), (extP s k w).flatMap (growP s) = extP s (k + 1) w
  | 0, w => by
    show ([w] : List (List Int)).flatMap (growP s) = (toS s.n s.edges (lastD w)).flatMap fun b => [w ++ [b]]
    rw [List.flatMap_singleton]
    unfold growP
    induction toS s.n s.edges (lastD w) with
    | nil => rfl
    | cons b l ih => rw [List.map_cons, List.flatMap_cons, ih]; rfl
  | k + 1, w => by
    show ((toS s.n s.edges (lastD w)).flatMap fun b => extP s k (w ++ [b])).flatMap (growP s) = (toS s.n s.edges (lastD w)).flatMap fun b => extP s (k + 1) (w ++ [b])
    rw [List.flatMap_assoc]
    congr 1
    funext b
    exact ext_grow s k (w ++ [b])
theorem long_ext (s : Sy) : ∀ k, longP s k = (List.range s.n.toNat).flatMap fun a : Nat => extP s k [(a : Int)]
  | 0 => by
    show ((List.range s.n.toNat).map fun a : Nat => [(a : Int)]) = (List.range s.n.toNat).flatMap fun a : Nat => [[(a : Int)]]
    induction List.range s.n.toNat with
    | nil => rfl
    | cons b l ih => rw [List.map_cons, List.flatMap_cons, ih]; rfl
  | k + 1 => by
    show (longP s k).flatMap (growP s) = _
    rw [long_ext s k, List.flatMap_assoc]
    congr 1
    funext a
    exact ext_grow s k _
theorem toP_long (s : Sy) (v : Int) (k : Nat) : toP s v k = (longP s k).filter (isTo v) := by rw [long_ext]; rfl
theorem flat_le {α β : Type} (f : α → List β) (c : Nat) : ∀ (l : List α), (∀ x ∈ l, (f x).length ≤ c) → (l.flatMap f).length ≤ l.length * c
  | [], _ => by simp
  | x :: l, h => by
    rw [List.flatMap_cons, List.length_append, List.length_cons, Nat.succ_mul]
    have h1 := h x (List.mem_cons_self ..)
    have h2 := flat_le f c l fun y hy => h y (List.mem_cons_of_mem _ hy)
    omega
theorem ext_len (s : Sy) {N : Nat} (hN : s.n.toNat ≤ N) : ∀ (k : Nat) (w : List Int), (extP s k w).length ≤ N ^ k
  | 0, w => Nat.le_refl _
  | k + 1, w => by
    show ((toS s.n s.edges (lastD w)).flatMap fun b => extP s k (w ++ [b])).length ≤ N ^ (k + 1)
    refine Nat.le_trans (flat_le _ (N ^ k) _ fun b _ => ext_len s hN k _) ?_
    rw [Nat.pow_succ, Nat.mul_comm]
    exact Nat.mul_le_mul_left _ (Nat.le_trans (toS_le ..) hN)
theorem to_len (s : Sy) (v : Int) {N : Nat} (hN : s.n.toNat ≤ N) (k : Nat) : (toP s v k).length ≤ N ^ (k + 1) := by
  unfold toP
  refine Nat.le_trans (List.length_filter_le _ _) (Nat.le_trans (flat_le _ (N ^ k) _ fun a _ => ext_len s hN k _) ?_)
  rw [Nat.pow_succ, Nat.mul_comm, List.length_range]
  exact Nat.mul_le_mul_left _ hN
end Go.Proofs.YtljbnigceammdaaGreat
namespace Go.Proofs.YtljbnigceammdaaGreat
open Go.RowKit
set_option maxRecDepth 100000
def minI (a b : Int) : Int := if b < a then b else a
def addC (out nx : List Int) (e : EdgeT) : List Int := nx.set e.2.1.toNat (minI (nx.getD e.2.1.toNat 0 + out.getD e.1.toNat 0) 4097)
/-- What stands behind k of the edges. -/
def cntE (l : List EdgeT) (n : Nat) (out : List Int) (k : Nat) : List Int := (l.take k).foldl (addC out) (List.replicate n 0)
def cntK (s : Sy) : Nat → List Int
  | 0 => List.replicate s.n.toNat 1
  | k + 1 => cntE (sortedE s.edges) s.n.toNat (cntK s k) (sortedE s.edges).length
theorem cntE_succ (l : List EdgeT) (n : Nat) (out : List Int) {k : Nat} (h : k < l.length) : cntE l n out (k + 1) = addC out (cntE l n out k) l[k] := by
  unfold cntE; rw [List.take_succ_eq_append_getElem h, List.foldl_append]; rfl
theorem cntE_zero (l : List EdgeT) (n : Nat) (out : List Int) : cntE l n out 0 = List.replicate n 0 := rfl
theorem fold_len (out : List Int) : ∀ (l : List EdgeT) (nx : List Int), (l.foldl (addC out) nx).length = nx.length
  | [], _ => rfl
  | e :: l, nx => by rw [List.foldl_cons, fold_len out l]; unfold addC; rw [List.length_set]
theorem cntE_length (l : List EdgeT) (n : Nat) (out : List Int) (k : Nat) : (cntE l n out k).length = n := by unfold cntE; rw [fold_len, List.length_replicate]
theorem cntK_length (s : Sy) : ∀ k, (cntK s k).length = s.n.toNat
  | 0 => List.length_replicate
  | _ + 1 => cntE_length ..
def inRC (c : Int) (l : List Int) : Prop := ∀ i : Nat, 0 ≤ l.getD i 0 ∧ l.getD i 0 ≤ c
theorem inRC_rep {c x : Int} (n : Nat) (h0 : 0 ≤ x) (h : x ≤ c) : inRC c (List.replicate n x) := fun i => by
  rw [List.getD_eq_getElem?_getD, List.getElem?_replicate]
  split
  · exact ⟨h0, h⟩
  · exact ⟨Int.le_refl _, Int.le_trans h0 h⟩
theorem getD_set (l : List Int) (i j : Nat) (x : Int) : (l.set i x).getD j 0 = if i = j ∧ i < l.length then x else l.getD j 0 := by
  rw [List.getD_eq_getElem?_getD, List.getElem?_set, List.getD_eq_getElem?_getD]
  by_cases h : i = j
  · subst h
    by_cases h2 : i < l.length
    · rw [if_pos rfl, if_pos h2, if_pos ⟨rfl, h2⟩]; rfl
    · rw [if_pos rfl, if_neg h2, if_neg (fun c => h2 c.2), List.getElem?_eq_none (by omega)]
  · rw [if_neg h, if_neg (fun c => h c.1)]
theorem minI_le (a b : Int) : minI a b ≤ a ∧ minI a b ≤ b ∧ (minI a b = a ∨ minI a b = b) := by unfold minI; split <;> omega
theorem inRC_fold {c m : Int} (hc : 0 ≤ c) {out : List Int} (ho : inRC m out) : ∀ (l : List EdgeT) (nx : List Int), inRC c nx → inRC (c + l.length * m) (l.foldl (addC out) nx)
  | [], nx, h => by simpa using h
  | e :: l, nx, h => by
    have h0 := ho 0
    have hm : 0 ≤ m := Int.le_trans h0.1 h0.2
    have := inRC_fold (c := c + m) (by omega) ho l (addC out nx e) fun i => by
      unfold addC
      rw [getD_set]
      have h1 := h e.2.1.toNat
      have h2 := ho e.1.toNat
      have h3 := h i
      obtain ⟨m1, m2, m3⟩ := minI_le (nx.getD e.2.1.toNat 0 + out.getD e.1.toNat 0) 4097
      split
      · omega
      · omega
    intro i
    have h4 := this i
    rw [List.length_cons, List.foldl_cons]
    have e1 : ((l.length + 1 : Nat) : Int) * m = (l.length : Int) * m + m := by rw [Int.natCast_add, Int.add_mul]; omega
    rw [e1]
    omega
theorem inRC_cap {out : List Int} (ho : inRC 4097 out) : ∀ (l : List EdgeT) (nx : List Int), inRC 4097 nx → inRC 4097 (l.foldl (addC out) nx)
  | [], _, h => h
  | e :: l, nx, h => inRC_cap ho l _ fun i => by
    unfold addC
    rw [getD_set]
    have h1 := h e.2.1.toNat
    have h2 := ho e.1.toNat
    have h3 := h i
    obtain ⟨m1, m2, m3⟩ := minI_le (nx.getD e.2.1.toNat 0 + out.getD e.1.toNat 0) 4097
    split
    · omega
    · omega
theorem cntE_cap {l : List EdgeT} {n : Nat} {out : List Int} (ho : inRC 4097 out) (k : Nat) : inRC 4097 (cntE l n out k) := inRC_cap ho _ _ (inRC_rep n (by decide) (by decide))
theorem cntK_cap (s : Sy) : ∀ k, inRC 4097 (cntK s k)
  | 0 => inRC_rep _ (by decide) (by decide)
  | k + 1 => cntE_cap (cntK_cap s k) _
theorem cntK_pow {s : Sy} {B : Nat} (hB : (sortedE s.edges).length ≤ B) : ∀ k, inRC ((B ^ k : Nat) : Int) (cntK s k)
  | 0 => inRC_rep _ (by decide) (by rw [Nat.pow_zero]; exact Int.le_refl _)
  | k + 1 => fun i => by
    have h := inRC_fold (c := 0) (Int.le_refl _) (cntK_pow hB k) ((sortedE s.edges).take (sortedE s.edges).length) (List.replicate s.n.toNat 0) (inRC_rep _ (Int.le_refl _) (Int.le_refl _)) i
    refine ⟨h.1, Int.le_trans h.2 ?_⟩
    rw [Int.zero_add, List.take_length, ← Int.natCast_mul, Nat.pow_succ, Nat.mul_comm]
    exact Int.ofNat_le.2 (Nat.mul_le_mul_left _ hB)
/-- All ways of at most m edges to a node, as they are counted. -/
def sumC (s : Sy) (v : Nat) (m : Nat) : Int := ((List.range m).map fun k => (cntK s k).getD v 0).sum
theorem sumC_succ (s : Sy) (v m : Nat) : sumC s v (m + 1) = sumC s v m + (cntK s m).getD v 0 := by
  unfold sumC; rw [List.range_succ, List.map_append, List.sum_append]; simp
theorem sumC_cap (s : Sy) (v : Nat) : ∀ m : Nat, 0 ≤ sumC s v m ∧ sumC s v m ≤ 4097 * m
  | 0 => ⟨Int.le_refl _, Int.le_refl _⟩
  | m + 1 => by
    have h1 := sumC_cap s v m
    have h2 := cntK_cap s m v
    rw [sumC_succ, Int.natCast_add, Int.mul_add]
    omega
theorem insE_lenC (x : PrT) : ∀ l : List PrT, (insE x l).length ≤ l.length + 1
  | [] => Nat.le_refl _
  | y :: r => by
    have := insE_lenC x r
    unfold insE
    split
    · split
      · simp
      · simp
    · simp; exact this
theorem sortedE_len (l : List EdgeT) : (sortedE l).length ≤ l.length := by
  have key : ∀ (l o : List PrT), (l.foldl (fun o x => insE x o) o).length ≤ o.length + l.length := by
    intro l
    induction l with
    | nil => intro o; exact Nat.le_refl _
    | cons x l ih => intro o; have h1 := ih (insE x o); have h2 := insE_lenC x o; rw [List.foldl_cons, List.length_cons]; omega
  have := key l []
  rw [fold_ins] at this
  simpa using this
end Go.Proofs.YtljbnigceammdaaGreat
