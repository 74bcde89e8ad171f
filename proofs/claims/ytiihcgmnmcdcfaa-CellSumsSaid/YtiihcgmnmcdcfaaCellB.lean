/-
  The walk of CellPlays.
-/
import Derived.Test.YtiihcgmnmcdcfaaCellP
import Derived.Test.YtiihcgmnmcdcfaaCellA
namespace Go.Proofs.Ytiihcgmnmcdcfaa
open Go.RowKit
set_option maxRecDepth 100000
set_option maxHeartbeats 4000000
structure OJ where
  rx : Nat
  ry : Nat
  j : Jn
def OJ.blk (o : OJ) : Hp := [(o.ry, rjC o.j), (o.rx, jnC o.j)]
def OJ.px (o : OJ) : AV := .ptr o.rx 0
def OJ.py (o : OJ) : AV := .ptr o.ry 0
theorem few_get {w : Int} {a : List Int} {l : List (List Int)} (h : fewB w a l = true) : (∀ x ∈ l, x.length ≤ 8) ∧ (w ≤ 5 ∨ 2000 < w) ∧ a.length ≤ 8 ∧ l.length ≤ 5 := by
  simpa [fewB] using h
theorem putW_zero {a Z : List Int} {k : Nat} (hZ : Z = [0, 0, 0, 0, 0, 0, 0]) (hk : k ≤ 5) (ha : a.length ≤ k) : putW 1 a Z (k + 1) = putW 1 a Z k := by
  have hZl : Z.length = 7 := by rw [hZ]; rfl
  have hz : ∀ i, Z.getD i 0 = 0 := by
    intro i
    rw [hZ]
    match i with
    | 0 | 1 | 2 | 3 | 4 | 5 | 6 => rfl
    | i + 7 => rfl
  refine List.ext_getElem (by rw [putW_length, putW_length]) fun i h1 h2 => ?_
  have e1 : (putW 1 a Z (k + 1)).getD i 0 = _ := putW_get 1 a Z 6 (by omega) (by omega) (k + 1) (by omega) i
  have e2 : (putW 1 a Z k).getD i 0 = _ := putW_get 1 a Z 6 (by omega) (by omega) k (by omega) i
  rw [List.getD_eq_getElem?_getD, List.getElem?_eq_getElem h1] at e1
  rw [List.getD_eq_getElem?_getD, List.getElem?_eq_getElem h2] at e2
  rw [hz] at e1 e2
  refine e1.trans (Eq.trans ?_ e2.symm)
  split
  · split
    · rfl
    · have : i = k + 1 := by omega
      subst this
      show wd a (k + 1 - 1) = 0
      unfold wd
      rw [List.getElem?_eq_none (by omega)]; rfl
  · split
    · omega
    · rfl
theorem putW_64 (b : Int) {a ws : List Int} (ha : A64 a) (hw : A64 ws) (k : Nat) : A64 (putW b a ws k) := by
  induction k with
  | zero => exact hw
  | succ k ih => exact store_64 ih _ (wd_64 ha k)
theorem readMap {i : TI} (hi : i.wide = false) {f : OJ → AV} {L L2 : List OJ} (h : L2.map f = L.map f) {j : Nat} (hj : j < L2.length) {x : Int} (hx : x = j) : readAs i (L.map f) (0 + x.toNat * 1) = some (f L2[j]) := by
  subst hx
  rw [← h]
  unfold readAs
  rw [hi]
  show (L2.map f)[0 + j * 1]? = _
  rw [Nat.zero_add, Nat.mul_one, List.getElem?_map, List.getElem?_eq_getElem hj]
  rfl
theorem pickPerm {α : Type} (x y a b c d e f g : α) : [x, a, b, y, c, d, e, f, g].Perm [a, b, c, d, e, f, g, y, x] := by
  refine (List.Perm.cons x (List.Perm.trans (List.perm_append_comm (l₁ := [a, b]) (l₂ := [y, c, d, e, f, g])) ?_)).trans (List.perm_append_comm (l₁ := [x]) (l₂ := [a, b, c, d, e, f, g, y]))
  exact (List.perm_append_comm (l₁ := [y]) (l₂ := [c, d, e, f, g, a, b])).trans (List.Perm.append_right [y] (List.perm_append_comm (l₁ := [c, d, e, f, g]) (l₂ := [a, b])))
theorem neB (b : Bool) (h : (!(b == b)) = true) : False := by cases b <;> cases h
theorem neP {n : Int} (h : (!decide (n = n)) = true) : False := by simp at h
theorem op_perm2 {x a b y c d : Nat × List AV} {E : Hp} : ((y :: c :: d :: x :: a :: b :: E : Hp)).Perm (x :: a :: b :: y :: c :: d :: E) :=
  List.Perm.append_right E (List.perm_append_comm (l₁ := [y, c, d]) (l₂ := [x, a, b]))
theorem map_set_same {f : OJ → AV} {L : List OJ} {o : OJ} {j : Nat} {hj : j < L.length} (h : f o = f L[j]) (_ : j < L.length) : (L.set j o).map f = L.map f := by
  rw [List.map_set, h]
  refine List.ext_getElem (by simp) fun n h1 h2 => ?_
  rw [List.getElem_set]
  split
  · rename_i hn; subst hn; simp
  · rfl
theorem op_perm3 {L2 : List OJ} {j : Nat} {hj : j < L2.length} {j' : Jn} {a b c d e f g : Nat × List AV} : (a :: b :: c :: d :: e :: f :: g :: (L2.set j ⟨L2[j].rx, L2[j].ry, j'⟩).flatMap OJ.blk : Hp).Perm ((L2[j].ry, rjC j') :: c :: d :: (L2[j].rx, jnC j') :: a :: b :: e :: f :: g :: (L2.eraseIdx j).flatMap OJ.blk) := by
  have h1 := flatM_set (f := OJ.blk) hj ⟨L2[j].rx, L2[j].ry, j'⟩
  refine (List.Perm.append_left [a, b, c, d, e, f, g] h1).trans ?_
  generalize (L2.eraseIdx j).flatMap OJ.blk = E
  show ([a, b, c, d, e, f, g] ++ ([(L2[j].ry, rjC j'), (L2[j].rx, jnC j')] ++ E)).Perm _
  generalize (L2[j].rx, jnC j') = x
  generalize (L2[j].ry, rjC j') = y
  exact (List.Perm.append_right E (pickPerm x y a b c d e f g).symm).trans (op_perm2 (E := e :: f :: g :: E)).symm
theorem op_perm {L2 : List OJ} {j : Nat} (hj : j < L2.length) {a b c d e f g : Nat × List AV} : (((L2[j].rx, jnC L2[j].j) :: a :: b :: (L2[j].ry, rjC L2[j].j) :: c :: d :: e :: f :: g :: (L2.eraseIdx j).flatMap OJ.blk : Hp)).Perm (a :: b :: c :: d :: e :: f :: g :: L2.flatMap OJ.blk) := by
  have h1 : (L2.flatMap OJ.blk).Perm ((L2[j].ry, rjC L2[j].j) :: (L2[j].rx, jnC L2[j].j) :: (L2.eraseIdx j).flatMap OJ.blk) := flatM_perm hj
  refine List.Perm.trans ?_ (List.Perm.append_left [a, b, c, d, e, f, g] h1.symm)
  generalize (L2.eraseIdx j).flatMap OJ.blk = E
  generalize (L2[j].rx, jnC L2[j].j) = x
  generalize (L2[j].ry, rjC L2[j].j) = y
  exact (List.perm_append_comm (l₁ := [x, a, b, y, c, d, e, f, g]) (l₂ := E)).trans ((List.Perm.append_left E (pickPerm x y a b c d e f g)).trans (List.perm_append_comm (l₁ := E) (l₂ := [a, b, c, d, e, f, g, y, x])))
theorem base_perm3 (base a1 a2 F B : Hp) : (base ++ (a1 ++ (a2 ++ (F ++ B)))).Perm (B ++ (base ++ (a1 ++ (a2 ++ F)))) := by
  have := base_perm base (a1 ++ a2) F B
  simpa only [List.append_assoc] using this
end Go.Proofs.Ytiihcgmnmcdcfaa
