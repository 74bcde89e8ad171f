/-
  Rows of elements of several cells each: what is read of them, and written.
-/
import Derived.Test.YtegpahamenjiaaaGreatAids
namespace Go.Proofs.YtegpahamenjiaaaGreat
open Go.RowKit
/-- A call, over blocks in another order. -/
theorem callP {P : Program} {f : FuncId} {xs : List AV} {σ σ2 σ3 σ4 : Hp} {K : AV → Hp → Prop} {x : AV} (hp : σ2.Perm σ) (h : ACalls P f xs σ2 (Ret x σ3)) (hq : σ4.Perm σ3) (k : K x σ4) : CallAt P f K xs σ :=
  .perm _ hp h fun _ _ ⟨h1, h2⟩ => ⟨σ4, h2 ▸ hq, h1 ▸ k⟩
/-- A call that leaves the memory alone, over blocks in another order. -/
theorem callK {P : Program} {f : FuncId} {xs : List AV} {σ σ2 : Hp} {K : AV → Hp → Prop} {x : AV} (hp : σ2.Perm σ) (h : ACalls P f xs σ2 (Ret x σ2)) (k : K x σ) : CallAt P f K xs σ := callP hp h hp.symm k
variable {α : Type} {f : α → List AV} {n : Nat}
theorem row_length (hf : ∀ x, (f x).length = n) (l : List α) : (l.flatMap f).length = l.length * n := flat_length hf l
theorem row_elem (hf : ∀ x, (f x).length = n) {l : List α} {j : Nat} (h : j < l.length) : ((l.flatMap f).drop (j * n)).take n = f l[j] := by
  induction l generalizing j with
  | nil => simp at h
  | cons x l ih =>
    cases j with
    | zero => simp [hf]
    | succ j =>
      rw [List.flatMap_cons, List.drop_append, hf, Nat.succ_mul, Nat.add_sub_cancel, List.drop_of_length_le (by rw [hf]; omega), List.nil_append]
      simpa using ih (by simpa using h)
theorem row_read {i : TI} (hi : i.wide = true) (hs : i.size = n) (hf : ∀ x, (f x).length = n) {l : List α} {k : Nat} (h : k < l.length) {z : Int} (hz : z = k) : readAs i (l.flatMap f) (0 + z.toNat * n) = some (.agg (f l[k])) := by
  subst hz
  have hl := row_length hf l
  have hm : (k + 1) * n ≤ l.length * n := Nat.mul_le_mul_right n h
  rw [Nat.add_mul, Nat.one_mul] at hm
  have hb : Nat.ble (0 + k * n + n) (l.flatMap f).length = true := Nat.ble_eq_true_of_le (by rw [hl]; omega)
  unfold readAs
  rw [hi, hs]
  show (match Nat.ble (0 + k * n + n) (l.flatMap f).length with | true => some (AV.agg (((l.flatMap f).drop (0 + k * n)).take n)) | false => none) = _
  rw [hb]
  show some (AV.agg (((l.flatMap f).drop (0 + k * n)).take n)) = _
  rw [Nat.zero_add, row_elem hf h]
theorem splice_mid : ∀ (vs A B C : List AV), B.length = vs.length → splice (A ++ (B ++ C)) A.length vs = A ++ (vs ++ C)
  | [], A, B, C, h => by
    obtain rfl := List.length_eq_zero_iff.1 h
    rfl
  | v :: vs, A, b :: B, C, h => by
    show splice ((A ++ (b :: (B ++ C))).set A.length v) (A.length + 1) vs = _
    have e : (A ++ (b :: (B ++ C))).set A.length v = (A ++ [v]) ++ (B ++ C) := by
      rw [List.set_append_right _ _ (Nat.le_refl _), Nat.sub_self]; simp
    rw [e, show A.length + 1 = (A ++ [v]).length by simp, splice_mid vs (A ++ [v]) B C (by simpa using h)]
    simp
theorem row_set (hf : ∀ x, (f x).length = n) {l : List α} {k : Nat} (h : k < l.length) (d : α) : splice (l.flatMap f) (k * n) (f d) = (l.set k d).flatMap f := by
  have e : l = l.take k ++ ([l[k]] ++ l.drop (k + 1)) := by simp
  have e2 : l.set k d = l.take k ++ ([d] ++ l.drop (k + 1)) := by
    rw [List.set_eq_take_append_cons_drop, if_pos h]; rfl
  have hk : ((l.take k).flatMap f).length = k * n := by rw [row_length hf, List.length_take, Nat.min_eq_left (Nat.le_of_lt h)]
  rw [e2]
  conv => lhs; rw [e]
  rw [List.flatMap_append, List.flatMap_append, List.flatMap_append, List.flatMap_append, List.flatMap_singleton, List.flatMap_singleton, ← hk]
  exact splice_mid _ _ _ _ (by rw [hf, hf])
theorem row_write {i : TI} (hs : i.size = n) (hf : ∀ x, (f x).length = n) {l : List α} {k : Nat} (h : k < l.length) (d : α) {z : Int} (hz : z = k) : writeAs i (l.flatMap f) (0 + z.toNat * n) (.agg (f d)) = some ((l.set k d).flatMap f) := by
  subst hz
  have hl := row_length hf l
  have hm : (k + 1) * n ≤ l.length * n := Nat.mul_le_mul_right n h
  rw [Nat.add_mul, Nat.one_mul] at hm
  have hb : Nat.ble (0 + k * n + n) (l.flatMap f).length = true := Nat.ble_eq_true_of_le (by rw [hl]; omega)
  have hq : Nat.beq (f d).length n = true := by rw [hf]; exact Nat.beq_refl n
  unfold writeAs
  rw [hs]
  show (match Nat.beq (f d).length n, Nat.ble (0 + k * n + n) (l.flatMap f).length with | true, true => some (splice (l.flatMap f) (0 + k * n) (f d)) | _, _ => none) = _
  rw [hb, hq]
  show some (splice (l.flatMap f) (0 + k * n) (f d)) = _
  rw [Nat.zero_add, row_set hf h]
theorem splice_take : ∀ (vs cs : List AV) (off k : Nat), k ≤ off → (splice cs off vs).take k = cs.take k
  | [], _, _, _, _ => rfl
  | v :: vs, cs, off, k, h => by
    show (splice (cs.set off v) (off + 1) vs).take k = _
    rw [splice_take vs _ _ _ (by omega), List.take_set_of_le h]
theorem row_take (hf : ∀ x, (f x).length = n) (l : List α) {k : Nat} (h : k ≤ l.length) : (l.flatMap f).take (k * n) = (l.take k).flatMap f := by
  conv => lhs; rw [← List.take_append_drop k l]
  rw [List.flatMap_append]
  exact List.take_left' (by rw [row_length hf, List.length_take, Nat.min_eq_left h])

end Go.Proofs.YtegpahamenjiaaaGreat
