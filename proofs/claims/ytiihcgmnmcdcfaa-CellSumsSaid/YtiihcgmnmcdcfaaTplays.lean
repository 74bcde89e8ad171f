/-
  soughlaw31: awake, and the walk of TicketPlays.
-/
import Derived.Test.YtiihcgmnmcdcfaaTmove
namespace Go.Proofs.Ytiihcgmnmcdcfaa
open Go.RowKit
set_option maxRecDepth 100000
theorem awake31a : ACalls Try.prog 50 [] [] (Ret (.bool true) []) := by
  refine okF Try.func50 (by kernel_rfl) ?_
  refine .mk [] _ (aNew 3 []) ?_
  rintro _ _ ⟨p, q, rfl, rfl⟩
  intro bb
  refine StoreAt.mk 0 _ _ rfl rfl ?_
  refine LoadAt.mk 0 _ _ rfl rfl ?_
  intro t
  refine LoadAt.mk 1 _ _ rfl rfl ?_
  intro u
  have t1 := fun σ => ofMPost (aTake (plainM p q) t ⟨0, 2, 1, false, false, false⟩ [0, 0, 0] 0 σ trivial) (x' := ⟨0, 2, 1, true, false, true⟩) (ws' := [0, 1, 0]) (b := false) rfl
  have t2 := fun σ => ofMPost (aTake (plainM p q) t ⟨0, 2, 1, true, false, true⟩ [0, 1, 0] 0 σ trivial) (x' := ⟨0, 2, 1, true, true, true⟩) (ws' := [0, 1, 1]) (b := true) rfl
  have t3 := fun σ => ofMPost (aTake (plainM p q) u ⟨0, 2, 1, false, false, false⟩ [0, 1, 1] 0 σ trivial) (x' := ⟨0, 2, 1, false, true, true⟩) (ws' := [0, 1, 1]) (b := true) rfl
  refine callR [3, 4, 4] (t1 _) ?_
  refine callR [] (t2 _) ?_
  refine LoadAt.mk 0 _ _ rfl rfl ?_
  refine callR [3, 2, 2] (t3 _) ?_
  refine LoadAt.mk 0 _ _ rfl rfl ?_
  refine LoadAt.mk 4 _ _ rfl rfl ?_
  refine callR [2, 2] (aWaitsP 0 2 1 p q [0, 1, 1] _) ?_
  refine LoadAt.mk 4 _ _ rfl rfl ?_
  refine callR [] (aNumberP 0 2 p q [0, 1, 1] _) ?_
  exact .drop 0 5 (.done ⟨rfl, rfl⟩)

theorem flat_elem {α : Type} {f : α → List AV} {n : Nat} (hf : ∀ x, (f x).length = n) {l : List α} {j : Nat} (h : j < l.length) : ((l.flatMap f).drop (j * n)).take n = f l[j] := by
  induction l generalizing j with
  | nil => simp at h
  | cons x l ih =>
    cases j with
    | zero => simp [hf]
    | succ j =>
      rw [List.flatMap_cons, List.drop_append, hf, Nat.succ_mul, Nat.add_sub_cancel, List.drop_of_length_le (by rw [hf]; omega), List.nil_append]
      simpa using ih (by simpa using h)

theorem OT.val_len (o : OT) : o.val.length = 5 := by cases o <;> rfl
theorem flatM_perm {α : Type} {f : α → Hp} {l : List α} {j : Nat} (h : j < l.length) : (l.flatMap f).Perm (f l[j] ++ (l.eraseIdx j).flatMap f) := by
  induction l generalizing j with
  | nil => simp at h
  | cons x l ih =>
    cases j with
    | zero => exact List.Perm.refl _
    | succ j =>
      rw [List.flatMap_cons]
      have := ih (j := j) (by simpa using h)
      refine (List.Perm.append_left _ this).trans ?_
      simp only [List.getElem_cons_succ, List.eraseIdx_cons_succ, List.flatMap_cons, ← List.append_assoc]
      exact List.Perm.append_right _ List.perm_append_comm
theorem flatM_set {α : Type} {f : α → Hp} {l : List α} {j : Nat} (h : j < l.length) (y : α) : ((l.set j y).flatMap f).Perm (f y ++ (l.eraseIdx j).flatMap f) := by
  have := flatM_perm (f := f) (l := l.set j y) (j := j) (by simpa using h)
  rw [List.getElem_set_self, List.eraseIdx_set_eq] at this
  exact this
theorem mset {ws : List Int} {k : Nat} (x : Int) : ws.set k x = mStore ws k x := (store_hit x).symm

theorem base_perm (base acc F B : Hp) : (base ++ (acc ++ (F ++ B))).Perm (B ++ (base ++ (acc ++ F))) := by
  rw [← List.append_assoc acc, ← List.append_assoc base]
  exact List.perm_append_comm
/-- Two rows of blocks change places, and one from the front goes behind all. -/
theorem list_perm_aux (o a b c F : Hp) : (o ++ (a ++ (b ++ (c ++ F)))).Perm (b ++ (a ++ (c ++ (o ++ F)))) := by
  have h1 : (o ++ (a ++ (b ++ (c ++ F)))).Perm (o ++ (b ++ (a ++ (c ++ F)))) := List.Perm.append_left _ (front_perm' b a _)
  refine h1.trans ?_
  have h2 := front_perm' (b ++ (a ++ c)) o F
  simpa only [List.append_assoc] using h2
theorem readElem {i : TI} (hi : i.wide = true) (hs : i.size = 5) {l : List OT} {j : Nat} (h : j < l.length) {x : Int} (hx : x = j) : readAs i (l.flatMap OT.val) (0 + x.toNat * 5) = some (.agg l[j].val) := by
  subst hx
  have hl := flat_length (f := OT.val) (es := 5) OT.val_len l
  have hb : Nat.ble (0 + j * 5 + 5) (l.flatMap OT.val).length = true := Nat.ble_eq_true_of_le (by rw [hl]; omega)
  unfold readAs
  rw [hi, hs]
  show (match Nat.ble (0 + j * 5 + 5) (l.flatMap OT.val).length with | true => some (AV.agg (((l.flatMap OT.val).drop (0 + j * 5)).take 5)) | false => none) = _
  rw [hb]
  show some (AV.agg (((l.flatMap OT.val).drop (0 + j * 5)).take 5)) = _
  rw [Nat.zero_add, flat_elem OT.val_len h]
theorem pick_mod {z : Int} {n : Nat} (hz : 0 ≤ z ∧ z ≤ 255) (hn : 0 < n) : ∃ j : Nat, (IntKind.i64.wrap z).tmod n = j ∧ j < n := by
  rw [show IntKind.i64.wrap z = z by rw [IntKind.wrap_i64]; omega, Int.tmod_eq_emod_of_nonneg hz.1]
  have h1 := Int.emod_nonneg z (show (n : Int) ≠ 0 by omega)
  have h2 := Int.emod_lt_of_pos z (show (0 : Int) < n by omega)
  exact ⟨(z % n).toNat, by omega, by omega⟩

end Go.Proofs.Ytiihcgmnmcdcfaa
