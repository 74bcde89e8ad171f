/-
  slices.CompactFunc of edges.
-/
import Derived.Test.YtegpahamenjiaaaGreatZx
import Derived.Test.YtegpahamenjiaaaGreatRow
namespace Go.Proofs.YtegpahamenjiaaaGreat
open Go.RowKit
set_option maxRecDepth 100000
abbrev PrF (x : Int × Int × Unit) : List AV := [.int .i64 x.1, .int .i64 x.2.1]
theorem prF_len (x : Int × Int × Unit) : (PrF x).length = 2 := rfl
def keepJ (L : List (Int × Int × Unit)) (j : Nat) : Bool := decide (j = 0) || !decide (L.getD j (0, 0, ()) = L.getD (j - 1) (0, 0, ()))
def compU (L : List (Int × Int × Unit)) (j : Nat) : List (Int × Int × Unit) := ((List.range j).filter (keepJ L)).map fun i => L.getD i (0, 0, ())
/-- Each once of those that stand behind one another. -/
def compP (L : List (Int × Int × Unit)) : List (Int × Int × Unit) := compU L L.length
theorem compU_succ (L : List (Int × Int × Unit)) (j : Nat) : compU L (j + 1) = compU L j ++ (if keepJ L j = true then [L.getD j (0, 0, ())] else []) := by
  unfold compU
  rw [List.range_succ, List.filter_append, List.map_append]
  congr 1
  by_cases h : keepJ L j = true
  · rw [if_pos h, List.filter_cons_of_pos h]; rfl
  · rw [if_neg h, List.filter_cons_of_neg h]; rfl
theorem aEqP (x y : Int × Int × Unit) (σ : Hp) : ACalls Tryz.prog 121 [.agg (PrF x), .agg (PrF y)] σ (Ret (.bool (decide (x = y))) σ) := by
  have h := aEqE x.1 x.2.1 y.1 y.2.1 σ
  have e : (decide (x.1 = y.1) && decide (x.2.1 = y.2.1)) = decide (x = y) := by
    obtain ⟨a, b, _⟩ := x
    obtain ⟨c, d, _⟩ := y
    simp only [Prod.mk.injEq, and_true, Bool.decide_and]
  rw [e] at h
  exact h
theorem getDE {L : List (Int × Int × Unit)} {j : Nat} (h : j < L.length) : L.getD j (0, 0, ()) = L[j] := by rw [List.getD_eq_getElem?_getD, List.getElem?_eq_getElem h]; rfl
theorem readP {i : TI} (hi : i.wide = true) (hs : i.size = 2) {l : List (Int × Int × Unit)} {p q : Nat} (h : q < l.length) {z : Int} (hz : (p : Int) + z = q) (h0 : 0 ≤ z) : readAs i (l.flatMap PrF) (0 + p * 2 + z.toNat * 2) = some (.agg (PrF l[q])) := by
  rw [← row_read (f := PrF) (n := 2) hi hs prF_len h rfl]
  congr 1
  omega
theorem aCompactP (b : Nat) (L : List (Int × Int × Unit)) (σ : Hp) (hl : L.length ≤ 1000000) : ACalls Tryz.prog 120 [.mref b 0 L.length 2, .fn (.func 121) [] []] ((b, prC L) :: σ)
    (fun x σ' => ∃ (k : Nat) (cs : List AV), k = (compP L).length ∧ cs.take (k * 2) = prC (compP L) ∧ x = .mref b 0 k 2 ∧ σ' = (b, cs) :: σ) := by
  refine okF Tryz.func120 (by kernel_rfl) ?_
  refine bcond_dec (p := (L.length : Int) < 2) (fun c1 => ?_) (fun c1 => ?_)
  · have hc : compP L = L := by
      match L, c1 with
      | [], _ => rfl
      | [x], _ => rfl
      | x :: y :: r, h => simp only [List.length_cons] at h; omega
    refine .done ⟨L.length, prC L, by rw [hc], ?_, rfl, rfl⟩
    rw [hc]
    exact List.take_of_length_le (Nat.le_of_eq (prC_length L))
  refine loopS (S := Nat) (fun k => [(0, .mref b 0 L.length 2), (1, .fn (.func 121) [] []), (5, .int .i64 ((k + 1 : Nat) : Int))]) (fun _ => (b, prC L) :: σ) (fun k => k + 1 ≤ L.length ∧ compU L (k + 1) = L.take (k + 1)) (fun k => L.length - k) 0 ⟨⟨by omega, ?_⟩, ⟨rfl, rfl, rfl, trivial⟩, rfl⟩ ?_
  · rw [compU_succ]
    have h0 : 0 < L.length := by omega
    rw [List.take_succ_eq_append_getElem h0, if_pos (show keepJ L 0 = true from rfl), getDE h0]; rfl
  rintro k g ⟨hk0, ha0⟩
  have hk : k + 1 ≤ L.length := hk0
  have ha : compU L (k + 1) = L.take (k + 1) := ha0
  clear hk0 ha0
  have hw : IntKind.i64.wrap (((k + 1 : Nat) : Int) - 1) = (k : Int) := by rw [IntKind.wrap_i64]; omega
  refine bcond_dec (p := ((k + 1 : Nat) : Int) < (L.length : Int)) (fun hlt => ?_) (fun hge => ?_)
  · have hlt : k + 1 < L.length := by omega
    refine .quiet (by kernel_rfl) ?_
    refine With.mk ⟨rfl, by omega, by omega⟩ ?_
    refine LoadAt.mk 0 _ (.agg (PrF L[k + 1])) rfl (row_read rfl rfl prF_len hlt rfl) ?_
    refine With.mk ⟨rfl, by rw [hw]; omega, by rw [hw]; omega⟩ ?_
    refine LoadAt.mk 0 _ (.agg (PrF L[k])) rfl (row_read rfl rfl prF_len (by omega) hw) ?_
    refine callQB [] (aEqP L[k + 1] L[k] _) (fun c2 => ?_) (fun c2 => ?_)
    rotate_left
    · refine nextS (k + 1) (by show L.length - (k + 1) < L.length - k; omega) ⟨hlt, ?_⟩ ⟨rfl, rfl, inc64 (by omega), trivial⟩ (.refl _)
      show compU L (k + 1 + 1) = L.take (k + 1 + 1)
      rw [compU_succ, ha, List.take_succ_eq_append_getElem hlt, getDE hlt]
      have hkj : keepJ L (k + 1) = true := by
        unfold keepJ
        rw [getDE hlt, Nat.add_sub_cancel, getDE (by omega), c2]; simp
      rw [if_pos hkj]
    have hkj : keepJ L (k + 1) = false := by
      unfold keepJ
      rw [getDE hlt, Nat.add_sub_cancel, getDE (by omega), c2]; simp
    have hc0 : compU L ((k + 1) + 1) = L.take (k + 1) := by rw [compU_succ, hkj, ha]; simp
    refine With.mk ⟨by omega, by omega, by omega, rfl⟩ ?_
    refine loopS (S := Nat × Nat × List (Int × Int × Unit)) (fun s => [(0, .mref b 0 L.length 2), (1, .fn (.func 121) [] []), (5, .int .i64 s.1), (6, .mref b (0 + (k + 1) * 2) (L.length - (k + 1)) 2), (7, .int .i64 ((s.2.1 + 1 : Nat) : Int))]) (fun s => (b, s.2.2.flatMap PrF) :: σ) (fun s => s.1 ≤ (k + 1) + s.2.1 ∧ (k + 1) + s.2.1 + 1 ≤ L.length ∧ s.2.2.length = L.length ∧ s.2.2.take s.1 = compU L ((k + 1) + s.2.1 + 1) ∧ s.2.2.drop ((k + 1) + s.2.1) = L.drop ((k + 1) + s.2.1)) (fun s => L.length - s.2.1) ((k + 1), 0, L) ⟨⟨Nat.le_refl _, hlt, rfl, hc0.symm, rfl⟩, ⟨rfl, rfl, rfl, rfl, rfl, trivial⟩, rfl⟩ ?_
    rintro ⟨i, j, M⟩ g ⟨hi0, hj0, hM0, hF0, hD0⟩
    have hi : i ≤ (k + 1) + j := hi0
    have hj : (k + 1) + j + 1 ≤ L.length := hj0
    have hM : M.length = L.length := hM0
    have hF : M.take i = compU L ((k + 1) + j + 1) := hF0
    have hD : M.drop ((k + 1) + j) = L.drop ((k + 1) + j) := hD0
    clear hi0 hj0 hM0 hF0 hD0
    have hw2 : IntKind.i64.wrap (((j + 1 : Nat) : Int) - 1) = (j : Int) := by rw [IntKind.wrap_i64]; omega
    refine bcond_dec (p := ((j + 1 : Nat) : Int) < ((L.length - (k + 1) : Nat) : Int)) (fun h => ?_) (fun h => ?_)
    · have h1 : (k + 1) + j + 1 < L.length := by omega
      have hM1 : (k + 1) + j + 1 < M.length := by omega
      have hM2 : (k + 1) + j < M.length := by omega
      have e1 : M[(k + 1) + j + 1] = L[(k + 1) + j + 1] := by
        have := congrArg (fun x => x[1]?) hD
        simpa [h1, hM1] using this
      have e2 : M[(k + 1) + j] = L[(k + 1) + j] := by
        have := congrArg (fun x => x[0]?) hD
        simpa [hM2, show (k + 1) + j < L.length by omega] using this
      have hD1 : M.drop ((k + 1) + j + 1) = L.drop ((k + 1) + j + 1) := by
        have h3 := congrArg (List.drop 1) hD
        rwa [List.drop_drop, List.drop_drop] at h3
      refine .quiet (by kernel_rfl) ?_
      refine With.mk ⟨rfl, (show (0 : Int) ≤ ((j + 1 : Nat) : Int) by omega), h⟩ ?_
      refine LoadAt.mk 0 _ (.agg (PrF M[(k + 1) + j + 1])) rfl (readP (z := ((j + 1 : Nat) : Int)) rfl rfl hM1 (by omega) (by omega)) ?_
      refine With.mk ⟨rfl, by rw [hw2]; omega, by rw [hw2]; omega⟩ ?_
      refine LoadAt.mk 0 _ (.agg (PrF M[(k + 1) + j])) rfl (readP rfl rfl hM2 (by rw [hw2]; omega) (by rw [hw2]; omega)) ?_
      have hkk : keepJ L ((k + 1) + j + 1) = !decide (M[(k + 1) + j + 1] = M[(k + 1) + j]) := by
        unfold keepJ
        rw [getDE h1, Nat.add_sub_cancel, getDE (by omega), e1, e2]; simp
      refine callQB [] (aEqP M[(k + 1) + j + 1] M[(k + 1) + j] _) (fun c3 => ?_) (fun c3 => ?_)
      · rw [c3] at hkk
        refine nextS (i, j + 1, M) (by show L.length - (j + 1) < L.length - j; omega) ⟨by show i ≤ (k + 1) + (j + 1); omega, by show (k + 1) + (j + 1) + 1 ≤ L.length; omega, hM, ?_, hD1⟩ ⟨rfl, rfl, rfl, rfl, inc64 (k := j + 1) (by omega), trivial⟩ (.refl _)
        show M.take i = compU L ((k + 1) + (j + 1) + 1)
        rw [show (k + 1) + (j + 1) + 1 = (k + 1) + j + 1 + 1 by omega, compU_succ, hkk, hF]; simp
      · rw [c3] at hkk
        refine With.mk ⟨rfl, (show (0 : Int) ≤ ((j + 1 : Nat) : Int) by omega), h⟩ ?_
        refine LoadAt.mk 0 _ (.agg (PrF M[(k + 1) + j + 1])) rfl (readP (z := ((j + 1 : Nat) : Int)) rfl rfl hM1 (by omega) (by omega)) ?_
        refine With.mk ⟨rfl, by omega, by omega⟩ ?_
        have hiM : i < M.length := by omega
        refine StoreAt.mk 0 _ _ rfl (row_write rfl prF_len hiM M[(k + 1) + j + 1] rfl) ?_
        refine nextS (i + 1, j + 1, M.set i M[(k + 1) + j + 1]) (by show L.length - (j + 1) < L.length - j; omega) ⟨by show i + 1 ≤ (k + 1) + (j + 1); omega, by show (k + 1) + (j + 1) + 1 ≤ L.length; omega, (List.length_set ..).trans hM, ?_, ?_⟩ ⟨rfl, rfl, inc64 (k := i) (by omega), rfl, inc64 (k := j + 1) (by omega), trivial⟩ (.refl _)
        · show (M.set i M[(k + 1) + j + 1]).take (i + 1) = compU L ((k + 1) + (j + 1) + 1)
          rw [show (k + 1) + (j + 1) + 1 = (k + 1) + j + 1 + 1 by omega, compU_succ, hkk, List.take_succ_eq_append_getElem (by rw [List.length_set]; exact hiM), List.take_set_of_le (Nat.le_refl _), List.getElem_set_self, hF, getDE h1, e1]
          simp
        · show (M.set i M[(k + 1) + j + 1]).drop ((k + 1) + (j + 1)) = L.drop ((k + 1) + (j + 1))
          rw [List.drop_set_of_lt (by omega)]
          exact hD1
    · have h1 : (k + 1) + j + 1 = L.length := by omega
      rw [h1] at hF
      refine With.mk ⟨by omega, by omega, by omega, rfl⟩ ?_
      refine ClearAt.mref 0 b _ _ _ rfl rfl (by show 0 + (i : Int).toNat * 2 + ((L.length : Int).toNat - (i : Int).toNat) * 2 ≤ (M.flatMap PrF).length; rw [row_length prF_len]; omega) ?_
      refine With.mk ⟨by omega, by omega, by omega, rfl⟩ ?_
      have hil : i = (compP L).length := by unfold compP; rw [← hF, List.length_take]; omega
      refine .done ⟨i, _, hil, ?_, rfl, rfl⟩
      rw [splice_take _ _ _ _ (by omega), row_take prF_len M (by omega), hF]; rfl
  · have hge : k + 1 = L.length := by omega
    have hc : compP L = L := by unfold compP; rw [← hge, ha, hge, List.take_length]
    refine .done ⟨L.length, prC L, by rw [hc], ?_, rfl, rfl⟩
    rw [hc]
    exact List.take_of_length_le (Nat.le_of_eq (prC_length L))
end Go.Proofs.YtegpahamenjiaaaGreat
