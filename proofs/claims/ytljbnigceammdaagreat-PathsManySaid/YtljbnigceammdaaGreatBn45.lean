/-
  Hb: what the claim uses of them.
-/
import Derived.Test.YtljbnigceammdaaGreatBn44
namespace Go.Proofs.YtljbnigceammdaaGreat
open Go.RowKit
set_option maxRecDepth 100000
theorem tup2 {k : IntKind} {a a' b b' : Int} (h1 : a = a') (h2 : b = b') : AV.tup [.int k a, .int k b] = AV.tup [.int k a', .int k b'] := by rw [h1, h2]
theorem aMul64 (n : Nat) (σ : Hp) (hn : n ≤ 256) : ACalls Tryz.prog 121 [.int .u64 1, .int .u64 n] σ (Ret (.tup [.int .u64 0, .int .u64 n]) σ) := by
  refine okF Tryz.func121 (by kernel_rfl) ?_
  refine With.mk (by omega) ?_
  refine With.mk (by omega) ?_
  refine With.mk (by omega) ?_
  refine With.mk (by omega) ?_
  refine With.mk (by omega) ?_
  refine .done ⟨tup2 ?_ ?_, rfl⟩
  · revert hn; revert n; decide +kernel
  · revert hn; revert n; decide +kernel
theorem aMul (n : Nat) (σ : Hp) (hn : n ≤ 256) : ACalls Tryz.prog 82 [.int .u64 1, .int .u64 n] σ (Ret (.tup [.int .u64 0, .int .u64 n]) σ) := by
  refine okF Tryz.func82 (by kernel_rfl) ?_
  refine callR [] (aMul64 n _ hn) ?_
  exact .done ⟨rfl, rfl⟩
/-- m ones, then zeros. -/
def onesZ (n m : Nat) : List Int := List.replicate m 1 ++ List.replicate (n - m) 0
theorem onesZ_length {n m : Nat} (h : m ≤ n) : (onesZ n m).length = n := by unfold onesZ; simp; omega
theorem onesZ_splice {n m k : Nat} (hk : k ≤ m) (h : m + k ≤ n) : splice (inC (onesZ n m)) m (((inC (onesZ n m)).drop 0).take (k * 1)) = inC (onesZ n (m + k)) := by
  have h2 : ((inC (onesZ n m)).drop 0).take (k * 1) = inC (List.replicate k 1) := by
    rw [List.drop_zero, Nat.mul_one]
    unfold onesZ inC
    rw [← List.map_take, List.take_append_of_le_length (by simp; omega), List.take_replicate, Nat.min_eq_left hk]
  have e : inC (onesZ n m) = inC (List.replicate m 1) ++ (inC (List.replicate k 0) ++ inC (List.replicate (n - (m + k)) 0)) := by
    unfold onesZ inC
    rw [List.map_append, show n - m = k + (n - (m + k)) by omega, ← List.replicate_append_replicate, List.map_append]
  have e2 : inC (onesZ n (m + k)) = inC (List.replicate m 1) ++ (inC (List.replicate k 1) ++ inC (List.replicate (n - (m + k)) 0)) := by
    unfold onesZ inC
    rw [← List.replicate_append_replicate, List.map_append, List.map_append, List.append_assoc]
  have h3 := splice_mid (inC (List.replicate k 1)) (inC (List.replicate m 1)) (inC (List.replicate k 0)) (inC (List.replicate (n - (m + k)) 0)) (by simp [inC])
  rw [show (inC (List.replicate m 1)).length = m by simp [inC]] at h3
  rw [h2, e, h3, e2]
theorem rep_inC : ∀ n : Nat, repC [.int .i64 0] n = inC (List.replicate n 0)
  | 0 => rfl
  | n + 1 => by
    show [AV.int .i64 0] ++ repC [.int .i64 0] n = _
    rw [rep_inC n]; rfl
theorem onesZ_start {n : Nat} (h : 1 ≤ n) : splice (repC [.int .i64 0] n) 0 ([.int .i64 1] : List AV) = inC (onesZ n 1) := by
  obtain ⟨k, rfl⟩ : ∃ k, n = k + 1 := ⟨n - 1, by omega⟩
  rw [rep_inC]
  rfl
theorem onesZ_end (n : Nat) : onesZ n n = List.replicate n 1 := by unfold onesZ; rw [Nat.sub_self]; simp
theorem aRepeat (n : Nat) (σ : Hp) (hn : n ≤ 256) (h0 : 1 ≤ n) : ACalls Tryz.prog 44 [.fsl (.int .i64) ([1] : List Int), .int .i64 n] σ (fun r σ' => ∃ b, r = .mref b 0 n 1 ∧ σ' = (b, inC (List.replicate n 1)) :: σ) := by
  refine okF Tryz.func44 (by kernel_rfl) ?_
  have hw : ∀ σ, ACalls Tryz.prog 82 [.int .u64 (IntKind.u64.wrap (([1] : List Int).length : Int)), .int .u64 (IntKind.u64.wrap (n : Int))] σ (Ret (.tup [.int .u64 0, .int .u64 n]) σ) := fun σ => by
    rw [show IntKind.u64.wrap (n : Int) = n by revert hn h0; revert n; decide +kernel]
    exact aMul n σ hn
  refine callR [] (hw _) ?_
  refine bcond_dec (fun c1 => ?_) (fun c1 => ?_)
  · have c1 : 9223372036854775807 < (↑n : Int) := c1
    omega
  · generalize hm : IntKind.i64.wrap (n : Int) = m
    obtain rfl : m = (n : Int) := by rw [← hm, IntKind.wrap_i64]; omega
    refine With.mk ⟨by omega, by omega, by omega, by decide⟩ ?_
    intro bl1
    generalize hm2 : IntKind.i64.wrap (n : Int) = m2
    obtain rfl : m2 = (n : Int) := by rw [← hm2, IntKind.wrap_i64]; omega
    refine .mref 0 bl1 0 n 1 _ _ rfl rfl (by simp [repC_length]) (.fsl (.int .i64) ([1] : List Int) rfl) h0 ?_
    refine loopS (S := Nat) (fun m => [(7, .mref bl1 0 n 1), (8, .int .i64 m)]) (fun m => (bl1, inC (onesZ n m)) :: σ) (fun m => 1 ≤ m ∧ m ≤ n) (fun m => n - m) 1 ⟨⟨Nat.le_refl _, h0⟩, ⟨rfl, rfl, trivial⟩, by rw [← onesZ_start h0]; rfl⟩ ?_
    rintro m g ⟨h10, h20⟩
    have h1 : 1 ≤ m := h10
    have h2 : m ≤ n := h20
    clear h10 h20
    have hlen : (inC (onesZ n m)).length = n := by unfold inC; rw [List.length_map, onesZ_length h2]
    refine bcond_dec (fun hlt => ?_) (fun hge => ?_)
    · have hlt : m < n := by have hlt : (m : Int) < n := hlt; omega
      refine .sched [] (upto [] 10 0) (by kernel_rfl) ?_
      refine With.mk ⟨by omega, by omega, by omega, rfl⟩ ?_
      refine With.mk ⟨by omega, by omega, by omega, rfl⟩ ?_
      have hadd : ∀ k : Nat, k ≤ n → AV.int .i64 (IntKind.i64.wrap ((m : Int) + (k : Int))) = AV.int .i64 ((m + k : Nat) : Int) := fun k hk => av_int (by rw [IntKind.wrap_i64]; omega)
      by_cases hk : m ≤ n - m
      · refine .mref 0 bl1 (0 + m * 1) (n - m) m _ _ rfl rfl (by show 0 + m * 1 + (n - m) * 1 ≤ _; rw [hlen]; omega) (.mref 0 bl1 0 m _ rfl (by show 0 + m * 1 ≤ _; rw [hlen]; omega)) hk ?_
        have e := onesZ_splice (n := n) (Nat.le_refl m) (by omega)
        refine nextS (m + m) (by show n - (m + m) < n - m; omega) ⟨by show 1 ≤ m + m; omega, by show m + m ≤ n; omega⟩ ⟨rfl, hadd m (by omega), trivial⟩ (shed_eq ?_)
        show (bl1, splice (inC (onesZ n m)) (0 + m * 1) _) :: σ = _
        rw [show 0 + m * 1 = m by omega]
        exact congrArg (fun c => (bl1, c) :: σ) e
      · refine .part 0 bl1 (0 + m * 1) (n - m) _ rfl rfl (by show 0 + m * 1 + (n - m) * 1 ≤ _; rw [hlen]; omega) 0 bl1 0 m _ rfl rfl (by show 0 + m * 1 ≤ _; rw [hlen]; omega) (by omega) ?_
        have e := onesZ_splice (n := n) (m := m) (k := n - m) (by omega) (by omega)
        refine nextS (m + (n - m)) (by show n - (m + (n - m)) < n - m; omega) ⟨by show 1 ≤ m + (n - m); omega, by show m + (n - m) ≤ n; omega⟩ ⟨rfl, hadd (n - m) (by omega), trivial⟩ (shed_eq ?_)
        show (bl1, splice (inC (onesZ n m)) (0 + m * 1) _) :: σ = _
        rw [show 0 + m * 1 = m by omega]
        exact congrArg (fun c => (bl1, c) :: σ) e
    · have hge : m = n := by have hge : ¬ (m : Int) < n := hge; omega
      subst hge
      exact .done ⟨bl1, rfl, by rw [onesZ_end]⟩
end Go.Proofs.YtljbnigceammdaaGreat
