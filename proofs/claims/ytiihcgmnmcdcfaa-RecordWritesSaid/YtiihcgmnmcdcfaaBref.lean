/-
  mem.Or, mem.All over a Plain; the reference's memory: by the abstract walk. The methods that a Plain is asked by through an interface.
-/
import Derived.Test.YtiihcgmnmcdcfaaBmem
namespace Go.Proofs.Ytiihcgmnmcdcfaa
open Go.RowKit
set_option maxRecDepth 100000
theorem mLen_ : Meth Try.prog 24 "Len" 178 := fun a w => by kernel_rfl
theorem mLoad_ : Meth Try.prog 24 "Load" 179 := fun a w => by kernel_rfl
theorem mStore_ : Meth Try.prog 24 "Store" 18 := fun a w => by kernel_rfl
theorem mCAS_ : Meth Try.prog 24 "CAS" 177 := fun a w => by kernel_rfl
theorem mAdd_ : Meth Try.prog 24 "Add" 19 := fun a w => by kernel_rfl
theorem hStore_ : AheadOk Try.prog 24 "Store" := fun a w => by kernel_rfl
theorem hCAS_ : AheadOk Try.prog 24 "CAS" := fun a w => by kernel_rfl
theorem hAdd_ : AheadOk Try.prog 24 "Add" := fun a w => by kernel_rfl
theorem hLoad_ : AheadOk Try.prog 24 "Load" := fun a w => by kernel_rfl
/-- The interface's value over a Plain. -/
abbrev plI (p : Nat) : AV := .iface 24 (.ptr p 0)

theorem aOr (t : Nat) (x : AV) (σ : Hp) : ACalls Try.prog 72 [.iface t x] σ (Ret (.iface t x) σ) := by
  refine okF Try.func72 (by kernel_rfl) ?_
  exact .done ⟨rfl, rfl⟩

theorem woC_snoc {ws : List Int} {k : Nat} (h : k < ws.length) : (woC (ws.take k)).take (k * 1) ++ [AV.int .u64 (ws.getD k 0)] = woC (ws.take (k + 1)) := by
  rw [List.take_succ_eq_append_getElem h]
  unfold woC
  rw [List.map_append, List.take_of_length_le (by simp; omega)]
  simp [List.getD, h]

theorem woC_flat : ∀ (ws : List Int), woC ws = ws.flatMap (Sh.cells (.int .u64))
  | [] => rfl
  | z :: ws => congrArg (AV.int .u64 z :: ·) (woC_flat ws)
theorem aAll (p q : Nat) (ws : List Int) (σ : Hp) (hl : ws.length ≤ 1000000) : ACalls Try.prog 21 [plI p] (plH p q ws σ) (Ret (.fsl (.int .u64) ws) (plH p q ws σ)) := by
  refine okF Try.func21 (by kernel_rfl) ?_
  refine callR [] (aOr _ _ _) ?_
  refine InvAt.mk _ mLen_ ?_
  refine callR [] (aLen p q ws σ) ?_
  refine loopS (S := Nat × AV × Hp) (fun s => [(0, plI p), (3, s.2.1), (8, .int .i64 ws.length), (9, .int .i64 s.1)]) (fun s => s.2.2) (fun s => s.1 ≤ ws.length ∧ ((s.1 = 0 ∧ s.2.1 = .nils ∧ s.2.2 = plH p q ws σ) ∨ (0 < s.1 ∧ ∃ b, s.2.1 = .mref b 0 s.1 1 ∧ s.2.2 = (b, woC (ws.take s.1)) :: plH p q ws σ))) (fun s => ws.length - s.1) (0, .nils, plH p q ws σ) ⟨⟨Nat.zero_le _, .inl ⟨rfl, rfl, rfl⟩⟩, ⟨rfl, rfl, rfl, rfl, trivial⟩, rfl⟩ ?_
  rintro ⟨k, v, σ'⟩ g ⟨hk, hs⟩
  have hk : k ≤ ws.length := hk
  simp only at hs
  rcases hs with ⟨rfl, rfl, rfl⟩ | ⟨hpos, b, rfl, rfl⟩
  · refine bcond_dec (fun hlt => ?_) (fun hge => ?_)
    · have hlt : ((0 : Nat) : Int) < ws.length := hlt
      have hlt : 0 < ws.length := by omega
      refine InvAt.mk _ mLoad_ ?_
      refine callR [] (aLoad p q ws ((0 : Nat) : Int) σ) ?_
      intro b
      refine AppendAt.fresh 1 _ (.inl rfl) (.mref 0 b 0 1 _ rfl (Nat.le_of_ble_eq_true rfl)) (by decide) (by decide) (by decide) (fun _ b' => ?_) (fun h => absurd h (by decide))
      refine nextS (1, .mref b' 0 1 1, (b', woC (ws.take 1)) :: plH p q ws σ) ?_ ?_ ?_ ?_
      · show ws.length - 1 < ws.length - 0; omega
      · exact ⟨hlt, .inr ⟨Nat.one_pos, b', rfl, rfl⟩⟩
      · exact ⟨rfl, rfl, rfl, inc64 (k := 0) (by omega), trivial⟩
      refine .drop 1 1 (shed_eq ?_)
      show (b', [AV.int .u64 (mLoad ws ((0 : Nat) : Int))]) :: plH p q ws σ = (b', woC (ws.take 1)) :: plH p q ws σ
      rw [load_hit, ← woC_snoc hlt]; rfl
    · have hge : ¬ ((0 : Nat) : Int) < ws.length := hge
      have : ws = [] := List.length_eq_zero_iff.1 (by omega)
      subst this
      exact .nil (.nil _) (.done ⟨rfl, rfl⟩)
  · have hpos : 0 < k := hpos
    refine bcond_dec (fun hlt => ?_) (fun hge => ?_)
    · have hlt : (k : Int) < ws.length := hlt
      have hlt : k < ws.length := by omega
      refine InvAt.mk _ mLoad_ ?_
      refine callR [2, 2] (aLoad p q ws (k : Int) ((b, woC (ws.take k)) :: σ)) ?_
      intro b1
      refine AppendAt.more 3 b k 1 (woC (ws.take k)) _ rfl rfl (by simp [woC]; omega) (.mref 0 b1 0 1 _ rfl (Nat.le_of_ble_eq_true rfl)) (by omega) (by decide) (by decide) (fun b' => ?_)
      refine nextS (k + 1, .mref b' 0 (k + 1) 1, (b', woC (ws.take (k + 1))) :: plH p q ws σ) ?_ ?_ ?_ ?_
      · show ws.length - (k + 1) < ws.length - k; omega
      · exact ⟨hlt, .inr ⟨Nat.succ_pos _, b', rfl, rfl⟩⟩
      · exact ⟨rfl, rfl, rfl, inc64 (by omega), trivial⟩
      refine .drop 1 1 (shed_eq ?_)
      show (b', (woC (ws.take k)).take (k * 1) ++ [AV.int .u64 (mLoad ws (k : Int))]) :: plH p q ws σ = (b', woC (ws.take (k + 1))) :: plH p q ws σ
      rw [load_hit, woC_snoc hlt]
    · have hge : ¬ (k : Int) < ws.length := hge
      obtain rfl : k = ws.length := by omega
      rw [List.take_length]
      exact .frz 0 b 0 ws.length 1 _ (.int .u64) ws rfl (by rw [← woC_flat]; exact List.take_of_length_le (by simp [woC])) ⟨rfl, rfl, by decide⟩ .here (.done ⟨rfl, rfl⟩)
end Go.Proofs.Ytiihcgmnmcdcfaa
