/-
  Le: what the claim uses of them.
-/
import Derived.Test.YtacacplipaeokaaBn42
namespace Go.Proofs.Ytacacplipaeokaa
open Go.RowKit
set_option maxRecDepth 100000
set_option maxHeartbeats 4000000
abbrev frE (l : Nat) (rd : AV) (bo bd : Nat) (ops : List OpR) (dn : List Int) (τ : Hp) : Hp := (l, [rd]) :: (bo, [.fsl opSh (ops.map opT)]) :: (bd, [.fsl (.int .i64) dn]) :: τ
theorem shed_front (G : Hp) {σ σ2 : Hp} (h : Shed σ σ2) : Shed (G ++ σ) σ2 := .drop 0 G.length (by rw [List.take_zero, Nat.zero_add, List.drop_left]; exact h)
theorem aFreeIt (l bo bd : Nat) (rd : AV) (ops : List OpR) (dn : List Int) (τ : Hp) (N : Int → Prop) (E : Hp → Prop) (ho : ops.length ≤ 100000) (hd : dn.length ≤ 100000)
    (hY : ∀ (i : Int) (p : Nat × List AV), FreeP ops dn i → YCalls Try.prog l [.int .i64 i] (frE l rd bo bd ops dn (p :: τ)) (fun r σ' => (r = .bool true ∧ N i ∧ ∃ G, σ' = G ++ frE l rd bo bd ops dn (p :: τ)) ∨ (r = .bool false ∧ E σ'))) :
    ACalls Try.prog 81 [.fn (.yield l) [] [], .ptr bo 0, .ptr bd 0] (frE l rd bo bd ops dn τ) (fun _ σ' => (σ' = frE l rd bo bd ops dn τ ∧ ∀ i, FreeP ops dn i → N i) ∨ E σ') := by
  refine okF Try.func81 (by kernel_rfl) ?_
  refine LoadAt.mk 1 _ _ rfl rfl ?_
  refine loopS (S := Nat) (fun s => [(0, .fn (.yield l) [] []), (1, .ptr bo 0), (2, .ptr bd 0), (8, .fsl opSh (ops.map opT)), (9, .int .i64 (ops.map opT).length), (10, .int .i64 s)]) (fun _ => frE l rd bo bd ops dn τ) (fun s => s ≤ ops.length ∧ ∀ j : Nat, j < s → FreeP ops dn j → N j) (fun s => ops.length - s) 0 ⟨⟨Nat.zero_le _, fun j h => absurd h (Nat.not_lt_zero j)⟩, ⟨rfl, rfl, rfl, rfl, rfl, rfl, trivial⟩, rfl⟩ ?_
  rintro s g ⟨hs, hN⟩
  have hs : s ≤ ops.length := hs
  have hN : ∀ j : Nat, j < s → FreeP ops dn j → N j := hN
  refine bcond_dec (fun hlt => ?_) (fun hge => ?_)
  · have hlt : (s : Int) < (ops.map opT).length := hlt
    rw [List.length_map] at hlt
    refine With.mk rfl (IdxF.mk (opT (opAt ops (s : Int))) (by omega) (op_get (by omega) (by omega)) ?_)
    intro bl1
    refine StoreAt.mk 0 _ _ rfl rfl ?_
    refine LoadAt.mk 3 _ _ rfl rfl ?_
    refine callB [] (aContL dn (s : Int) _ (by omega)) (fun d => ?_) (fun d => ?_)
    · have d : (s : Int) ∈ dn := of_decide_eq_true d
      exact nextS (s + 1) (by show ops.length - (s + 1) < ops.length - s; omega) ⟨by show s + 1 ≤ ops.length; omega, all_succ hN (fun hf => absurd d hf.new)⟩ ⟨rfl, rfl, rfl, rfl, rfl, inc64 (by omega), trivial⟩ (.drop 0 1 (.refl _))
    · refine LoadAt.mk 2 _ _ rfl rfl ?_
      refine loopS (S := Nat) (fun y => [(0, .fn (.yield l) [] []), (1, .ptr bo 0), (2, .ptr bd 0), (4, .int .i64 s), (5, .ptr bl1 0), (8, .fsl opSh (ops.map opT)), (9, .int .i64 (ops.map opT).length), (10, .int .i64 s), (18, .fsl opSh (ops.map opT)), (19, .int .i64 (ops.map opT).length), (20, .int .i64 y)]) (fun _ => (bl1, opC (opAt ops (s : Int))) :: frE l rd bo bd ops dn τ) (fun y => y ≤ ops.length ∧ ∀ j : Nat, j < y → (j : Int) ∉ dn → aheadP (opAt ops (j : Int)) (opAt ops (s : Int)) = false) (fun y => ops.length - y) 0 ⟨⟨Nat.zero_le _, fun j h => absurd h (Nat.not_lt_zero j)⟩, ⟨rfl, rfl, rfl, rfl, rfl, rfl, rfl, rfl, rfl, rfl, rfl, trivial⟩, rfl⟩ ?_
      have d : (s : Int) ∉ dn := of_decide_eq_false d
      rintro y g2 ⟨hy, hah⟩
      have hy : y ≤ ops.length := hy
      have hah : ∀ j : Nat, j < y → (j : Int) ∉ dn → aheadP (opAt ops (j : Int)) (opAt ops (s : Int)) = false := hah
      refine bcond_dec (fun hl2 => ?_) (fun hg2 => ?_)
      · have hl2 : (y : Int) < (ops.map opT).length := hl2
        rw [List.length_map] at hl2
        refine With.mk rfl (IdxF.mk (opT (opAt ops (y : Int))) (by omega) (op_get (by omega) (by omega)) ?_)
        intro bl1
        refine StoreAt.mk 0 _ _ rfl rfl ?_
        refine LoadAt.mk 4 _ _ rfl rfl ?_
        refine callB [] (aContL dn (y : Int) _ (by omega)) (fun e => ?_) (fun e => ?_)
        · exact nextS (y + 1) (by show ops.length - (y + 1) < ops.length - y; omega) ⟨by show y + 1 ≤ ops.length; omega, all_succ hah (fun h => absurd (of_decide_eq_true e) h)⟩ ⟨rfl, rfl, rfl, rfl, rfl, rfl, rfl, rfl, rfl, rfl, inc64 (by omega), trivial⟩ (.drop 0 1 (.refl _))
        · refine LoadAt.mk 0 _ _ rfl rfl ?_
          refine LoadAt.mk 1 _ _ rfl rfl ?_
          refine callB [] (aAheadL (opAt ops (y : Int)) (opAt ops (s : Int)) _) (fun e2 => ?_) (fun e2 => ?_)
          · exact nextS (s + 1) (by show ops.length - (s + 1) < ops.length - s; omega) ⟨by show s + 1 ≤ ops.length; omega, all_succ hN (fun hf => by (have := hf.free y (by omega) (of_decide_eq_false e); rw [e2] at this; cases this))⟩ ⟨rfl, rfl, rfl, rfl, rfl, inc64 (by omega), trivial⟩ (.drop 0 2 (.refl _))
          · exact nextS (y + 1) (by show ops.length - (y + 1) < ops.length - y; omega) ⟨by show y + 1 ≤ ops.length; omega, all_succ hah (fun _ => e2)⟩ ⟨rfl, rfl, rfl, rfl, rfl, rfl, rfl, rfl, rfl, rfl, inc64 (by omega), trivial⟩ (.drop 0 1 (.refl _))
      · have hg2 : ¬ (y : Int) < (ops.map opT).length := hg2
        rw [List.length_map] at hg2
        have hfree : FreeP ops dn s := ⟨by omega, d, fun j hj hn => hah j (by omega) hn⟩
        refine YieldAt.mk [3, 3, 3] _ (hY s (bl1, opC (opAt ops (s : Int))) hfree) ?_
        rintro r σ' (⟨rfl, hn, G, rfl⟩ | ⟨rfl, hE⟩)
        · exact nextS (s + 1) (by show ops.length - (s + 1) < ops.length - s; omega) ⟨by show s + 1 ≤ ops.length; omega, all_succ hN (fun _ => hn)⟩ ⟨rfl, rfl, rfl, rfl, rfl, inc64 (by omega), trivial⟩ (shed_front G (.drop 3 1 (.refl _)))
        · exact .done (.inr hE)
  · have hge : ¬ (s : Int) < (ops.map opT).length := hge
    rw [List.length_map] at hge
    exact .done (.inl ⟨rfl, fun i hi => by
      have h1 := hi.inn
      have := hN i.toNat (by omega)
      rw [show ((i.toNat : Nat) : Int) = i by omega] at this
      exact this hi⟩)
end Go.Proofs.Ytacacplipaeokaa
