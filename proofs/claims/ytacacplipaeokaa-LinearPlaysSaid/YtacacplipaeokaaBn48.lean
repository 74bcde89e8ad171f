/-
  Lj: what the claim uses of them.
-/
import Derived.Test.YtacacplipaeokaaBn47
namespace Go.Proofs.Ytacacplipaeokaa
open Go.RowKit
set_option maxRecDepth 100000
set_option maxHeartbeats 4000000
theorem doP_ok {R : Int} {ops : List OpR} {ord now : List Int} {k : Nat} (hk : k < ord.length) (hdo : (replayP R ops [] ord).isSome = true) (hn : replayP R ops [] (ord.take k) = some now) : (doP R now (opAt ops ord[k])).2 = true := by
  have e : ord = ord.take k ++ ord[k] :: ord.drop (k + 1) := by simp
  rw [e, replay_app, hn] at hdo
  cases hb : (doP R now (opAt ops ord[k])).2 with
  | true => rfl
  | false =>
    have hdo : (if (doP R now (opAt ops ord[k])).2 = true then replayP R ops (doP R now (opAt ops ord[k])).1 (ord.drop (k + 1)) else none).isSome = true := hdo
    rw [hb] at hdo
    cases hdo
theorem aRDone29 (ops : List OpR) (R : Int) (ord : List Int) (σ : Hp) (hr : ∀ i ∈ ord, 0 ≤ i ∧ i < ops.length) (hl : ord.length ≤ 100000) (hdo : (replayP (mxR R) ops [] ord).isSome = true) (hen : ∀ i : Int, 0 ≤ (opAt ops i).en) : ACalls Try.prog 52 [.fsl opSh (ops.map opT), .int .i64 R, .fsl (.int .i64) ord] σ (fun x σ' => ∃ v G, (v = .nils ∨ ∃ b off k, v = .mref b off k 1) ∧ x = .tup [v, .bool true] ∧ σ' = G ++ σ) := by
  refine okF Try.func52 (by kernel_rfl) ?_
  refine loopS (S := Nat × AV × Hp × Hp × List Int) (fun x => [(0, .fsl opSh (ops.map opT)), (1, .int .i64 R), (8, x.2.1), (13, .fsl (.int .i64) ord), (14, .int .i64 ord.length), (15, .int .i64 x.1)]) (fun x => x.2.2.1 ++ (x.2.2.2.1 ++ σ)) (fun x => x.1 ≤ ord.length ∧ AccO 1 x.2.2.2.2.length x.2.1 x.2.2.1 (inC x.2.2.2.2) ∧ replayP (mxR R) ops [] (ord.take x.1) = some x.2.2.2.2 ∧ x.2.2.2.2.length ≤ x.1) (fun x => ord.length - x.1) (0, .nils, [], [], []) ⟨⟨Nat.zero_le _, .nil, rfl, Nat.le_refl _⟩, ⟨rfl, rfl, rfl, rfl, rfl, rfl, trivial⟩, rfl⟩ ?_
  rintro ⟨k, v, acc, G, now⟩ g ⟨hk, hacc, hrep, hnow⟩
  have hk : k ≤ ord.length := hk
  have hacc : AccO 1 now.length v acc (inC now) := hacc
  have hrep : replayP (mxR R) ops [] (ord.take k) = some now := hrep
  have hnow : now.length ≤ k := hnow
  refine bcond_dec (fun hlt => ?_) (fun hge => ?_)
  · have hlt : (k : Int) < ord.length := hlt
    have hkl : k < ord.length := by omega
    have hin := hr _ (List.getElem_mem hkl)
    have hok := doP_ok hkl hdo hrep
    have hlen := doP_len (mxR R) now (opAt ops ord[k])
    have hstep : replayP (mxR R) ops [] (ord.take (k + 1)) = some (doP (mxR R) now (opAt ops ord[k])).1 := by
      rw [List.take_succ_eq_append_getElem hkl, replay_app, hrep]
      show (if _ then _ else _) = _
      rw [if_pos hok]; rfl
    refine With.mk rfl (IdxF.mk ord[k] (by omega) (get_some hkl) ?_)
    refine bcond_dec (fun c => absurd c (show ¬ ord[k] < 0 by omega)) (fun _ => ?_)
    refine bcond_dec (fun c => absurd c (show ¬ ((ops.map opT).length : Int) ≤ ord[k] by rw [List.length_map]; omega)) (fun _ => ?_)
    rcases accO_val hacc with ⟨rfl, rfl, hn0⟩ | ⟨b1, off1, all1, rfl, rfl⟩
    · refine With.mk rfl (IdxF.mk (opT (opAt ops ord[k])) hin.1 (op_get hin.1 hin.2) ?_)
      refine .mk [] _ (aRDoO (mxR R) (opAt ops ord[k]) now (.nils) ([]) hacc (by omega) hok (hen _) (G ++ σ)) ?_
      rintro _ _ ⟨v2, acc3, rfl, h3, rfl⟩
      rw [hok]
      rcases accO_val h3 with ⟨rfl, rfl, h0⟩ | ⟨b4, off4, all4, rfl, rfl⟩
      · exact nextS (k + 1, .nils, [], G, (doP (mxR R) now (opAt ops ord[k])).1) (by show ord.length - (k + 1) < ord.length - k; omega) ⟨hkl, h3, hstep, by show (doP (mxR R) now (opAt ops ord[k])).1.length ≤ k + 1; omega⟩ ⟨rfl, rfl, rfl, rfl, rfl, inc64 (by omega), trivial⟩ (.refl _)
      · exact nextS (k + 1, .mref b4 off4 (doP (mxR R) now (opAt ops ord[k])).1.length 1, [(b4, all4)], G, (doP (mxR R) now (opAt ops ord[k])).1) (by show ord.length - (k + 1) < ord.length - k; omega) ⟨hkl, h3, hstep, by show (doP (mxR R) now (opAt ops ord[k])).1.length ≤ k + 1; omega⟩ ⟨rfl, rfl, rfl, rfl, rfl, inc64 (by omega), trivial⟩ (.refl _)
    · refine With.mk rfl (IdxF.mk (opT (opAt ops ord[k])) hin.1 (op_get hin.1 hin.2) ?_)
      refine .mk [] _ (aRDoO (mxR R) (opAt ops ord[k]) now (.mref b1 off1 now.length 1) ([(b1, all1)]) hacc (by omega) hok (hen _) (G ++ σ)) ?_
      rintro _ _ ⟨v2, acc3, rfl, h3, rfl⟩
      rw [hok]
      rcases accO_val h3 with ⟨rfl, rfl, h0⟩ | ⟨b4, off4, all4, rfl, rfl⟩
      · exact nextS (k + 1, .nils, [], G, (doP (mxR R) now (opAt ops ord[k])).1) (by show ord.length - (k + 1) < ord.length - k; omega) ⟨hkl, h3, hstep, by show (doP (mxR R) now (opAt ops ord[k])).1.length ≤ k + 1; omega⟩ ⟨rfl, rfl, rfl, rfl, rfl, inc64 (by omega), trivial⟩ (.refl _)
      · exact nextS (k + 1, .mref b4 off4 (doP (mxR R) now (opAt ops ord[k])).1.length 1, [(b4, all4)], G, (doP (mxR R) now (opAt ops ord[k])).1) (by show ord.length - (k + 1) < ord.length - k; omega) ⟨hkl, h3, hstep, by show (doP (mxR R) now (opAt ops ord[k])).1.length ≤ k + 1; omega⟩ ⟨rfl, rfl, rfl, rfl, rfl, inc64 (by omega), trivial⟩ (.refl _)
  · rcases accO_val hacc with ⟨rfl, rfl, hn0⟩ | ⟨b1, off1, all1, rfl, rfl⟩
    · exact .done ⟨.nils, G, .inl rfl, rfl, rfl⟩
    · exact .done ⟨.mref b1 off1 now.length 1, [(b1, all1)] ++ G, .inr ⟨_, _, _, rfl⟩, rfl, rfl⟩
end Go.Proofs.Ytacacplipaeokaa
