/-
  Lk: what the claim uses of them.
-/
import Derived.Test.YtacacplipaeokaaBn49
import Derived.Test.YtacacplipaeokaaBn48
namespace Go.Proofs.Ytacacplipaeokaa
open Go.RowKit
set_option maxRecDepth 100000
set_option maxHeartbeats 4000000
theorem FitsP.two {ops : List OpR} {R : Int} {ord : List Int} (h : FitsP ops R ord) {k : Nat} (hk : k < ord.length) : (0 ≤ ord[k] ∧ ord[k] < ops.length) ∧ ∀ z ∈ ord.take k, ord[k] ≠ z ∧ aheadP (opAt ops ord[k]) (opAt ops z) = false ∧ 0 ≤ z ∧ z < ops.length := by
  have e : ord = ord.take k ++ ord[k] :: ord.drop (k + 1) := by simp
  have hnd := h.nodup
  have hpw := h.pairs
  rw [e] at hnd hpw
  have hnd := List.nodup_append.1 hnd
  have hpw := List.pairwise_append.1 hpw
  refine ⟨h.inn _ (List.getElem_mem hk), fun z hz => ⟨fun hm => hnd.2.2 z hz _ (List.mem_cons_self ..) hm.symm, hpw.2.2 z hz _ (List.mem_cons_self ..), h.inn _ (List.mem_of_mem_take hz)⟩⟩
theorem aRFits29 (ops : List OpR) (R : Int) (ord : List Int) (σ : Hp) (hf : FitsP ops (mxR R) ord) (hen : ∀ i : Int, 0 ≤ (opAt ops i).en) (hl : ord.length ≤ 100000) (ho : ops.length ≤ 100000) : ACalls Try.prog 27 [.fsl opSh (ops.map opT), .int .i64 R, .fsl (.int .i64) ord] σ (Ret (.bool true) σ) := by
  refine okF Try.func27 (by kernel_rfl) ?_
  refine .mk [] _ (aRDone29 ops R ord σ hf.inn hl hf.does hen) ?_
  rintro _ _ ⟨v, G, hv, rfl, rfl⟩
  rcases hv with rfl | ⟨_, _, _, rfl⟩
  all_goals
    refine loopS (S := Nat) (fun x => [(0, .fsl opSh (ops.map opT)), (2, .fsl (.int .i64) ord), (24, .fsl (.int .i64) ord), (25, .int .i64 ord.length), (26, .int .i64 x)]) (fun _ => G ++ σ) (fun x => x ≤ ord.length) (fun x => ord.length - x) 0 ⟨Nat.zero_le _, ⟨rfl, rfl, rfl, rfl, rfl, trivial⟩, rfl⟩ ?_
    rintro k g hk
    have hk : k ≤ ord.length := hk
    refine bcond_dec (fun hlt => ?_) (fun hge => ?_)
    · have hlt : (k : Int) < ord.length := hlt
      have hkl : k < ord.length := by omega
      have h2 := hf.two hkl
      refine With.mk rfl (IdxF.mk ord[k] (by omega) (get_some hkl) ?_)
      refine With.mk ⟨by omega, by omega, (show (k : Int) ≤ (ord.length : Int) by omega), rfl⟩ ?_
      refine loopS (S := Nat) (fun y => [(0, .fsl opSh (ops.map opT)), (2, .fsl (.int .i64) ord), (10, .int .i64 ord[k]), (24, .fsl (.int .i64) ord), (25, .int .i64 ord.length), (26, .int .i64 k), (33, .fsl (.int .i64) (cutL ord k)), (34, .int .i64 (cutL ord k).length), (35, .int .i64 y)]) (fun _ => G ++ σ) (fun y => y ≤ (cutL ord k).length) (fun y => (cutL ord k).length - y) 0 ⟨Nat.zero_le _, ⟨rfl, rfl, rfl, rfl, rfl, rfl, rfl, rfl, rfl, trivial⟩, rfl⟩ ?_
      rintro y g2 hy
      have hy : y ≤ (cutL ord k).length := hy
      refine bcond_dec (fun hl2 => ?_) (fun hg2 => ?_)
      · have hl2 : (y : Int) < (cutL ord k).length := hl2
        have hyl : y < (cutL ord k).length := by omega
        have hzm : (cutL ord k)[y] ∈ ord.take k := by rw [← cutL_eq]; exact List.getElem_mem hyl
        obtain ⟨hz1, hz2, hz3, hz4⟩ := h2.2 _ hzm
        have hkr := h2.1
        refine With.mk rfl (IdxF.mk (cutL ord k)[y] (by omega) (get_some hyl) ?_)
        refine .quiet (by kernel_rfl) ?_
        refine bcond_dec (fun c => absurd c hz1) (fun _ => ?_)
        refine With.mk rfl ?_
        refine IdxF.mk (opT (opAt ops ord[k])) hkr.1 (op_get hkr.1 hkr.2) ?_
        refine With.mk rfl ?_
        refine IdxF.mk (opT (opAt ops (cutL ord k)[y])) hz3 (op_get hz3 hz4) ?_
        refine callQ [] (aRAhead29 (opAt ops ord[k]) (opAt ops (cutL ord k)[y]) _) ?_
        rw [hz2]
        exact nextS (y + 1) (by show (cutL ord k).length - (y + 1) < (cutL ord k).length - y; omega) hyl ⟨rfl, rfl, rfl, rfl, rfl, rfl, rfl, rfl, inc64 (by have := cutL_len ord k; omega), trivial⟩ (.refl _)
      · have hg2 : ¬ (y : Int) < (cutL ord k).length := hg2
        exact nextS (k + 1) (by show ord.length - (k + 1) < ord.length - k; omega) hkl ⟨rfl, rfl, rfl, rfl, inc64 (by omega), trivial⟩ (.refl _)
    · refine loopS (S := Nat) (fun x => [(2, .fsl (.int .i64) ord), (55, .fsl opSh (ops.map opT)), (56, .int .i64 (ops.map opT).length), (57, .int .i64 x)]) (fun _ => G ++ σ) (fun x => x ≤ ops.length) (fun x => ops.length - x) 0 ⟨Nat.zero_le _, ⟨rfl, rfl, rfl, rfl, trivial⟩, rfl⟩ ?_
      rintro m g hm
      have hm : m ≤ ops.length := hm
      refine bcond_dec (fun hlt => ?_) (fun hge => ?_)
      · have hlt : (m : Int) < (ops.map opT).length := hlt
        rw [List.length_map] at hlt
        refine With.mk rfl (IdxF.mk (opT (opAt ops (m : Int))) (by omega) (op_get (by omega) (by omega)) ?_)
        intro bl1
        refine StoreAt.mk 0 _ _ rfl rfl ?_
        refine LoadAt.mk 0 _ _ rfl rfl ?_
        refine bcond_dec (p := 0 < (opAt ops (m : Int)).en) (fun e => ?_) (fun e => ?_)
        · have e : 0 < (opAt ops (m : Int)).en := e
          have hm2 := hf.all m _ (op_some (by omega)) e
          refine callB [] (aRIn ord (m : Int) _ (by omega)) (fun _ => ?_) (fun d => ?_)
          · exact nextS (m + 1) (by show ops.length - (m + 1) < ops.length - m; omega) (by show m + 1 ≤ ops.length; omega) ⟨rfl, rfl, rfl, inc64 (by omega), trivial⟩ (.drop 0 1 (.refl _))
          · have d : (ord.any fun z => decide ((m : Int) = z)) = false := d
            rw [List.any_eq_true.2 ⟨(m : Int), hm2, decide_eq_true rfl⟩] at d
            cases d
        · exact nextS (m + 1) (by show ops.length - (m + 1) < ops.length - m; omega) (by show m + 1 ≤ ops.length; omega) ⟨rfl, rfl, rfl, inc64 (by omega), trivial⟩ (.drop 0 1 (.refl _))
      · exact fin_frontP G (.done ⟨rfl, rfl⟩)
end Go.Proofs.Ytacacplipaeokaa
