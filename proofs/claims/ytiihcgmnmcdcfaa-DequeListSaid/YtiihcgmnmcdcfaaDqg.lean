/-
  The walk of DequeList.
-/
import Derived.Test.YtiihcgmnmcdcfaaDqf
namespace Go.Proofs.Ytiihcgmnmcdcfaa
open Go.RowKit
set_option maxRecDepth 100000
set_option maxHeartbeats 4000000
abbrev actSh27 : Sh := .field (.int .i64) (.field (.int .u64) (.field (.int .u8) .nil))
/-- The loop's memory. -/
def dlH (p q bd : Nat) (room : Int) (acc : Hp) (ws : List Int) : Hp := plH p q ws ((bd, [.int .i64 0, .int .i64 room]) :: (acc ++ []))
theorem dq_new (room n : Int) (hn : 0 ≤ n) : DQ.good ⟨0, room, n, false, false, 0, 0, 0, 0⟩ := ⟨by show 0 ≤ 6; decide, fun _ => by show 0 ≤ 5; decide, Int.le_refl _, Int.le_refl _, hn, Int.le_refl _⟩
theorem accO_inv {v : AV} {acc : Hp} {l : List Int} (h : AccO 1 l.length v acc (woC l)) : (v = .nils ∧ acc = [] ∧ l = []) ∨ ∃ b off all, v = .mref b off l.length 1 ∧ acc = [(b, all)] ∧ (all.drop off).take (l.length * 1) = woC l ∧ off + l.length * 1 ≤ all.length := by
  generalize hc : woC l = cs at h
  generalize hk : l.length = k at h
  cases h with
  | nil => exact .inl ⟨rfl, rfl, List.length_eq_zero_iff.1 hk⟩
  | mref b off k cs all h h2 => exact .inr ⟨b, off, all, rfl, rfl, h, h2⟩
theorem dequeList_walk (room : Int) (acts : List (Int × Int × Int × Unit)) (ha : ∀ a ∈ acts, 0 ≤ a.2.1) : ACalls Try.prog 4 [.int .i64 room, .fsl actSh27 acts] [] (fun r _ => r = .bool true) := by
  refine okF Try.func4 (by kernel_rfl) ?_
  refine callR [] awake27a ?_
  refine bcond_dec (fun c1 => ?_) (fun c1 => ?_)
  · exact .done rfl
  have c1 : ¬ 60 < (acts.length : Int) := c1
  intro bd
  refine StoreAt.mk 0 _ _ rfl rfl ?_
  refine callR [] (aWords27 _ _) ?_
  refine .mk [] _ (aNew _ _) ?_
  rintro _ _ ⟨p, q, rfl, rfl⟩
  have hr := rm_ok room
  have hcut : cutN ((2 + rm room : Nat) : Int) = 2 + rm room := by unfold cutN; omega
  rw [hcut]
  refine LoadAt.mk 2 _ _ rfl rfl ?_
  have hres := aResetD p q (List.replicate (2 + rm room) 0) 0 room
  unfold plH at hres
  rw [List.length_replicate] at hres
  refine callR [] (hres _) ?_
  refine loopS (S := Nat × AV × Hp × List Int × List Int × Nat × Nat) (fun s => [(0, .int .i64 room), (5, .ptr bd 0), (6, .ptr p 0), (7, s.2.1), (27, .fsl actSh27 acts), (28, .int .i64 acts.length), (29, .int .i64 s.1)])
    (fun s => dlH p q bd room s.2.2.1 s.2.2.2.2.1) (fun s => s.1 ≤ acts.length ∧ (∃ v, (s.2.1 = v ∨ s.2.1 = .via v) ∧ AccO 1 s.2.2.2.1.length v s.2.2.1 (woC s.2.2.2.1)) ∧ s.2.2.2.2.2.2 ≤ 1 + s.1 ∧ RepD room s.2.2.2.2.1 s.2.2.2.2.2.1 s.2.2.2.2.2.2 s.2.2.2.1) (fun s => acts.length - s.1)
    (0, .nils, [], [], mStore (mStore (List.replicate (2 + rm room) 0) 0 1) (botD 0) 1, 1, 1) ⟨⟨Nat.zero_le _, ⟨_, .inl rfl, .nil⟩, Nat.le_refl _, rep_first⟩, ⟨rfl, rfl, rfl, rfl, rfl, rfl, rfl, trivial⟩, rfl⟩ ?_
  rintro ⟨k, x, acc, l, ws, t, b⟩ g ⟨hk0, ⟨v, hx0, hacc0⟩, hb0, hrep0⟩
  have hk : k ≤ acts.length := hk0
  have hx : x = v ∨ x = .via v := hx0
  have hacc : AccO 1 l.length v acc (woC l) := hacc0
  have hb : b ≤ 1 + k := hb0
  have hrep : RepD room ws t b l := hrep0
  clear hk0 hx0 hacc0 hb0 hrep0
  have hll : l.length ≤ 4096 := Nat.le_trans hrep.hr hr.2
  refine bcond_dec (fun hltI => ?_) (fun hge => ?_)
  · have hlt : k < acts.length := by have hltI : (k : Int) < acts.length := hltI; omega
    clear hltI
    rcases hx with rfl | rfl
    all_goals
      obtain ⟨a, haE⟩ : ∃ a, a = acts[k] := ⟨_, rfl⟩
      obtain ⟨ak, an, as_, au⟩ := a
      have han := ha acts[k] (List.getElem_mem hlt)
      rw [← haE] at han
      have han : 0 ≤ an := han
      refine With.mk rfl (IdxF.mk (ak, an, as_, au) (by omega) ((get_some hlt).trans (congrArg some haE.symm)) ?_)
      intro bl1
      refine StoreAt.mk 0 _ _ rfl rfl ?_
      refine LoadAt.mk 0 _ _ rfl rfl ?_
      refine bcond_dec (fun c2 => ?_) (fun c2 => ?_)
      · have c2 : ak = 1 := c2
        refine LoadAt.mk 3 _ _ rfl rfl ?_
        refine LoadAt.mk 0 _ _ rfl rfl ?_
        intro bl3
        obtain ⟨ws', t', b', at_, xb, xt, x, e, hb', hrep'⟩ := op_list hrep han (by omega) 1 (.inl ⟨c2, rfl⟩)
        have hf := fun σ => aFinishD _ _ mPush_ 1 p q bl3 (fun x ws σ hx _ _ _ h => aPushP p q bl3 x ws 0 σ hx h) ⟨0, room, an, false, false, 0, 0, 0, 0⟩ ws σ (dq_new _ _ han) hrep.nn (fun _ h => by cases h)
        rw [show (⟨0, room, an, false, false, 0, 0, 0, 0⟩ : DQ) = ⟨0, room, argL 1 an, false, false, 0, 0, 0, 0⟩ from rfl, e] at hf
        refine callR [2, 3, 3] (hf _) ?_
        by_cases hlr : l.length < rm room
        · rw [show okL room 1 l = true by simp [okL, hlr], show tellL 1 an l = an from rfl]
          obtain ⟨L1, hL1⟩ : ∃ L1, L1 = l ++ [an] := ⟨_, rfl⟩
          rw [show opL room 1 an l = L1 by simp [opL, hlr, hL1]] at hrep'
          clear e hf
          rcases accO_inv hacc with ⟨rfl, rfl, rfl⟩ | ⟨vb, off, all, rfl, rfl, h1, h2⟩
          · refine .quiet (by kernel_rfl) ?_
            refine LoadAt.mk 0 _ _ rfl rfl ?_
            refine callQ [] (aRRoom _ _) ?_
            refine bcond_dec (fun c1 => ?_) (fun c1 => ?_)
            · have c1 : 0 < (↑(rm room) : Int) := c1
              refine LoadAt.mk 0 _ _ rfl rfl ?_
              refine LoadAt.mk 0 _ _ rfl rfl ?_
              refine LoadAt.mk 3 _ _ rfl rfl ?_
              intro bl2
              refine append_accO (i := ⟨.int .u64, 1, 8, [.int .u64 0]⟩) [_, _, _, _, _, _] hacc (.mref 0 bl2 0 1 _ rfl (Nat.le_of_ble_eq_true rfl)) rfl (by omega) (by decide) (by decide) (fun v' acc' h' => ?_)
              have h' : AccO 1 L1.length v' acc' (woC L1) := by
                rw [hL1, woC, List.map_append, List.length_append]
                exact h'
              have hl1 : L1.length ≤ 1000000 := by rw [hL1, List.length_append]; show _ + 1 ≤ _; omega
              refine LoadAt.mk 5 _ _ rfl rfl ?_
              have hLl := rep_list hrep'
              have hL := fun σ => aListD p q ws' 0 room σ
              rw [hLl] at hL
              refine callR [3, 3] (hL _) ?_
              refine callR [] (same10O L1 L1 [_, _, _, _, _, _] [] (by omega) h' rfl) ?_
              rw [show (decide (L1 = L1)) = true from decide_eq_true rfl]
              refine nextS (k + 1, _, acc', L1, ws', t', b') ?_ ⟨hlt, ⟨_, by first | exact .inl rfl | exact .inr rfl, h'⟩, by show b' ≤ 1 + (k + 1); omega, hrep'⟩ ⟨rfl, rfl, rfl, rfl, rfl, rfl, inc64 (by omega), trivial⟩ (.drop 2 3 (shed_eq rfl))
              show acts.length - (k + 1) < acts.length - k; omega
            · have c1 : ¬ (0 < (↑(rm room) : Int)) := c1
              exact absurd c1 (by omega)
          · refine .quiet (by kernel_rfl) ?_
            refine LoadAt.mk 0 _ _ rfl rfl ?_
            refine callQ [] (aRRoom _ _) ?_
            refine bcond_dec (fun c1 => ?_) (fun c1 => ?_)
            · have c1 : (↑l.length : Int) < (↑(rm room) : Int) := c1
              refine LoadAt.mk 0 _ _ rfl rfl ?_
              refine LoadAt.mk 0 _ _ rfl rfl ?_
              refine LoadAt.mk 3 _ _ rfl rfl ?_
              intro bl2
              refine append_accO (i := ⟨.int .u64, 1, 8, [.int .u64 0]⟩) [_, _, _, _, _, _] hacc (.mref 0 bl2 0 1 _ rfl (Nat.le_of_ble_eq_true rfl)) rfl (by omega) (by decide) (by decide) (fun v' acc' h' => ?_)
              have h' : AccO 1 L1.length v' acc' (woC L1) := by
                rw [hL1, woC, List.map_append, List.length_append]
                exact h'
              have hl1 : L1.length ≤ 1000000 := by rw [hL1, List.length_append]; show _ + 1 ≤ _; omega
              refine LoadAt.mk 5 _ _ rfl rfl ?_
              have hLl := rep_list hrep'
              have hL := fun σ => aListD p q ws' 0 room σ
              rw [hLl] at hL
              refine callR [3, 3] (hL _) ?_
              refine callR [] (same10O L1 L1 [_, _, _, _, _, _] [] (by omega) h' rfl) ?_
              rw [show (decide (L1 = L1)) = true from decide_eq_true rfl]
              refine nextS (k + 1, _, acc', L1, ws', t', b') ?_ ⟨hlt, ⟨_, by first | exact .inl rfl | exact .inr rfl, h'⟩, by show b' ≤ 1 + (k + 1); omega, hrep'⟩ ⟨rfl, rfl, rfl, rfl, rfl, rfl, inc64 (by omega), trivial⟩ (.drop 2 3 (shed_eq rfl))
              show acts.length - (k + 1) < acts.length - k; omega
            · have c1 : ¬ ((↑l.length : Int) < (↑(rm room) : Int)) := c1
              exact absurd c1 (by omega)
        · rw [show okL room 1 l = false by simp [okL, hlr]]
          rw [show opL room 1 an l = l by simp [opL, hlr]] at hrep'
          clear e hf
          rcases accO_inv hacc with ⟨rfl, rfl, rfl⟩ | ⟨vb, off, all, rfl, rfl, h1, h2⟩
          · refine .quiet (by kernel_rfl) ?_
            refine LoadAt.mk 0 _ _ rfl rfl ?_
            refine callQ [] (aRRoom _ _) ?_
            refine bcond_dec (fun c1 => ?_) (fun c1 => ?_)
            · have c1 : 0 < (↑(rm room) : Int) := c1
              exact absurd (show 0 < rm room by omega) hlr
            · have c1 : ¬ (0 < (↑(rm room) : Int)) := c1
              refine LoadAt.mk 0 _ _ rfl rfl ?_
              refine LoadAt.mk 0 _ _ rfl rfl ?_
              refine LoadAt.mk 4 _ _ rfl rfl ?_
              have hLl := rep_list hrep'
              have hL := fun σ => aListD p q ws' 0 room σ
              rw [hLl] at hL
              refine callR [2, 2] (hL _) ?_
              refine callR [] (same10O ([] : List Int) ([] : List Int) [_, _, _, _, _] [] (by omega) hacc rfl) ?_
              rw [show (decide (([] : List Int) = ([] : List Int))) = true from decide_eq_true rfl]
              refine nextS (k + 1, _, _, ([] : List Int), ws', t', b') ?_ ⟨hlt, ⟨_, by first | exact .inl rfl | exact .inr rfl, hacc⟩, by show b' ≤ 1 + (k + 1); omega, hrep'⟩ ⟨rfl, rfl, rfl, rfl, rfl, rfl, inc64 (by omega), trivial⟩ (.drop 2 2 (shed_eq rfl))
              show acts.length - (k + 1) < acts.length - k; omega
          · refine .quiet (by kernel_rfl) ?_
            refine LoadAt.mk 0 _ _ rfl rfl ?_
            refine callQ [] (aRRoom _ _) ?_
            refine bcond_dec (fun c1 => ?_) (fun c1 => ?_)
            · have c1 : (↑l.length : Int) < (↑(rm room) : Int) := c1
              exact absurd c1 (by omega)
            · have c1 : ¬ ((↑l.length : Int) < (↑(rm room) : Int)) := c1
              refine LoadAt.mk 0 _ _ rfl rfl ?_
              refine LoadAt.mk 0 _ _ rfl rfl ?_
              refine LoadAt.mk 4 _ _ rfl rfl ?_
              have hLl := rep_list hrep'
              have hL := fun σ => aListD p q ws' 0 room σ
              rw [hLl] at hL
              refine callR [2, 2] (hL _) ?_
              refine callR [] (same10O l l [_, _, _, _, _] [] (by omega) hacc rfl) ?_
              rw [show (decide (l = l)) = true from decide_eq_true rfl]
              refine nextS (k + 1, _, _, l, ws', t', b') ?_ ⟨hlt, ⟨_, by first | exact .inl rfl | exact .inr rfl, hacc⟩, by show b' ≤ 1 + (k + 1); omega, hrep'⟩ ⟨rfl, rfl, rfl, rfl, rfl, rfl, inc64 (by omega), trivial⟩ (.drop 2 2 (shed_eq rfl))
              show acts.length - (k + 1) < acts.length - k; omega
      · have c2 : ¬ (ak = 1) := c2
        refine bcond_dec (fun c4 => ?_) (fun c4 => ?_)
        · have c4 : ak = 2 := c4
          refine LoadAt.mk 3 _ _ rfl rfl ?_
          intro bl5
          obtain ⟨ws', t', b', at_, xb, xt, x, e, hb', hrep'⟩ := op_list (k := ak) (n := 0) hrep (Int.le_refl _) (by omega) 2 (.inr (.inl ⟨c4, rfl⟩))
          have hf := fun σ => aFinishD _ _ mPop_ 2 p q bl5 (fun x ws σ hx _ _ _ h => aPopP p q bl5 x ws 0 σ hx h) ⟨0, room, 0, false, false, 0, 0, 0, 0⟩ ws σ (dq_new _ _ (Int.le_refl _)) hrep.nn (fun _ h => by cases h)
          rw [show (⟨0, room, 0, false, false, 0, 0, 0, 0⟩ : DQ) = ⟨0, room, argL 2 0, false, false, 0, 0, 0, 0⟩ from rfl, e] at hf
          refine callR [2, 3, 3] (hf _) ?_
          by_cases h0 : 0 < l.length
          · rw [show okL room 2 l = true by simp [okL, h0]]
            clear e hf
            rcases accO_inv hacc with ⟨rfl, rfl, rfl⟩ | ⟨vb, off, all, rfl, rfl, h1, h2⟩
            · exact absurd h0 (by decide)
            · refine .quiet (by kernel_rfl) ?_
              refine LoadAt.mk 0 _ _ rfl rfl ?_
              refine bcond_dec (fun c1 => ?_) (fun c1 => ?_)
              · have c1 : 0 < (↑l.length : Int) := c1
                refine LoadAt.mk 0 _ _ rfl rfl ?_
                refine LoadAt.mk 0 _ _ rfl rfl ?_
                have hw : IntKind.i64.wrap ((l.length : Int) - 1) = ((l.length - 1 : Nat) : Int) := by rw [IntKind.wrap_i64]; omega
                refine With.mk ⟨rfl, by rw [hw]; omega, by rw [hw]; omega⟩ ?_
                refine LoadAt.mk 5 _ _ rfl (accO_read h1 (k := l.length - 1) (by omega) hw) ?_
                refine bcond_false (by simp [tellL]) ?_
                refine LoadAt.mk 0 _ _ rfl rfl ?_
                have hmx : (if IntKind.i64.wrap ((l.length : Int) - 1) < 0 then 0 else IntKind.i64.wrap ((l.length : Int) - 1)) = ((0 + (l.length - 1) : Nat) : Int) := by rw [IntKind.wrap_i64]; split <;> omega
                refine With.mk ⟨by decide, by rw [hmx]; omega, by rw [hmx]; omega, rfl⟩ ?_
                have hacc' := accO_cut h1 h2 vb (lo := 0) (a := 0) (n := l.length - 1) rfl hmx (by omega)
                obtain ⟨L1, hL1⟩ : ∃ L1, L1 = (l.drop 0).take (l.length - 1) := ⟨_, rfl⟩
                rw [show opL room 2 0 l = L1 by rw [hL1]; simp [opL]] at hrep'
                have hl1 : l.length - 1 = L1.length := by rw [hL1]; simp
                rw [← hL1, hl1] at hacc'
                refine LoadAt.mk 4 _ _ rfl rfl ?_
                have hLl := rep_list hrep'
                have hL := fun σ => aListD p q ws' 0 room σ
                rw [hLl] at hL
                refine callR [2, 2] (hL _) ?_
                refine callR [] (same10O L1 L1 [_, _, _, _, _] [] (by omega) hacc' rfl) ?_
                rw [show (decide (L1 = L1)) = true from decide_eq_true rfl]
                refine nextS (k + 1, _, _, L1, ws', t', b') ?_ ⟨hlt, ⟨_, by first | exact .inl rfl | exact .inr rfl, hacc'⟩, by show b' ≤ 1 + (k + 1); omega, hrep'⟩ ⟨rfl, rfl, rfl, rfl, rfl, rfl, inc64 (by omega), trivial⟩ (.drop 2 2 (shed_eq rfl))
                show acts.length - (k + 1) < acts.length - k; omega
              · have c1 : ¬ (0 < (↑l.length : Int)) := c1
                exact absurd c1 (by omega)
          · rw [show okL room 2 l = false by simp [okL, h0], show tellL 2 0 l = 0 by unfold tellL; rw [List.length_eq_zero_iff.1 (show l.length = 0 by omega)]; rfl]
            clear e hf
            rcases accO_inv hacc with ⟨rfl, rfl, rfl⟩ | ⟨vb, off, all, rfl, rfl, h1, h2⟩
            · refine .quiet (by kernel_rfl) ?_
              refine LoadAt.mk 0 _ _ rfl rfl ?_
              refine LoadAt.mk 0 _ _ rfl rfl ?_
              refine LoadAt.mk 0 _ _ rfl rfl ?_
              refine LoadAt.mk 0 _ _ rfl rfl ?_
              refine With.mk (by decide) ?_
              refine LoadAt.mk 4 _ _ rfl rfl ?_
              rw [show opL room 2 0 ([] : List Int) = [] from rfl] at hrep'
              have hLl := rep_list hrep'
              have hL := fun σ => aListD p q ws' 0 room σ
              rw [hLl] at hL
              refine callR [2, 2] (hL _) ?_
              refine callR [] (same10O ([] : List Int) ([] : List Int) [_, _, _, _, _] [] (by omega) hacc rfl) ?_
              rw [show (decide (([] : List Int) = ([] : List Int))) = true from decide_eq_true rfl]
              refine nextS (k + 1, _, _, ([] : List Int), ws', t', b') ?_ ⟨hlt, ⟨_, by first | exact .inl rfl | exact .inr rfl, hacc⟩, by show b' ≤ 1 + (k + 1); omega, hrep'⟩ ⟨rfl, rfl, rfl, rfl, rfl, rfl, inc64 (by omega), trivial⟩ (.drop 2 2 (shed_eq rfl))
              show acts.length - (k + 1) < acts.length - k; omega
            · refine .quiet (by kernel_rfl) ?_
              refine LoadAt.mk 0 _ _ rfl rfl ?_
              refine bcond_dec (fun c1 => ?_) (fun c1 => ?_)
              · have c1 : 0 < (↑l.length : Int) := c1
                exact absurd c1 (by omega)
              · have c1 : ¬ (0 < (↑l.length : Int)) := c1
                refine LoadAt.mk 0 _ _ rfl rfl ?_
                refine LoadAt.mk 0 _ _ rfl rfl ?_
                refine LoadAt.mk 0 _ _ rfl rfl ?_
                have hmx : (if IntKind.i64.wrap ((l.length : Int) - 1) < 0 then 0 else IntKind.i64.wrap ((l.length : Int) - 1)) = ((0 + (l.length - 1) : Nat) : Int) := by rw [IntKind.wrap_i64]; split <;> omega
                refine With.mk ⟨by decide, by rw [hmx]; omega, by rw [hmx]; omega, rfl⟩ ?_
                have hacc' := accO_cut h1 h2 vb (lo := 0) (a := 0) (n := l.length - 1) rfl hmx (by omega)
                obtain ⟨L1, hL1⟩ : ∃ L1, L1 = (l.drop 0).take (l.length - 1) := ⟨_, rfl⟩
                rw [show opL room 2 0 l = L1 by rw [hL1]; simp [opL]] at hrep'
                have hl1 : l.length - 1 = L1.length := by rw [hL1]; simp
                rw [← hL1, hl1] at hacc'
                refine LoadAt.mk 4 _ _ rfl rfl ?_
                have hLl := rep_list hrep'
                have hL := fun σ => aListD p q ws' 0 room σ
                rw [hLl] at hL
                refine callR [2, 2] (hL _) ?_
                refine callR [] (same10O L1 L1 [_, _, _, _, _] [] (by omega) hacc' rfl) ?_
                rw [show (decide (L1 = L1)) = true from decide_eq_true rfl]
                refine nextS (k + 1, _, _, L1, ws', t', b') ?_ ⟨hlt, ⟨_, by first | exact .inl rfl | exact .inr rfl, hacc'⟩, by show b' ≤ 1 + (k + 1); omega, hrep'⟩ ⟨rfl, rfl, rfl, rfl, rfl, rfl, inc64 (by omega), trivial⟩ (.drop 2 2 (shed_eq rfl))
                show acts.length - (k + 1) < acts.length - k; omega
        · have c4 : ¬ (ak = 2) := c4
          refine LoadAt.mk 3 _ _ rfl rfl ?_
          intro bl6
          obtain ⟨ws', t', b', at_, xb, xt, x, e, hb', hrep'⟩ := op_list (k := ak) (n := 0) hrep (Int.le_refl _) (by omega) 3 (.inr (.inr ⟨c2, c4, rfl⟩))
          have hf := fun σ => aFinishD _ _ mSteal_ 3 p q bl6 (fun x ws σ hx _ _ _ h => aStealP p q bl6 3 (by decide) (by decide) x ws 0 σ hx h) ⟨0, room, 0, false, false, 0, 0, 0, 0⟩ ws σ (dq_new _ _ (Int.le_refl _)) hrep.nn (fun _ h => by cases h)
          rw [show (⟨0, room, 0, false, false, 0, 0, 0, 0⟩ : DQ) = ⟨0, room, argL 3 0, false, false, 0, 0, 0, 0⟩ from rfl, e] at hf
          refine callR [2, 3, 3] (hf _) ?_
          by_cases h0 : 0 < l.length
          · rw [show okL room 3 l = true by simp [okL, h0]]
            clear e hf
            rcases accO_inv hacc with ⟨rfl, rfl, rfl⟩ | ⟨vb, off, all, rfl, rfl, h1, h2⟩
            · exact absurd h0 (by decide)
            · refine .quiet (by kernel_rfl) ?_
              refine LoadAt.mk 0 _ _ rfl rfl ?_
              refine bcond_dec (fun c1 => ?_) (fun c1 => ?_)
              · have c1 : 0 < (↑l.length : Int) := c1
                refine LoadAt.mk 0 _ _ rfl rfl ?_
                refine LoadAt.mk 0 _ _ rfl rfl ?_
                refine With.mk ⟨rfl, by omega, by omega⟩ ?_
                refine LoadAt.mk 5 _ _ rfl (accO_read h1 (k := 0) (by omega) rfl) ?_
                refine bcond_false (by simp [tellL]) ?_
                refine LoadAt.mk 0 _ _ rfl rfl ?_
                have hmn : (if (1 : Int) < l.length then (1 : Int) else l.length) = ((min l.length 1 : Nat) : Int) := by split <;> omega
                have hlen : (l.length : Int) = ((min l.length 1 + (l.length - min l.length 1) : Nat) : Int) := by omega
                refine With.mk ⟨by rw [hmn]; omega, by rw [hmn]; omega, by omega, rfl⟩ ?_
                have hacc' := accO_cut h1 h2 vb (a := min l.length 1) (n := l.length - min l.length 1) hmn hlen (by omega)
                obtain ⟨L1, hL1⟩ : ∃ L1, L1 = (l.drop (min l.length 1)).take (l.length - min l.length 1) := ⟨_, rfl⟩
                rw [show opL room 3 0 l = L1 by rw [hL1]; cases l <;> simp [opL]] at hrep'
                have hl1 : l.length - min l.length 1 = L1.length := by rw [hL1]; simp
                rw [← hL1, hl1] at hacc'
                refine LoadAt.mk 4 _ _ rfl rfl ?_
                have hLl := rep_list hrep'
                have hL := fun σ => aListD p q ws' 0 room σ
                rw [hLl] at hL
                refine callR [2, 2] (hL _) ?_
                refine callR [] (same10O L1 L1 [_, _, _, _, _] [] (by omega) hacc' rfl) ?_
                rw [show (decide (L1 = L1)) = true from decide_eq_true rfl]
                refine nextS (k + 1, _, _, L1, ws', t', b') ?_ ⟨hlt, ⟨_, by first | exact .inl rfl | exact .inr rfl, hacc'⟩, by show b' ≤ 1 + (k + 1); omega, hrep'⟩ ⟨rfl, rfl, rfl, rfl, rfl, rfl, inc64 (by omega), trivial⟩ (.drop 2 2 (shed_eq rfl))
                show acts.length - (k + 1) < acts.length - k; omega
              · have c1 : ¬ (0 < (↑l.length : Int)) := c1
                exact absurd c1 (by omega)
          · rw [show okL room 3 l = false by simp [okL, h0], show tellL 3 0 l = 0 by unfold tellL; rw [List.length_eq_zero_iff.1 (show l.length = 0 by omega)]; rfl]
            clear e hf
            rcases accO_inv hacc with ⟨rfl, rfl, rfl⟩ | ⟨vb, off, all, rfl, rfl, h1, h2⟩
            · refine .quiet (by kernel_rfl) ?_
              refine LoadAt.mk 0 _ _ rfl rfl ?_
              refine LoadAt.mk 0 _ _ rfl rfl ?_
              refine LoadAt.mk 0 _ _ rfl rfl ?_
              refine LoadAt.mk 0 _ _ rfl rfl ?_
              refine With.mk (by omega) ?_
              refine LoadAt.mk 4 _ _ rfl rfl ?_
              rw [show opL room 3 0 ([] : List Int) = [] from rfl] at hrep'
              have hLl := rep_list hrep'
              have hL := fun σ => aListD p q ws' 0 room σ
              rw [hLl] at hL
              refine callR [2, 2] (hL _) ?_
              refine callR [] (same10O ([] : List Int) ([] : List Int) [_, _, _, _, _] [] (by omega) hacc rfl) ?_
              rw [show (decide (([] : List Int) = ([] : List Int))) = true from decide_eq_true rfl]
              refine nextS (k + 1, _, _, ([] : List Int), ws', t', b') ?_ ⟨hlt, ⟨_, by first | exact .inl rfl | exact .inr rfl, hacc⟩, by show b' ≤ 1 + (k + 1); omega, hrep'⟩ ⟨rfl, rfl, rfl, rfl, rfl, rfl, inc64 (by omega), trivial⟩ (.drop 2 2 (shed_eq rfl))
              show acts.length - (k + 1) < acts.length - k; omega
            · refine .quiet (by kernel_rfl) ?_
              refine LoadAt.mk 0 _ _ rfl rfl ?_
              refine bcond_dec (fun c1 => ?_) (fun c1 => ?_)
              · have c1 : 0 < (↑l.length : Int) := c1
                exact absurd c1 (by omega)
              · have c1 : ¬ (0 < (↑l.length : Int)) := c1
                refine LoadAt.mk 0 _ _ rfl rfl ?_
                refine LoadAt.mk 0 _ _ rfl rfl ?_
                refine LoadAt.mk 0 _ _ rfl rfl ?_
                have hmn : (if (1 : Int) < l.length then (1 : Int) else l.length) = ((min l.length 1 : Nat) : Int) := by split <;> omega
                have hlen : (l.length : Int) = ((min l.length 1 + (l.length - min l.length 1) : Nat) : Int) := by omega
                refine With.mk ⟨by rw [hmn]; omega, by rw [hmn]; omega, by omega, rfl⟩ ?_
                have hacc' := accO_cut h1 h2 vb (a := min l.length 1) (n := l.length - min l.length 1) hmn hlen (by omega)
                obtain ⟨L1, hL1⟩ : ∃ L1, L1 = (l.drop (min l.length 1)).take (l.length - min l.length 1) := ⟨_, rfl⟩
                rw [show opL room 3 0 l = L1 by rw [hL1]; cases l <;> simp [opL]] at hrep'
                have hl1 : l.length - min l.length 1 = L1.length := by rw [hL1]; simp
                rw [← hL1, hl1] at hacc'
                refine LoadAt.mk 4 _ _ rfl rfl ?_
                have hLl := rep_list hrep'
                have hL := fun σ => aListD p q ws' 0 room σ
                rw [hLl] at hL
                refine callR [2, 2] (hL _) ?_
                refine callR [] (same10O L1 L1 [_, _, _, _, _] [] (by omega) hacc' rfl) ?_
                rw [show (decide (L1 = L1)) = true from decide_eq_true rfl]
                refine nextS (k + 1, _, _, L1, ws', t', b') ?_ ⟨hlt, ⟨_, by first | exact .inl rfl | exact .inr rfl, hacc'⟩, by show b' ≤ 1 + (k + 1); omega, hrep'⟩ ⟨rfl, rfl, rfl, rfl, rfl, rfl, inc64 (by omega), trivial⟩ (.drop 2 2 (shed_eq rfl))
                show acts.length - (k + 1) < acts.length - k; omega
  · exact .done rfl
end Go.Proofs.Ytiihcgmnmcdcfaa
