/-
  Qw: what the claim uses of them.
-/
import Derived.Test.YtacacplipaeokaaBn50
namespace Go.Proofs.Ytacacplipaeokaa
open Go.RowKit
set_option maxRecDepth 100000
set_option maxHeartbeats 4000000
theorem goP_us {cap : Int} {n : Nat} : ∀ (scr : List (Int × Int × Unit)) (x : SSt PA), (goP cap n scr x).us ≤ x.us + scr.length
  | [], x => Nat.le_refl _
  | p :: ps, x => by
    unfold goP goS
    split
    · exact Nat.le_add_right _ _
    · unfold pickS
      split
      · refine Nat.le_trans (goP_us ps _) ?_
        show x.us + 1 + ps.length ≤ x.us + (ps.length + 1); omega
      · refine Nat.le_trans (goP_us ps _) ?_
        show x.us + 1 + ps.length ≤ x.us + (ps.length + 1); omega
theorem runP_whole {cap : Int} {ow th : List Int} (hr : rightP cap ow th = true) (scr : List (Int × Int × Unit)) (hs : scr.length ≤ 1000) : ∃ rest, WholeP (runP cap ow th scr).a.ops (listD 0 cap (runP cap ow th scr).a.ws) rest := by
  have hnone : ∀ x ∈ W0P ow th, x.now = none := fun x hx => by
    obtain ⟨t, _, rfl⟩ := List.mem_map.1 hx; rfl
  have h := goP_inv (cap := cap) (n := th.length + 1) scr ⟨aP0 cap ow th, List.replicate (th.length + 1) 0, List.replicate (th.length + 1) false, 0⟩ (by show 0 + scr.length < _; omega) rfl (free0 hr).todo ⟨1, [], [], PI.first hnone⟩
  obtain ⟨h1, _, T, c, ord, h⟩ := h
  have hu := goP_us (cap := cap) (n := th.length + 1) scr ⟨aP0 cap ow th, List.replicate (th.length + 1) 0, List.replicate (th.length + 1) false, 0⟩
  have hu : _ ≤ 0 + scr.length := hu
  have hsum := h.sum
  obtain ⟨rest, k1, k2⟩ := h.whole
  have hl := listD_take h.di.db (by omega)
  exact ⟨rest, by show (List.filterMap sureF _).Perm (_ ++ (List.map wr (listD 0 cap _) ++ rest)); rw [show listD 0 cap (runP cap ow th scr).a.ws = _ from hl]; exact k1, k2⟩
theorem playsOnce_walk (room : Int) (ow th : List Int) (scr : List (Int × Int × Unit)) : ACalls Try.prog 5 [.int .i64 room, .fsl (.int .i64) ow, .fsl (.int .i64) th, .fsl pickSh scr] [] (fun r _ => r = .bool true) := by
  refine okF Try.func5 (by kernel_rfl) ?_
  refine callR [] (aAwake28 _) ?_
  refine callR [] (aPlay28 room ow th scr _) ?_
  intro bl1
  refine StoreAt.mk 0 _ _ rfl rfl ?_
  cases hf : few28 ow th scr with
  | false => exact .done rfl
  | true =>
    obtain ⟨hf1, hf2, hf3⟩ : (ow.length : Int) ≤ 300 ∧ (th.length : Int) ≤ 70 ∧ (scr.length : Int) ≤ 150 := by simpa [few28] using hf
    have hP := fun τ => aRightP room ow th scr τ
    refine LoadAt.mk 0 _ _ rfl rfl ?_
    cases hr : rightP room ow th with
    | false =>
      rw [hr] at hP
      refine callR [] (hP _) ?_
      exact .done rfl
    | true =>
      rw [hr] at hP
      have hlo : (runP room ow th scr).a.ops.length ≤ 100000 := by
        have h := runP_free hr scr
        have := h.big
        omega
      obtain ⟨rest, hW⟩ := runP_whole hr scr (by omega)
      have hll : (listD 0 room (runP room ow th scr).a.ws).length ≤ 5000 := by
        have := rm_ok room
        unfold listD
        rw [takeD_length]
        unfold lenD
        omega
      refine callR [] (hP _) ?_
      refine LoadAt.mk 0 _ _ rfl rfl ?_
      refine callR [] (aRunP room ow th scr _ (by omega) hr) ?_
      refine callR [] (aWhole _ _ rest _ hW hlo (by omega)) ?_
      refine callR [] (aRWhole _ _ rest _ hW hlo (by omega)) ?_
      generalize hL : listD 0 room (runP room ow th scr).a.ws = left at hW hll
      generalize hO : (runP room ow th scr).a.ops = ops at hW hlo
      refine loopS (S := Nat) (fun x => [(12, .fsl (.int .u64) left), (14, .int .i64 ((ops.take x).filterMap sureF).length), (15, .int .i64 ((ops.take x).filterMap takenF).length), (55, .fsl opSh (ops.map opT)), (56, .int .i64 (ops.map opT).length), (57, .int .i64 x)]) (fun _ => [(bl1, [.int .i64 room, .fsl (.int .i64) ow, .fsl (.int .i64) th, .fsl pickSh scr])]) (fun x => x ≤ ops.length ∧ ∀ o ∈ ops.take x, o.en ≠ 0) (fun x => ops.length - x) 0 ⟨⟨Nat.zero_le _, fun o ho => absurd ho (by simp)⟩, ⟨rfl, rfl, rfl, rfl, rfl, rfl, trivial⟩, rfl⟩ ?_
      rintro k g ⟨hk, hen⟩
      have hk : k ≤ ops.length := hk
      have hen : ∀ o ∈ ops.take k, o.en ≠ 0 := hen
      refine bcond_dec (fun hlt => ?_) (fun hge => ?_)
      · have hlt : (k : Int) < (ops.map opT).length := hlt
        rw [List.length_map] at hlt
        have hkl : k < ops.length := by omega
        have hmu : ops.length - (k + 1) < ops.length - k := by omega
        have htk := take_op hkl
        have hs1 := fm_snocL sureF (ops.take k) (opAt ops (k : Int))
        have hs3 := fm_snocL takenF (ops.take k) (opAt ops (k : Int))
        have hl1 := fm_take sureF ops k
        have hl3 := fm_take takenF ops k
        rw [← htk] at hs1 hs3
        have hen2 : (opAt ops (k : Int)).en ≠ 0 → ∀ o ∈ ops.take (k + 1), o.en ≠ 0 := fun h o ho => by
          rw [htk] at ho
          rcases List.mem_append.1 ho with ho | ho
          · exact hen o ho
          · rw [List.mem_singleton.1 ho]; exact h
        have hget := op_get (ops := ops) (n := (k : Int)) (by omega) (by omega)
        generalize opAt ops (k : Int) = o at hget hs1 hs3 hen2
        obtain ⟨who, kd, n, bg, en, ok⟩ := o
        have hen2 : en ≠ 0 → ∀ o ∈ ops.take (k + 1), o.en ≠ 0 := hen2
        have fS0 : ¬ (kd = 1 ∧ en ≠ 0 ∧ ok = true) → ((ops.take (k + 1)).filterMap sureF).length = ((ops.take k).filterMap sureF).length := fun hn => congrArg List.length (fm_none (f := sureF) (o := ⟨who, kd, n, bg, en, ok⟩) hs1 (if_neg hn))
        have fS1 : kd = 1 ∧ en ≠ 0 ∧ ok = true → ((ops.take (k + 1)).filterMap sureF).length = ((ops.take k).filterMap sureF).length + 1 := fun hn => (congrArg List.length (fm_some (f := sureF) (o := ⟨who, kd, n, bg, en, ok⟩) hs1 (if_pos hn))).trans (by simp)
        have fT0 : ¬ (kd ≠ 1 ∧ en ≠ 0 ∧ ok = true) → ((ops.take (k + 1)).filterMap takenF).length = ((ops.take k).filterMap takenF).length := fun hn => congrArg List.length (fm_none (f := takenF) (o := ⟨who, kd, n, bg, en, ok⟩) hs3 (if_neg hn))
        have fT1 : kd ≠ 1 ∧ en ≠ 0 ∧ ok = true → ((ops.take (k + 1)).filterMap takenF).length = ((ops.take k).filterMap takenF).length + 1 := fun hn => (congrArg List.length (fm_some (f := takenF) (o := ⟨who, kd, n, bg, en, ok⟩) hs3 (if_pos hn))).trans (by simp)
        clear hs1 hs3
        refine With.mk rfl (IdxF.mk ((who, kd, n, bg, en, ok, ()) : opSh.T) (by omega) hget ?_)
        intro bl2
        refine StoreAt.mk 0 _ _ rfl rfl ?_
        by_cases h2 : en = 0
        · refine LoadAt.mk 0 _ _ rfl rfl ?_
          refine bcond_dec (fun _ => ?_) (fun c => absurd (show en = 0 by omega) c)
          exact .done rfl
        · by_cases h1 : kd = 1
          · cases ok with
            | true =>
              refine LoadAt.mk 0 _ _ rfl rfl ?_
              refine bcond_dec (fun c => absurd c (show ¬ en = 0 by omega)) (fun _ => ?_)
              refine LoadAt.mk 0 _ _ rfl rfl ?_
              refine bcond_dec (fun _ => ?_) (fun c => absurd (show kd = 1 by omega) c)
              refine LoadAt.mk 0 _ _ rfl rfl ?_
              exact nextS (k + 1) hmu ⟨hkl, hen2 h2⟩ ⟨rfl, av_int (by show IntKind.i64.wrap ((((ops.take k).filterMap sureF).length : Nat) + 1) = (((ops.take (k + 1)).filterMap sureF).length : Nat); rw [fS1 ⟨h1, h2, rfl⟩, w64 (by omega) (by omega)]; rfl), av_int (by show ((((ops.take k).filterMap takenF).length : Nat) : Int) = (((ops.take (k + 1)).filterMap takenF).length : Nat); rw [fT0 (fun h => h.1 h1)]), rfl, rfl, inc64 (by omega), trivial⟩ (.drop 0 1 (.refl _))
            | false =>
              refine LoadAt.mk 0 _ _ rfl rfl ?_
              refine bcond_dec (fun c => absurd c (show ¬ en = 0 by omega)) (fun _ => ?_)
              refine LoadAt.mk 0 _ _ rfl rfl ?_
              refine bcond_dec (fun _ => ?_) (fun c => absurd (show kd = 1 by omega) c)
              refine LoadAt.mk 0 _ _ rfl rfl ?_
              refine LoadAt.mk 0 _ _ rfl rfl ?_
              refine bcond_split (fun c => absurd (show kd = 1 by omega) (by simpa using c)) (fun _ => ?_)
              exact nextS (k + 1) hmu ⟨hkl, hen2 h2⟩ ⟨rfl, av_int (by show ((((ops.take k).filterMap sureF).length : Nat) : Int) = (((ops.take (k + 1)).filterMap sureF).length : Nat); rw [fS0 (fun h => by cases h.2.2)]), av_int (by show ((((ops.take k).filterMap takenF).length : Nat) : Int) = (((ops.take (k + 1)).filterMap takenF).length : Nat); rw [fT0 (fun h => h.1 h1)]), rfl, rfl, inc64 (by omega), trivial⟩ (.drop 0 1 (.refl _))
          · cases ok with
            | true =>
              refine LoadAt.mk 0 _ _ rfl rfl ?_
              refine bcond_dec (fun c => absurd c (show ¬ en = 0 by omega)) (fun _ => ?_)
              refine LoadAt.mk 0 _ _ rfl rfl ?_
              refine bcond_dec (fun c => absurd c (show ¬ kd = 1 by omega)) (fun _ => ?_)
              refine LoadAt.mk 0 _ _ rfl rfl ?_
              refine bcond_split (fun _ => ?_) (fun c => absurd (show kd = 1 by simpa using c) (by omega))
              refine LoadAt.mk 0 _ _ rfl rfl ?_
              exact nextS (k + 1) hmu ⟨hkl, hen2 h2⟩ ⟨rfl, av_int (by show ((((ops.take k).filterMap sureF).length : Nat) : Int) = (((ops.take (k + 1)).filterMap sureF).length : Nat); rw [fS0 (fun h => h1 h.1)]), av_int (by show IntKind.i64.wrap ((((ops.take k).filterMap takenF).length : Nat) + 1) = (((ops.take (k + 1)).filterMap takenF).length : Nat); rw [fT1 ⟨h1, h2, rfl⟩, w64 (by omega) (by omega)]; rfl), rfl, rfl, inc64 (by omega), trivial⟩ (.drop 0 1 (.refl _))
            | false =>
              refine LoadAt.mk 0 _ _ rfl rfl ?_
              refine bcond_dec (fun c => absurd c (show ¬ en = 0 by omega)) (fun _ => ?_)
              refine LoadAt.mk 0 _ _ rfl rfl ?_
              refine bcond_dec (fun c => absurd c (show ¬ kd = 1 by omega)) (fun _ => ?_)
              refine LoadAt.mk 0 _ _ rfl rfl ?_
              refine bcond_split (fun _ => ?_) (fun c => absurd (show kd = 1 by simpa using c) (by omega))
              refine LoadAt.mk 0 _ _ rfl rfl ?_
              exact nextS (k + 1) hmu ⟨hkl, hen2 h2⟩ ⟨rfl, av_int (by show ((((ops.take k).filterMap sureF).length : Nat) : Int) = (((ops.take (k + 1)).filterMap sureF).length : Nat); rw [fS0 (fun h => h1 h.1)]), av_int (by show ((((ops.take k).filterMap takenF).length : Nat) : Int) = (((ops.take (k + 1)).filterMap takenF).length : Nat); rw [fT0 (fun h => by cases h.2.2)]), rfl, rfl, inc64 (by omega), trivial⟩ (.drop 0 1 (.refl _))
      · have hge : ¬ (k : Int) < (ops.map opT).length := hge
        rw [List.length_map] at hge
        rw [show k = ops.length by omega, List.take_length] at hen ⊢
        have hall := hW.all hen
        have hl1 := fm_len_le takenF ops
        refine bcond_dec (fun c1 => ?_) (fun c1 => ?_)
        · have c1 : (↑(List.filterMap sureF ops).length : Int) = IntKind.i64.wrap ((↑(List.filterMap takenF ops).length : Int) + (↑left.length : Int)) := c1
          exact .done rfl
        · have c1 : ¬ ((↑(List.filterMap sureF ops).length : Int) = IntKind.i64.wrap ((↑(List.filterMap takenF ops).length : Int) + (↑left.length : Int))) := c1
          rw [w64 (by omega) (by omega)] at c1; omega
end Go.Proofs.Ytacacplipaeokaa
