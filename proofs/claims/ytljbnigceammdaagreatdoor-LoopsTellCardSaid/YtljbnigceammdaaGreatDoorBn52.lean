/-
  Lpv: what the claim uses of them.
-/
import Derived.Test.YtljbnigceammdaaGreatDoorBn49
import Derived.Test.YtljbnigceammdaaGreatDoorBn50
namespace Go.Proofs.YtljbnigceammdaaGreatDoor
open Go.RowKit
set_option maxRecDepth 100000
theorem takeE_snoc {α : Type} {L : List α} {k : Nat} (h : k < L.length) : L.take (k + 1) = L.take k ++ [L[k]] := by
  rw [List.take_add_one, List.getElem?_eq_getElem h]; rfl
theorem aR52Depth (hOf : ∀ (N R : Nat) (l : List EdgeT) (σ : Hp) (_ : DG N R l), ACalls Tryz.prog 33 [.int .i64 N, .fsl edgeSh l, .int .i64 R] σ (Ret (.fsl loopSh (loopsP N l R N)) σ)) (N R : Nat) (l : List EdgeT) (σ : Hp) (d : DG N R l) : ACalls Tryz.prog 36 [.int .i64 N, .fsl edgeSh l, .int .i64 R] σ (Ret (.fsl (.int .i64) (depP N (loopsP N l R N))) σ) := by
  obtain ⟨P, hP⟩ : ∃ P, P = loopsP N l R N := ⟨_, rfl⟩
  have h8 := d.h8
  have h1 := d.h1
  have hA : ∀ ρ, ACalls Tryz.prog 33 [.int .i64 N, .fsl edgeSh l, .int .i64 R] ρ (Ret (.fsl loopSh P) ρ) := fun ρ => by rw [hP]; exact hOf N R l ρ d
  obtain ⟨hlen, hmem, hbl, hnd⟩ := loops_like d hP
  rw [← hP]
  refine okF Tryz.func36 (by kernel_rfl) ?_
  refine With.mk ⟨by omega, by omega, by omega, by decide⟩ ?_
  intro bl1
  refine callR [] (hA _) ?_
  have hr0 : repC [AV.int .i64 0] N = inC (List.replicate N 0) := rep_inL N
  refine loopS (S := Nat) (fun i => [(7, .mref bl1 0 N 1), (17, .fsl loopSh P), (18, .int .i64 P.length), (19, .int .i64 i)]) (fun i => (bl1, inC (incAll (P.take i) (List.replicate N 0))) :: σ) (fun i => i ≤ P.length) (fun i => P.length - i) 0 ⟨Nat.zero_le _, ⟨rfl, rfl, rfl, rfl, trivial⟩, by rw [Int.toNat_natCast, hr0]; rfl⟩ ?_
  intro i g hi0
  have hi : i ≤ P.length := hi0
  clear hi0
  have hpl : (P.take i).length ≤ N := by rw [List.length_take]; omega
  obtain ⟨L0, hL0⟩ : ∃ L0, incAll (P.take i) (List.replicate N 0) = L0 := ⟨_, rfl⟩
  have hl0 : L0.length = N := by rw [← hL0, incAll_length, List.length_replicate]
  have hs0 : ∀ x ∈ L0, 0 ≤ x ∧ x ≤ 64 := fun x hx => by
    rw [← hL0] at hx
    have := incAll_small (b := N) (fun y hy => hbl y (List.mem_of_mem_take hy)) (L := List.replicate N 0) (m := 0) (fun y hy => by rw [List.eq_of_mem_replicate hy]; omega) x hx
    have h2 : (P.take i).length * N ≤ 8 * 8 := Nat.mul_le_mul (by omega) h8
    omega
  refine bcond_dec (p := (i : Int) < P.length) (fun hlt => ?_) (fun hge => ?_)
  · have hlt : i < P.length := by omega
    obtain ⟨x, hx⟩ : ∃ x, P[i] = x := ⟨_, rfl⟩
    have hxP : x ∈ P := hx ▸ List.getElem_mem hlt
    have hxl := hbl x hxP
    have hxn := hnd x hxP
    have hnx := incAll_take (L := List.replicate N 0) hlt
    rw [hx, hL0] at hnx
    refine With.mk rfl (IdxF.mk (l := (P : List LoopT)) x (by omega) ((get_some hlt).trans (congrArg some hx)) ?_)
    obtain ⟨xh, xb, xu⟩ := x
    have hxl : xb.length ≤ N := hxl
    have hxn : ∀ a ∈ xb, 0 ≤ a ∧ a < (N : Int) := hxn
    have hnx : incAll (P.take (i + 1)) (List.replicate N 0) = xb.foldl incL L0 := hnx
    intro bl2
    refine StoreAt.mk 0 _ _ rfl rfl ?_
    refine LoadAt.mk 0 _ _ rfl rfl ?_
    refine loopS (S := Nat) (fun j => [(7, .mref bl1 0 N 1), (17, .fsl loopSh P), (18, .int .i64 P.length), (19, .int .i64 i), (24, .fsl (.int .i64) xb), (25, .int .i64 xb.length), (26, .int .i64 j)]) (fun j => (bl2, [.int .i64 xh, .fsl (.int .i64) xb]) :: (bl1, inC ((xb.take j).foldl incL L0)) :: σ) (fun j => j ≤ xb.length) (fun j => xb.length - j) 0 ⟨Nat.zero_le _, ⟨rfl, rfl, rfl, rfl, rfl, rfl, rfl, trivial⟩, by rw [hL0]; rfl⟩ ?_
    intro j g2 hj0
    have hj : j ≤ xb.length := hj0
    clear hj0
    obtain ⟨L1, hL1⟩ : ∃ L1, (xb.take j).foldl incL L0 = L1 := ⟨_, rfl⟩
    have hl1 : L1.length = N := by rw [← hL1, incF_length, hl0]
    have hs1 : ∀ x ∈ L1, 0 ≤ x ∧ x ≤ 72 := fun x hx => by
      rw [← hL1] at hx
      have := incF_small hs0 x hx
      rw [List.length_take] at this
      omega
    refine bcond_dec (p := (j : Int) < xb.length) (fun hlt2 => ?_) (fun hge2 => ?_)
    · have hlt2 : j < xb.length := by omega
      obtain ⟨a, ha⟩ : ∃ a, xb[j] = a := ⟨_, rfl⟩
      have han := hxn a (ha ▸ List.getElem_mem hlt2)
      have hst := incF_take (L := L0) hlt2
      rw [hL1, ha] at hst
      have hv : 0 ≤ L1.getD a.toNat 0 ∧ L1.getD a.toNat 0 ≤ 72 := by
        have h1 : L1.getD a.toNat 0 = L1[a.toNat]'(by omega) := by rw [List.getD_eq_getElem?_getD, List.getElem?_eq_getElem (by omega)]; rfl
        rw [h1]; exact hs1 _ (List.getElem_mem _)
      refine With.mk rfl (IdxF.mk a (by omega) ((get_some hlt2).trans (congrArg some ha)) ?_)
      rw [hL1]
      refine With.mk ⟨rfl, by omega, by omega⟩ ?_
      refine LoadAt.mk 1 _ _ rfl (inC_rd rfl han.1 (by omega)) ?_
      refine With.mk ⟨rfl, by omega, by omega⟩ ?_
      refine StoreAt.mk 1 _ _ rfl (inC_wr rfl _ han.1 (by omega)) ?_
      exact nextS (j + 1) (by show xb.length - (j + 1) < xb.length - j; omega) hlt2 ⟨rfl, rfl, rfl, rfl, rfl, rfl, inc64 (by omega), trivial⟩ (shed_eq (by rw [hst]; unfold incL; rw [w64 (by omega)]; rfl))
    · have hge2 : j = xb.length := by omega
      subst hge2
      rw [List.take_length] at hL1
      exact nextS (i + 1) (by show P.length - (i + 1) < P.length - i; omega) hlt ⟨rfl, rfl, rfl, inc64 (by omega), trivial⟩ (.drop 0 1 (shed_eq (by rw [hnx, List.take_length]; rfl)))
  · have hge : i = P.length := by omega
    subst hge
    have hL1 : inC (incAll (P.take P.length) (List.replicate N 0)) = inC (depP N P) := by rw [List.take_length]; rfl
    have hdl : (depP N P).length = N := (incAll_length P _).trans (List.length_replicate ..)
    refine .frz (r' := .fsl (.int .i64) (depP N P)) 0 bl1 0 N 1 _ (.int .i64) (depP N P) rfl (by rw [hL1, List.drop_zero, List.take_of_length_le (by rw [inC_length, hdl]; omega)]; exact inC_flat _) ⟨hdl, rfl, by decide⟩ (.here) (.done ⟨rfl, rfl⟩)
theorem frzVm2 {t t' : Tm} {b off len es : Nat} {e : Sh} {l : List e.T} (k1 k2 : Nat) (h1 : t k1 = .mref b off len es) (h2 : t k2 = .mref b off len es) (h' : t' = upd t [(k1, .fsl e l), (k2, .fsl e l)]) (i : Nat) : FrzRel b off len es e l (t i) (t' i) := by
  subst h'
  show FrzRel b off len es e l (t i) (match Nat.beq i k1 with | true => .fsl e l | false => (match Nat.beq i k2 with | true => .fsl e l | false => t i))
  cases hb : Nat.beq i k1 with
  | true => rw [Nat.eq_of_beq_eq_true hb, h1]; exact .here
  | false =>
    show FrzRel b off len es e l (t i) (match Nat.beq i k2 with | true => .fsl e l | false => t i)
    cases hb2 : Nat.beq i k2 with
    | true => rw [Nat.eq_of_beq_eq_true hb2, h2]; exact .here
    | false => exact .refl _
set_option maxHeartbeats 4000000 in
theorem aR52Clean (N R : Nat) (l : List EdgeT) (σ : Hp) (d : DG N R l) : ACalls Tryz.prog 37 [.int .i64 N, .fsl edgeSh l, .int .i64 R] σ (Ret (.bool (!ringO N (restO N l R))) σ) := by
  have hl := d.hl
  have h8 := d.h8
  obtain ⟨B, hBd⟩ : ∃ B, backP N l R = B := ⟨_, rfl⟩
  have hB : ∀ ρ, ACalls Tryz.prog 35 [.int .i64 N, .fsl edgeSh l, .int .i64 R] ρ (Ret (.fsl edgeSh B) ρ) := fun ρ => hBd ▸ aR52Back N R l ρ d
  have hRe : ∀ (l : List EdgeT) (a : Int) ρ, l.length ≤ 1000 → ACalls Tryz.prog 51 [.int .i64 N, .fsl edgeSh l, .fsl (.int .i64) ([a] : List Int)] ρ (Ret (.fsl (.int .i64) (reachR N l [a])) ρ) := fun l a ρ hl => aRReached N l [a] ρ (by omega) (by omega) (show 1 ≤ 100000 by decide)
  have hIx : ∀ (L : List Int) (x : Int) ρ, L.length ≤ 1000000 → ACalls Tryz.prog 26 [.fsl (.int .i64) L, .int .i64 x] ρ (Ret (.bool (decide (x ∈ L))) ρ) := fun L x ρ h => acalls_eq (aRIn L x ρ h) (av_bool (any_inD _ _))
  refine okF Tryz.func37 (by kernel_rfl) ?_
  intro bl1
  refine .frz (args' := [.int .i64 N, .fsl edgeSh l, .fsl (.int .i64) ([(R : Int)] : List Int)]) 0 bl1 0 1 1 _ (.int .i64) ([(R : Int)] : List Int) rfl rfl ⟨rfl, rfl, by decide⟩ (frz_cons (.refl _) (frz_cons (.refl _) (frz_cons .here (.refl _)))) ?_
  refine callR [] (hRe l R _ hl) ?_
  obtain ⟨I, hI⟩ : ∃ I, reachR N l [(R : Int)] = I := ⟨_, rfl⟩
  have hIl : I.length ≤ 1000 := by
    rw [← hI]
    have := reachR_length N l [(R : Int)]
    omega
  have hbl : B.length ≤ 1000 := by
    rw [← hBd]; unfold backP
    exact Nat.le_trans (List.length_filter_le _ _) (Nat.le_trans (by rw [← insK_all]; exact insK_len l _ (Nat.le_refl _)) hl)
  unfold ringO restO
  rw [hI, hBd]
  refine callR [] (hB _) ?_
  obtain ⟨T, hT⟩ : ∃ T : Nat → List EdgeT, T = fun k => (l.take k).filter (restQ I B) := ⟨_, rfl⟩
  have hTS : ∀ k (h : k < l.length), T (k + 1) = T k ++ if restQ I B l[k] = true then [l[k]] else [] := fun k h => by
    rw [hT]
    show List.filter _ (l.take (k + 1)) = List.filter _ (l.take k) ++ _
    rw [takeE_snoc h, List.filter_append]
    congr 1
    rw [List.filter_cons, List.filter_nil]
  have hTe : T l.length = l.filter (restQ I B) := by rw [hT]; show List.filter _ (l.take _) = _; rw [List.take_length]
  have hT0 : T 0 = [] := by rw [hT]; rfl
  have hTl : ∀ k, (T k).length ≤ 1000 := fun k => by rw [hT]; exact Nat.le_trans (List.length_filter_le _ _) (by rw [List.length_take]; omega)
  clear hT
  rw [← hTe]
  refine loopS (S := Nat × AV × Hp) (fun x => [(0, .int .i64 N), (7, .fsl (.int .i64) I), (8, .fsl edgeSh B), (9, x.2.1), (26, .fsl edgeSh l), (27, .int .i64 l.length), (28, .int .i64 x.1)]) (fun x => x.2.2 ++ σ) (fun x => x.1 ≤ l.length ∧ Acc 2 (T x.1).length x.2.1 x.2.2 ((T x.1).flatMap cellE)) (fun x => l.length - x.1) (0, .nils, []) ⟨⟨Nat.zero_le _, by rw [hT0]; exact .nil⟩, ⟨rfl, rfl, rfl, rfl, rfl, rfl, rfl, trivial⟩, rfl⟩ ?_
  rintro ⟨k, v, acc⟩ g ⟨hk0, hA0⟩
  have hk : k ≤ l.length := hk0
  have hD : Acc 2 (T k).length v acc ((T k).flatMap cellE) := hA0
  clear hk0 hA0
  refine bcond_dec (p := (k : Int) < l.length) (fun hlt => ?_) (fun hge => ?_)
  · have hlt : k < l.length := by omega
    obtain ⟨x, hx⟩ : ∃ x, l[k] = x := ⟨_, rfl⟩
    have hst := hTS k hlt
    rw [hx] at hst
    have hkl := hTl k
    obtain ⟨x1, x2, xu⟩ := x
    refine With.mk rfl (IdxF.mk (x1, x2, xu) (by omega) ((get_some hlt).trans (congrArg some hx)) ?_)
    intro bl1
    refine StoreAt.mk 0 _ _ rfl rfl ?_
    refine LoadAt.mk 0 _ _ rfl rfl ?_
    refine callR [] (hIx I x1 _ (by omega)) ?_
    have hq0 : decide (x1 ∈ I) = (decide (x1 ∈ I) && !decide (((x1, x2, xu) : EdgeT) ∈ B.take 0)) := by rw [List.take_zero]; simp
    refine loopS (S := Nat × Bool) (fun x => [(0, .int .i64 N), (7, .fsl (.int .i64) I), (8, .fsl edgeSh B), (9, v), (11, .ptr bl1 0), (12, .bool x.2), (26, .fsl edgeSh l), (27, .int .i64 l.length), (28, .int .i64 k), (36, .fsl edgeSh B), (37, .int .i64 B.length), (38, .int .i64 x.1)]) (fun _ => (bl1, [.int .i64 x1, .int .i64 x2]) :: (acc ++ σ)) (fun x => x.1 ≤ B.length ∧ x.2 = (decide (x1 ∈ I) && !decide (((x1, x2, xu) : EdgeT) ∈ B.take x.1))) (fun x => B.length - x.1) (0, decide (x1 ∈ I)) ⟨⟨Nat.zero_le _, hq0⟩, ⟨rfl, rfl, rfl, rfl, rfl, rfl, rfl, rfl, rfl, rfl, rfl, rfl, trivial⟩, rfl⟩ ?_
    rintro ⟨j, is⟩ g2 ⟨hj0, hi0⟩
    have hj : j ≤ B.length := hj0
    have hi : is = (decide (x1 ∈ I) && !decide (((x1, x2, xu) : EdgeT) ∈ B.take j)) := hi0
    clear hj0 hi0
    refine bcond_dec (p := (j : Int) < B.length) (fun hlt2 => ?_) (fun hge2 => ?_)
    · have hlt2 : j < B.length := by omega
      obtain ⟨y, hy⟩ : ∃ y, B[j] = y := ⟨_, rfl⟩
      have htk := takeE_snoc hlt2
      rw [hy] at htk
      obtain ⟨y1, y2, yu⟩ := y
      refine With.mk rfl (IdxF.mk (y1, y2, yu) (by omega) ((get_some hlt2).trans (congrArg some hy)) ?_)
      intro bl1
      refine StoreAt.mk 0 _ _ rfl rfl ?_
      have hne : (is && !decide (x1 = y1 ∧ x2 = y2)) = (decide (x1 ∈ I) && !decide (((x1, x2, xu) : EdgeT) ∈ B.take (j + 1))) := by
        have e0 : decide (((x1, x2, xu) : EdgeT) ∈ B.take (j + 1)) = (decide (((x1, x2, xu) : EdgeT) ∈ B.take j) || decide (x1 = y1 ∧ x2 = y2)) := by
          rw [htk]
          refine Bool.eq_iff_iff.2 ?_
          rw [Bool.or_eq_true, decide_eq_true_eq, decide_eq_true_eq, decide_eq_true_eq, List.mem_append, List.mem_singleton]
          refine or_congr_right ?_
          constructor
          · intro h; injection h with h1 h2; injection h2 with h2 h3; exact ⟨h1, h2⟩
          · rintro ⟨rfl, rfl⟩; rfl
        rw [e0, hi, Bool.not_or, Bool.and_assoc]
      cases is
      · exact nextS (j + 1, false) (by show B.length - (j + 1) < B.length - j; omega) ⟨hlt2, by rw [← hne]; rfl⟩ ⟨rfl, rfl, rfl, rfl, rfl, rfl, rfl, rfl, rfl, rfl, rfl, inc64 (by omega), trivial⟩ (.drop 0 1 (.refl _))
      · refine LoadAt.mk 1 _ _ rfl rfl ?_
        refine LoadAt.mk 0 _ _ rfl rfl ?_
        refine EqAt.mk (by kernel_rfl) (by kernel_rfl) ?_
        refine bcond_split (fun c => ?_) (fun c => ?_)
        · have c : (!allB [decide (x1 = y1), decide (x2 = y2)]) = true := c
          have c : ¬ (x1 = y1 ∧ x2 = y2) := fun h => by simp [allB, h.1, h.2] at c
          exact nextS (j + 1, true) (by show B.length - (j + 1) < B.length - j; omega) ⟨hlt2, by rw [← hne, decide_eq_false c]; rfl⟩ ⟨rfl, rfl, rfl, rfl, rfl, rfl, rfl, rfl, rfl, rfl, rfl, inc64 (by omega), trivial⟩ (.drop 0 1 (.refl _))
        · have c : (!allB [decide (x1 = y1), decide (x2 = y2)]) = false := c
          have c : x1 = y1 ∧ x2 = y2 := by simpa [allB] using c
          exact nextS (j + 1, false) (by show B.length - (j + 1) < B.length - j; omega) ⟨hlt2, by rw [← hne, decide_eq_true c]; rfl⟩ ⟨rfl, rfl, rfl, rfl, rfl, rfl, rfl, rfl, rfl, rfl, rfl, inc64 (by omega), trivial⟩ (.drop 0 1 (.refl _))
    · have hge2 : j = B.length := by omega
      subst hge2
      rw [List.take_length] at hi
      have hr : restQ I B (x1, x2, xu) = is := hi.symm
      rw [hr] at hst
      cases is
      · rw [if_neg (by decide), List.append_nil] at hst
        exact nextS (k + 1, v, acc) (by show l.length - (k + 1) < l.length - k; omega) ⟨hlt, by show Acc 2 (T (k + 1)).length v acc ((T (k + 1)).flatMap cellE); rw [hst]; exact hD⟩ ⟨rfl, rfl, rfl, rfl, rfl, rfl, inc64 (by omega), trivial⟩ (.drop 0 1 (.refl _))
      · rw [if_pos rfl] at hst
        have hnl : (T (k + 1)).length = (T k).length + 1 := by rw [hst, List.length_append]; rfl
        have hnw : (T (k + 1)).flatMap cellE = (T k).flatMap cellE ++ [.int .i64 x1, .int .i64 x2] := by rw [hst]; exact List.flatMap_append
        have hgo : ∀ b5, Acc 2 ((T k).length + 1) (.mref b5 0 ((T k).length + 1) 2) [(b5, (T k).flatMap cellE ++ [.int .i64 x1, .int .i64 x2])] ((T k).flatMap cellE ++ [.int .i64 x1, .int .i64 x2]) → Acc 2 (T (k + 1)).length (.mref b5 0 ((T k).length + 1) 2) [(b5, (T k).flatMap cellE ++ [.int .i64 x1, .int .i64 x2])] ((T (k + 1)).flatMap cellE) := fun b5 h => by rw [hnl, hnw]; exact h
        generalize (T k).flatMap cellE = cs at hD hgo
        generalize (T k).length = q at hD hgo hkl
        rcases acc_val hD with ⟨rfl, rfl, hj0, hc0⟩ | ⟨b2, rfl, rfl⟩
        · subst hj0; subst hc0
          refine LoadAt.mk 0 _ _ rfl rfl ?_
          intro bl3
          refine append_accV (i := ⟨_, 2, 16, [.int .i64 0, .int .i64 0]⟩) (k := 0) (cs := []) [_, _] .nil (.mref 0 bl3 0 1 _ rfl (Nat.le_of_ble_eq_true rfl)) rfl (by decide) (by decide) (by decide) (fun v' acc' h' => ?_)
          obtain ⟨b5, rfl, rfl⟩ := acc_one (by omega) h'
          exact nextS (k + 1, .mref b5 0 (0 + 1) 2, [(b5, [] ++ [.int .i64 x1, .int .i64 x2])]) (by show l.length - (k + 1) < l.length - k; omega) ⟨hlt, hgo b5 h'⟩ ⟨rfl, rfl, rfl, rfl, rfl, rfl, inc64 (by omega), trivial⟩ (.drop 0 2 (shed_eq rfl))
        · refine LoadAt.mk 0 _ _ rfl rfl ?_
          intro bl3
          refine append_accV (i := ⟨_, 2, 16, [.int .i64 0, .int .i64 0]⟩) [_, _] hD (.mref 0 bl3 0 1 _ rfl (Nat.le_of_ble_eq_true rfl)) rfl (by omega) (by decide) (by decide) (fun v' acc' h' => ?_)
          obtain ⟨b5, rfl, rfl⟩ := acc_one (by omega) h'
          exact nextS (k + 1, .mref b5 0 (q + 1) 2, [(b5, cs ++ [.int .i64 x1, .int .i64 x2])]) (by show l.length - (k + 1) < l.length - k; omega) ⟨hlt, hgo b5 h'⟩ ⟨rfl, rfl, rfl, rfl, rfl, rfl, inc64 (by omega), trivial⟩ (.drop 0 2 (shed_eq rfl))
  · have hge : k = l.length := by omega
    subst hge
    obtain ⟨E, hE⟩ : ∃ E, T l.length = E := ⟨_, rfl⟩
    have hEl : E.length ≤ 1000 := hE ▸ hTl _
    rw [hE] at hD ⊢
    rcases acc_val hD with ⟨rfl, rfl, hj0, hc0⟩ | ⟨b2, rfl, rfl⟩
    · obtain rfl := List.length_eq_zero_iff.1 hj0
      refine loopS (S := Unit) (fun _ => [(0, .int .i64 N), (9, .nils), (55, .nils), (56, .int .i64 0), (57, .int .i64 0)]) (fun _ => σ) (fun _ => True) (fun _ => 0) () ⟨trivial, ⟨rfl, rfl, rfl, rfl, rfl, trivial⟩, rfl⟩ ?_
      rintro _ g2 _
      exact .done ⟨rfl, rfl⟩
    · refine .frz 0 b2 0 E.length 2 _ edgeSh E rfl (by rw [List.drop_zero]; exact List.take_of_length_le (Nat.le_of_eq hD.length)) ⟨rfl, rfl, by decide⟩ (frzVm2 9 55 rfl rfl rfl) ?_
      refine loopS (S := Nat) (fun j => [(0, .int .i64 N), (9, .fsl edgeSh E), (55, .fsl edgeSh E), (56, .int .i64 E.length), (57, .int .i64 j)]) (fun _ => σ) (fun j => j ≤ E.length ∧ ∀ x ∈ E.take j, toB N E x.2.1 x.1 = false) (fun j => E.length - j) 0 ⟨⟨Nat.zero_le _, by rw [List.take_zero]; exact fun x hx => absurd hx List.not_mem_nil⟩, ⟨rfl, rfl, rfl, rfl, rfl, trivial⟩, rfl⟩ ?_
      rintro j g2 ⟨hj0, hn0⟩
      have hj : j ≤ E.length := hj0
      have hn : ∀ x ∈ E.take j, toB N E x.2.1 x.1 = false := hn0
      clear hj0 hn0
      refine bcond_dec (p := (j : Int) < E.length) (fun hlt2 => ?_) (fun hge2 => ?_)
      · have hlt2 : j < E.length := by omega
        obtain ⟨x, hx⟩ : ∃ x, E[j] = x := ⟨_, rfl⟩
        have htk := takeE_snoc hlt2
        rw [hx] at htk
        have hxm : x ∈ E := hx ▸ List.getElem_mem hlt2
        obtain ⟨x1, x2, xu⟩ := x
        refine With.mk rfl (IdxF.mk (x1, x2, xu) (by omega) ((get_some hlt2).trans (congrArg some hx)) ?_)
        intro bl1
        refine StoreAt.mk 0 _ _ rfl rfl ?_
        refine LoadAt.mk 0 _ _ rfl rfl ?_
        refine LoadAt.mk 0 _ _ rfl rfl ?_
        refine callB [] (aRTo N E x2 x1 _ (by omega) (by omega)) (fun c1 => ?_) (fun c1 => ?_)
        · have ha : (E.any fun x : EdgeT => toB N E x.2.1 x.1) = true := List.any_eq_true.2 ⟨(x1, x2, xu), hxm, c1⟩
          exact .drop 0 1 (.done ⟨av_bool (by rw [ha]; rfl), rfl⟩)
        · exact nextS (j + 1) (by show E.length - (j + 1) < E.length - j; omega) ⟨hlt2, fun z hz => by
            rw [htk] at hz
            rcases List.mem_append.1 hz with hz | hz
            · exact hn z hz
            · rw [List.mem_singleton.1 hz]; exact c1⟩ ⟨rfl, rfl, rfl, rfl, inc64 (by omega), trivial⟩ (.drop 0 1 (.refl _))
      · have hge2 : j = E.length := by omega
        subst hge2
        rw [List.take_length] at hn
        have ha : (E.any fun x : EdgeT => toB N E x.2.1 x.1) = false := List.any_eq_false.2 fun x hx => by rw [hn x hx]; decide
        exact .done ⟨av_bool (by rw [ha]; rfl), rfl⟩
end Go.Proofs.YtljbnigceammdaaGreatDoor
