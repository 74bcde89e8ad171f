/-
  Lpu: what the claim uses of them.
-/
import Derived.Test.YtljbnigceammdaaGreatDoorBn50
namespace Go.Proofs.YtljbnigceammdaaGreatDoor
open Go.RowKit
set_option maxRecDepth 100000
theorem fromP_snoc (B : List PrT) (h : Int) (x : PrT) : fromP (B ++ [x]) h = fromP B h ++ if x.2.1 = h then [x.1] else [] := by
  unfold fromP
  rw [List.filter_append, List.map_append]
  congr 1
  by_cases c : x.2.1 = h <;> simp [c]
theorem inLoop_snoc (N : Nat) (l : List EdgeT) (h : Int) (F : List Int) (f a : Int) : inLoop N l h (F ++ [f]) a = (inLoop N l h F a || (decide (f ≠ h) && decide (a ≠ h) && decide (f ∈ reachR N (withoutE l h) [a]))) := by
  unfold inLoop
  rw [List.any_append, Bool.or_assoc]
  simp
theorem takeL_snoc {α : Type} {L : List α} {k : Nat} (h : k < L.length) : L.take (k + 1) = L.take k ++ [L[k]] := by
  rw [List.take_add_one, List.getElem?_eq_getElem h]; rfl
/-- The nodes up to k that are round h. -/
def rndP (N : Nat) (l : List EdgeT) (h : Int) (F R : List Int) (k : Nat) : List Int := ((List.range k).map fun a : Nat => (a : Int)).filter fun a => inLoop N l h F a && decide (a ∈ R)
theorem rndP_succ (N : Nat) (l : List EdgeT) (h : Int) (F R : List Int) (k : Nat) : rndP N l h F R (k + 1) = rndP N l h F R k ++ if (inLoop N l h F k && decide ((k : Int) ∈ R)) = true then [(k : Int)] else [] := by
  unfold rndP
  rw [List.range_succ, List.map_append, List.filter_append]
  congr 1
  rw [List.map_cons, List.map_nil, List.filter_cons, List.filter_nil]
theorem rndP_length (N : Nat) (l : List EdgeT) (h : Int) (F R : List Int) (k : Nat) : (rndP N l h F R k).length ≤ k := by
  unfold rndP
  exact Nat.le_trans (List.length_filter_le _ _) (by simp)
theorem rndP_body (N r : Nat) (l : List EdgeT) (h : Int) (F : List Int) : rndP N l h F (reachR N l [(r : Int)]) N = bodyP N l h F (reachR N l [(r : Int)]) := by
  have h1 : ∀ a ∈ (List.range N).map (fun a : Nat => (a : Int)), decide (a ∈ reachR N l [(r : Int)]) = (reachB N l [(r : Int)]).getD a.toNat false := fun a ha => by
    obtain ⟨k, hk, rfl⟩ := List.mem_map.1 ha
    refine Bool.eq_iff_iff.2 ?_
    rw [decide_eq_true_eq]
    unfold reachR listB
    rw [List.mem_map]
    constructor
    · rintro ⟨i, hi, e⟩
      have := (List.mem_filter.1 hi).2
      rw [← e]; exact this
    · intro hb
      exact ⟨k, List.mem_filter.2 ⟨by rw [Int.toNat_natCast]; exact hk, hb⟩, rfl⟩
  unfold rndP bodyP
  have h2 : reachR N l [(r : Int)] = ((List.range N).map (fun a : Nat => (a : Int))).filter fun a => (reachB N l [(r : Int)]).getD a.toNat false := by
    unfold reachR listB
    rw [List.filter_map, Int.toNat_natCast]
    rfl
  rw [List.filter_congr fun a ha => show (inLoop N l h F a && decide (a ∈ reachR N l [(r : Int)])) = (inLoop N l h F a && (reachB N l [(r : Int)]).getD a.toNat false) by rw [h1 a ha]]
  rw [h2, List.filter_filter]
/-- The orders of the look whether a node is round a head. -/
def plan52 : Sch :=
  let t := Sch.one 21 false (.one 22 false (.one 23 false (.one 24 false .stop)))
  (.one 0 false (.one 1 false (.one 2 false (.one 3 false (.one 4 false (.one 5 false (.one 6 false (.one 7 false (.one 8 false (.one 9 false (.one 10 false (.one 11 false (.one 12 false (.one 13 false (.one 14 false (.one 16 false (.one 19 false (.alt 15 (.alt 17 (.alt 18 (.one 20 false t) (.one 20 false (.one 18 false t))) (.one 20 false (.one 17 false (.one 18 false t)))) (.alt 17 (.alt 15 (.alt 18 (.one 20 false t) (.one 20 false (.one 18 false t))) (.one 20 false (.one 15 false (.one 18 false t)))) (.one 20 false (.alt 15 (.one 17 false (.one 18 false t)) (.one 17 false (.one 15 false (.one 18 false t))))))))))))))))))))))))
theorem set_last2 (cs : List AV) (x y z : AV) : (cs ++ [x, y]).set (cs.length + 1) z = cs ++ [x, z] := by
  rw [List.set_append_right _ _ (by omega)]
  congr 1
  rw [Nat.add_sub_cancel_left]; rfl
theorem get_last2 (cs : List AV) (x y : AV) : (cs ++ [x, y])[cs.length + 1]? = some y := by
  rw [List.getElem?_append_right (by omega), Nat.add_sub_cancel_left]; rfl
set_option maxHeartbeats 4000000 in
theorem aR52Of (N R : Nat) (l : List EdgeT) (σ : Hp) (d : DG N R l) : ACalls Tryz.prog 33 [.int .i64 N, .fsl edgeSh l, .int .i64 R] σ (Ret (.fsl loopSh (loopsP N l R N)) σ) := by
  have hl := d.hl
  have h8 := d.h8
  obtain ⟨B, hBd⟩ : ∃ B, backP N l R = B := ⟨_, rfl⟩
  have hB : ∀ ρ, ACalls Tryz.prog 35 [.int .i64 N, .fsl edgeSh l, .int .i64 R] ρ (Ret (.fsl edgeSh B) ρ) := fun ρ => hBd ▸ aR52Back N R l ρ d
  refine okF Tryz.func33 (by kernel_rfl) ?_
  intro bl1
  have hRe : ∀ (l : List EdgeT) (a : Int) ρ, l.length ≤ 1000 → ACalls Tryz.prog 51 [.int .i64 N, .fsl edgeSh l, .fsl (.int .i64) ([a] : List Int)] ρ (Ret (.fsl (.int .i64) (reachR N l [a])) ρ) := fun l a ρ hl => aRReached N l [a] ρ (by omega) (by omega) (show 1 ≤ 100000 by decide)
  have hIx : ∀ (L : List Int) (x : Int) ρ, L.length ≤ 1000000 → ACalls Tryz.prog 26 [.fsl (.int .i64) L, .int .i64 x] ρ (Ret (.bool (decide (x ∈ L))) ρ) := fun L x ρ h => acalls_eq (aRIn L x ρ h) (av_bool (any_inD _ _))
  refine .frz (args' := [.int .i64 N, .fsl edgeSh l, .fsl (.int .i64) ([(R : Int)] : List Int)]) 0 bl1 0 1 1 _ (.int .i64) ([(R : Int)] : List Int) rfl rfl ⟨rfl, rfl, by decide⟩ (frz_cons (.refl _) (frz_cons (.refl _) (frz_cons .here (.refl _)))) ?_
  refine callR [] (hRe l R _ hl) ?_
  obtain ⟨I, hI⟩ : ∃ I, reachR N l [(R : Int)] = I := ⟨_, rfl⟩
  rw [hI]
  refine callR [] (hB _) ?_
  have hbl : B.length ≤ 1000 := by
    rw [← hBd]; unfold backP
    exact Nat.le_trans (List.length_filter_le _ _) (Nat.le_trans (by rw [← insK_all]; exact insK_len l _ (Nat.le_refl _)) hl)
  have hIl : I.length ≤ 1000 := by
    rw [← hI]
    have := reachR_length N l [(R : Int)]
    omega
  refine loopS (S := Nat × AV × Hp) (fun x => [(0, .int .i64 N), (1, .fsl edgeSh l), (7, x.2.1), (8, .fsl (.int .i64) I), (9, .fsl edgeSh B), (10, .int .i64 x.1)]) (fun x => x.2.2 ++ σ) (fun x => x.1 ≤ N ∧ Acc 2 (loopsP N l R x.1).length x.2.1 x.2.2 ((loopsP N l R x.1).flatMap loopSh.cells)) (fun x => N - x.1) (0, .nils, []) ⟨⟨Nat.zero_le _, .nil⟩, ⟨rfl, rfl, rfl, rfl, rfl, rfl, trivial⟩, rfl⟩ ?_
  rintro ⟨h, v, acc⟩ g ⟨hk0, hA0⟩
  have hk : h ≤ N := hk0
  have hO : Acc 2 (loopsP N l R h).length v acc ((loopsP N l R h).flatMap loopSh.cells) := hA0
  clear hk0 hA0
  refine bcond_dec (p := (h : Int) < N) (fun hlt => ?_) (fun hge => ?_)
  · have hlt : h < N := by omega
    obtain ⟨F, hF⟩ : ∃ F, fromP B h = F := ⟨_, rfl⟩
    refine loopS (S := Nat × AV × Hp × Bool) (fun x => [(0, .int .i64 N), (1, .fsl edgeSh l), (7, v), (8, .fsl (.int .i64) I), (9, .fsl edgeSh B), (10, .int .i64 h), (11, x.2.1), (12, .bool x.2.2.2), (13, .int .i64 x.1)]) (fun x => x.2.2.1 ++ (acc ++ σ)) (fun x => (x.1 ≤ N ∧ x.2.2.2 = (decide (0 < x.1) && !F.isEmpty)) ∧ Acc 1 (rndP N l h F I x.1).length x.2.1 x.2.2.1 (inC (rndP N l h F I x.1))) (fun x => N - x.1) (0, .nils, [], false) ⟨⟨⟨Nat.zero_le _, rfl⟩, .nil⟩, ⟨rfl, rfl, rfl, rfl, rfl, rfl, rfl, rfl, rfl, trivial⟩, rfl⟩ ?_
    rintro ⟨a, v2, acc2, any⟩ g2 ⟨⟨ha0, hy0⟩, hA0⟩
    have ha : a ≤ N := ha0
    have hy : any = (decide (0 < a) && !F.isEmpty) := hy0
    have hD : Acc 1 (rndP N l h F I a).length v2 acc2 (inC (rndP N l h F I a)) := hA0
    clear ha0 hA0 hy0
    have hrl := rndP_length N l h F I a
    have hrs := rndP_succ N l h F I a
    have hyn : (any || !(fromP (B.take B.length) h).isEmpty) = (decide (0 < a + 1) && !F.isEmpty) := by
      rw [List.take_length, hF, hy, decide_eq_true (Nat.succ_pos a), Bool.true_and]
      cases F.isEmpty <;> simp
    refine bcond_dec (p := (a : Int) < N) (fun hlt2 => ?_) (fun hge2 => ?_)
    · have hlt2 : a < N := by omega
      refine bcond_dec (fun c1 => ?_) (fun c1 => ?_)
      · have c1 : (↑a : Int) = (↑h : Int) := c1
        have hs0 : true = inLoop N l h (fromP (B.take 0) h) a := by unfold inLoop; rw [decide_eq_true c1]; rfl
        refine loopS (S := Nat × Bool) (fun x => [(0, .int .i64 N), (1, .fsl edgeSh l), (7, v), (8, .fsl (.int .i64) I), (9, .fsl edgeSh B), (10, .int .i64 h), (11, v2), (12, .bool (any || !(fromP (B.take x.1) h).isEmpty)), (13, .int .i64 a), (14, .bool x.2), (39, .fsl edgeSh B), (40, .int .i64 B.length), (41, .int .i64 x.1)]) (fun _ => acc2 ++ (acc ++ σ)) (fun x => x.1 ≤ B.length ∧ x.2 = inLoop N l h (fromP (B.take x.1) h) a) (fun x => B.length - x.1) (0, true) ⟨⟨Nat.zero_le _, hs0⟩, ⟨rfl, rfl, rfl, rfl, rfl, rfl, rfl, av_bool (by rw [List.take_zero]; exact (Bool.or_false _).symm), rfl, rfl, rfl, rfl, rfl, trivial⟩, rfl⟩ ?_
        rintro ⟨j, is⟩ g3 ⟨hj0, hi0⟩
        have hj : j ≤ B.length := hj0
        have hi : is = inLoop N l h (fromP (B.take j) h) a := hi0
        clear hj0 hi0
        refine bcond_dec (p := (j : Int) < B.length) (fun hlt3 => ?_) (fun hge3 => ?_)
        · have hlt3 : j < B.length := by omega
          obtain ⟨x, hx⟩ : ∃ x, B[j] = x := ⟨_, rfl⟩
          have hst := takeL_snoc hlt3
          rw [hx] at hst
          have hsF := fromP_snoc (B.take j) h x
          rw [← hst] at hsF
          obtain ⟨x1, x2, xu⟩ := x
          refine With.mk rfl (IdxF.mk (x1, x2, xu) (by omega) ((get_some hlt3).trans (congrArg some hx)) ?_)
          intro bl3
          refine StoreAt.mk 0 _ _ rfl rfl ?_
          refine LoadAt.mk 0 _ _ rfl rfl ?_
          refine bcond_dec (p := x2 = (h : Int)) (fun c2 => ?_) (fun c2 => ?_)
          · have hsF : fromP (B.take (j + 1)) h = fromP (B.take j) h ++ [x1] := by rw [hsF]; show _ ++ (if x2 = (h : Int) then [x1] else []) = _; rw [if_pos c2]
            have hsI := inLoop_snoc N l h (fromP (B.take j) h) x1 a
            rw [← hsF] at hsI
            rw [← hi] at hsI
            have hany : true = (any || !(fromP (B.take (j + 1)) h).isEmpty) := by rw [hsF]; cases fromP (B.take j) (h : Int) <;> simp
            cases is
            · refine .sched [] plan52 (by kernel_rfl) ?_
              refine LoadAt.mk 0 _ _ rfl rfl ?_
              refine bcond_split (fun c1 => ?_) (fun c1 => ?_)
              · have c1 : ¬ (x1 = (↑h : Int)) := by simpa using c1
                refine bcond_split (fun c2 => ?_) (fun c2 => ?_)
                · have c2 : ¬ ((↑a : Int) = (↑h : Int)) := by simpa using c2
                  have hwl := without_length l h
                  have hwr := reachR_length N (withoutE l h) [(a : Int)]
                  refine And.intro ?_ ?_
                  · refine callR [] (aRWithout l h _ (by omega)) ?_
                    refine And.intro ?_ ?_
                    · intro bl4
                      refine And.intro ?_ ?_
                      · refine .frz (args' := [.int .i64 N, .fsl edgeSh (withoutE l h), .fsl (.int .i64) ([(a : Int)] : List Int)]) 0 bl4 0 1 1 _ (.int .i64) ([(a : Int)] : List Int) rfl rfl ⟨rfl, rfl, by decide⟩ (frz_cons (.refl _) (frz_cons (.refl _) (frz_cons .here (.refl _)))) ?_
                        refine callR [] (hRe (withoutE l h) a _ (by omega)) ?_
                        refine LoadAt.mk 0 _ _ rfl rfl ?_
                        refine callB [] (hIx (reachR N (withoutE l h) [(a : Int)]) x1 _ (by omega)) (fun c3 => ?_) (fun c3 => ?_)
                        · exact nextS (j + 1, true) (by show B.length - (j + 1) < B.length - j; omega) ⟨hlt3, by rw [hsI, decide_eq_true (show x1 ≠ (h : Int) from c1), decide_eq_true (show (a : Int) ≠ (h : Int) from c2), c3]; rfl⟩ ⟨rfl, rfl, rfl, rfl, rfl, rfl, rfl, av_bool (by rw [hany]), rfl, rfl, rfl, rfl, inc64 (by omega), trivial⟩ (.drop 0 1 (.refl _))
                        · exact nextS (j + 1, false) (by show B.length - (j + 1) < B.length - j; omega) ⟨hlt3, by rw [hsI, decide_eq_true (show x1 ≠ (h : Int) from c1), decide_eq_true (show (a : Int) ≠ (h : Int) from c2), c3]; rfl⟩ ⟨rfl, rfl, rfl, rfl, rfl, rfl, rfl, av_bool (by rw [hany]), rfl, rfl, rfl, rfl, inc64 (by omega), trivial⟩ (.drop 0 1 (.refl _))
                      · refine LoadAt.mk 1 _ _ rfl rfl ?_
                        refine .frz (args' := [.int .i64 N, .fsl edgeSh (withoutE l h), .fsl (.int .i64) ([(a : Int)] : List Int)]) 0 bl4 0 1 1 _ (.int .i64) ([(a : Int)] : List Int) rfl rfl ⟨rfl, rfl, by decide⟩ (frz_cons (.refl _) (frz_cons (.refl _) (frz_cons .here (.refl _)))) ?_
                        refine callR [] (hRe (withoutE l h) a _ (by omega)) ?_
                        refine callB [] (hIx (reachR N (withoutE l h) [(a : Int)]) x1 _ (by omega)) (fun c3 => ?_) (fun c3 => ?_)
                        · exact nextS (j + 1, true) (by show B.length - (j + 1) < B.length - j; omega) ⟨hlt3, by rw [hsI, decide_eq_true (show x1 ≠ (h : Int) from c1), decide_eq_true (show (a : Int) ≠ (h : Int) from c2), c3]; rfl⟩ ⟨rfl, rfl, rfl, rfl, rfl, rfl, rfl, av_bool (by rw [hany]), rfl, rfl, rfl, rfl, inc64 (by omega), trivial⟩ (.drop 0 1 (.refl _))
                        · exact nextS (j + 1, false) (by show B.length - (j + 1) < B.length - j; omega) ⟨hlt3, by rw [hsI, decide_eq_true (show x1 ≠ (h : Int) from c1), decide_eq_true (show (a : Int) ≠ (h : Int) from c2), c3]; rfl⟩ ⟨rfl, rfl, rfl, rfl, rfl, rfl, rfl, av_bool (by rw [hany]), rfl, rfl, rfl, rfl, inc64 (by omega), trivial⟩ (.drop 0 1 (.refl _))
                    · refine LoadAt.mk 0 _ _ rfl rfl ?_
                      intro bl4
                      refine .frz (args' := [.int .i64 N, .fsl edgeSh (withoutE l h), .fsl (.int .i64) ([(a : Int)] : List Int)]) 0 bl4 0 1 1 _ (.int .i64) ([(a : Int)] : List Int) rfl rfl ⟨rfl, rfl, by decide⟩ (frz_cons (.refl _) (frz_cons (.refl _) (frz_cons .here (.refl _)))) ?_
                      refine callR [] (hRe (withoutE l h) a _ (by omega)) ?_
                      refine callB [] (hIx (reachR N (withoutE l h) [(a : Int)]) x1 _ (by omega)) (fun c3 => ?_) (fun c3 => ?_)
                      · exact nextS (j + 1, true) (by show B.length - (j + 1) < B.length - j; omega) ⟨hlt3, by rw [hsI, decide_eq_true (show x1 ≠ (h : Int) from c1), decide_eq_true (show (a : Int) ≠ (h : Int) from c2), c3]; rfl⟩ ⟨rfl, rfl, rfl, rfl, rfl, rfl, rfl, av_bool (by rw [hany]), rfl, rfl, rfl, rfl, inc64 (by omega), trivial⟩ (.drop 0 1 (.refl _))
                      · exact nextS (j + 1, false) (by show B.length - (j + 1) < B.length - j; omega) ⟨hlt3, by rw [hsI, decide_eq_true (show x1 ≠ (h : Int) from c1), decide_eq_true (show (a : Int) ≠ (h : Int) from c2), c3]; rfl⟩ ⟨rfl, rfl, rfl, rfl, rfl, rfl, rfl, av_bool (by rw [hany]), rfl, rfl, rfl, rfl, inc64 (by omega), trivial⟩ (.drop 0 1 (.refl _))
                  · refine And.intro ?_ ?_
                    · intro bl4
                      refine And.intro ?_ ?_
                      · refine callR [] (aRWithout l h _ (by omega)) ?_
                        refine And.intro ?_ ?_
                        · refine .frz (args' := [.int .i64 N, .fsl edgeSh (withoutE l h), .fsl (.int .i64) ([(a : Int)] : List Int)]) 0 bl4 0 1 1 _ (.int .i64) ([(a : Int)] : List Int) rfl rfl ⟨rfl, rfl, by decide⟩ (frz_cons (.refl _) (frz_cons (.refl _) (frz_cons .here (.refl _)))) ?_
                          refine callR [] (hRe (withoutE l h) a _ (by omega)) ?_
                          refine LoadAt.mk 0 _ _ rfl rfl ?_
                          refine callB [] (hIx (reachR N (withoutE l h) [(a : Int)]) x1 _ (by omega)) (fun c3 => ?_) (fun c3 => ?_)
                          · exact nextS (j + 1, true) (by show B.length - (j + 1) < B.length - j; omega) ⟨hlt3, by rw [hsI, decide_eq_true (show x1 ≠ (h : Int) from c1), decide_eq_true (show (a : Int) ≠ (h : Int) from c2), c3]; rfl⟩ ⟨rfl, rfl, rfl, rfl, rfl, rfl, rfl, av_bool (by rw [hany]), rfl, rfl, rfl, rfl, inc64 (by omega), trivial⟩ (.drop 0 1 (.refl _))
                          · exact nextS (j + 1, false) (by show B.length - (j + 1) < B.length - j; omega) ⟨hlt3, by rw [hsI, decide_eq_true (show x1 ≠ (h : Int) from c1), decide_eq_true (show (a : Int) ≠ (h : Int) from c2), c3]; rfl⟩ ⟨rfl, rfl, rfl, rfl, rfl, rfl, rfl, av_bool (by rw [hany]), rfl, rfl, rfl, rfl, inc64 (by omega), trivial⟩ (.drop 0 1 (.refl _))
                        · refine LoadAt.mk 1 _ _ rfl rfl ?_
                          refine .frz (args' := [.int .i64 N, .fsl edgeSh (withoutE l h), .fsl (.int .i64) ([(a : Int)] : List Int)]) 0 bl4 0 1 1 _ (.int .i64) ([(a : Int)] : List Int) rfl rfl ⟨rfl, rfl, by decide⟩ (frz_cons (.refl _) (frz_cons (.refl _) (frz_cons .here (.refl _)))) ?_
                          refine callR [] (hRe (withoutE l h) a _ (by omega)) ?_
                          refine callB [] (hIx (reachR N (withoutE l h) [(a : Int)]) x1 _ (by omega)) (fun c3 => ?_) (fun c3 => ?_)
                          · exact nextS (j + 1, true) (by show B.length - (j + 1) < B.length - j; omega) ⟨hlt3, by rw [hsI, decide_eq_true (show x1 ≠ (h : Int) from c1), decide_eq_true (show (a : Int) ≠ (h : Int) from c2), c3]; rfl⟩ ⟨rfl, rfl, rfl, rfl, rfl, rfl, rfl, av_bool (by rw [hany]), rfl, rfl, rfl, rfl, inc64 (by omega), trivial⟩ (.drop 0 1 (.refl _))
                          · exact nextS (j + 1, false) (by show B.length - (j + 1) < B.length - j; omega) ⟨hlt3, by rw [hsI, decide_eq_true (show x1 ≠ (h : Int) from c1), decide_eq_true (show (a : Int) ≠ (h : Int) from c2), c3]; rfl⟩ ⟨rfl, rfl, rfl, rfl, rfl, rfl, rfl, av_bool (by rw [hany]), rfl, rfl, rfl, rfl, inc64 (by omega), trivial⟩ (.drop 0 1 (.refl _))
                      · refine LoadAt.mk 1 _ _ rfl rfl ?_
                        refine callR [] (aRWithout l h _ (by omega)) ?_
                        refine .frz (args' := [.int .i64 N, .fsl edgeSh (withoutE l h), .fsl (.int .i64) ([(a : Int)] : List Int)]) 0 bl4 0 1 1 _ (.int .i64) ([(a : Int)] : List Int) rfl rfl ⟨rfl, rfl, by decide⟩ (frz_cons (.refl _) (frz_cons (.refl _) (frz_cons .here (.refl _)))) ?_
                        refine callR [] (hRe (withoutE l h) a _ (by omega)) ?_
                        refine callB [] (hIx (reachR N (withoutE l h) [(a : Int)]) x1 _ (by omega)) (fun c3 => ?_) (fun c3 => ?_)
                        · exact nextS (j + 1, true) (by show B.length - (j + 1) < B.length - j; omega) ⟨hlt3, by rw [hsI, decide_eq_true (show x1 ≠ (h : Int) from c1), decide_eq_true (show (a : Int) ≠ (h : Int) from c2), c3]; rfl⟩ ⟨rfl, rfl, rfl, rfl, rfl, rfl, rfl, av_bool (by rw [hany]), rfl, rfl, rfl, rfl, inc64 (by omega), trivial⟩ (.drop 0 1 (.refl _))
                        · exact nextS (j + 1, false) (by show B.length - (j + 1) < B.length - j; omega) ⟨hlt3, by rw [hsI, decide_eq_true (show x1 ≠ (h : Int) from c1), decide_eq_true (show (a : Int) ≠ (h : Int) from c2), c3]; rfl⟩ ⟨rfl, rfl, rfl, rfl, rfl, rfl, rfl, av_bool (by rw [hany]), rfl, rfl, rfl, rfl, inc64 (by omega), trivial⟩ (.drop 0 1 (.refl _))
                    · refine LoadAt.mk 0 _ _ rfl rfl ?_
                      refine And.intro ?_ ?_
                      · refine callR [] (aRWithout l h _ (by omega)) ?_
                        intro bl4
                        refine .frz (args' := [.int .i64 N, .fsl edgeSh (withoutE l h), .fsl (.int .i64) ([(a : Int)] : List Int)]) 0 bl4 0 1 1 _ (.int .i64) ([(a : Int)] : List Int) rfl rfl ⟨rfl, rfl, by decide⟩ (frz_cons (.refl _) (frz_cons (.refl _) (frz_cons .here (.refl _)))) ?_
                        refine callR [] (hRe (withoutE l h) a _ (by omega)) ?_
                        refine callB [] (hIx (reachR N (withoutE l h) [(a : Int)]) x1 _ (by omega)) (fun c3 => ?_) (fun c3 => ?_)
                        · exact nextS (j + 1, true) (by show B.length - (j + 1) < B.length - j; omega) ⟨hlt3, by rw [hsI, decide_eq_true (show x1 ≠ (h : Int) from c1), decide_eq_true (show (a : Int) ≠ (h : Int) from c2), c3]; rfl⟩ ⟨rfl, rfl, rfl, rfl, rfl, rfl, rfl, av_bool (by rw [hany]), rfl, rfl, rfl, rfl, inc64 (by omega), trivial⟩ (.drop 0 1 (.refl _))
                        · exact nextS (j + 1, false) (by show B.length - (j + 1) < B.length - j; omega) ⟨hlt3, by rw [hsI, decide_eq_true (show x1 ≠ (h : Int) from c1), decide_eq_true (show (a : Int) ≠ (h : Int) from c2), c3]; rfl⟩ ⟨rfl, rfl, rfl, rfl, rfl, rfl, rfl, av_bool (by rw [hany]), rfl, rfl, rfl, rfl, inc64 (by omega), trivial⟩ (.drop 0 1 (.refl _))
                      · intro bl4
                        refine callR [] (aRWithout l h _ (by omega)) ?_
                        refine .frz (args' := [.int .i64 N, .fsl edgeSh (withoutE l h), .fsl (.int .i64) ([(a : Int)] : List Int)]) 0 bl4 0 1 1 _ (.int .i64) ([(a : Int)] : List Int) rfl rfl ⟨rfl, rfl, by decide⟩ (frz_cons (.refl _) (frz_cons (.refl _) (frz_cons .here (.refl _)))) ?_
                        refine callR [] (hRe (withoutE l h) a _ (by omega)) ?_
                        refine callB [] (hIx (reachR N (withoutE l h) [(a : Int)]) x1 _ (by omega)) (fun c3 => ?_) (fun c3 => ?_)
                        · exact nextS (j + 1, true) (by show B.length - (j + 1) < B.length - j; omega) ⟨hlt3, by rw [hsI, decide_eq_true (show x1 ≠ (h : Int) from c1), decide_eq_true (show (a : Int) ≠ (h : Int) from c2), c3]; rfl⟩ ⟨rfl, rfl, rfl, rfl, rfl, rfl, rfl, av_bool (by rw [hany]), rfl, rfl, rfl, rfl, inc64 (by omega), trivial⟩ (.drop 0 1 (.refl _))
                        · exact nextS (j + 1, false) (by show B.length - (j + 1) < B.length - j; omega) ⟨hlt3, by rw [hsI, decide_eq_true (show x1 ≠ (h : Int) from c1), decide_eq_true (show (a : Int) ≠ (h : Int) from c2), c3]; rfl⟩ ⟨rfl, rfl, rfl, rfl, rfl, rfl, rfl, av_bool (by rw [hany]), rfl, rfl, rfl, rfl, inc64 (by omega), trivial⟩ (.drop 0 1 (.refl _))
                · have c2 : (↑a : Int) = (↑h : Int) := by simpa using c2
                  refine And.intro ?_ ?_
                  · refine And.intro ?_ ?_
                    · refine And.intro ?_ ?_
                      · exact nextS (j + 1, false) (by show B.length - (j + 1) < B.length - j; omega) ⟨hlt3, by rw [hsI, decide_eq_false (show ¬ ((a : Int) ≠ (h : Int)) from fun hh => hh c2), Bool.and_false]; rfl⟩ ⟨rfl, rfl, rfl, rfl, rfl, rfl, rfl, av_bool (by rw [hany]), rfl, rfl, rfl, rfl, inc64 (by omega), trivial⟩ (.drop 0 1 (.refl _))
                      · exact nextS (j + 1, false) (by show B.length - (j + 1) < B.length - j; omega) ⟨hlt3, by rw [hsI, decide_eq_false (show ¬ ((a : Int) ≠ (h : Int)) from fun hh => hh c2), Bool.and_false]; rfl⟩ ⟨rfl, rfl, rfl, rfl, rfl, rfl, rfl, av_bool (by rw [hany]), rfl, rfl, rfl, rfl, inc64 (by omega), trivial⟩ (.drop 0 1 (.refl _))
                    · exact nextS (j + 1, false) (by show B.length - (j + 1) < B.length - j; omega) ⟨hlt3, by rw [hsI, decide_eq_false (show ¬ ((a : Int) ≠ (h : Int)) from fun hh => hh c2), Bool.and_false]; rfl⟩ ⟨rfl, rfl, rfl, rfl, rfl, rfl, rfl, av_bool (by rw [hany]), rfl, rfl, rfl, rfl, inc64 (by omega), trivial⟩ (.drop 0 1 (.refl _))
                  · refine And.intro ?_ ?_
                    · refine And.intro ?_ ?_
                      · refine And.intro ?_ ?_
                        · exact nextS (j + 1, false) (by show B.length - (j + 1) < B.length - j; omega) ⟨hlt3, by rw [hsI, decide_eq_false (show ¬ ((a : Int) ≠ (h : Int)) from fun hh => hh c2), Bool.and_false]; rfl⟩ ⟨rfl, rfl, rfl, rfl, rfl, rfl, rfl, av_bool (by rw [hany]), rfl, rfl, rfl, rfl, inc64 (by omega), trivial⟩ (.drop 0 1 (.refl _))
                        · exact nextS (j + 1, false) (by show B.length - (j + 1) < B.length - j; omega) ⟨hlt3, by rw [hsI, decide_eq_false (show ¬ ((a : Int) ≠ (h : Int)) from fun hh => hh c2), Bool.and_false]; rfl⟩ ⟨rfl, rfl, rfl, rfl, rfl, rfl, rfl, av_bool (by rw [hany]), rfl, rfl, rfl, rfl, inc64 (by omega), trivial⟩ (.drop 0 1 (.refl _))
                      · exact nextS (j + 1, false) (by show B.length - (j + 1) < B.length - j; omega) ⟨hlt3, by rw [hsI, decide_eq_false (show ¬ ((a : Int) ≠ (h : Int)) from fun hh => hh c2), Bool.and_false]; rfl⟩ ⟨rfl, rfl, rfl, rfl, rfl, rfl, rfl, av_bool (by rw [hany]), rfl, rfl, rfl, rfl, inc64 (by omega), trivial⟩ (.drop 0 1 (.refl _))
                    · refine And.intro ?_ ?_
                      · exact nextS (j + 1, false) (by show B.length - (j + 1) < B.length - j; omega) ⟨hlt3, by rw [hsI, decide_eq_false (show ¬ ((a : Int) ≠ (h : Int)) from fun hh => hh c2), Bool.and_false]; rfl⟩ ⟨rfl, rfl, rfl, rfl, rfl, rfl, rfl, av_bool (by rw [hany]), rfl, rfl, rfl, rfl, inc64 (by omega), trivial⟩ (.drop 0 1 (.refl _))
                      · exact nextS (j + 1, false) (by show B.length - (j + 1) < B.length - j; omega) ⟨hlt3, by rw [hsI, decide_eq_false (show ¬ ((a : Int) ≠ (h : Int)) from fun hh => hh c2), Bool.and_false]; rfl⟩ ⟨rfl, rfl, rfl, rfl, rfl, rfl, rfl, av_bool (by rw [hany]), rfl, rfl, rfl, rfl, inc64 (by omega), trivial⟩ (.drop 0 1 (.refl _))
              · have c1 : x1 = (↑h : Int) := by simpa using c1
                refine And.intro ?_ ?_
                · refine And.intro ?_ ?_
                  · refine And.intro ?_ ?_
                    · exact nextS (j + 1, false) (by show B.length - (j + 1) < B.length - j; omega) ⟨hlt3, by rw [hsI, decide_eq_false (show ¬ (x1 ≠ (h : Int)) from fun hh => hh c1)]; rfl⟩ ⟨rfl, rfl, rfl, rfl, rfl, rfl, rfl, av_bool (by rw [hany]), rfl, rfl, rfl, rfl, inc64 (by omega), trivial⟩ (.drop 0 1 (.refl _))
                    · exact nextS (j + 1, false) (by show B.length - (j + 1) < B.length - j; omega) ⟨hlt3, by rw [hsI, decide_eq_false (show ¬ (x1 ≠ (h : Int)) from fun hh => hh c1)]; rfl⟩ ⟨rfl, rfl, rfl, rfl, rfl, rfl, rfl, av_bool (by rw [hany]), rfl, rfl, rfl, rfl, inc64 (by omega), trivial⟩ (.drop 0 1 (.refl _))
                  · exact nextS (j + 1, false) (by show B.length - (j + 1) < B.length - j; omega) ⟨hlt3, by rw [hsI, decide_eq_false (show ¬ (x1 ≠ (h : Int)) from fun hh => hh c1)]; rfl⟩ ⟨rfl, rfl, rfl, rfl, rfl, rfl, rfl, av_bool (by rw [hany]), rfl, rfl, rfl, rfl, inc64 (by omega), trivial⟩ (.drop 0 1 (.refl _))
                · refine And.intro ?_ ?_
                  · refine And.intro ?_ ?_
                    · refine And.intro ?_ ?_
                      · exact nextS (j + 1, false) (by show B.length - (j + 1) < B.length - j; omega) ⟨hlt3, by rw [hsI, decide_eq_false (show ¬ (x1 ≠ (h : Int)) from fun hh => hh c1)]; rfl⟩ ⟨rfl, rfl, rfl, rfl, rfl, rfl, rfl, av_bool (by rw [hany]), rfl, rfl, rfl, rfl, inc64 (by omega), trivial⟩ (.drop 0 1 (.refl _))
                      · exact nextS (j + 1, false) (by show B.length - (j + 1) < B.length - j; omega) ⟨hlt3, by rw [hsI, decide_eq_false (show ¬ (x1 ≠ (h : Int)) from fun hh => hh c1)]; rfl⟩ ⟨rfl, rfl, rfl, rfl, rfl, rfl, rfl, av_bool (by rw [hany]), rfl, rfl, rfl, rfl, inc64 (by omega), trivial⟩ (.drop 0 1 (.refl _))
                    · exact nextS (j + 1, false) (by show B.length - (j + 1) < B.length - j; omega) ⟨hlt3, by rw [hsI, decide_eq_false (show ¬ (x1 ≠ (h : Int)) from fun hh => hh c1)]; rfl⟩ ⟨rfl, rfl, rfl, rfl, rfl, rfl, rfl, av_bool (by rw [hany]), rfl, rfl, rfl, rfl, inc64 (by omega), trivial⟩ (.drop 0 1 (.refl _))
                  · refine And.intro ?_ ?_
                    · exact nextS (j + 1, false) (by show B.length - (j + 1) < B.length - j; omega) ⟨hlt3, by rw [hsI, decide_eq_false (show ¬ (x1 ≠ (h : Int)) from fun hh => hh c1)]; rfl⟩ ⟨rfl, rfl, rfl, rfl, rfl, rfl, rfl, av_bool (by rw [hany]), rfl, rfl, rfl, rfl, inc64 (by omega), trivial⟩ (.drop 0 1 (.refl _))
                    · exact nextS (j + 1, false) (by show B.length - (j + 1) < B.length - j; omega) ⟨hlt3, by rw [hsI, decide_eq_false (show ¬ (x1 ≠ (h : Int)) from fun hh => hh c1)]; rfl⟩ ⟨rfl, rfl, rfl, rfl, rfl, rfl, rfl, av_bool (by rw [hany]), rfl, rfl, rfl, rfl, inc64 (by omega), trivial⟩ (.drop 0 1 (.refl _))
            · refine .sched [] plan52 (by kernel_rfl) ?_
              refine And.intro ?_ ?_
              · refine And.intro ?_ ?_
                · refine And.intro ?_ ?_
                  · exact nextS (j + 1, true) (by show B.length - (j + 1) < B.length - j; omega) ⟨hlt3, by rw [hsI]; rfl⟩ ⟨rfl, rfl, rfl, rfl, rfl, rfl, rfl, av_bool (by rw [hany]), rfl, rfl, rfl, rfl, inc64 (by omega), trivial⟩ (.drop 0 1 (.refl _))
                  · exact nextS (j + 1, true) (by show B.length - (j + 1) < B.length - j; omega) ⟨hlt3, by rw [hsI]; rfl⟩ ⟨rfl, rfl, rfl, rfl, rfl, rfl, rfl, av_bool (by rw [hany]), rfl, rfl, rfl, rfl, inc64 (by omega), trivial⟩ (.drop 0 1 (.refl _))
                · exact nextS (j + 1, true) (by show B.length - (j + 1) < B.length - j; omega) ⟨hlt3, by rw [hsI]; rfl⟩ ⟨rfl, rfl, rfl, rfl, rfl, rfl, rfl, av_bool (by rw [hany]), rfl, rfl, rfl, rfl, inc64 (by omega), trivial⟩ (.drop 0 1 (.refl _))
              · refine And.intro ?_ ?_
                · refine And.intro ?_ ?_
                  · refine And.intro ?_ ?_
                    · exact nextS (j + 1, true) (by show B.length - (j + 1) < B.length - j; omega) ⟨hlt3, by rw [hsI]; rfl⟩ ⟨rfl, rfl, rfl, rfl, rfl, rfl, rfl, av_bool (by rw [hany]), rfl, rfl, rfl, rfl, inc64 (by omega), trivial⟩ (.drop 0 1 (.refl _))
                    · exact nextS (j + 1, true) (by show B.length - (j + 1) < B.length - j; omega) ⟨hlt3, by rw [hsI]; rfl⟩ ⟨rfl, rfl, rfl, rfl, rfl, rfl, rfl, av_bool (by rw [hany]), rfl, rfl, rfl, rfl, inc64 (by omega), trivial⟩ (.drop 0 1 (.refl _))
                  · exact nextS (j + 1, true) (by show B.length - (j + 1) < B.length - j; omega) ⟨hlt3, by rw [hsI]; rfl⟩ ⟨rfl, rfl, rfl, rfl, rfl, rfl, rfl, av_bool (by rw [hany]), rfl, rfl, rfl, rfl, inc64 (by omega), trivial⟩ (.drop 0 1 (.refl _))
                · refine And.intro ?_ ?_
                  · exact nextS (j + 1, true) (by show B.length - (j + 1) < B.length - j; omega) ⟨hlt3, by rw [hsI]; rfl⟩ ⟨rfl, rfl, rfl, rfl, rfl, rfl, rfl, av_bool (by rw [hany]), rfl, rfl, rfl, rfl, inc64 (by omega), trivial⟩ (.drop 0 1 (.refl _))
                  · exact nextS (j + 1, true) (by show B.length - (j + 1) < B.length - j; omega) ⟨hlt3, by rw [hsI]; rfl⟩ ⟨rfl, rfl, rfl, rfl, rfl, rfl, rfl, av_bool (by rw [hany]), rfl, rfl, rfl, rfl, inc64 (by omega), trivial⟩ (.drop 0 1 (.refl _))
          · have hsF : fromP (B.take (j + 1)) h = fromP (B.take j) h := by rw [hsF]; show _ ++ (if x2 = (h : Int) then [x1] else []) = _; rw [if_neg c2, List.append_nil]
            exact nextS (j + 1, is) (by show B.length - (j + 1) < B.length - j; omega) ⟨hlt3, by rw [hsF]; exact hi⟩ ⟨rfl, rfl, rfl, rfl, rfl, rfl, rfl, av_bool (by rw [hsF]), rfl, rfl, rfl, rfl, inc64 (by omega), trivial⟩ (.drop 0 1 (.refl _))
        · have hge3 : j = B.length := by omega
          subst hge3
          rw [List.take_length, hF] at hi
          cases is
          · rw [← hi, Bool.false_and, if_neg (by decide), List.append_nil] at hrs
            exact nextS (a + 1, v2, acc2, any || !(fromP (B.take B.length) h).isEmpty) (by show N - (a + 1) < N - a; omega) ⟨⟨hlt2, hyn⟩, by show Acc 1 (rndP N l h F I (a + 1)).length v2 acc2 (inC (rndP N l h F I (a + 1))); rw [hrs]; exact hD⟩ ⟨rfl, rfl, rfl, rfl, rfl, rfl, rfl, rfl, inc64 (by omega), trivial⟩ (.refl _)
          · rw [← hi, Bool.true_and] at hrs
            refine callB [] (hIx I a _ (by omega)) (fun c3 => ?_) (fun c3 => ?_)
            · rw [if_pos c3] at hrs
              have hnl : (rndP N l h F I (a + 1)).length = (rndP N l h F I a).length + 1 := by rw [hrs, List.length_append]; rfl
              have hnw : inC (rndP N l h F I (a + 1)) = inC (rndP N l h F I a) ++ [.int .i64 a] := by rw [hrs]; exact List.map_append
              have hgo : ∀ b5, Acc 1 ((rndP N l h F I a).length + 1) (.mref b5 0 ((rndP N l h F I a).length + 1) 1) [(b5, inC (rndP N l h F I a) ++ [.int .i64 a])] (inC (rndP N l h F I a) ++ [.int .i64 a]) → Acc 1 (rndP N l h F I (a + 1)).length (.mref b5 0 ((rndP N l h F I a).length + 1) 1) [(b5, inC (rndP N l h F I a) ++ [.int .i64 a])] (inC (rndP N l h F I (a + 1))) := fun b5 h => by rw [hnl, hnw]; exact h
              generalize inC (rndP N l h F I a) = cs at hD hgo
              generalize (rndP N l h F I a).length = q at hD hgo hrl
              rcases acc_val hD with ⟨rfl, rfl, hj0, hc0⟩ | ⟨b2, rfl, rfl⟩
              · subst hj0; subst hc0
                intro bl3
                refine append_accV (i := ⟨.int .i64, 1, 8, [.int .i64 0]⟩) (k := 0) (cs := []) [_] .nil (.mref 0 bl3 0 1 _ rfl (Nat.le_of_ble_eq_true rfl)) rfl (by decide) (by decide) (by decide) (fun v' acc' h' => ?_)
                obtain ⟨b5, rfl, rfl⟩ := acc_one (by omega) h'
                exact nextS (a + 1, .mref b5 0 (0 + 1) 1, [(b5, [] ++ [.int .i64 a])], any || !(fromP (B.take B.length) h).isEmpty) (by show N - (a + 1) < N - a; omega) ⟨⟨hlt2, hyn⟩, hgo b5 h'⟩ ⟨rfl, rfl, rfl, rfl, rfl, rfl, rfl, rfl, inc64 (by omega), trivial⟩ (.drop 0 1 (shed_eq rfl))
              · intro bl3
                refine append_accV (i := ⟨.int .i64, 1, 8, [.int .i64 0]⟩) [_] hD (.mref 0 bl3 0 1 _ rfl (Nat.le_of_ble_eq_true rfl)) rfl (by omega) (by decide) (by decide) (fun v' acc' h' => ?_)
                obtain ⟨b5, rfl, rfl⟩ := acc_one (by omega) h'
                exact nextS (a + 1, .mref b5 0 (q + 1) 1, [(b5, cs ++ [.int .i64 a])], any || !(fromP (B.take B.length) h).isEmpty) (by show N - (a + 1) < N - a; omega) ⟨⟨hlt2, hyn⟩, hgo b5 h'⟩ ⟨rfl, rfl, rfl, rfl, rfl, rfl, rfl, rfl, inc64 (by omega), trivial⟩ (.drop 0 1 (shed_eq rfl))
            · rw [if_neg (by rw [c3]; decide), List.append_nil] at hrs
              exact nextS (a + 1, v2, acc2, any || !(fromP (B.take B.length) h).isEmpty) (by show N - (a + 1) < N - a; omega) ⟨⟨hlt2, hyn⟩, by show Acc 1 (rndP N l h F I (a + 1)).length v2 acc2 (inC (rndP N l h F I (a + 1))); rw [hrs]; exact hD⟩ ⟨rfl, rfl, rfl, rfl, rfl, rfl, rfl, rfl, inc64 (by omega), trivial⟩ (.refl _)
      · have c1 : ¬ ((↑a : Int) = (↑h : Int)) := c1
        have hs0 : false = inLoop N l h (fromP (B.take 0) h) a := by unfold inLoop; rw [decide_eq_false c1]; rfl
        refine loopS (S := Nat × Bool) (fun x => [(0, .int .i64 N), (1, .fsl edgeSh l), (7, v), (8, .fsl (.int .i64) I), (9, .fsl edgeSh B), (10, .int .i64 h), (11, v2), (12, .bool (any || !(fromP (B.take x.1) h).isEmpty)), (13, .int .i64 a), (14, .bool x.2), (39, .fsl edgeSh B), (40, .int .i64 B.length), (41, .int .i64 x.1)]) (fun _ => acc2 ++ (acc ++ σ)) (fun x => x.1 ≤ B.length ∧ x.2 = inLoop N l h (fromP (B.take x.1) h) a) (fun x => B.length - x.1) (0, false) ⟨⟨Nat.zero_le _, hs0⟩, ⟨rfl, rfl, rfl, rfl, rfl, rfl, rfl, av_bool (by rw [List.take_zero]; exact (Bool.or_false _).symm), rfl, rfl, rfl, rfl, rfl, trivial⟩, rfl⟩ ?_
        rintro ⟨j, is⟩ g3 ⟨hj0, hi0⟩
        have hj : j ≤ B.length := hj0
        have hi : is = inLoop N l h (fromP (B.take j) h) a := hi0
        clear hj0 hi0
        refine bcond_dec (p := (j : Int) < B.length) (fun hlt3 => ?_) (fun hge3 => ?_)
        · have hlt3 : j < B.length := by omega
          obtain ⟨x, hx⟩ : ∃ x, B[j] = x := ⟨_, rfl⟩
          have hst := takeL_snoc hlt3
          rw [hx] at hst
          have hsF := fromP_snoc (B.take j) h x
          rw [← hst] at hsF
          obtain ⟨x1, x2, xu⟩ := x
          refine With.mk rfl (IdxF.mk (x1, x2, xu) (by omega) ((get_some hlt3).trans (congrArg some hx)) ?_)
          intro bl3
          refine StoreAt.mk 0 _ _ rfl rfl ?_
          refine LoadAt.mk 0 _ _ rfl rfl ?_
          refine bcond_dec (p := x2 = (h : Int)) (fun c2 => ?_) (fun c2 => ?_)
          · have hsF : fromP (B.take (j + 1)) h = fromP (B.take j) h ++ [x1] := by rw [hsF]; show _ ++ (if x2 = (h : Int) then [x1] else []) = _; rw [if_pos c2]
            have hsI := inLoop_snoc N l h (fromP (B.take j) h) x1 a
            rw [← hsF] at hsI
            rw [← hi] at hsI
            have hany : true = (any || !(fromP (B.take (j + 1)) h).isEmpty) := by rw [hsF]; cases fromP (B.take j) (h : Int) <;> simp
            cases is
            · refine .sched [] plan52 (by kernel_rfl) ?_
              refine LoadAt.mk 0 _ _ rfl rfl ?_
              refine bcond_split (fun c1 => ?_) (fun c1 => ?_)
              · have c1 : ¬ (x1 = (↑h : Int)) := by simpa using c1
                refine bcond_split (fun c2 => ?_) (fun c2 => ?_)
                · have c2 : ¬ ((↑a : Int) = (↑h : Int)) := by simpa using c2
                  have hwl := without_length l h
                  have hwr := reachR_length N (withoutE l h) [(a : Int)]
                  refine And.intro ?_ ?_
                  · refine callR [] (aRWithout l h _ (by omega)) ?_
                    refine And.intro ?_ ?_
                    · intro bl4
                      refine And.intro ?_ ?_
                      · refine .frz (args' := [.int .i64 N, .fsl edgeSh (withoutE l h), .fsl (.int .i64) ([(a : Int)] : List Int)]) 0 bl4 0 1 1 _ (.int .i64) ([(a : Int)] : List Int) rfl rfl ⟨rfl, rfl, by decide⟩ (frz_cons (.refl _) (frz_cons (.refl _) (frz_cons .here (.refl _)))) ?_
                        refine callR [] (hRe (withoutE l h) a _ (by omega)) ?_
                        refine LoadAt.mk 0 _ _ rfl rfl ?_
                        refine callB [] (hIx (reachR N (withoutE l h) [(a : Int)]) x1 _ (by omega)) (fun c3 => ?_) (fun c3 => ?_)
                        · exact nextS (j + 1, true) (by show B.length - (j + 1) < B.length - j; omega) ⟨hlt3, by rw [hsI, decide_eq_true (show x1 ≠ (h : Int) from c1), decide_eq_true (show (a : Int) ≠ (h : Int) from c2), c3]; rfl⟩ ⟨rfl, rfl, rfl, rfl, rfl, rfl, rfl, av_bool (by rw [hany]), rfl, rfl, rfl, rfl, inc64 (by omega), trivial⟩ (.drop 0 1 (.refl _))
                        · exact nextS (j + 1, false) (by show B.length - (j + 1) < B.length - j; omega) ⟨hlt3, by rw [hsI, decide_eq_true (show x1 ≠ (h : Int) from c1), decide_eq_true (show (a : Int) ≠ (h : Int) from c2), c3]; rfl⟩ ⟨rfl, rfl, rfl, rfl, rfl, rfl, rfl, av_bool (by rw [hany]), rfl, rfl, rfl, rfl, inc64 (by omega), trivial⟩ (.drop 0 1 (.refl _))
                      · refine LoadAt.mk 1 _ _ rfl rfl ?_
                        refine .frz (args' := [.int .i64 N, .fsl edgeSh (withoutE l h), .fsl (.int .i64) ([(a : Int)] : List Int)]) 0 bl4 0 1 1 _ (.int .i64) ([(a : Int)] : List Int) rfl rfl ⟨rfl, rfl, by decide⟩ (frz_cons (.refl _) (frz_cons (.refl _) (frz_cons .here (.refl _)))) ?_
                        refine callR [] (hRe (withoutE l h) a _ (by omega)) ?_
                        refine callB [] (hIx (reachR N (withoutE l h) [(a : Int)]) x1 _ (by omega)) (fun c3 => ?_) (fun c3 => ?_)
                        · exact nextS (j + 1, true) (by show B.length - (j + 1) < B.length - j; omega) ⟨hlt3, by rw [hsI, decide_eq_true (show x1 ≠ (h : Int) from c1), decide_eq_true (show (a : Int) ≠ (h : Int) from c2), c3]; rfl⟩ ⟨rfl, rfl, rfl, rfl, rfl, rfl, rfl, av_bool (by rw [hany]), rfl, rfl, rfl, rfl, inc64 (by omega), trivial⟩ (.drop 0 1 (.refl _))
                        · exact nextS (j + 1, false) (by show B.length - (j + 1) < B.length - j; omega) ⟨hlt3, by rw [hsI, decide_eq_true (show x1 ≠ (h : Int) from c1), decide_eq_true (show (a : Int) ≠ (h : Int) from c2), c3]; rfl⟩ ⟨rfl, rfl, rfl, rfl, rfl, rfl, rfl, av_bool (by rw [hany]), rfl, rfl, rfl, rfl, inc64 (by omega), trivial⟩ (.drop 0 1 (.refl _))
                    · refine LoadAt.mk 0 _ _ rfl rfl ?_
                      intro bl4
                      refine .frz (args' := [.int .i64 N, .fsl edgeSh (withoutE l h), .fsl (.int .i64) ([(a : Int)] : List Int)]) 0 bl4 0 1 1 _ (.int .i64) ([(a : Int)] : List Int) rfl rfl ⟨rfl, rfl, by decide⟩ (frz_cons (.refl _) (frz_cons (.refl _) (frz_cons .here (.refl _)))) ?_
                      refine callR [] (hRe (withoutE l h) a _ (by omega)) ?_
                      refine callB [] (hIx (reachR N (withoutE l h) [(a : Int)]) x1 _ (by omega)) (fun c3 => ?_) (fun c3 => ?_)
                      · exact nextS (j + 1, true) (by show B.length - (j + 1) < B.length - j; omega) ⟨hlt3, by rw [hsI, decide_eq_true (show x1 ≠ (h : Int) from c1), decide_eq_true (show (a : Int) ≠ (h : Int) from c2), c3]; rfl⟩ ⟨rfl, rfl, rfl, rfl, rfl, rfl, rfl, av_bool (by rw [hany]), rfl, rfl, rfl, rfl, inc64 (by omega), trivial⟩ (.drop 0 1 (.refl _))
                      · exact nextS (j + 1, false) (by show B.length - (j + 1) < B.length - j; omega) ⟨hlt3, by rw [hsI, decide_eq_true (show x1 ≠ (h : Int) from c1), decide_eq_true (show (a : Int) ≠ (h : Int) from c2), c3]; rfl⟩ ⟨rfl, rfl, rfl, rfl, rfl, rfl, rfl, av_bool (by rw [hany]), rfl, rfl, rfl, rfl, inc64 (by omega), trivial⟩ (.drop 0 1 (.refl _))
                  · refine And.intro ?_ ?_
                    · intro bl4
                      refine And.intro ?_ ?_
                      · refine callR [] (aRWithout l h _ (by omega)) ?_
                        refine And.intro ?_ ?_
                        · refine .frz (args' := [.int .i64 N, .fsl edgeSh (withoutE l h), .fsl (.int .i64) ([(a : Int)] : List Int)]) 0 bl4 0 1 1 _ (.int .i64) ([(a : Int)] : List Int) rfl rfl ⟨rfl, rfl, by decide⟩ (frz_cons (.refl _) (frz_cons (.refl _) (frz_cons .here (.refl _)))) ?_
                          refine callR [] (hRe (withoutE l h) a _ (by omega)) ?_
                          refine LoadAt.mk 0 _ _ rfl rfl ?_
                          refine callB [] (hIx (reachR N (withoutE l h) [(a : Int)]) x1 _ (by omega)) (fun c3 => ?_) (fun c3 => ?_)
                          · exact nextS (j + 1, true) (by show B.length - (j + 1) < B.length - j; omega) ⟨hlt3, by rw [hsI, decide_eq_true (show x1 ≠ (h : Int) from c1), decide_eq_true (show (a : Int) ≠ (h : Int) from c2), c3]; rfl⟩ ⟨rfl, rfl, rfl, rfl, rfl, rfl, rfl, av_bool (by rw [hany]), rfl, rfl, rfl, rfl, inc64 (by omega), trivial⟩ (.drop 0 1 (.refl _))
                          · exact nextS (j + 1, false) (by show B.length - (j + 1) < B.length - j; omega) ⟨hlt3, by rw [hsI, decide_eq_true (show x1 ≠ (h : Int) from c1), decide_eq_true (show (a : Int) ≠ (h : Int) from c2), c3]; rfl⟩ ⟨rfl, rfl, rfl, rfl, rfl, rfl, rfl, av_bool (by rw [hany]), rfl, rfl, rfl, rfl, inc64 (by omega), trivial⟩ (.drop 0 1 (.refl _))
                        · refine LoadAt.mk 1 _ _ rfl rfl ?_
                          refine .frz (args' := [.int .i64 N, .fsl edgeSh (withoutE l h), .fsl (.int .i64) ([(a : Int)] : List Int)]) 0 bl4 0 1 1 _ (.int .i64) ([(a : Int)] : List Int) rfl rfl ⟨rfl, rfl, by decide⟩ (frz_cons (.refl _) (frz_cons (.refl _) (frz_cons .here (.refl _)))) ?_
                          refine callR [] (hRe (withoutE l h) a _ (by omega)) ?_
                          refine callB [] (hIx (reachR N (withoutE l h) [(a : Int)]) x1 _ (by omega)) (fun c3 => ?_) (fun c3 => ?_)
                          · exact nextS (j + 1, true) (by show B.length - (j + 1) < B.length - j; omega) ⟨hlt3, by rw [hsI, decide_eq_true (show x1 ≠ (h : Int) from c1), decide_eq_true (show (a : Int) ≠ (h : Int) from c2), c3]; rfl⟩ ⟨rfl, rfl, rfl, rfl, rfl, rfl, rfl, av_bool (by rw [hany]), rfl, rfl, rfl, rfl, inc64 (by omega), trivial⟩ (.drop 0 1 (.refl _))
                          · exact nextS (j + 1, false) (by show B.length - (j + 1) < B.length - j; omega) ⟨hlt3, by rw [hsI, decide_eq_true (show x1 ≠ (h : Int) from c1), decide_eq_true (show (a : Int) ≠ (h : Int) from c2), c3]; rfl⟩ ⟨rfl, rfl, rfl, rfl, rfl, rfl, rfl, av_bool (by rw [hany]), rfl, rfl, rfl, rfl, inc64 (by omega), trivial⟩ (.drop 0 1 (.refl _))
                      · refine LoadAt.mk 1 _ _ rfl rfl ?_
                        refine callR [] (aRWithout l h _ (by omega)) ?_
                        refine .frz (args' := [.int .i64 N, .fsl edgeSh (withoutE l h), .fsl (.int .i64) ([(a : Int)] : List Int)]) 0 bl4 0 1 1 _ (.int .i64) ([(a : Int)] : List Int) rfl rfl ⟨rfl, rfl, by decide⟩ (frz_cons (.refl _) (frz_cons (.refl _) (frz_cons .here (.refl _)))) ?_
                        refine callR [] (hRe (withoutE l h) a _ (by omega)) ?_
                        refine callB [] (hIx (reachR N (withoutE l h) [(a : Int)]) x1 _ (by omega)) (fun c3 => ?_) (fun c3 => ?_)
                        · exact nextS (j + 1, true) (by show B.length - (j + 1) < B.length - j; omega) ⟨hlt3, by rw [hsI, decide_eq_true (show x1 ≠ (h : Int) from c1), decide_eq_true (show (a : Int) ≠ (h : Int) from c2), c3]; rfl⟩ ⟨rfl, rfl, rfl, rfl, rfl, rfl, rfl, av_bool (by rw [hany]), rfl, rfl, rfl, rfl, inc64 (by omega), trivial⟩ (.drop 0 1 (.refl _))
                        · exact nextS (j + 1, false) (by show B.length - (j + 1) < B.length - j; omega) ⟨hlt3, by rw [hsI, decide_eq_true (show x1 ≠ (h : Int) from c1), decide_eq_true (show (a : Int) ≠ (h : Int) from c2), c3]; rfl⟩ ⟨rfl, rfl, rfl, rfl, rfl, rfl, rfl, av_bool (by rw [hany]), rfl, rfl, rfl, rfl, inc64 (by omega), trivial⟩ (.drop 0 1 (.refl _))
                    · refine LoadAt.mk 0 _ _ rfl rfl ?_
                      refine And.intro ?_ ?_
                      · refine callR [] (aRWithout l h _ (by omega)) ?_
                        intro bl4
                        refine .frz (args' := [.int .i64 N, .fsl edgeSh (withoutE l h), .fsl (.int .i64) ([(a : Int)] : List Int)]) 0 bl4 0 1 1 _ (.int .i64) ([(a : Int)] : List Int) rfl rfl ⟨rfl, rfl, by decide⟩ (frz_cons (.refl _) (frz_cons (.refl _) (frz_cons .here (.refl _)))) ?_
                        refine callR [] (hRe (withoutE l h) a _ (by omega)) ?_
                        refine callB [] (hIx (reachR N (withoutE l h) [(a : Int)]) x1 _ (by omega)) (fun c3 => ?_) (fun c3 => ?_)
                        · exact nextS (j + 1, true) (by show B.length - (j + 1) < B.length - j; omega) ⟨hlt3, by rw [hsI, decide_eq_true (show x1 ≠ (h : Int) from c1), decide_eq_true (show (a : Int) ≠ (h : Int) from c2), c3]; rfl⟩ ⟨rfl, rfl, rfl, rfl, rfl, rfl, rfl, av_bool (by rw [hany]), rfl, rfl, rfl, rfl, inc64 (by omega), trivial⟩ (.drop 0 1 (.refl _))
                        · exact nextS (j + 1, false) (by show B.length - (j + 1) < B.length - j; omega) ⟨hlt3, by rw [hsI, decide_eq_true (show x1 ≠ (h : Int) from c1), decide_eq_true (show (a : Int) ≠ (h : Int) from c2), c3]; rfl⟩ ⟨rfl, rfl, rfl, rfl, rfl, rfl, rfl, av_bool (by rw [hany]), rfl, rfl, rfl, rfl, inc64 (by omega), trivial⟩ (.drop 0 1 (.refl _))
                      · intro bl4
                        refine callR [] (aRWithout l h _ (by omega)) ?_
                        refine .frz (args' := [.int .i64 N, .fsl edgeSh (withoutE l h), .fsl (.int .i64) ([(a : Int)] : List Int)]) 0 bl4 0 1 1 _ (.int .i64) ([(a : Int)] : List Int) rfl rfl ⟨rfl, rfl, by decide⟩ (frz_cons (.refl _) (frz_cons (.refl _) (frz_cons .here (.refl _)))) ?_
                        refine callR [] (hRe (withoutE l h) a _ (by omega)) ?_
                        refine callB [] (hIx (reachR N (withoutE l h) [(a : Int)]) x1 _ (by omega)) (fun c3 => ?_) (fun c3 => ?_)
                        · exact nextS (j + 1, true) (by show B.length - (j + 1) < B.length - j; omega) ⟨hlt3, by rw [hsI, decide_eq_true (show x1 ≠ (h : Int) from c1), decide_eq_true (show (a : Int) ≠ (h : Int) from c2), c3]; rfl⟩ ⟨rfl, rfl, rfl, rfl, rfl, rfl, rfl, av_bool (by rw [hany]), rfl, rfl, rfl, rfl, inc64 (by omega), trivial⟩ (.drop 0 1 (.refl _))
                        · exact nextS (j + 1, false) (by show B.length - (j + 1) < B.length - j; omega) ⟨hlt3, by rw [hsI, decide_eq_true (show x1 ≠ (h : Int) from c1), decide_eq_true (show (a : Int) ≠ (h : Int) from c2), c3]; rfl⟩ ⟨rfl, rfl, rfl, rfl, rfl, rfl, rfl, av_bool (by rw [hany]), rfl, rfl, rfl, rfl, inc64 (by omega), trivial⟩ (.drop 0 1 (.refl _))
                · have c2 : (↑a : Int) = (↑h : Int) := by simpa using c2
                  refine And.intro ?_ ?_
                  · refine And.intro ?_ ?_
                    · refine And.intro ?_ ?_
                      · exact nextS (j + 1, false) (by show B.length - (j + 1) < B.length - j; omega) ⟨hlt3, by rw [hsI, decide_eq_false (show ¬ ((a : Int) ≠ (h : Int)) from fun hh => hh c2), Bool.and_false]; rfl⟩ ⟨rfl, rfl, rfl, rfl, rfl, rfl, rfl, av_bool (by rw [hany]), rfl, rfl, rfl, rfl, inc64 (by omega), trivial⟩ (.drop 0 1 (.refl _))
                      · exact nextS (j + 1, false) (by show B.length - (j + 1) < B.length - j; omega) ⟨hlt3, by rw [hsI, decide_eq_false (show ¬ ((a : Int) ≠ (h : Int)) from fun hh => hh c2), Bool.and_false]; rfl⟩ ⟨rfl, rfl, rfl, rfl, rfl, rfl, rfl, av_bool (by rw [hany]), rfl, rfl, rfl, rfl, inc64 (by omega), trivial⟩ (.drop 0 1 (.refl _))
                    · exact nextS (j + 1, false) (by show B.length - (j + 1) < B.length - j; omega) ⟨hlt3, by rw [hsI, decide_eq_false (show ¬ ((a : Int) ≠ (h : Int)) from fun hh => hh c2), Bool.and_false]; rfl⟩ ⟨rfl, rfl, rfl, rfl, rfl, rfl, rfl, av_bool (by rw [hany]), rfl, rfl, rfl, rfl, inc64 (by omega), trivial⟩ (.drop 0 1 (.refl _))
                  · refine And.intro ?_ ?_
                    · refine And.intro ?_ ?_
                      · refine And.intro ?_ ?_
                        · exact nextS (j + 1, false) (by show B.length - (j + 1) < B.length - j; omega) ⟨hlt3, by rw [hsI, decide_eq_false (show ¬ ((a : Int) ≠ (h : Int)) from fun hh => hh c2), Bool.and_false]; rfl⟩ ⟨rfl, rfl, rfl, rfl, rfl, rfl, rfl, av_bool (by rw [hany]), rfl, rfl, rfl, rfl, inc64 (by omega), trivial⟩ (.drop 0 1 (.refl _))
                        · exact nextS (j + 1, false) (by show B.length - (j + 1) < B.length - j; omega) ⟨hlt3, by rw [hsI, decide_eq_false (show ¬ ((a : Int) ≠ (h : Int)) from fun hh => hh c2), Bool.and_false]; rfl⟩ ⟨rfl, rfl, rfl, rfl, rfl, rfl, rfl, av_bool (by rw [hany]), rfl, rfl, rfl, rfl, inc64 (by omega), trivial⟩ (.drop 0 1 (.refl _))
                      · exact nextS (j + 1, false) (by show B.length - (j + 1) < B.length - j; omega) ⟨hlt3, by rw [hsI, decide_eq_false (show ¬ ((a : Int) ≠ (h : Int)) from fun hh => hh c2), Bool.and_false]; rfl⟩ ⟨rfl, rfl, rfl, rfl, rfl, rfl, rfl, av_bool (by rw [hany]), rfl, rfl, rfl, rfl, inc64 (by omega), trivial⟩ (.drop 0 1 (.refl _))
                    · refine And.intro ?_ ?_
                      · exact nextS (j + 1, false) (by show B.length - (j + 1) < B.length - j; omega) ⟨hlt3, by rw [hsI, decide_eq_false (show ¬ ((a : Int) ≠ (h : Int)) from fun hh => hh c2), Bool.and_false]; rfl⟩ ⟨rfl, rfl, rfl, rfl, rfl, rfl, rfl, av_bool (by rw [hany]), rfl, rfl, rfl, rfl, inc64 (by omega), trivial⟩ (.drop 0 1 (.refl _))
                      · exact nextS (j + 1, false) (by show B.length - (j + 1) < B.length - j; omega) ⟨hlt3, by rw [hsI, decide_eq_false (show ¬ ((a : Int) ≠ (h : Int)) from fun hh => hh c2), Bool.and_false]; rfl⟩ ⟨rfl, rfl, rfl, rfl, rfl, rfl, rfl, av_bool (by rw [hany]), rfl, rfl, rfl, rfl, inc64 (by omega), trivial⟩ (.drop 0 1 (.refl _))
              · have c1 : x1 = (↑h : Int) := by simpa using c1
                refine And.intro ?_ ?_
                · refine And.intro ?_ ?_
                  · refine And.intro ?_ ?_
                    · exact nextS (j + 1, false) (by show B.length - (j + 1) < B.length - j; omega) ⟨hlt3, by rw [hsI, decide_eq_false (show ¬ (x1 ≠ (h : Int)) from fun hh => hh c1)]; rfl⟩ ⟨rfl, rfl, rfl, rfl, rfl, rfl, rfl, av_bool (by rw [hany]), rfl, rfl, rfl, rfl, inc64 (by omega), trivial⟩ (.drop 0 1 (.refl _))
                    · exact nextS (j + 1, false) (by show B.length - (j + 1) < B.length - j; omega) ⟨hlt3, by rw [hsI, decide_eq_false (show ¬ (x1 ≠ (h : Int)) from fun hh => hh c1)]; rfl⟩ ⟨rfl, rfl, rfl, rfl, rfl, rfl, rfl, av_bool (by rw [hany]), rfl, rfl, rfl, rfl, inc64 (by omega), trivial⟩ (.drop 0 1 (.refl _))
                  · exact nextS (j + 1, false) (by show B.length - (j + 1) < B.length - j; omega) ⟨hlt3, by rw [hsI, decide_eq_false (show ¬ (x1 ≠ (h : Int)) from fun hh => hh c1)]; rfl⟩ ⟨rfl, rfl, rfl, rfl, rfl, rfl, rfl, av_bool (by rw [hany]), rfl, rfl, rfl, rfl, inc64 (by omega), trivial⟩ (.drop 0 1 (.refl _))
                · refine And.intro ?_ ?_
                  · refine And.intro ?_ ?_
                    · refine And.intro ?_ ?_
                      · exact nextS (j + 1, false) (by show B.length - (j + 1) < B.length - j; omega) ⟨hlt3, by rw [hsI, decide_eq_false (show ¬ (x1 ≠ (h : Int)) from fun hh => hh c1)]; rfl⟩ ⟨rfl, rfl, rfl, rfl, rfl, rfl, rfl, av_bool (by rw [hany]), rfl, rfl, rfl, rfl, inc64 (by omega), trivial⟩ (.drop 0 1 (.refl _))
                      · exact nextS (j + 1, false) (by show B.length - (j + 1) < B.length - j; omega) ⟨hlt3, by rw [hsI, decide_eq_false (show ¬ (x1 ≠ (h : Int)) from fun hh => hh c1)]; rfl⟩ ⟨rfl, rfl, rfl, rfl, rfl, rfl, rfl, av_bool (by rw [hany]), rfl, rfl, rfl, rfl, inc64 (by omega), trivial⟩ (.drop 0 1 (.refl _))
                    · exact nextS (j + 1, false) (by show B.length - (j + 1) < B.length - j; omega) ⟨hlt3, by rw [hsI, decide_eq_false (show ¬ (x1 ≠ (h : Int)) from fun hh => hh c1)]; rfl⟩ ⟨rfl, rfl, rfl, rfl, rfl, rfl, rfl, av_bool (by rw [hany]), rfl, rfl, rfl, rfl, inc64 (by omega), trivial⟩ (.drop 0 1 (.refl _))
                  · refine And.intro ?_ ?_
                    · exact nextS (j + 1, false) (by show B.length - (j + 1) < B.length - j; omega) ⟨hlt3, by rw [hsI, decide_eq_false (show ¬ (x1 ≠ (h : Int)) from fun hh => hh c1)]; rfl⟩ ⟨rfl, rfl, rfl, rfl, rfl, rfl, rfl, av_bool (by rw [hany]), rfl, rfl, rfl, rfl, inc64 (by omega), trivial⟩ (.drop 0 1 (.refl _))
                    · exact nextS (j + 1, false) (by show B.length - (j + 1) < B.length - j; omega) ⟨hlt3, by rw [hsI, decide_eq_false (show ¬ (x1 ≠ (h : Int)) from fun hh => hh c1)]; rfl⟩ ⟨rfl, rfl, rfl, rfl, rfl, rfl, rfl, av_bool (by rw [hany]), rfl, rfl, rfl, rfl, inc64 (by omega), trivial⟩ (.drop 0 1 (.refl _))
            · refine .sched [] plan52 (by kernel_rfl) ?_
              refine And.intro ?_ ?_
              · refine And.intro ?_ ?_
                · refine And.intro ?_ ?_
                  · exact nextS (j + 1, true) (by show B.length - (j + 1) < B.length - j; omega) ⟨hlt3, by rw [hsI]; rfl⟩ ⟨rfl, rfl, rfl, rfl, rfl, rfl, rfl, av_bool (by rw [hany]), rfl, rfl, rfl, rfl, inc64 (by omega), trivial⟩ (.drop 0 1 (.refl _))
                  · exact nextS (j + 1, true) (by show B.length - (j + 1) < B.length - j; omega) ⟨hlt3, by rw [hsI]; rfl⟩ ⟨rfl, rfl, rfl, rfl, rfl, rfl, rfl, av_bool (by rw [hany]), rfl, rfl, rfl, rfl, inc64 (by omega), trivial⟩ (.drop 0 1 (.refl _))
                · exact nextS (j + 1, true) (by show B.length - (j + 1) < B.length - j; omega) ⟨hlt3, by rw [hsI]; rfl⟩ ⟨rfl, rfl, rfl, rfl, rfl, rfl, rfl, av_bool (by rw [hany]), rfl, rfl, rfl, rfl, inc64 (by omega), trivial⟩ (.drop 0 1 (.refl _))
              · refine And.intro ?_ ?_
                · refine And.intro ?_ ?_
                  · refine And.intro ?_ ?_
                    · exact nextS (j + 1, true) (by show B.length - (j + 1) < B.length - j; omega) ⟨hlt3, by rw [hsI]; rfl⟩ ⟨rfl, rfl, rfl, rfl, rfl, rfl, rfl, av_bool (by rw [hany]), rfl, rfl, rfl, rfl, inc64 (by omega), trivial⟩ (.drop 0 1 (.refl _))
                    · exact nextS (j + 1, true) (by show B.length - (j + 1) < B.length - j; omega) ⟨hlt3, by rw [hsI]; rfl⟩ ⟨rfl, rfl, rfl, rfl, rfl, rfl, rfl, av_bool (by rw [hany]), rfl, rfl, rfl, rfl, inc64 (by omega), trivial⟩ (.drop 0 1 (.refl _))
                  · exact nextS (j + 1, true) (by show B.length - (j + 1) < B.length - j; omega) ⟨hlt3, by rw [hsI]; rfl⟩ ⟨rfl, rfl, rfl, rfl, rfl, rfl, rfl, av_bool (by rw [hany]), rfl, rfl, rfl, rfl, inc64 (by omega), trivial⟩ (.drop 0 1 (.refl _))
                · refine And.intro ?_ ?_
                  · exact nextS (j + 1, true) (by show B.length - (j + 1) < B.length - j; omega) ⟨hlt3, by rw [hsI]; rfl⟩ ⟨rfl, rfl, rfl, rfl, rfl, rfl, rfl, av_bool (by rw [hany]), rfl, rfl, rfl, rfl, inc64 (by omega), trivial⟩ (.drop 0 1 (.refl _))
                  · exact nextS (j + 1, true) (by show B.length - (j + 1) < B.length - j; omega) ⟨hlt3, by rw [hsI]; rfl⟩ ⟨rfl, rfl, rfl, rfl, rfl, rfl, rfl, av_bool (by rw [hany]), rfl, rfl, rfl, rfl, inc64 (by omega), trivial⟩ (.drop 0 1 (.refl _))
          · have hsF : fromP (B.take (j + 1)) h = fromP (B.take j) h := by rw [hsF]; show _ ++ (if x2 = (h : Int) then [x1] else []) = _; rw [if_neg c2, List.append_nil]
            exact nextS (j + 1, is) (by show B.length - (j + 1) < B.length - j; omega) ⟨hlt3, by rw [hsF]; exact hi⟩ ⟨rfl, rfl, rfl, rfl, rfl, rfl, rfl, av_bool (by rw [hsF]), rfl, rfl, rfl, rfl, inc64 (by omega), trivial⟩ (.drop 0 1 (.refl _))
        · have hge3 : j = B.length := by omega
          subst hge3
          rw [List.take_length, hF] at hi
          cases is
          · rw [← hi, Bool.false_and, if_neg (by decide), List.append_nil] at hrs
            exact nextS (a + 1, v2, acc2, any || !(fromP (B.take B.length) h).isEmpty) (by show N - (a + 1) < N - a; omega) ⟨⟨hlt2, hyn⟩, by show Acc 1 (rndP N l h F I (a + 1)).length v2 acc2 (inC (rndP N l h F I (a + 1))); rw [hrs]; exact hD⟩ ⟨rfl, rfl, rfl, rfl, rfl, rfl, rfl, rfl, inc64 (by omega), trivial⟩ (.refl _)
          · rw [← hi, Bool.true_and] at hrs
            refine callB [] (hIx I a _ (by omega)) (fun c3 => ?_) (fun c3 => ?_)
            · rw [if_pos c3] at hrs
              have hnl : (rndP N l h F I (a + 1)).length = (rndP N l h F I a).length + 1 := by rw [hrs, List.length_append]; rfl
              have hnw : inC (rndP N l h F I (a + 1)) = inC (rndP N l h F I a) ++ [.int .i64 a] := by rw [hrs]; exact List.map_append
              have hgo : ∀ b5, Acc 1 ((rndP N l h F I a).length + 1) (.mref b5 0 ((rndP N l h F I a).length + 1) 1) [(b5, inC (rndP N l h F I a) ++ [.int .i64 a])] (inC (rndP N l h F I a) ++ [.int .i64 a]) → Acc 1 (rndP N l h F I (a + 1)).length (.mref b5 0 ((rndP N l h F I a).length + 1) 1) [(b5, inC (rndP N l h F I a) ++ [.int .i64 a])] (inC (rndP N l h F I (a + 1))) := fun b5 h => by rw [hnl, hnw]; exact h
              generalize inC (rndP N l h F I a) = cs at hD hgo
              generalize (rndP N l h F I a).length = q at hD hgo hrl
              rcases acc_val hD with ⟨rfl, rfl, hj0, hc0⟩ | ⟨b2, rfl, rfl⟩
              · subst hj0; subst hc0
                intro bl3
                refine append_accV (i := ⟨.int .i64, 1, 8, [.int .i64 0]⟩) (k := 0) (cs := []) [_] .nil (.mref 0 bl3 0 1 _ rfl (Nat.le_of_ble_eq_true rfl)) rfl (by decide) (by decide) (by decide) (fun v' acc' h' => ?_)
                obtain ⟨b5, rfl, rfl⟩ := acc_one (by omega) h'
                exact nextS (a + 1, .mref b5 0 (0 + 1) 1, [(b5, [] ++ [.int .i64 a])], any || !(fromP (B.take B.length) h).isEmpty) (by show N - (a + 1) < N - a; omega) ⟨⟨hlt2, hyn⟩, hgo b5 h'⟩ ⟨rfl, rfl, rfl, rfl, rfl, rfl, rfl, rfl, inc64 (by omega), trivial⟩ (.drop 0 1 (shed_eq rfl))
              · intro bl3
                refine append_accV (i := ⟨.int .i64, 1, 8, [.int .i64 0]⟩) [_] hD (.mref 0 bl3 0 1 _ rfl (Nat.le_of_ble_eq_true rfl)) rfl (by omega) (by decide) (by decide) (fun v' acc' h' => ?_)
                obtain ⟨b5, rfl, rfl⟩ := acc_one (by omega) h'
                exact nextS (a + 1, .mref b5 0 (q + 1) 1, [(b5, cs ++ [.int .i64 a])], any || !(fromP (B.take B.length) h).isEmpty) (by show N - (a + 1) < N - a; omega) ⟨⟨hlt2, hyn⟩, hgo b5 h'⟩ ⟨rfl, rfl, rfl, rfl, rfl, rfl, rfl, rfl, inc64 (by omega), trivial⟩ (.drop 0 1 (shed_eq rfl))
            · rw [if_neg (by rw [c3]; decide), List.append_nil] at hrs
              exact nextS (a + 1, v2, acc2, any || !(fromP (B.take B.length) h).isEmpty) (by show N - (a + 1) < N - a; omega) ⟨⟨hlt2, hyn⟩, by show Acc 1 (rndP N l h F I (a + 1)).length v2 acc2 (inC (rndP N l h F I (a + 1))); rw [hrs]; exact hD⟩ ⟨rfl, rfl, rfl, rfl, rfl, rfl, rfl, rfl, inc64 (by omega), trivial⟩ (.refl _)
    · have hge2 : a = N := by omega
      subst hge2
      have hy : any = !F.isEmpty := by rw [hy, decide_eq_true (by omega), Bool.true_and]
      have hbd := rndP_body a R l h F
      rw [hI] at hbd
      rw [hbd] at hD
      have hsc := loopsP_succ a l R h
      rw [hBd, hF, hI] at hsc
      cases any
      · have hFe : F.isEmpty = true := by
          generalize F.isEmpty = e at hy
          cases e
          · exact absurd hy (by decide)
          · rfl
        have hsc : loopsP a l R (h + 1) = loopsP a l R h := by rw [hsc, if_pos hFe, List.append_nil]
        have hnx : h + 1 ≤ a ∧ Acc 2 (loopsP a l R (h + 1)).length v acc ((loopsP a l R (h + 1)).flatMap loopSh.cells) := ⟨hlt, by rw [hsc]; exact hO⟩
        rcases acc_val hD with ⟨rfl, rfl, hj0, hc0⟩ | ⟨b2, rfl, rfl⟩
        · exact nextS (h + 1, v, acc) (by show a - (h + 1) < a - h; omega) hnx ⟨rfl, rfl, rfl, rfl, rfl, inc64 (by omega), trivial⟩ (.refl _)
        · exact nextS (h + 1, v, acc) (by show a - (h + 1) < a - h; omega) hnx ⟨rfl, rfl, rfl, rfl, rfl, inc64 (by omega), trivial⟩ (.drop 0 1 (.refl _))
      · have hFe : F.isEmpty = false := by
          generalize F.isEmpty = e at hy
          cases e
          · rfl
          · exact absurd hy (by decide)
        have hbn : 0 < (bodyP a l h F I).length := by
          obtain ⟨f, t, hft⟩ : ∃ f t, F = f :: t := by
            cases F with
            | nil => cases hFe
            | cons f t => exact ⟨f, t, rfl⟩
          have hf : f ∈ fromP (backP a l R) h := by rw [hBd, hF, hft]; exact List.mem_cons_self ..
          have h1 := ov_rch d.hr (mem_from d hf).1
          have hm := (mem_body (h := h) (a := h) d).2 ⟨h1, .inl rfl⟩
          rw [hBd, hF, hI] at hm
          exact List.length_pos_of_mem hm
        rw [if_neg (by rw [hFe]; decide)] at hsc
        rcases acc_val hD with ⟨rfl, rfl, hj0, hc0⟩ | ⟨b2, rfl, rfl⟩
        · omega
        · obtain ⟨W, hW⟩ : ∃ W, bodyP a l h F I = W := ⟨_, rfl⟩
          obtain ⟨m, hm⟩ : ∃ m, W.length = m := ⟨_, rfl⟩
          rw [hW] at hsc hD
          have hWi : ((inC W).drop 0).take (m * 1) = W.flatMap (Sh.cells (.int .i64)) := by
            rw [List.drop_zero, List.take_of_length_le (by rw [inC_length]; omega)]; exact inC_flat _
          have hnw : (loopsP a l R (h + 1)).flatMap loopSh.cells = (loopsP a l R h).flatMap loopSh.cells ++ [.int .i64 h, .fsl (.int .i64) W] := by rw [hsc]; exact List.flatMap_append (f := loopSh.cells) (xs := (loopsP a l R h : List LoopT)) (ys := [((h : Int), W, ())])
          have hnl : (loopsP a l R (h + 1)).length = (loopsP a l R h).length + 1 := by rw [hsc, List.length_append]; rfl
          have hll : (loopsP a l R h).length ≤ h := by
            unfold loopsP
            rw [List.length_map]
            exact Nat.le_trans (List.length_filter_le _ _) (by rw [List.length_range]; exact Nat.le_refl _)
          rw [hW, hm]
          have hgo : ∀ b5 cs q, (loopsP a l R h).flatMap loopSh.cells = cs → (loopsP a l R h).length = q → Acc 2 (loopsP a l R (h + 1)).length (.mref b5 0 (q + 1) 2) [(b5, cs ++ [.int .i64 h, .fsl (.int .i64) W])] ((loopsP a l R (h + 1)).flatMap loopSh.cells) := fun b5 cs q e1 e2 => by
            rw [hnl, hnw, e1, e2]
            have hcl := hO.length
            rw [e1, e2] at hcl
            exact .mref b5 (q + 1) _ (by rw [List.length_append, hcl, Nat.succ_mul]; rfl)
          rcases acc_val hO with ⟨rfl, rfl, hj0, hc0⟩ | ⟨b3, rfl, rfl⟩
          · intro bl4
            refine append_accV (i := ⟨_, 2, 32, [.int .i64 0, .nils]⟩) (k := 0) (cs := []) [_, _] .nil (.mref 0 bl4 0 1 _ rfl (Nat.le_of_ble_eq_true rfl)) rfl (by decide) (by decide) (by decide) (fun v' acc' h' => ?_)
            obtain ⟨b5, rfl, rfl⟩ := acc_one (by omega) h'
            refine .frzc 1 b2 0 m 1 _ (.int .i64) W rfl hWi ⟨hm, rfl, by decide⟩ 1 1 b5 _ rfl rfl ?_
            exact nextS (h + 1, .mref b5 0 (0 + 1) 2, [(b5, [] ++ [.int .i64 h, .fsl (.int .i64) W])]) (by show a - (h + 1) < a - h; omega) ⟨hlt, hgo b5 [] 0 hc0 hj0⟩ ⟨rfl, rfl, rfl, rfl, rfl, inc64 (by omega), trivial⟩ (.drop 0 1 (shed_eq rfl))
          · intro bl4
            obtain ⟨q, hq⟩ : ∃ q, (loopsP a l R h).length = q := ⟨_, rfl⟩
            obtain ⟨cs, hcs⟩ : ∃ cs, (loopsP a l R h).flatMap loopSh.cells = cs := ⟨_, rfl⟩
            have hO' : Acc 2 q (.mref b3 0 q 2) [(b3, cs)] cs := by rw [← hq, ← hcs]; exact hO
            rw [hcs, hq]
            refine append_accV (i := ⟨_, 2, 32, [.int .i64 0, .nils]⟩) [_, _] hO' (.mref 0 bl4 0 1 _ rfl (Nat.le_of_ble_eq_true rfl)) rfl (by omega) (by decide) (by decide) (fun v' acc' h' => ?_)
            obtain ⟨b5, rfl, rfl⟩ := acc_one (by omega) h'
            refine .frzc 1 b2 0 m 1 _ (.int .i64) W rfl hWi ⟨hm, rfl, by decide⟩ 1 (cs.length + 1) b5 _ rfl (get_last2 cs (.int .i64 h) (.mref b2 0 m 1)) ?_
            exact nextS (h + 1, .mref b5 0 (q + 1) 2, [(b5, cs ++ [.int .i64 h, .fsl (.int .i64) W])]) (by show a - (h + 1) < a - h; omega) ⟨hlt, hgo b5 cs q hcs hq⟩ ⟨rfl, rfl, rfl, rfl, rfl, inc64 (by omega), trivial⟩ (.drop 0 1 (shed_eq (by show (b5, (cs ++ [AV.int .i64 h, .mref b2 0 m 1]).set (cs.length + 1) (.fsl (.int .i64) W)) :: σ = (b5, cs ++ [.int .i64 h, .fsl (.int .i64) W]) :: σ; rw [set_last2])))
  · have hge : h = N := by omega
    subst hge
    rcases acc_val hO with ⟨rfl, rfl, hj0, hc0⟩ | ⟨b2, rfl, rfl⟩
    · exact .nil (.nil loopSh) (.done ⟨by rw [List.length_eq_zero_iff.1 hj0]; rfl, rfl⟩)
    · exact .frz (r' := .fsl loopSh (loopsP h l R h)) 0 b2 0 _ 2 _ loopSh (loopsP h l R h) rfl (by rw [List.drop_zero]; exact List.take_of_length_le (Nat.le_of_eq hO.length)) ⟨rfl, rfl, by decide⟩ .here (.done ⟨rfl, rfl⟩)
end Go.Proofs.YtljbnigceammdaaGreatDoor
