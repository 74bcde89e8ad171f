/-
  Lpn; Facts: what the claim uses of them.
-/
import Derived.Test.YtljbnigceammdaaGreatDoorBn52
import Derived.Test.YtljbnigceammdaaGreatDoorBn50
import Derived.Below
import Derived.ChangeOld
import Derived.OpenShut
import Derived.ProofKit
import Derived.Test.YtljbnigceammdaaGreatDoorRows
import Derived.WalkKit
namespace Go.Proofs.YtljbnigceammdaaGreatDoor
open Go.RowKit
set_option maxRecDepth 100000
def awE52 : List EdgeT := [(0, 1, ()), (1, 2, ()), (2, 1, ())]
theorem awD52 : DG 3 0 awE52 := ⟨by decide, by decide, by decide, by decide +kernel, by decide⟩
theorem awBack52 : backP 3 awE52 0 = (sortedE awE52).filter fun x => decide (x.2.1 ∈ rowR 3 awE52 0 x.1.toNat) := by
  have h : ∀ v, v < 3 → domRow 3 awE52 0 v = rowR 3 awE52 0 v := fun v hv => row_eq (by decide) (by decide) (by decide) (by decide +kernel) (by decide) hv
  have hs : ∀ x ∈ sortedE awE52, x.1.toNat < 3 := fun x hx => (show ∀ x ∈ awE52, x.1.toNat < 3 by decide +kernel) x ((sortedE_mem awE52 x).1 hx)
  unfold backP
  refine List.filter_congr fun x hx => ?_
  rw [h _ (hs x hx)]
theorem awLoops52 : loopsP 3 awE52 0 3 = [(1, [1, 2], ())] := by
  unfold loopsP
  rw [awBack52, ← insK_all]
  decide +kernel
def awL52 : List LoopT := [((1 : Int), ([1, 2] : List Int), ())]
theorem aAwake52 (σ : Hp) (hg : (gT, tabT) ∈ σ) : ACalls Tryz.prog 27 [] σ (Ret (.bool true) σ) := by
  refine okF Tryz.func27 (by kernel_rfl) ?_
  intro bl1
  refine .frz (args' := [.int .i64 3, .fsl edgeSh awE52, .int .i64 0]) 0 bl1 0 3 2 _ edgeSh awE52 rfl rfl ⟨rfl, rfl, by decide⟩ (frz_cons (.refl _) (frz_cons .here (.refl _))) ?_
  obtain ⟨z, hz⟩ : ∃ z : Int, z = 0 := ⟨_, rfl⟩
  have hA : ∀ σ, (gT, tabT) ∈ σ → ACalls Tryz.prog 29 [.int .i64 3, .fsl edgeSh awE52, .int .i64 0] σ (Ret (.tup [.fsl loopSh awL52, .int .i64 z]) σ) := fun σ h => by
    have h2 := aLoopsOf 3 0 awE52 σ awD52 h
    rw [awLoops52] at h2
    rw [hz]
    exact h2
  refine callR [] (hA _ hg) ?_
  refine bcond_dec (p := z = 0) (fun c1 => ?_) (fun c1 => absurd hz c1)
  refine With.mk rfl (IdxF.mk (l := awL52) ((1 : Int), ([1, 2] : List Int), ()) (by decide) rfl ?_)
  refine With.mk rfl ?_
  refine IdxF.mk (l := awL52) ((1 : Int), ([1, 2] : List Int), ()) (by decide) rfl ?_
  intro bl1
  refine .frz (args' := [.fsl (.int .i64) ([1, 2] : List Int), .fsl (.int .i64) ([1, 2] : List Int)]) 0 bl1 0 2 1 _ (.int .i64) ([1, 2] : List Int) rfl rfl ⟨rfl, rfl, by decide⟩ (frz_cons (.refl _) (frz_cons .here (.refl _))) ?_
  refine callR [] (aRInts20 [1, 2] _ (show 2 ≤ 1000000 by decide)) ?_
  exact .done ⟨rfl, rfl⟩
def few52B (n : Int) (l : List EdgeT) : Bool := (decide (n ≤ 7) || decide (256 < n)) && decide (l.length ≤ 16)
theorem few52_few {n : Int} {l : List EdgeT} (h : few52B n l = true) : fewB n l = true ∧ (n ≤ 7 ∨ 256 < n) ∧ l.length ≤ 16 := by
  unfold few52B at h
  unfold fewB
  rw [Bool.and_eq_true, Bool.or_eq_true, decide_eq_true_eq, decide_eq_true_eq, decide_eq_true_eq] at h
  rw [Bool.and_eq_true, Bool.or_eq_true, decide_eq_true_eq, decide_eq_true_eq, decide_eq_true_eq]
  omega
theorem aFew52 (n : Int) (l : List EdgeT) (σ : Hp) : ACalls Tryz.prog 28 [.int .i64 n, .fsl edgeSh l] σ (Ret (.bool (few52B n l)) σ) := by
  refine okF Tryz.func28 (by kernel_rfl) ?_
  have hE : ∀ x : Bool, (decide (n ≤ 7) || decide (256 < n)) = x → few52B n l = (x && decide (l.length ≤ 16)) := fun x hx => by unfold few52B; rw [hx]
  have h1 : (l.length : Int) ≤ 16 → decide (l.length ≤ 16) = true := fun h => decide_eq_true (by omega)
  have h0 : ¬ (l.length : Int) ≤ 16 → decide (l.length ≤ 16) = false := fun h => decide_eq_false (by omega)
  refine bcond_dec (p := n ≤ 7) (fun c1 => ?_) (fun c1 => ?_)
  · have hx := hE true (by rw [decide_eq_true c1]; rfl)
    refine bcond_dec (p := (l.length : Int) ≤ 16) (fun c3 => ?_) (fun c3 => ?_)
    · exact .done ⟨av_bool (by rw [hx, h1 c3]; rfl), rfl⟩
    · exact .done ⟨av_bool (by rw [hx, h0 c3]; rfl), rfl⟩
  · refine bcond_dec (p := 256 < n) (fun c2 => ?_) (fun c2 => ?_)
    · have hx := hE true (by rw [decide_eq_true c2, Bool.or_true])
      refine bcond_dec (p := (l.length : Int) ≤ 16) (fun c3 => ?_) (fun c3 => ?_)
      · exact .done ⟨av_bool (by rw [hx, h1 c3]; rfl), rfl⟩
      · exact .done ⟨av_bool (by rw [hx, h0 c3]; rfl), rfl⟩
    · exact .done ⟨av_bool (hE false (by rw [decide_eq_false c1, decide_eq_false c2]; rfl)).symm, rfl⟩
theorem loopsNest_walk (n r : Int) (l : List EdgeT) (σ : Hp) (hg : (gT, tabT) ∈ σ) : ACalls Tryz.prog 6 [.int .i64 n, .fsl edgeSh l, .int .i64 r] σ (Ret (.bool true) σ) := by
  refine okF Tryz.func6 (by kernel_rfl) ?_
  refine callR [] (aAwake52 _ hg) ?_
  refine callB [] (aFew52 n l _) (fun c1 => ?_) (fun c1 => .done ⟨rfl, rfl⟩)
  obtain ⟨hf, hn7, hl⟩ := few52_few c1
  by_cases h : rightE n l = true ∧ 0 ≤ r ∧ r < n
  · obtain ⟨N, R, rfl, rfl, d⟩ := few_dg hf h
    have h8 := d.h8
    have h1 := d.h1
    obtain ⟨z, hz⟩ : ∃ z : Int, z = 0 := ⟨_, rfl⟩
    obtain ⟨P, hP⟩ : ∃ P : List (Int × List Int × Unit), P = loopsP N l R N := ⟨_, rfl⟩
    have hA : ∀ ρ, (gT, tabT) ∈ ρ → ACalls Tryz.prog 29 [.int .i64 N, .fsl edgeSh l, .int .i64 R] ρ (Ret (.tup [.fsl loopSh P, .int .i64 z]) ρ) := fun ρ hm => by rw [hz, hP]; exact aLoopsOf N R l ρ d hm
    have hmem : ∀ x ∈ P, 0 ≤ x.1 ∧ x.1 < (N : Int) ∧ x.2.1 = bodyP N l x.1 (fromP (backP N l R) x.1) (reachR N l [(R : Int)]) := fun x hx => by
      rw [hP] at hx
      unfold loopsP at hx
      obtain ⟨y, hy, rfl⟩ := List.mem_map.1 hx
      have := List.mem_range.1 (List.mem_filter.1 hy).1
      exact ⟨Int.natCast_nonneg _, by show (y : Int) < N; omega, rfl⟩
    have hlen : P.length ≤ N := by
      rw [hP]; unfold loopsP
      rw [List.length_map]
      exact Nat.le_trans (List.length_filter_le _ _) (by rw [List.length_range]; exact Nat.le_refl _)
    have hbl : ∀ x ∈ P, x.2.1.length ≤ N := fun x hx => by
      rw [(hmem x hx).2.2]; unfold bodyP
      exact Nat.le_trans (List.length_filter_le _ _) (reachR_length N l _)
    have hIx : ∀ (L : List Int) (x : Int) ρ, L.length ≤ 1000000 → ACalls Tryz.prog 26 [.fsl (.int .i64) L, .int .i64 x] ρ (Ret (.bool (decide (x ∈ L))) ρ) := fun L x ρ h => acalls_eq (aRIn L x ρ h) (av_bool (any_inD _ _))
    refine callR [] (hA _ hg) ?_
    refine bcond_split (fun c1 => absurd hz (by simpa using c1)) (fun c1 => ?_)
    refine loopS (S := Nat) (fun i => [(0, .int .i64 N), (1, .fsl edgeSh l), (2, .int .i64 R), (7, .fsl loopSh P), (37, .fsl loopSh P), (38, .int .i64 P.length), (39, .int .i64 i)]) (fun _ => σ) (fun i => i ≤ P.length) (fun i => P.length - i) 0 ⟨Nat.zero_le _, ⟨rfl, rfl, rfl, rfl, rfl, rfl, rfl, trivial⟩, rfl⟩ ?_
    intro i g hi0
    have hi : i ≤ P.length := hi0
    clear hi0
    refine bcond_dec (p := (i : Int) < P.length) (fun hlt => ?_) (fun hge => .done ⟨rfl, rfl⟩)
    have hlt : i < P.length := by omega
    obtain ⟨x, hx⟩ : ∃ x, P[i] = x := ⟨_, rfl⟩
    have hxP : x ∈ P := hx ▸ List.getElem_mem hlt
    have hxm := hmem x hxP
    have hxl := hbl x hxP
    refine With.mk rfl (IdxF.mk (l := (P : List LoopT)) x (by omega) ((get_some hlt).trans (congrArg some hx)) ?_)
    obtain ⟨xh, xb, xu⟩ := x
    have hxm : 0 ≤ xh ∧ xh < (N : Int) ∧ xb = bodyP N l xh (fromP (backP N l R) xh) (reachR N l [(R : Int)]) := hxm
    have hxl : xb.length ≤ N := hxl
    intro bl1
    refine StoreAt.mk 0 _ _ rfl rfl ?_
    refine LoadAt.mk 0 _ _ rfl rfl ?_
    have hov : ∀ a ∈ xb, Ov N l R xh a ∧ (0 ≤ xh ∧ xh < (N : Int) ∧ 0 ≤ a ∧ a < (N : Int)) ∧ overB N l R xh a = true ∧ overE N xh a = 0 ∧ overR N l R xh a = true := fun a ha => by
      rw [hxm.2.2] at ha
      have ho := body_over d ha
      have hn := ho.1.node
      have hr : 0 ≤ xh ∧ xh < (N : Int) ∧ 0 ≤ a ∧ a < (N : Int) := ⟨hxm.1, hxm.2.1, hn.1, hn.2⟩
      have hb : overB N l R xh a = true := by
        unfold overB
        rw [decide_eq_true hr, decide_eq_true ((row_ov d hn xh).2 ho)]; rfl
      obtain ⟨q1, q2⟩ := over_yes (N := N) (r := R) (l := l) d hr
      exact ⟨ho, hr, hb, q1, q2.trans hb⟩
    refine loopS (S := Nat) (fun j => [(0, .int .i64 N), (1, .fsl edgeSh l), (2, .int .i64 R), (7, .fsl loopSh P), (10, .ptr bl1 0), (37, .fsl loopSh P), (38, .int .i64 P.length), (39, .int .i64 i), (44, .fsl (.int .i64) xb), (45, .int .i64 xb.length), (46, .int .i64 j)]) (fun _ => (bl1, [.int .i64 xh, .fsl (.int .i64) xb]) :: σ) (fun j => j ≤ xb.length) (fun j => xb.length - j) 0 ⟨Nat.zero_le _, ⟨rfl, rfl, rfl, rfl, rfl, rfl, rfl, rfl, rfl, rfl, rfl, trivial⟩, rfl⟩ ?_
    intro j g2 hj0
    have hj : j ≤ xb.length := hj0
    clear hj0
    refine bcond_dec (p := (j : Int) < xb.length) (fun hlt2 => ?_) (fun hge2 => ?_)
    · have hlt2 : j < xb.length := by omega
      obtain ⟨a, ha⟩ : ∃ a, xb[j] = a := ⟨_, rfl⟩
      have hab : a ∈ xb := ha ▸ List.getElem_mem hlt2
      obtain ⟨hO, hr, o1, o2, o3⟩ := hov a hab
      refine With.mk rfl (IdxF.mk a (by omega) ((get_some hlt2).trans (congrArg some ha)) ?_)
      refine LoadAt.mk 0 _ _ rfl rfl ?_
      obtain ⟨w, hw⟩ : ∃ w : Int, w = 0 := ⟨_, rfl⟩
      have hOv : ∀ ρ, (gT, tabT) ∈ ρ → ACalls Tryz.prog 13 [.int .i64 N, .fsl edgeSh l, .int .i64 R, .int .i64 xh, .int .i64 a] ρ (Ret (.tup [.bool true, .int .i64 w]) ρ) := fun ρ hm => acalls_eq (aDomOver N R xh a l ρ d.h1 d.h8 d.hl d.ri d.hr hm) (by rw [o1, o2, hw])
      have hRv : ∀ ρ, ACalls Tryz.prog 21 [.int .i64 N, .fsl edgeSh l, .int .i64 R, .int .i64 xh, .int .i64 a] ρ (Ret (.bool true) ρ) := fun ρ => acalls_eq (aROver N R xh a l ρ (by omega) d.hl) (by rw [o3])
      refine callR [] (hOv _ (List.mem_cons_of_mem _ hg)) ?_
      refine bcond_split (fun c1 => ?_) (fun c1 => ?_)
      · have c1 : ¬ (w = 0) := by simpa using c1
        exact absurd hw c1
      · have c1 : w = 0 := by simpa using c1
        refine LoadAt.mk 0 _ _ rfl rfl ?_
        refine callR [] (hRv _) ?_
        exact nextS (j + 1) (by show xb.length - (j + 1) < xb.length - j; omega) hlt2 ⟨rfl, rfl, rfl, rfl, rfl, rfl, rfl, rfl, rfl, rfl, inc64 (by omega), trivial⟩ (.refl _)
    · refine loopS (S := Nat) (fun j => [(0, .int .i64 N), (1, .fsl edgeSh l), (2, .int .i64 R), (7, .fsl loopSh P), (10, .ptr bl1 0), (37, .fsl loopSh P), (38, .int .i64 P.length), (39, .int .i64 i), (77, .fsl loopSh P), (78, .int .i64 P.length), (79, .int .i64 j)]) (fun _ => (bl1, [.int .i64 xh, .fsl (.int .i64) xb]) :: σ) (fun j => j ≤ P.length) (fun j => P.length - j) 0 ⟨Nat.zero_le _, ⟨rfl, rfl, rfl, rfl, rfl, rfl, rfl, rfl, rfl, rfl, rfl, trivial⟩, rfl⟩ ?_
      intro j g3 hj0
      have hj : j ≤ P.length := hj0
      clear hj0
      refine bcond_dec (p := (j : Int) < P.length) (fun hlt3 => ?_) (fun hge3 => ?_)
      · have hlt3 : j < P.length := by omega
        obtain ⟨y, hy⟩ : ∃ y, P[j] = y := ⟨_, rfl⟩
        have hyP : y ∈ P := hy ▸ List.getElem_mem hlt3
        have hym := hmem y hyP
        have hyl := hbl y hyP
        refine With.mk rfl (IdxF.mk (l := (P : List LoopT)) y (by omega) ((get_some hlt3).trans (congrArg some hy)) ?_)
        obtain ⟨yh, yb, yu⟩ := y
        have hym : 0 ≤ yh ∧ yh < (N : Int) ∧ yb = bodyP N l yh (fromP (backP N l R) yh) (reachR N l [(R : Int)]) := hym
        have hyl : yb.length ≤ N := hyl
        intro bl2
        refine StoreAt.mk 0 _ _ rfl rfl ?_
        refine LoadAt.mk 0 _ _ rfl rfl ?_
        refine LoadAt.mk 1 _ _ rfl rfl ?_
        refine callB [] (hIx yb xh _ (by omega)) (fun c2 => ?_) (fun c2 => ?_)
        · have hin : xh ∈ yb := of_decide_eq_true c2
          refine LoadAt.mk 1 _ _ rfl rfl ?_
          have hxy : ∀ a ∈ xb, a ∈ yb := fun a ha => by
            rw [hxm.2.2] at ha
            rw [hym.2.2] at hin ⊢
            have e1 : yh = ((yh.toNat : Nat) : Int) := by omega
            exact body_nest d hin ha
          refine loopS (S := Nat) (fun m => [(0, .int .i64 N), (1, .fsl edgeSh l), (2, .int .i64 R), (7, .fsl loopSh P), (10, .ptr bl1 0), (16, .ptr bl2 0), (37, .fsl loopSh P), (38, .int .i64 P.length), (39, .int .i64 i), (77, .fsl loopSh P), (78, .int .i64 P.length), (79, .int .i64 j), (90, .fsl (.int .i64) xb), (91, .int .i64 xb.length), (92, .int .i64 m)]) (fun _ => (bl2, [.int .i64 yh, .fsl (.int .i64) yb]) :: (bl1, [.int .i64 xh, .fsl (.int .i64) xb]) :: σ) (fun m => m ≤ xb.length) (fun m => xb.length - m) 0 ⟨Nat.zero_le _, ⟨rfl, rfl, rfl, rfl, rfl, rfl, rfl, rfl, rfl, rfl, rfl, rfl, rfl, rfl, rfl, trivial⟩, rfl⟩ ?_
          intro m g4 hm0
          have hm : m ≤ xb.length := hm0
          clear hm0
          refine bcond_dec (p := (m : Int) < xb.length) (fun hlt4 => ?_) (fun hge4 => ?_)
          · have hlt4 : m < xb.length := by omega
            obtain ⟨a, ha⟩ : ∃ a, xb[m] = a := ⟨_, rfl⟩
            have hab : a ∈ yb := hxy a (ha ▸ List.getElem_mem hlt4)
            refine With.mk rfl (IdxF.mk a (by omega) ((get_some hlt4).trans (congrArg some ha)) ?_)
            refine LoadAt.mk 0 _ _ rfl rfl ?_
            refine callR [] (acalls_eq (hIx yb a _ (by omega)) (av_bool (decide_eq_true hab))) ?_
            exact nextS (m + 1) (by show xb.length - (m + 1) < xb.length - m; omega) hlt4 ⟨rfl, rfl, rfl, rfl, rfl, rfl, rfl, rfl, rfl, rfl, rfl, rfl, rfl, rfl, inc64 (by omega), trivial⟩ (.refl _)
          · exact nextS (j + 1) (by show P.length - (j + 1) < P.length - j; omega) hlt3 ⟨rfl, rfl, rfl, rfl, rfl, rfl, rfl, rfl, rfl, rfl, inc64 (by omega), trivial⟩ (.drop 0 1 (.refl _))
        · exact nextS (j + 1) (by show P.length - (j + 1) < P.length - j; omega) hlt3 ⟨rfl, rfl, rfl, rfl, rfl, rfl, rfl, rfl, rfl, rfl, inc64 (by omega), trivial⟩ (.drop 0 1 (.refl _))
      · refine nextS (i + 1) (by show P.length - (i + 1) < P.length - i; omega) hlt ⟨rfl, rfl, rfl, rfl, rfl, rfl, inc64 (by omega), trivial⟩ (.drop 0 1 (.refl _))
  · refine callR [] (aLoopsOfNo n r l _ (by omega) h) ?_
    exact .done ⟨rfl, rfl⟩
end Go.Proofs.YtljbnigceammdaaGreatDoor
namespace Go.Proofs.YtljbnigceammdaaGreatDoor
open Go.ChangeShapes Go.WideShapes Go.ChangeAt Go.RowKit
theorem andI {a b : Bool} (ha : a = true) (hb : b = true) : (a && b) = true := by rw [ha, hb]; rfl
theorem fk2 : laidOutB Tryz.prog = true := by kernel_rfl
theorem fk3 : mapsRowed Tryz.prog = true := by kernel_rfl
theorem fk7 : (Tryz.prog.stops == []) = true := by kernel_rfl
theorem fk9 : (Tryz.prog.stopKnobs == []) = true := by kernel_rfl
theorem fk23 : (Rows.domTellsRow.plainKeys == Tryz.prog.plainKeys) = true := by kernel_rfl
theorem fk25 : Tryz.prog.stopsHeard = true := by kernel_rfl
theorem fk26 : Tryz.prog.mayEnter = true := by kernel_rfl
theorem fk27 : (Rows.domTellsRow.lifted == Tryz.prog.liftsFinal) = true := by kernel_rfl
theorem fk28 : (Tryz.prog.make == some Rows.domTellsRow.make) = true := by kernel_rfl
theorem fown : ownKnob Tryz.prog.godebug = none := by kernel_rfl
end Go.Proofs.YtljbnigceammdaaGreatDoor
