/-
  Lpx; Facts: what the claim uses of them.
-/
import Derived.Test.YtljbnigceammdaaGreatDoorBn51
import Derived.Test.YtljbnigceammdaaGreatDoorBn52
import Derived.Below
import Derived.ChangeOld
import Derived.OpenShut
import Derived.ProofKit
import Derived.Test.YtljbnigceammdaaGreatDoorRows
import Derived.WalkKit
namespace Go.Proofs.YtljbnigceammdaaGreatDoor
open Go.RowKit
set_option maxRecDepth 100000
set_option maxHeartbeats 4000000 in
theorem loopsTell_walk (n r : Int) (l : List EdgeT) (σ : Hp) (hg : (gT, tabT) ∈ σ) : ACalls Tryz.prog 7 [.int .i64 n, .fsl edgeSh l, .int .i64 r] σ (Ret (.bool true) σ) := by
  refine okF Tryz.func7 (by kernel_rfl) ?_
  refine callR [] (aAwake52 _ hg) ?_
  refine callB [] (aFew52 n l _) (fun c1 => ?_) (fun c1 => .done ⟨rfl, rfl⟩)
  obtain ⟨hf, hn7, hl⟩ := few52_few c1
  by_cases h : rightE n l = true ∧ 0 ≤ r ∧ r < n
  · obtain ⟨N, R, rfl, rfl, d⟩ := few_dg hf h
    have h8 := d.h8
    have h1 := d.h1
    obtain ⟨z, hz⟩ : ∃ z : Int, z = 0 := ⟨_, rfl⟩
    obtain ⟨P, hP⟩ : ∃ P : List (Int × List Int × Unit), P = loopsP N l R N := ⟨_, rfl⟩
    obtain ⟨B, hB⟩ : ∃ B, B = backP N l R := ⟨_, rfl⟩
    obtain ⟨D, hD⟩ : ∃ D, D = depP N (loopsP N l R N) := ⟨_, rfl⟩
    obtain ⟨C, hC⟩ : ∃ C, C = !ringO N (restO N l R) := ⟨_, rfl⟩
    have hDl : D.length = N := by rw [hD]; exact (incAll_length _ _).trans (List.length_replicate ..)
    have hBl : B.length ≤ 1000 := by
      rw [hB]; unfold backP
      exact Nat.le_trans (List.length_filter_le _ _) (Nat.le_trans (by rw [← insK_all]; exact insK_len l _ (Nat.le_refl _)) d.hl)
    obtain ⟨hlen, hmem, hbl, hnd⟩ := loops_like d hP
    have a1 : ∀ ρ, (gT, tabT) ∈ ρ → ACalls Tryz.prog 30 [.int .i64 N, .fsl edgeSh l, .int .i64 R] ρ (Ret (.tup [.fsl edgeSh B, .int .i64 z]) ρ) := fun ρ hm => by rw [hz, hB]; exact aLoopsBack N R l ρ d hm
    have a2 : ∀ ρ, (gT, tabT) ∈ ρ → ACalls Tryz.prog 29 [.int .i64 N, .fsl edgeSh l, .int .i64 R] ρ (Ret (.tup [.fsl loopSh P, .int .i64 z]) ρ) := fun ρ hm => by rw [hz, hP]; exact aLoopsOf N R l ρ d hm
    have a3 : ∀ ρ, (gT, tabT) ∈ ρ → ACalls Tryz.prog 31 [.int .i64 N, .fsl edgeSh l, .int .i64 R] ρ (Ret (.tup [.fsl (.int .i64) D, .int .i64 z]) ρ) := fun ρ hm => by rw [hz, hD]; exact aLoopsDepth N R l ρ d hm
    have a4 : ∀ ρ, (gT, tabT) ∈ ρ → ACalls Tryz.prog 32 [.int .i64 N, .fsl edgeSh l, .int .i64 R] ρ (Ret (.tup [.bool C, .int .i64 z]) ρ) := fun ρ hm => by rw [hz, hC]; exact aLoopsClean N R l ρ d hm
    have b1 : ∀ ρ, ACalls Tryz.prog 35 [.int .i64 N, .fsl edgeSh l, .int .i64 R] ρ (Ret (.fsl edgeSh B) ρ) := fun ρ => by rw [hB]; exact aR52Back N R l ρ d
    have b2 : ∀ ρ, ACalls Tryz.prog 33 [.int .i64 N, .fsl edgeSh l, .int .i64 R] ρ (Ret (.fsl loopSh P) ρ) := fun ρ => by rw [hP]; exact aR52Of N R l ρ d
    have b3 : ∀ ρ, ACalls Tryz.prog 36 [.int .i64 N, .fsl edgeSh l, .int .i64 R] ρ (Ret (.fsl (.int .i64) D) ρ) := fun ρ => by rw [hD]; exact aR52Depth aR52Of N R l ρ d
    have b4 : ∀ ρ, ACalls Tryz.prog 37 [.int .i64 N, .fsl edgeSh l, .int .i64 R] ρ (Ret (.bool C) ρ) := fun ρ => by rw [hC]; exact aR52Clean N R l ρ d
    refine callR [] (a1 _ hg) ?_
    refine callR [] (a2 _ hg) ?_
    refine callR [] (a3 _ hg) ?_
    refine callR [] (a4 _ hg) ?_
    refine callR [] (acalls_eq (aRRight N l _ (by omega)) (av_bool d.ri)) ?_
    have hr := d.hr
    refine bcond_dec (p := (N : Int) ≤ R) (fun c1 => absurd c1 (by omega)) (fun c1 => ?_)
    refine callR [] (b2 _) ?_
    refine bcond_split (fun c1 => absurd hz (by simpa using c1)) (fun c1 => ?_)
    refine bcond_split (fun c1 => absurd hz (by simpa using c1)) (fun c1 => ?_)
    refine bcond_split (fun c1 => absurd hz (by simpa using c1)) (fun c1 => ?_)
    refine bcond_split (fun c1 => absurd hz (by simpa using c1)) (fun c1 => ?_)
    refine bcond_split (fun c5 => absurd c5 (by simp)) (fun c5 => ?_)
    refine loopS (S := Nat) (fun i => [(0, .int .i64 N), (1, .fsl edgeSh l), (2, .int .i64 R), (7, .fsl edgeSh B), (11, .fsl (.int .i64) D), (13, .bool C), (15, .fsl loopSh P), (122, .fsl loopSh P), (123, .int .i64 P.length), (124, .int .i64 i)]) (fun _ => σ) (fun i => i ≤ P.length) (fun i => P.length - i) 0 ⟨Nat.zero_le _, ⟨rfl, rfl, rfl, rfl, rfl, rfl, rfl, rfl, rfl, rfl, trivial⟩, rfl⟩ ?_
    intro i g hi0
    have hi : i ≤ P.length := hi0
    clear hi0
    refine bcond_dec (p := (i : Int) < P.length) (fun hlt => ?_) (fun hge => ?_)
    · have hlt : i < P.length := by omega
      obtain ⟨x, hx⟩ : ∃ x, P[i] = x := ⟨_, rfl⟩
      have hxP : x ∈ P := hx ▸ List.getElem_mem hlt
      have hxl := hbl x hxP
      have hgi : ((P : List LoopT))[((i : Nat) : Int).toNat]? = some x := (get_some hlt).trans (congrArg some hx)
      obtain ⟨xh, xb, xu⟩ := x
      have hxl : xb.length ≤ N := hxl
      refine With.mk rfl (IdxF.mk (l := (P : List LoopT)) (xh, xb, xu) (by omega) hgi ?_)
      intro bl1
      refine StoreAt.mk 0 _ _ rfl rfl ?_
      refine .quiet (by kernel_rfl) ?_
      refine LoadAt.mk 0 _ _ rfl rfl ?_
      refine With.mk rfl ?_
      refine IdxF.mk (l := (P : List LoopT)) (xh, xb, xu) (by omega) hgi ?_
      refine bcond_split (fun c1 => absurd c1 (by simp)) (fun c1 => ?_)
      refine LoadAt.mk 0 _ _ rfl rfl ?_
      refine With.mk rfl ?_
      refine IdxF.mk (l := (P : List LoopT)) (xh, xb, xu) (by omega) hgi ?_
      refine callQ [] (aRInts20 xb _ (by omega)) ?_
      exact nextS (i + 1) (by show P.length - (i + 1) < P.length - i; omega) hlt ⟨rfl, rfl, rfl, rfl, rfl, rfl, rfl, rfl, rfl, inc64 (by omega), trivial⟩ (.drop 0 1 (.refl _))
    · refine callR [] (b1 _) ?_
      refine callR [] (aRSameE51 B _ (by omega)) ?_
      refine callR [] (b3 _) ?_
      refine callR [] (aRInts20 D _ (by omega)) ?_
      refine callR [] (b4 _) ?_
      refine bcond_split (fun c1 => .done ⟨rfl, rfl⟩) (fun c1 => absurd c1 (by cases C <;> decide))
  · refine callR [] (aLoopsBackNo n r l _ (by omega) h) ?_
    refine callR [] (aLoopsOfNo n r l _ (by omega) h) ?_
    refine callR [] (aLoopsDepthNo n r l _ (by omega) h) ?_
    refine callR [] (aLoopsCleanNo n r l _ (by omega) h) ?_
    refine callB [] (aRRight n l _ (by omega)) (fun c2 => ?_) (fun c2 => ?_)
    · refine bcond_dec (fun c1 => ?_) (fun c1 => ?_)
      · have c1 : r < 0 := c1
        exact .done ⟨rfl, rfl⟩
      · have c1 : ¬ (r < 0) := c1
        refine bcond_dec (fun c2 => ?_) (fun c2 => ?_)
        · have c2 : n ≤ r := c2
          exact .done ⟨rfl, rfl⟩
        · have c2 : ¬ (n ≤ r) := c2
          exact absurd ⟨‹rightE n l = true›, by omega, by omega⟩ h
    · exact .done ⟨rfl, rfl⟩
end Go.Proofs.YtljbnigceammdaaGreatDoor
namespace Go.Proofs.YtljbnigceammdaaGreatDoor
open Go.ChangeShapes Go.WideShapes Go.ChangeAt Go.RowKit
theorem andI {a b : Bool} (ha : a = true) (hb : b = true) : (a && b) = true := by rw [ha, hb]; rfl
theorem fk2 : laidOutB Tryz.prog = true := by kernel_rfl
theorem fk3 : mapsRowed Tryz.prog = true := by kernel_rfl
theorem fk7 : (Tryz.prog.stops == []) = true := by kernel_rfl
theorem fk9 : (Tryz.prog.stopKnobs == []) = true := by kernel_rfl
theorem fk23 : (Rows.domTellsRow.plainKeys == Tryz.prog.plainKeys) = true := by kernel_rfl
theorem fk25 : Tryz.prog.stopsHeard = true := by kernel_rfl
theorem fk26 : Tryz.prog.mayEnter = true := by kernel_rfl
theorem fk27 : (Rows.domTellsRow.lifted == Tryz.prog.liftsFinal) = true := by kernel_rfl
theorem fk28 : (Tryz.prog.make == some Rows.domTellsRow.make) = true := by kernel_rfl
theorem fown : ownKnob Tryz.prog.godebug = none := by kernel_rfl
end Go.Proofs.YtljbnigceammdaaGreatDoor
