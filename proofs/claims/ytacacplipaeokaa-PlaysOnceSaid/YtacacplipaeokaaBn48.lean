/-
  Qs: what the claim uses of them.
-/
import Derived.Test.YtacacplipaeokaaBn43
namespace Go.Proofs.Ytacacplipaeokaa
open Go.RowKit
set_option maxRecDepth 100000
set_option maxHeartbeats 4000000
theorem frz_aggP {b off len es : Nat} {e : Sh} {l : List e.T} {xs ys : List AV} (h : FrzRel b off len es e l (.tup xs) (.tup ys)) (hl : ys.all AV.leaf = true) : FrzRel b off len es e l (.agg xs) (.agg ys) := by
  cases h with
  | refl => exact .refl _
  | tup _ _ h1 h2 => exact .agg _ _ h1 (fun i y hy => List.all_eq_true.1 hl y (List.mem_of_getElem? hy)) h2
def few28 (ow th : List Int) (scr : List (Int × Int × Unit)) : Bool := decide ((ow.length : Int) ≤ 300) && (decide ((th.length : Int) ≤ 70) && decide ((scr.length : Int) ≤ 150))
theorem few28_t {ow th : List Int} {scr : List (Int × Int × Unit)} (h1 : (ow.length : Int) ≤ 300) (h2 : (th.length : Int) ≤ 70) (h3 : (scr.length : Int) ≤ 150) : few28 ow th scr = true := by simp [few28, h1, h2, h3]
theorem few28_f {ow th : List Int} {scr : List (Int × Int × Unit)} (h : ¬ ((ow.length : Int) ≤ 300 ∧ (th.length : Int) ≤ 70 ∧ (scr.length : Int) ≤ 150)) : few28 ow th scr = false := by
  cases hb : few28 ow th scr with
  | false => rfl
  | true => exact absurd (by simpa [few28] using hb) h
abbrev playV (room : Int) (ow th : List Int) (scr : List (Int × Int × Unit)) : AV := .agg [.int .i64 room, .fsl (.int .i64) ow, .fsl (.int .i64) th, .fsl pickSh scr]
theorem aPlay28 (room : Int) (ow th : List Int) (scr : List (Int × Int × Unit)) (σ : Hp) : ACalls Try.prog 17 [.int .i64 room, .fsl (.int .i64) ow, .fsl (.int .i64) th, .fsl pickSh scr] σ (Ret (.tup [playV room ow th scr, .bool (few28 ow th scr)]) σ) := by
  refine okF Try.func17 (by kernel_rfl) ?_
  intro bl1
  refine bcond_dec (fun c2 => ?_) (fun c2 => ?_)
  · have c2 : (↑ow.length : Int) ≤ 300 := c2
    refine bcond_dec (fun c3 => ?_) (fun c3 => ?_)
    · have c3 : (↑th.length : Int) ≤ 70 := c3
      refine bcond_dec (fun c4 => ?_) (fun c4 => ?_)
      · have c4 : (↑scr.length : Int) ≤ 150 := c4
        refine StoreAt.mk 0 _ _ rfl rfl ?_
        refine LoadAt.mk 0 _ _ rfl rfl ?_
        exact .drop 0 1 (.done ⟨congrArg (fun b => AV.tup [playV room ow th scr, .bool b]) (few28_t (by assumption) (by assumption) (by assumption)).symm, rfl⟩)
      · have c4 : ¬ ((↑scr.length : Int) ≤ 150) := c4
        refine StoreAt.mk 0 _ _ rfl rfl ?_
        refine LoadAt.mk 0 _ _ rfl rfl ?_
        exact .drop 0 1 (.done ⟨congrArg (fun b => AV.tup [playV room ow th scr, .bool b]) (few28_f (by omega)).symm, rfl⟩)
    · have c3 : ¬ ((↑th.length : Int) ≤ 70) := c3
      refine StoreAt.mk 0 _ _ rfl rfl ?_
      refine LoadAt.mk 0 _ _ rfl rfl ?_
      exact .drop 0 1 (.done ⟨congrArg (fun b => AV.tup [playV room ow th scr, .bool b]) (few28_f (by omega)).symm, rfl⟩)
  · have c2 : ¬ ((↑ow.length : Int) ≤ 300) := c2
    refine StoreAt.mk 0 _ _ rfl rfl ?_
    refine LoadAt.mk 0 _ _ rfl rfl ?_
    exact .drop 0 1 (.done ⟨congrArg (fun b => AV.tup [playV room ow th scr, .bool b]) (few28_f (by omega)).symm, rfl⟩)
def scr28 : List (Int × Int × Unit) := List.replicate 10 (0, 0, ())
def opG (o : OpR) : Int × Int × Int × Int × Int × Bool := (o.who, o.kind, o.n, o.bg, o.en, o.ok)
def opH (x : Int × Int × Int × Int × Int × Bool) : opSh.T := (x.1, x.2.1, x.2.2.1, x.2.2.2.1, x.2.2.2.2.1, x.2.2.2.2.2, ())
def awO (n : Nat) : Int × Int × Int × Int × Int × Bool := if n = 0 then (0, 1, 5, 1, 4, true) else (0, 2, 5, 5, 10, true)
theorem aw28_g : (runP 2 [5, 0] [] scr28).a.ops.map opG = [awO 0, awO 1] := by decide +kernel
theorem aw28_ops : (runP 2 [5, 0] [] scr28).a.ops.map opT = [opH (awO 0), opH (awO 1)] := by
  have h := congrArg (List.map opH) aw28_g
  rw [List.map_map] at h
  exact h
theorem aw28_left : listD 0 2 (runP 2 [5, 0] [] scr28).a.ws = [] := by decide +kernel
theorem aAwake28 (σ : Hp) : ACalls Try.prog 16 [] σ (Ret (.bool true) σ) := by
  have hR := fun τ => aRunP 2 [5, 0] [] scr28 τ (by decide) (by decide)
  rw [aw28_ops, aw28_left] at hR
  refine okF Try.func16 (by kernel_rfl) ?_
  intro bl1
  refine With.mk (by decide) ?_
  intro bl2
  refine .frz (args' := [.agg [.int .i64 2, .fsl (.int .i64) ([5, 0] : List Int), .fsl (.int .i64) ([] : List Int), .mref bl2 0 10 2]]) 1 bl1 0 2 1 _ (.int .i64) ([5, 0] : List Int) rfl rfl ⟨rfl, rfl, by decide⟩ (frz_cons (frz_aggP (frz_cons (.refl _) (frz_cons .here (frz_cons (.nil (.int .i64)) (.refl _)))) rfl) (.refl _)) ?_
  refine .frz (args' := [playV 2 [5, 0] [] scr28]) 0 bl2 0 10 2 _ pickSh scr28 rfl rfl ⟨rfl, rfl, by decide⟩ (frz_cons (frz_aggP (frz_cons (.refl _) (frz_cons (.refl _) (frz_cons (.refl _) (frz_cons .here (.refl _))))) rfl) (.refl _)) ?_
  refine callR [] (hR _) ?_
  refine With.mk rfl ?_
  refine IdxF.mk (opH (awO 1)) (by decide) rfl ?_
  refine With.mk rfl ?_
  refine IdxF.mk (opH (awO 1)) (by decide) rfl ?_
  refine With.mk rfl ?_
  refine IdxF.mk (opH (awO 1)) (by decide) rfl ?_
  exact .done ⟨rfl, rfl⟩
theorem goP_free {cap : Int} {n : Nat} : ∀ (scr : List (Int × Int × Unit)) (x : SSt PA), FreeA n x.a → FreeA n (goP cap n scr x).a
  | [], _, h => h
  | p :: ps, x, h => by
    unfold goP goS
    split
    · exact h
    · refine goP_free ps _ ?_
      unfold pickS
      split
      · exact ⟨h.len, h.nn, h.ok, h.big, h.one, h.todo⟩
      · have h2 := h.step cap (whoS p.1 n)
        exact ⟨h2.len, h2.nn, h2.ok, h2.big, h2.one, h2.todo⟩
theorem runP_free {cap : Int} {ow th : List Int} (hr : rightP cap ow th = true) (scr : List (Int × Int × Unit)) : FreeA (th.length + 1) (runP cap ow th scr).a := goP_free scr _ (free0 hr)
end Go.Proofs.Ytacacplipaeokaa
