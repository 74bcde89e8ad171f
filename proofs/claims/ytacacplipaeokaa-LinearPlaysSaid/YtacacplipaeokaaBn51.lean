/-
  Ll: what the claim uses of them.
-/
import Derived.Test.YtacacplipaeokaaBn50
import Derived.Test.YtacacplipaeokaaBn38
namespace Go.Proofs.Ytacacplipaeokaa
open Go.RowKit
set_option maxRecDepth 100000
set_option maxHeartbeats 4000000
theorem runP_inv {cap : Int} {ow th : List Int} (hr : rightP cap ow th = true) (scr : List (Int × Int × Unit)) (hs : scr.length ≤ 100000) : ∃ u T c ord, PI cap (runP cap ow th scr).a u (u + 1) T c ord := by
  have hnone : ∀ x ∈ W0P ow th, x.now = none := fun x hx => by
    obtain ⟨t, _, rfl⟩ := List.mem_map.1 hx; rfl
  have h := goP_inv (cap := cap) (n := th.length + 1) scr ⟨aP0 cap ow th, List.replicate (th.length + 1) 0, List.replicate (th.length + 1) false, 0⟩ (by show 0 + scr.length < _; omega) rfl (free0 hr).todo ⟨1, [], [], PI.first hnone⟩
  obtain ⟨_, _, T, c, ord, h⟩ := h
  exact ⟨_, T, c, ord, h⟩
theorem mx_rm {cap : Int} (h1 : 1 ≤ cap) (h2 : cap ≤ 64) : mxR cap = (rm cap : Nat) := by unfold mxR rm; split <;> omega
theorem PI.ens {cap : Int} {a : PA} {u N T : Nat} {c : List Int} {ord : List (Nat × Evd)} (h : PI cap a u N T c ord) (i : Int) : 0 ≤ (opAt a.ops i).en := by
  rcases Nat.lt_or_ge i.toNat a.ops.length with hi | hi
  · have e : opAt a.ops i = a.ops[i.toNat] := by
      unfold opAt; rw [List.getD_eq_getElem?_getD, List.getElem?_eq_getElem hi]; rfl
    obtain ⟨h1, _, h3⟩ := h.time i.toNat a.ops[i.toNat] (List.getElem?_eq_getElem hi)
    rw [e]; omega
  · have e : opAt a.ops i = ⟨0, 0, 0, 0, 0, false⟩ := by
      unfold opAt; rw [List.getD_eq_getElem?_getD, List.getElem?_eq_none hi]; rfl
    rw [e]; exact Int.le_refl _
theorem linearPlays_walk (room : Int) (ow th : List Int) (scr : List (Int × Int × Unit)) : ACalls Try.prog 6 [.int .i64 room, .fsl (.int .i64) ow, .fsl (.int .i64) th, .fsl pickSh scr] [] (fun r _ => r = .bool true) := by
  refine okF Try.func6 (by kernel_rfl) ?_
  refine callR [] (aAwake29 _) ?_
  refine bcond_dec (fun c1 => ?_) (fun c1 => ?_)
  · exact .done rfl
  · have c1 : ¬ 5 < (ow.length : Int) := c1
    refine bcond_dec (fun c2 => ?_) (fun c2 => ?_)
    · exact .done rfl
    · have c2 : ¬ 3 < (th.length : Int) := c2
      refine bcond_dec (fun c3 => ?_) (fun c3 => ?_)
      · exact .done rfl
      · have c3 : ¬ 150 < (scr.length : Int) := c3
        have hQ := fun τ => aRRightP room ow th τ
        cases hr : rightP room ow th with
        | false =>
          rw [hr] at hQ
          refine callR [] (hQ _) ?_
          exact .done rfl
        | true =>
          rw [hr] at hQ
          obtain ⟨u, T, c, ord, hP⟩ := runP_inv hr scr (by omega)
          have hrm := mx_rm (rightP_get hr).1 (rightP_get hr).2.1
          have hfit := hP.fits
          rw [← hrm] at hfit
          refine callR [] (hQ _) ?_
          refine callR [] (aRunP room ow th scr _ (by omega) hr) ?_
          have hends := hP.ends
          have hens := hP.ens
          refine bcond_dec (fun c1 => ?_) (fun c1 => ?_)
          · have c1 : 9 < (↑(List.map opT (runP room ow th scr).a.ops).length : Int) := c1
            exact .done rfl
          · have c1 : ¬ (9 < (↑(List.map opT (runP room ow th scr).a.ops).length : Int)) := c1
            rw [List.length_map] at c1
            refine .mk [] _ (aLinFind _ room (by omega) hends _) ?_
            rintro _ _ ⟨out, is, rfl, rfl, h1, h2⟩
            have his : is = true := h2 ⟨_, hfit⟩
            subst his
            have hf := h1 rfl
            have hlen := nodup_leF (runP room ow th scr).a.ops.length out hf.nodup hf.inn
            have hF := fun τ => aRFits29 (runP room ow th scr).a.ops room out τ hf hens (by omega) (by omega)
            refine callR [] (hF _) ?_
            exact .done rfl
end Go.Proofs.Ytacacplipaeokaa
