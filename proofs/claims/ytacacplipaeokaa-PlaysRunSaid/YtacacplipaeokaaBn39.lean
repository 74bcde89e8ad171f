/-
  SchR: what the claim uses of them.
-/
import Derived.Test.YtacacplipaeokaaBn38
import Derived.Test.YtacacplipaeokaaBn35
namespace Go.Proofs.Ytacacplipaeokaa
open Go.RowKit
set_option maxRecDepth 100000
set_option maxHeartbeats 4000000
abbrev pickSh : Sh := .field (.int .i64) (.field (.int .i64) .nil)
theorem goS_skip {A : Type} {step : A → Nat → Int → A × Bool} {tell : A → Nat → A} {n : Nat} {scr : List (Int × Int × Unit)} {a : A} {st : List Int} {dn : List Bool} {us i : Nat} {pw pd : Int} {pu : Unit} (hall : dn.all id = false) (hul : us < scr.length) (hpk : (pw, pd, pu) = scr[us]) (hi : i = whoS pw n) (hin : i < dn.length) (hd : dn[i] = true) :
    goS step tell n (scr.drop us) ⟨a, st, dn, us⟩ = goS step tell n (scr.drop (us + 1)) ⟨tell a (us + 1), st, dn, us + 1⟩ := by
  rw [List.drop_eq_getElem_cons hul, ← hpk, goS_next _ _ hall]
  unfold pickS
  dsimp only
  rw [← hi, if_pos (getD_at hin hd)]
theorem goS_step {A : Type} {step : A → Nat → Int → A × Bool} {tell : A → Nat → A} {n : Nat} {scr : List (Int × Int × Unit)} {a : A} {st : List Int} {dn : List Bool} {us i : Nat} {pw pd : Int} {pu : Unit} (hall : dn.all id = false) (hul : us < scr.length) (hpk : (pw, pd, pu) = scr[us]) (hi : i = whoS pw n) (hin : i < dn.length) (hd : dn[i] = false) :
    goS step tell n (scr.drop us) ⟨a, st, dn, us⟩ = goS step tell n (scr.drop (us + 1)) ⟨tell (step a i pd).1 (us + 1), st.set i (wr (st.getD i 0 + 1)), dn.set i (step a i pd).2, us + 1⟩ := by
  rw [List.drop_eq_getElem_cons hul, ← hpk, goS_next _ _ hall]
  unfold pickS
  dsimp only
  rw [← hi, if_neg (by rw [getD_at hin hd]; decide)]
theorem p_get {rs : List Nat} {i : Nat} (h : i < rs.length) : (rs.map fun r => AV.ptr r 0)[0 + ((i : Int)).toNat * 1]? = some (.ptr rs[i] 0) := by
  rw [show 0 + ((i : Int)).toNat * 1 = i by omega]
  simp [h]
end Go.Proofs.Ytacacplipaeokaa
