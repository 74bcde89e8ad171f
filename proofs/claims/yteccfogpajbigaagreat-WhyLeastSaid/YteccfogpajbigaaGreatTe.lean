/-
  slices.Grow, Concat, Equal of codes; transfer.Then, Same; soughref16.Same, Then.
-/
import Derived.Test.YteccfogpajbigaaGreatTg
namespace Go.Proofs.YteccfogpajbigaaGreat
open Go.RowKit
set_option maxRecDepth 100000
/-- Such a list is handed back. -/
theorem fin_accO {R : AV → Hp → Prop} (fr : Hp) {acc σ : Hp} {s : Sh} {k : Nat} {v : AV} {cs : List AV} {l : List s.T} (h : AccO s.size k v acc cs) (hl : k = l.length) (hc : cs = l.flatMap s.cells) (hp : 0 < s.size) (go : Fin R (.fsl s l) (fr ++ σ)) : Fin R v (fr ++ (acc ++ σ)) := by
  subst hl
  refine .perm (front_perm' fr acc σ) ?_
  generalize hk : l.length = k at h
  cases h with
  | nil =>
    obtain rfl := List.length_eq_zero_iff.1 hk
    exact .nil (.nil _) go
  | mref b off k cs all h h2 =>
    subst hk
    exact .frz 0 b off l.length s.size all s l rfl (by rw [h]; exact hc) ⟨rfl, rfl, hp⟩ .here go
/-- What is handed back, held as a list's variable. -/
theorem acalls_via {f : FuncId} {xs : List AV} {σ : Hp} {R R' : AV → Hp → Prop} (h : ACalls Tryz.prog f xs σ R) (hv : ∀ r σ', R r σ' → r.leaf = true ∧ R' (.via r) σ') : ACalls Tryz.prog f xs σ R' :=
  ⟨h.1, fun F w vs hvs hσ => (h.2 F w vs hvs hσ).mono fun _ _ ⟨r, v, σ', F', h1, h2, h3, h4, h5⟩ => ⟨.via r, v, σ', F', h1, h2, h3, .via _ _ (hv r σ' h5).1 h4, (hv r σ' h5).2⟩⟩
theorem take_flat {α : Type} {L : List (List α)} {s : Nat} (h : s < L.length) : (L.take (s + 1)).flatten.length = (L.take s).flatten.length + L[s].length ∧ (L.take (s + 1)).flatten.length ≤ L.flatten.length ∧ (L.take (s + 1)).flatten = (L.take s).flatten ++ L[s] := by
  have e : (L.take (s + 1)).flatten = (L.take s).flatten ++ L[s] := by
    rw [List.take_succ_eq_append_getElem h, List.flatten_append]; simp
  refine ⟨by rw [e, List.length_append], ?_, e⟩
  have h2 : L.flatten = (L.take (s + 1)).flatten ++ (L.drop (s + 1)).flatten := by rw [← List.flatten_append, List.take_append_drop]
  rw [h2, List.length_append]; omega
instance instRefT : DecidableEq RefT := inferInstance
instance instCodeT : DecidableEq CodeT := inferInstance
theorem eq8 (x y : CodeT) : allB (eqAll (codeC x) (codeC y)) = decide (x = y) := by
  obtain ⟨a1, a2, ⟨a3, ⟨a4, a5, _⟩, _⟩, ⟨a6, ⟨a7, a8, _⟩, _⟩, _⟩ := x
  obtain ⟨b1, b2, ⟨b3, ⟨b4, b5, _⟩, _⟩, ⟨b6, ⟨b7, b8, _⟩, _⟩, _⟩ := y
  rw [Bool.eq_iff_iff]
  simp [allB, eqAll, leafEq, Prod.ext_iff, and_assoc]
theorem frzT3 {b off len es : Nat} {e : Sh} {l : List e.T} {x1 x2 x3 y1 y2 y3 : AV} (h1 : FrzRel b off len es e l x1 y1) (h2 : FrzRel b off len es e l x2 y2) (h3 : FrzRel b off len es e l x3 y3) (l1 : y1.leaf = true) (l2 : y2.leaf = true) (l3 : y3.leaf = true) : FrzRel b off len es e l (.agg [x1, x2, x3]) (.agg [y1, y2, y3]) := by
  refine .agg _ _ rfl (fun i y hy => ?_) (fun i x y hx hy => ?_)
  · match i, hy with
    | 0, hy => cases hy; exact l1
    | 1, hy => cases hy; exact l2
    | 2, hy => cases hy; exact l3
    | i + 3, hy => cases hy
  · match i, hx, hy with
    | 0, hx, hy => cases hx; cases hy; exact h1
    | 1, hx, hy => cases hx; cases hy; exact h2
    | 2, hx, hy => cases hx; cases hy; exact h3
    | i + 3, hx, hy => cases hx
/-- Are transfers alike? -/
def sameT (g1 k1 : List Int) (l1 : List CodeT) (g2 k2 : List Int) (l2 : List CodeT) : Bool := decide (g1 = g2) && decide (k1 = k2) && decide (l1 = l2)
/-- What is wrong with two transfers. -/
def thE (what w : Int) (g1 k1 : List Int) (l1 : List CodeT) (g2 k2 : List Int) (l2 : List CodeT) : Int := if checkT what w g1 k1 l1 = 0 then checkT what w g2 k2 l2 else checkT what w g1 k1 l1
def okC (e : Int) (l : List CodeT) : List CodeT := if e = 0 then l else []
theorem thE_1 {what w : Int} {g1 k1 g2 k2 : List Int} {l1 l2 : List CodeT} (h : ¬ checkT what w g1 k1 l1 = 0) : thE what w g1 k1 l1 g2 k2 l2 = checkT what w g1 k1 l1 := if_neg h
theorem thE_2 {what w : Int} {g1 k1 g2 k2 : List Int} {l1 l2 : List CodeT} (h : checkT what w g1 k1 l1 = 0) : thE what w g1 k1 l1 g2 k2 l2 = checkT what w g2 k2 l2 := if_pos h
/-- What Then tells. -/
def thV (e : Int) (g k : List Int) (l : List CodeT) : AV := .tup [.agg (trC (okL e g) (okL e k) (okC e l)), .int .i64 e]
theorem thV_bad {e e' : Int} (g k : List Int) (l : List CodeT) (h : e = e') (hn : ¬ e' = 0) : AV.tup [.agg (trC [] [] []), .int .i64 e'] = thV e g k l := by
  subst h; unfold thV okC; rw [okL_neg hn, okL_neg hn, if_neg hn]
theorem thV_ok {e : Int} {g k g' k' : List Int} {l l' : List CodeT} (h : e = 0) (hg : g = g') (hk : k = k') (hl : l = l') : AV.tup [.agg (trC g k l), .int .i64 0] = thV e g' k' l' := by
  subst h hg hk hl; rfl
end Go.Proofs.YteccfogpajbigaaGreat
