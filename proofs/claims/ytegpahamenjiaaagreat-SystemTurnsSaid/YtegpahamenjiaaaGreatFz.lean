/-
  A list that was made by append is handed on as a list for good.
-/
import Derived.Test.YtegpahamenjiaaaGreatTh
namespace Go.Proofs.YtegpahamenjiaaaGreat
open Go.RowKit
theorem erase_mid {α : Type} (fr σ : List α) (x : α) : (fr ++ (x :: σ)).eraseIdx fr.length = fr ++ σ := by
  rw [List.eraseIdx_append_of_length_le (Nat.le_refl _), Nat.sub_self]; rfl
theorem get_mid {α : Type} (fr σ : List α) (x : α) : (fr ++ (x :: σ))[fr.length]? = some x := by
  rw [List.getElem?_append_right (Nat.le_refl _), Nat.sub_self]; rfl
theorem set_mid {α : Type} (fr σ : List α) (x y : α) : (fr ++ (x :: σ)).set fr.length y = fr ++ (y :: σ) := by
  rw [List.set_append_right _ _ (Nat.le_refl _), Nat.sub_self]; rfl
/-- Such a list among what a call is handed. -/
theorem call_acc {e : Sh} {k : Nat} {v : AV} {acc : Hp} {cs : List AV} {l : List e.T} {f : FuncId} {K : AV → Hp → Prop} (fr : Hp) {σ : Hp} {xs ys : List AV} (h : Acc e.size k v acc cs) (hl : k = l.length) (hc : cs = l.flatMap e.cells) (hp : 0 < e.size)
    (hr : ∀ {b off len es : Nat} {e' : Sh} {l' : List e'.T}, FrzRel b off len es e' l' v (.fsl e l) → FrzRel b off len es e' l' (.tup xs) (.tup ys)) (go : CallAt Tryz.prog f K ys (fr ++ σ)) : CallAt Tryz.prog f K xs (fr ++ (acc ++ σ)) := by
  cases h with
  | nil =>
    obtain rfl := List.length_eq_zero_iff.1 hl.symm
    exact .mk [] K (acalls_nil (hr (.nil e)) (callAt_get go)) fun _ _ h => h
  | mref b k cs h =>
    refine .frz (args' := ys) fr.length b 0 k e.size cs e l (get_mid fr σ _) (by rw [List.drop_zero, List.take_of_length_le (by omega)]; exact hc) ⟨hl.symm, rfl, hp⟩ (hr .here) ?_
    rw [show (fr ++ ([(b, cs)] ++ σ)).eraseIdx fr.length = fr ++ σ from erase_mid fr σ _]
    exact go
end Go.Proofs.YtegpahamenjiaaaGreat
