/-
  Amap: what the claim uses of them.
-/
import Derived.MapFrom
import Derived.Test.YtacacplipaeokaaBn3
namespace Go.Proofs.Ytacacplipaeokaa
open Go.RowKit
def posM : List (Int × Int) → Int → Nat
  | [], _ => 0
  | p :: l, n => if p.1 = n then 0 else posM l n + 1
theorem mapE_get : ∀ (l : List (Int × Int)) (m i : Nat), (mapE m l)[i]? = (l[i]?).map fun p => { key := .int .i64 p.1, val := .int .i64 p.2, born := m + i }
  | [], _, _ => by simp [mapE]
  | p :: l, m, 0 => by simp [mapE]
  | p :: l, m, i + 1 => by
    simp only [mapE, List.getElem?_cons_succ]
    rw [mapE_get l (m + 1) i]
    simp [Nat.add_assoc, Nat.add_comm 1 i]
theorem findNow_mapE (n : Int) : ∀ (l : List (Int × Int)) (m i : Nat), Instr.findNow (.int .i64) (.int .i64 n) (mapE m l) i = some ((getM l n).map fun v => (i + posM l n, .int .i64 v))
  | [], _, _ => rfl
  | p :: l, m, i => by
    have ih := findNow_mapE n l (m + 1) (i + 1)
    unfold mapE Instr.findNow
    simp only [Instr.sameNow, if_true]
    by_cases h : p.1 = n
    · rw [show (n == p.1) = true by simp [h]]
      simp [getM, posM, h]
    · rw [show (n == p.1) = false by simp; exact fun e => h e.symm]
      simp only [ih, getM, posM, if_neg h]
      congr 1
      cases getM l n with
      | none => rfl
      | some v => simp [Nat.add_assoc, Nat.add_comm 1]
theorem pos_at : ∀ (l : List (Int × Int)) (n v : Int), getM l n = some v → l[posM l n]? = some (n, v) ∧ ∀ x, putM l n x = l.set (posM l n) (n, x)
  | [], _, _, h => by cases h
  | p :: l, n, v, h => by
    by_cases hp : p.1 = n
    · simp only [getM, if_pos hp, Option.some.injEq] at h
      simp only [posM, if_pos hp, putM]
      refine ⟨?_, fun x => rfl⟩
      rw [← hp, ← h]; rfl
    · simp only [getM, if_neg hp] at h
      obtain ⟨h1, h2⟩ := pos_at l n v h
      simp only [posM, if_neg hp, putM]
      exact ⟨h1, fun x => by rw [h2]; rfl⟩
theorem put_new : ∀ (l : List (Int × Int)) (n x : Int), getM l n = none → putM l n x = l ++ [(n, x)]
  | [], _, _, _ => rfl
  | p :: l, n, x, h => by
    by_cases hp : p.1 = n
    · simp only [getM, if_pos hp] at h; cases h
    · simp only [getM, if_neg hp] at h
      simp only [putM, if_neg hp, put_new l n x h]; rfl
theorem mapE_snoc : ∀ (l : List (Int × Int)) (m : Nat) (p : Int × Int), mapE m (l ++ [p]) = mapE m l ++ [{ key := .int .i64 p.1, val := .int .i64 p.2, born := m + l.length }]
  | [], _, _ => rfl
  | q :: l, m, p => by
    simp only [List.cons_append, mapE, mapE_snoc l (m + 1) p, List.length_cons]
    rw [show m + 1 + l.length = m + (l.length + 1) by omega]
theorem mapE_set : ∀ (l : List (Int × Int)) (m i : Nat) (p : Int × Int), mapE m (l.set i p) = (mapE m l).modify i fun e => { e with key := .int .i64 p.1, val := .int .i64 p.2 }
  | [], _, _, _ => by simp [mapE]
  | q :: l, m, 0, p => by simp [mapE]
  | q :: l, m, i + 1, p => by simp [mapE, mapE_set l (m + 1) i p]
section
variable {P : Program} {w : World} {t k e : TypeId} {b : Nat} {l : List (Int × Int)}
theorem run_lookupM (ht : P.underlying t = some (.map k e)) (hk : P.underlying k = some (.int .i64)) {z : Int} (hz : (zeroValue e).run P w = .ok (.int .i64 z) w) (hb : w.heap[b]? = some (.map (mapE 0 l).toArray l.length)) (n : Int) (c : Bool) :
    (Instr.lookup t (.map (some b)) (.int .i64 n) c).run P w = .ok (if c then .tuple #[.int .i64 ((getM l n).getD z), .bool (getM l n).isSome] else .int .i64 ((getM l n).getD z)) w := by
  have hf := findNow_mapE n l 0 0
  have hkey : MapKept.IsKey (.int .i64) (.int .i64 n) := by simp [MapKept.IsKey]
  cases h : getM l n with
  | none =>
    rw [h] at hf
    simp [Instr.lookup, run_underlying ht, MapKept.run_getObj_map hb, MapKept.run_checkKey hk hkey, MapKept.run_findKey hk hf, hz, Result.andThen]
  | some v =>
    rw [h] at hf
    simp [Instr.lookup, run_underlying ht, MapKept.run_getObj_map hb, MapKept.run_checkKey hk hkey, MapKept.run_findKey hk hf, Result.andThen]
theorem run_updateM (ht : P.underlying t = some (.map k e)) (hk : P.underlying k = some (.int .i64)) (hb : w.heap[b]? = some (.map (mapE 0 l).toArray l.length)) (n x : Int) :
    (Instr.mapUpdate t (.map (some b)) (.int .i64 n) (.int .i64 x)).run P w = .ok () { w with heap := w.heap.setIfInBounds b (.map (mapE 0 (putM l n x)).toArray (putM l n x).length) } := by
  have hf := findNow_mapE n l 0 0
  have hkey : MapKept.IsKey (.int .i64) (.int .i64 n) := by simp [MapKept.IsKey]
  cases h : getM l n with
  | none =>
    rw [h] at hf
    rw [put_new l n x h, mapE_snoc]
    simp [Instr.mapUpdate, run_underlying ht, MapKept.run_getObj_map hb, MapKept.run_checkKey hk hkey, MapKept.run_findKey hk hf, MapKept.run_setObj_map _ hb, Result.andThen]
  | some v =>
    rw [h] at hf
    obtain ⟨h1, h2⟩ := pos_at l n v h
    rw [h2, mapE_set]
    have hg : (mapE 0 l)[posM l n]? = some { key := .int .i64 n, val := .int .i64 v, born := 0 + posM l n } := by rw [mapE_get, h1]; rfl
    simp [Instr.mapUpdate, run_underlying ht, MapKept.run_getObj_map hb, MapKept.run_checkKey hk hkey, MapKept.run_findKey hk hf, hg, MapKept.run_keyThatStays hkey, MapKept.run_setObj_map _ hb, Result.andThen]
end
end Go.Proofs.Ytacacplipaeokaa
