/-
  Qt: what the claim uses of them.
-/
import Derived.Test.YtacacplipaeokaaBn29
import Derived.Test.YtacacplipaeokaaBn26
namespace Go.Proofs.Ytacacplipaeokaa
open Go.RowKit
set_option maxRecDepth 100000
set_option maxHeartbeats 4000000
theorem listD_take {cap : Int} {ws : List Int} {lo T : Nat} {c : List Int} (h : DB 0 cap ws lo T c) (hT : T + c.length ≤ 100000) : listD 0 cap ws = c.take (c.length - lo) := by
  have h1 := h.t1
  have h2 := h.fits
  have e0 : mLoad ws 0 = (T : Int) := (pd_ld ws 0).trans h.top
  have e1 : mLoad ws (botD 0) = ((T + c.length - lo : Nat) : Int) := (pd_ld ws 1).trans h.bot
  have e : lenD 0 cap ws = c.length - lo := by
    unfold lenD
    rw [e1, e0, wr_small (by omega), wr_small (by omega)]
    omega
  unfold listD
  rw [e]
  have hD : takeD 0 cap ws (c.length - lo) = (List.range (c.length - lo)).map fun i => mLoad ws (placeD 0 cap (wu (wr (mLoad ws 0) + (i : Nat)))) := rfl
  rw [hD]
  refine List.ext_getElem (by simp) fun i hi1 hi2 => ?_
  have hi : i < c.length := by rw [List.length_take] at hi2; omega
  rw [List.getElem_map, List.getElem_range, e0, wr_small (by omega), show ((T : Int) + (i : Nat)) = ((T + i : Nat) : Int) by omega, wu_small (by omega), place_at (by omega), List.getElem_take]
  have hv := h.vals i hi
  rw [Nat.zero_add] at hv
  exact (pd_ld ws (2 + (T + i) % rm cap)).trans hv
theorem getM_putW : ∀ (l : List (Int × Int)) (n x z : Int), getM (putM l n x) z = if z = n then some x else getM l z
  | [], n, x, z => by
    by_cases h : z = n
    · subst h; simp [putM, getM]
    · simp [putM, getM, h, Ne.symm h]
  | p :: l, n, x, z => by
    by_cases hp : p.1 = n
    · by_cases h : z = n
      · subst h; simp [putM, getM, hp]
      · have : ¬ n = z := fun e => h e.symm
        simp [putM, getM, hp, h, this]
    · by_cases hz : p.1 = z
      · have : ¬ z = n := fun e => hp (hz.trans e)
        simp [putM, getM, hz, this]
      · simp [putM, getM, hp, hz, getM_putW l n x z]
theorem putM_keys : ∀ (l : List (Int × Int)) (n x z : Int), z ∈ (putM l n x).map Prod.fst → z = n ∨ z ∈ l.map Prod.fst
  | [], n, x, z, h => .inl (by simpa [putM] using h)
  | p :: l, n, x, z, h => by
    by_cases hp : p.1 = n
    · simp only [putM, if_pos hp, List.map_cons] at h
      rcases List.mem_cons.1 h with h | h
      · exact .inl h
      · exact .inr (List.mem_cons_of_mem _ h)
    · simp only [putM, if_neg hp, List.map_cons] at h
      rcases List.mem_cons.1 h with h | h
      · exact .inr (by rw [h]; exact List.mem_cons_self ..)
      · rcases putM_keys l n x z h with h | h
        · exact .inl h
        · exact .inr (List.mem_cons_of_mem _ h)
theorem putM_nodup : ∀ (l : List (Int × Int)) (n x : Int), (l.map Prod.fst).Nodup → ((putM l n x).map Prod.fst).Nodup
  | [], n, x, _ => by simp [putM]
  | p :: l, n, x, h => by
    have h := List.nodup_cons.1 h
    by_cases hp : p.1 = n
    · simp only [putM, if_pos hp, List.map_cons]
      exact List.nodup_cons.2 ⟨hp ▸ h.1, h.2⟩
    · simp only [putM, if_neg hp, List.map_cons]
      refine List.nodup_cons.2 ⟨fun hm => ?_, putM_nodup l n x h.2⟩
      rcases putM_keys l n x _ hm with e | e
      · exact hp e
      · exact h.1 e
theorem getM_at : ∀ {l : List (Int × Int)} {i : Nat} {p : Int × Int}, (l.map Prod.fst).Nodup → l[i]? = some p → getM l p.1 = some p.2
  | q :: l, 0, p, _, h => by
    have h : q = p := by simpa using h
    subst h; simp [getM]
  | q :: l, i + 1, p, hn, h => by
    have hn := List.nodup_cons.1 hn
    have h : l[i]? = some p := h
    have hne : ¬ q.1 = p.1 := fun e => hn.1 (e ▸ List.mem_map.2 ⟨p, List.mem_of_getElem? h, rfl⟩)
    simp only [getM, if_neg hne]
    exact getM_at hn.2 h
/-- A map that tells f. -/
structure WM (m : List (Int × Int)) (f : Int → Int) : Prop where
  keys : (m.map Prod.fst).Nodup
  val : ∀ n, (getM m n).getD 0 = f n
theorem WM.none : WM [] fun _ => 0 := ⟨List.nodup_nil, fun _ => rfl⟩
theorem WM.put {m : List (Int × Int)} {f g : Int → Int} (h : WM m f) {n x : Int} (hg : ∀ z, g z = if z = n then x else f z) : WM (putM m n x) g := by
  refine ⟨putM_nodup _ _ _ h.keys, fun z => ?_⟩
  rw [getM_putW, hg]
  by_cases hz : z = n
  · rw [if_pos hz, if_pos hz]; rfl
  · rw [if_neg hz, if_neg hz]; exact h.val z
theorem WM.congr {m : List (Int × Int)} {f g : Int → Int} (h : WM m f) (e : ∀ z, g z = f z) : WM m g := ⟨h.keys, fun n => (h.val n).trans (e n).symm⟩
theorem WM.at_ {m : List (Int × Int)} {f : Int → Int} (h : WM m f) {i : Nat} {p : Int × Int} (hi : m[i]? = some p) : p.2 = f p.1 := by
  have := h.val p.1
  rw [getM_at h.keys hi] at this
  exact this
theorem count_snoc (l : List Int) (x z : Int) : ((l ++ [x]).count z : Int) = (l.count z : Int) + if z = x then 1 else 0 := by
  rw [List.count_append, List.count_singleton]
  by_cases h : z = x
  · subst h; simp
  · have h2 : ¬ x = z := fun e => h e.symm
    simp [h, h2]
def balF (L : List OpR) (n : Int) : Int := ((L.filterMap sureF).count n : Int) - ((L.filterMap takenF).count n : Int)
theorem fm_snoc {α β : Type} (f : α → Option β) (L : List α) (o : α) : (L ++ [o]).filterMap f = L.filterMap f ++ (match f o with | some x => [x] | none => []) := by
  rw [List.filterMap_append]
  cases h : f o <;> simp [h]
theorem balF_snoc (L : List OpR) (o : OpR) (n : Int) : balF (L ++ [o]) n = if o.en ≠ 0 ∧ o.ok = true ∧ n = o.n then (if o.kind = 1 then balF L n + 1 else balF L n - 1) else balF L n := by
  unfold balF
  rw [fm_snoc, fm_snoc]
  unfold sureF takenF
  have hsym : (o.n = n) ↔ (n = o.n) := ⟨Eq.symm, Eq.symm⟩
  by_cases h1 : o.kind = 1 <;> by_cases h2 : o.en = 0 <;> cases o.ok <;> by_cases h4 : n = o.n <;> simp [h1, h2, h4, hsym] <;> omega
theorem fm_len_le {α β : Type} (f : α → Option β) (L : List α) : (L.filterMap f).length ≤ L.length := List.length_filterMap_le f L
theorem balF_small (L : List OpR) (n : Int) : -(L.length : Int) ≤ balF L n ∧ balF L n ≤ L.length := by
  unfold balF
  have h1 := List.count_le_length (a := n) (l := L.filterMap sureF)
  have h2 := List.count_le_length (a := n) (l := L.filterMap takenF)
  have h3 := fm_len_le sureF L
  have h4 := fm_len_le takenF L
  omega
/-- Distinct numbers are no more often in a list than it is long. -/
theorem sum_count : ∀ (ks rest : List Int), ks.Nodup → (ks.map fun k => rest.count k).sum ≤ rest.length
  | [], rest, _ => by simp
  | k :: ks, rest, h => by
    have h := List.nodup_cons.1 h
    have ih := sum_count ks (rest.filter fun z => decide (z ≠ k)) h.2
    have e : (ks.map fun z => (rest.filter fun z => decide (z ≠ k)).count z) = ks.map fun z => rest.count z := by
      refine List.map_congr_left fun z hz => ?_
      have hne : z ≠ k := fun e => h.1 (e ▸ hz)
      rw [List.count_filter (by simpa using hne)]
    rw [e] at ih
    have hl : rest.count k + (rest.filter fun z => decide (z ≠ k)).length = rest.length := by
      have := List.length_eq_countP_add_countP (p := fun z => z == k) (l := rest)
      rw [List.count, this, ← List.countP_eq_length_filter]
      congr 1
      refine List.countP_congr fun z _ => ?_
      by_cases hz : z = k <;> simp [hz]
    rw [List.map_cons, List.sum_cons]
    omega
def keyA (l : List (Int × Int)) (i : Nat) : Int := (l.getD i (0, 0)).1
theorem keyA_at {l : List (Int × Int)} {i : Nat} {p : Int × Int} (h : l[i]? = some p) : keyA l i = p.1 := by
  unfold keyA; rw [List.getD_eq_getElem?_getD, h]; rfl
theorem seen_sum {l : List (Int × Int)} (rest : List Int) {seen : List Nat} (hl : (l.map Prod.fst).Nodup) (hs : seen.Nodup) (hi : ∀ i ∈ seen, i < l.length) : (seen.map fun i => rest.count (keyA l i)).sum ≤ rest.length := by
  have h := sum_count (seen.map (keyA l)) rest ?_
  · rw [List.map_map] at h; exact h
  · refine List.pairwise_map.2 (List.Pairwise.imp_of_mem (fun {i j} hi' hj' hne e => ?_) hs)
    have h1 := List.getElem?_eq_getElem (hi i hi')
    have h2 := List.getElem?_eq_getElem (hi j hj')
    have k1 : (l.map Prod.fst)[i]? = some (keyA l i) := by rw [List.getElem?_map, h1, keyA_at h1]; rfl
    have k2 : (l.map Prod.fst)[j]? = some (keyA l j) := by rw [List.getElem?_map, h2, keyA_at h2]; rfl
    have hb : i < (l.map Prod.fst).length := by rw [List.length_map]; exact hi i hi'
    exact hne ((List.getElem?_inj (i := i) (j := j) hb hl).1 (k1.trans ((congrArg some e).trans k2.symm)))
theorem nodup_leN : ∀ (n : Nat) (l : List Nat), l.Nodup → (∀ z ∈ l, z < n) → l.length ≤ n
  | 0, l, _, h => by
    cases l with
    | nil => exact Nat.le_refl _
    | cons z l => have := h z (List.mem_cons_self ..); omega
  | n + 1, l, hn, h => by
    have h1 := nodup_leN n (l.erase n) (hn.erase _) (fun z hz => by
      rw [hn.mem_erase_iff] at hz
      have := h z hz.2
      have := hz.1
      omega)
    have h2 := List.length_erase (a := n) (l := l)
    split at h2 <;> omega
theorem nodup_snocN {l : List Nat} {i : Nat} (h : l.Nodup) (hi : i ∉ l) : (l ++ [i]).Nodup := by
  refine List.nodup_append.2 ⟨h, by simp, fun a ha b hb e => ?_⟩
  rw [List.mem_singleton.1 hb] at e
  exact hi (e ▸ ha)
/-- What is told of ops, and what is left: what was pushed is taken once, or is left, or is under way. -/
structure WholeP (ops : List OpR) (left : List Int) (rest : List Int) : Prop where
  perm : (ops.filterMap sureF).Perm (ops.filterMap takenF ++ (left.map wr ++ rest))
  pops : rest.length ≤ popsF ops
theorem WholeP.count {ops : List OpR} {left rest : List Int} (h : WholeP ops left rest) (n : Int) : balF ops n - ((left.map wr).count n : Int) = (rest.count n : Int) := by
  have := h.perm.count_eq n
  rw [List.count_append, List.count_append] at this
  unfold balF
  omega
theorem WholeP.all {ops : List OpR} {left rest : List Int} (h : WholeP ops left rest) (he : ∀ o ∈ ops, o.en ≠ 0) : (ops.filterMap sureF).length = (ops.filterMap takenF).length + left.length := by
  have h1 := h.perm.length_eq
  have h0 : popsF ops = 0 := by
    unfold popsF
    rw [List.countP_eq_zero]
    intro o ho hd
    exact he o ho (of_decide_eq_true hd).2
  have h2 := h.pops
  rw [List.length_append, List.length_append, List.length_map] at h1
  omega
end Go.Proofs.Ytacacplipaeokaa
