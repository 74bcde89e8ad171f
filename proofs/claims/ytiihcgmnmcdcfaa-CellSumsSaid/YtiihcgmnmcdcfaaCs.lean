/-
  CellSums, plain: Joins by whatever order of Steps.
-/
import Derived.Test.YtiihcgmnmcdcfaaSemi
import Derived.Test.YtiihcgmnmcdcfaaTi
namespace Go.Proofs.Ytiihcgmnmcdcfaa
open Go.RowKit
/-- What is so of a Join among others: n words, a at first, b joined, ws now. -/
structure JOk (what : Int) (n : Nat) (a b ws : List Int) (j : Jn) : Prop where
  hb : j.base = 0
  hw : j.what = what
  hn : j.words = n
  ha : j.a = b
  le : j.at_ ≤ n
  done : ∀ i, i < j.at_ → lle what (wd b i) (wd ws i)
  en : j.ended = true → j.at_ = n
  ld : j.loaded = true → j.at_ < n ∧ LD what j.x ∧ lle what j.x (wd ws j.at_) ∧ wordW what j.x (wd b j.at_) ≠ j.x
  ch : j.changed = true → ∃ i, i < n ∧ wd ws i ≠ wd a i
/-- What is so of the cell, and all Joins. -/
structure CSums (what : Int) (a : List Int) (l : List (List Int)) (L : List Jn) (ws : List Int) : Prop where
  hl : L.length = l.length
  hn : ws.length = a.length
  dom : ∀ i, LD what (wd ws i)
  lo : ∀ i, lle what (wd a i) (wd ws i)
  hi : ∀ i, i < a.length → lle what (wd ws i) (wd (sumL what a l) i)
  each : ∀ (i : Nat) (h : i < L.length) (h2 : i < l.length), JOk what a.length a l[i] ws L[i]
theorem LD0 (what : Int) : LD what 0 := ⟨⟨Int.le_refl _, by decide⟩, fun _ => norm0⟩
theorem wd_set (ws : List Int) (t i : Nat) (x : Int) : wd (ws.set t x) i = if t = i ∧ i < ws.length then x else wd ws i := by
  unfold wd
  rw [List.getElem?_set]
  by_cases h : t = i
  · subst h
    by_cases h2 : t < ws.length <;> simp [h2]
  · simp [h]
/-- More is known. -/
theorem JOk.rise {what : Int} {n : Nat} {a b ws ws' : List Int} {j : Jn} (hw : isL what) (h : JOk what n a b ws j) (hb : ∀ i, LD what (wd b i)) (ha : ∀ i, LD what (wd a i)) (d1 : ∀ i, LD what (wd ws i)) (d2 : ∀ i, LD what (wd ws' i)) (lo : ∀ i, lle what (wd a i) (wd ws i)) (up : ∀ i, lle what (wd ws i) (wd ws' i)) : JOk what n a b ws' j := by
  obtain ⟨h1, h2, h3, h4, h5, h6, h7, h8, h9⟩ := h
  refine ⟨h1, h2, h3, h4, h5, fun i hi => lle_trans hw (hb i) (d1 i) (d2 i) (h6 i hi) (up i), h7, fun hl => ?_, fun hc => ?_⟩
  · obtain ⟨g1, g2, g3, g4⟩ := h8 hl
    exact ⟨g1, g2, lle_trans hw g2 (d1 _) (d2 _) g3 (up _), g4⟩
  · obtain ⟨i, g1, g2⟩ := h9 hc
    refine ⟨i, g1, fun he => g2 ?_⟩
    refine (lle_anti hw (ha i) (d1 i) (lo i) ?_).symm
    rw [← he]
    exact up i
theorem sum_hi {what : Int} (hw : isL what) : ∀ (l : List (List Int)) (a : List Int), (∀ i, LD what (wd a i)) → (∀ x ∈ l, ∀ i, LD what (wd x i)) → (∀ i, LD what (wd (sumL what a l) i)) ∧ (∀ i, i < a.length → lle what (wd a i) (wd (sumL what a l) i) ∧ ∀ x ∈ l, lle what (wd x i) (wd (sumL what a l) i))
  | [], a, ha, _ => ⟨ha, fun i _ => ⟨lle_refl hw (ha i), fun x h => by cases h⟩⟩
  | x :: l, a, ha, hl => by
    have hx := hl x (.head _)
    have hj : ∀ i, wd (joinL what a x) i = if i < a.length then wordW what (wd a i) (wd x i) else 0 := by
      intro i
      unfold joinL wd
      rw [List.getElem?_mapIdx]
      by_cases h : i < a.length
      · simp [h]
      · simp [h]
    have hjd : ∀ i, LD what (wd (joinL what a x) i) := by
      intro i
      rw [hj]
      split
      · exact lw_dom (ha i) (hx i)
      · exact LD0 what
    obtain ⟨h1, h2⟩ := sum_hi hw l (joinL what a x) hjd (fun y hy => hl y (.tail _ hy))
    refine ⟨h1, fun i hi => ?_⟩
    obtain ⟨g1, g2⟩ := h2 i (by rw [joinL_length]; exact hi)
    have hs := h1 i
    show lle what (wd a i) (wd (sumL what (joinL what a x) l) i) ∧ ∀ y ∈ x :: l, lle what (wd y i) (wd (sumL what (joinL what a x) l) i)
    have e : wd (joinL what a x) i = wordW what (wd a i) (wd x i) := by rw [hj, if_pos hi]
    rw [e] at g1
    have hd := lw_dom (ha i) (hx i)
    refine ⟨lle_trans hw (ha i) hd hs (lle_left hw (ha i) (hx i)) g1, fun y hy => ?_⟩
    rcases List.mem_cons.1 hy with rfl | hy
    · exact lle_trans hw (hx i) hd hs (lle_right hw (ha i) (hx i)) g1
    · exact g2 y hy
/-- What is put together is the least. -/
theorem sum_le {what : Int} (hw : isL what) : ∀ (l : List (List Int)) (a ws : List Int), (∀ i, LD what (wd a i)) → (∀ x ∈ l, ∀ i, LD what (wd x i)) → (∀ i, LD what (wd ws i)) → ∀ i, i < a.length → lle what (wd a i) (wd ws i) → (∀ x ∈ l, lle what (wd x i) (wd ws i)) → lle what (wd (sumL what a l) i) (wd ws i)
  | [], _, _, _, _, _, _, _, h, _ => h
  | x :: l, a, ws, ha, hl, hws, i, hi, h1, h2 => by
    have hx := hl x (.head _)
    have hj : ∀ i, wd (joinL what a x) i = if i < a.length then wordW what (wd a i) (wd x i) else 0 := by
      intro i
      unfold joinL wd
      rw [List.getElem?_mapIdx]
      by_cases h : i < a.length
      · simp [h]
      · simp [h]
    have hjd : ∀ i, LD what (wd (joinL what a x) i) := by
      intro i
      rw [hj]
      split
      · exact lw_dom (ha i) (hx i)
      · exact LD0 what
    refine sum_le hw l (joinL what a x) ws hjd (fun y hy => hl y (.tail _ hy)) hws i (by rw [joinL_length]; exact hi) ?_ (fun y hy => h2 y (.tail _ hy))
    rw [hj, if_pos hi]
    exact lle_join hw (ha i) (hx i) (hws i) h1 (h2 x (.head _))
theorem cs_set {what : Int} {a : List Int} {l : List (List Int)} {L : List Jn} {ws : List Int} (hw : isL what) (h : CSums what a l L ws) (ha : ∀ i, LD what (wd a i)) (hb : ∀ x ∈ l, ∀ i, LD what (wd x i)) {i : Nat} (h2 : i < l.length) {j' : Jn} {ws' : List Int} (e1 : ws'.length = ws.length) (e2 : ∀ i, LD what (wd ws' i)) (e3 : ∀ i, lle what (wd ws i) (wd ws' i)) (e4 : ∀ i, i < a.length → lle what (wd ws' i) (wd (sumL what a l) i)) (e5 : JOk what a.length a l[i] ws' j') : CSums what a l (L.set i j') ws' := by
  obtain ⟨h3, h4, h5, h6, h7, h8⟩ := h
  refine ⟨(List.length_set ..).trans h3, e1.trans h4, e2, fun k => lle_trans hw (ha k) (h5 k) (e2 k) (h6 k) (e3 k), e4, fun k hk hk2 => ?_⟩
  rw [List.getElem_set]
  split
  · rename_i he
    subst he
    exact e5
  · exact (h8 k (by rw [List.length_set] at hk; exact hk) hk2).rise hw (hb _ (List.getElem_mem hk2)) ha h5 e2 h6 e3
theorem wd_load (ws : List Int) (t : Nat) : mLoad ws (t : Int) = wd ws t := by
  rw [load_hit, List.getD_eq_getElem?_getD]; rfl
theorem addr0 {t : Nat} (h : t ≤ 2000) : wr (0 + (t : Int)) = (t : Int) := by
  rw [Int.zero_add]; exact wr_nat (by omega)
theorem cs_step {what : Int} {a : List Int} {l : List (List Int)} {L : List Jn} {ws : List Int} (hw : isL what) (h : CSums what a l L ws) (ha : ∀ i, LD what (wd a i)) (hb : ∀ x ∈ l, ∀ i, LD what (wd x i)) (h1024 : a.length ≤ 1024) {i : Nat} (hi : i < L.length) (he : L[i].ended = false) : CSums what a l (L.set i (jnStep listOps L[i] ws).1) (jnStep listOps L[i] ws).2.1 ∧ (jnStep listOps L[i] ws).2.2 = (jnStep listOps L[i] ws).1.ended := by
  have h0 := h
  obtain ⟨h3, h4, h5, h6, h7, h8⟩ := h
  have h2 : i < l.length := by omega
  have hj := h8 i hi h2
  have hbi := hb _ (List.getElem_mem h2)
  have hsum := fun k hk => (sum_hi hw l a ha hb).2 k hk
  have hsd := (sum_hi hw l a ha hb).1
  generalize hJ : L[i] = j at hj he ⊢
  obtain ⟨base, what', words, b, changed, ended, tries, at_, loaded, x⟩ := j
  obtain ⟨rfl, rfl, hn, rfl, g5, g6, g7, g8, g9⟩ := hj
  have he : ended = false := he
  subst he
  have hn : words = a.length := hn
  subst hn
  have hcw : cw (a.length : Int) = a.length := by unfold cw; omega
  have g5 : at_ ≤ a.length := g5
  have hrefl : ∀ k, lle what' (wd ws k) (wd ws k) := fun k => lle_refl hw (h5 k)
  by_cases c1 : at_ = a.length
  · have hs : jnStep listOps ⟨0, what', a.length, l[i], changed, false, tries, at_, loaded, x⟩ ws = (⟨0, what', a.length, l[i], changed, true, tries, at_, loaded, x⟩, ws, true) := by
      unfold jnStep
      simp [hcw, c1]
    rw [hs]
    exact ⟨cs_set hw h0 ha hb h2 rfl h5 hrefl h7 ⟨rfl, rfl, rfl, rfl, g5, g6, fun _ => c1, g8, g9⟩, rfl⟩
  · have hat : at_ < a.length := by omega
    have hws : at_ < ws.length := by omega
    have had := addr0 (t := at_) (by omega)
    -- what comes behind a word
    have hnext : ∀ (ch ld : Bool) (y : Int) (tr : Int), jnNext ⟨0, what', a.length, l[i], ch, false, tr, at_, ld, y⟩ = (⟨0, what', a.length, l[i], ch, decide (at_ + 1 = a.length), tr, at_ + 1, ld, y⟩, decide (at_ + 1 = a.length)) := by
      intro ch ld y tr
      unfold jnNext
      dsimp only
      rw [hcw]
      by_cases hz : at_ + 1 = a.length
      · rw [if_neg (by omega)]; simp [hz]
      · rw [if_pos (by omega)]; simp [hz]
    cases hld : loaded with
    | true =>
      subst hld
      obtain ⟨d1, d2, d3, d4⟩ := g8 rfl
      have d1 : at_ < a.length := d1
      have d2 : LD what' x := d2
      have d3 : lle what' x (wd ws at_) := d3
      have d4 : wordW what' x (wd l[i] at_) ≠ x := d4
      by_cases c2 : wd ws at_ = x
      · have hcas : mCas ws (at_ : Int) x = true := by
          unfold mCas
          rw [mHas_true (by omega) (by omega), wd_load, c2]; simp
        have hs : jnStep listOps ⟨0, what', a.length, l[i], changed, false, tries, at_, true, x⟩ ws = (⟨0, what', a.length, l[i], true, decide (at_ + 1 = a.length), tries, at_ + 1, false, x⟩, ws.set at_ (wordW what' x (wd l[i] at_)), decide (at_ + 1 = a.length)) := by
          unfold jnStep
          dsimp only
          rw [if_neg (by decide), if_neg (by rw [hcw]; exact c1), if_pos rfl, had]
          show (if mCas ws (at_ : Int) x then _ else _) = _
          rw [hcas, if_pos rfl, hnext]
          show (_, mCasTo ws (at_ : Int) x (wordW what' x (wd l[i] at_)), _) = _
          unfold mCasTo
          rw [hcas, if_pos rfl, store_hit]
        rw [hs]
        have hyd := lw_dom d2 (hbi at_)
        have hget : ∀ k, wd (ws.set at_ (wordW what' x (wd l[i] at_))) k = if at_ = k then wordW what' x (wd l[i] at_) else wd ws k := by
          intro k
          rw [wd_set]
          by_cases hk : at_ = k
          · subst hk; simp [hws]
          · simp [hk]
        have hd' : ∀ k, LD what' (wd (ws.set at_ (wordW what' x (wd l[i] at_))) k) := by
          intro k; rw [hget]; split
          · exact hyd
          · exact h5 k
        have hup : ∀ k, lle what' (wd ws k) (wd (ws.set at_ (wordW what' x (wd l[i] at_))) k) := by
          intro k; rw [hget]; split
          · rename_i hk; subst hk; rw [c2]; exact lle_left hw d2 (hbi at_)
          · exact hrefl k
        refine ⟨cs_set hw h0 ha hb h2 (List.length_set ..) hd' hup (fun k hk => ?_) ⟨rfl, rfl, rfl, rfl, hat, fun k hk => ?_, fun hz => by simpa using hz, (fun hz => by cases hz), fun _ => ⟨at_, hat, ?_⟩⟩, rfl⟩
        · rw [hget]; split
          · rename_i hk'; subst hk'
            refine lle_join hw d2 (hbi at_) (hsd _) ?_ ((hsum _ hk).2 _ (List.getElem_mem h2))
            rw [← c2]; exact h7 _ hk
          · exact h7 k hk
        · have hk : k < at_ + 1 := hk
          by_cases hk2 : k = at_
          · subst hk2
            rw [hget, if_pos rfl]
            exact lle_right hw d2 (hbi k)
          · exact lle_trans hw (hbi k) (h5 k) (hd' k) (g6 k (by show k < at_; omega)) (hup k)
        · rw [hget, if_pos rfl]
          intro hz
          refine d4 ?_
          have e1 := h6 at_
          rw [c2] at e1
          have e2 := lle_left hw d2 (hbi at_)
          rw [hz] at e2
          have e3 := lle_anti hw (ha at_) d2 e1 e2
          rw [hz, e3]
      · have hcas : mCas ws (at_ : Int) x = false := by
          unfold mCas
          rw [mHas_true (by omega) (by omega), wd_load]; simp [c2]
        have hs : jnStep listOps ⟨0, what', a.length, l[i], changed, false, tries, at_, true, x⟩ ws = (⟨0, what', a.length, l[i], changed, false, wr (tries + 1), at_, false, x⟩, ws, false) := by
          unfold jnStep
          dsimp only
          rw [if_neg (by decide), if_neg (by rw [hcw]; exact c1), if_pos rfl, had]
          show (if mCas ws (at_ : Int) x then _ else _) = _
          rw [hcas, if_neg (by decide)]
          show (_, mCasTo ws (at_ : Int) x (wordW what' x (wd l[i] at_)), _) = _
          unfold mCasTo
          rw [hcas, if_neg (by decide)]
        rw [hs]
        exact ⟨cs_set hw h0 ha hb h2 rfl h5 hrefl h7 ⟨rfl, rfl, rfl, rfl, g5, g6, (fun hz => by cases hz), (fun hz => by cases hz), g9⟩, rfl⟩
    | false =>
      subst hld
      by_cases c2 : wordW what' (wd ws at_) (wd l[i] at_) = wd ws at_
      · have hs : jnStep listOps ⟨0, what', a.length, l[i], changed, false, tries, at_, false, x⟩ ws = (⟨0, what', a.length, l[i], changed, decide (at_ + 1 = a.length), tries, at_ + 1, false, wd ws at_⟩, ws, decide (at_ + 1 = a.length)) := by
          unfold jnStep
          dsimp only
          rw [if_neg (by decide), if_neg (by rw [hcw]; exact c1), if_neg (by decide), had]
          show (if wordW what' (mLoad ws (at_ : Int)) (wd l[i] at_) = mLoad ws (at_ : Int) then (_, ws, _) else _) = _
          rw [if_pos (by rw [wd_load]; exact c2), hnext]
          rw [wd_load]
        rw [hs]
        refine ⟨cs_set hw h0 ha hb h2 rfl h5 hrefl h7 ⟨rfl, rfl, rfl, rfl, hat, fun k hk => ?_, fun hz => by simpa using hz, (fun hz => by cases hz), g9⟩, rfl⟩
        have hk : k < at_ + 1 := hk
        by_cases hk2 : k = at_
        · subst hk2
          show wordW what' (wd l[i] k) (wd ws k) = wd ws k
          rw [lw_comm hw (hbi k) (h5 k)]; exact c2
        · exact g6 k (by show k < at_; omega)
      · have hs : jnStep listOps ⟨0, what', a.length, l[i], changed, false, tries, at_, false, x⟩ ws = (⟨0, what', a.length, l[i], changed, false, tries, at_, true, wd ws at_⟩, ws, false) := by
          unfold jnStep
          dsimp only
          rw [if_neg (by decide), if_neg (by rw [hcw]; exact c1), if_neg (by decide), had]
          show (if wordW what' (mLoad ws (at_ : Int)) (wd l[i] at_) = mLoad ws (at_ : Int) then _ else (_, ws, _)) = _
          rw [if_neg (by rw [wd_load]; exact c2), wd_load]
        rw [hs]
        exact ⟨cs_set hw h0 ha hb h2 rfl h5 hrefl h7 ⟨rfl, rfl, rfl, rfl, g5, g6, (fun hz => by cases hz), fun _ => ⟨hat, h5 _, hrefl _, c2⟩, g9⟩, rfl⟩
end Go.Proofs.Ytiihcgmnmcdcfaa
