/-
  A block that is written no more: values that lead to it read as lists. Over any program.
-/
import Derived.Test.YtiihcgmnmcdcfaaAl
namespace Go.Proofs.Ytiihcgmnmcdcfaa
open Go.RowKit
section
variable {P : Program} {TT : TypeId → Option TI}
theorem freads_of_cells {F : Nat → Prop} {w : World} : ∀ (s : Sh) (d : s.T) (vs : List Value), vs.length = s.size → (∀ (k : Nat) (x : AV), (s.cells d)[k]? = some x → VRel F w x (vs.getD k undef)) → FReads F w s vs d := by
  intro s
  induction s with
  | int k => intro d vs hl h; match vs, hl with | [v], _ => have := (h 0 _ rfl).intv; exact congrArg (fun x => [x]) this
  | bool => intro d vs hl h; match vs, hl with | [v], _ => have := (h 0 _ rfl).boolv; exact congrArg (fun x => [x]) this
  | str => intro d vs hl h; match vs, hl with | [v], _ => have := (h 0 _ rfl).strv; exact congrArg (fun x => [x]) this
  | nil => intro d vs hl h; exact List.length_eq_zero_iff.1 hl
  | slice e ih =>
    intro d vs hl h
    match vs, hl with
    | [v], _ =>
      have := h 0 _ rfl
      cases this with
      | fsl _ _ _ h => exact h
  | field f r ihf ihr =>
    intro d vs hl h
    simp only [Sh.size] at hl
    refine ⟨vs.take f.size, vs.drop f.size, (List.take_append_drop _ _).symm, by simp; omega, ihf d.1 _ (by simp; omega) (fun k x hk => ?_), ihr d.2 _ (by simp; omega) (fun k x hk => ?_)⟩
    · have hkl : k < f.size := by rw [← Sh.cells_length f d.1]; exact (List.getElem?_eq_some_iff.1 hk).1
      have := h k x (by show (f.cells d.1 ++ r.cells d.2)[k]? = some x; rw [List.getElem?_append_left (by rw [Sh.cells_length]; exact hkl)]; exact hk)
      rw [List.getD_eq_getElem?_getD] at this ⊢
      rw [List.getElem?_take, if_pos hkl]
      exact this
    · have := h (f.size + k) x (by show (f.cells d.1 ++ r.cells d.2)[f.size + k]? = some x; rw [List.getElem?_append_right (by rw [Sh.cells_length]; omega), Sh.cells_length, Nat.add_sub_cancel_left]; exact hk)
      rw [List.getD_eq_getElem?_getD] at this ⊢
      rw [List.getElem?_drop]
      exact this

theorem flat_get {α : Type} {f : α → List AV} {es : Nat} (hf : ∀ x, (f x).length = es) : ∀ (l : List α) (i : Nat) (h : i < l.length) (k : Nat), k < es → (l.flatMap f)[i * es + k]? = (f l[i])[k]?
  | [], i, h, _, _ => by simp at h
  | y :: l, 0, h, k, hk => by rw [List.flatMap_cons, List.getElem?_append_left (by rw [hf]; omega)]; simp
  | y :: l, i + 1, h, k, hk => by
    rw [List.flatMap_cons, List.getElem?_append_right (by rw [hf, Nat.succ_mul]; omega), hf, show (i + 1) * es + k - es = i * es + k by rw [Nat.succ_mul]; omega]
    simpa using flat_get hf l i (by simpa using h) k hk

theorem frz_vrel {F : Nat → Prop} {w : World} {σ : Hp} (hσ : RelHp F w σ) {j b off len es : Nat} {cs : List AV} {e : Sh} {l : List e.T} (h1 : σ[j]? = some (b, cs)) (h2 : (cs.drop off).take (len * es) = l.flatMap e.cells) (h3 : l.length = len ∧ e.size = es ∧ 0 < es) {v : Value} (hv : VRel F w (.mref b off len es) v) :
    VRel (fun x => F x ∨ x = b) w (.fsl e l) v := by
  obtain ⟨hl, he, hpos⟩ := h3
  have hst : Stp F w (fun x => F x ∨ x = b) w := ⟨rfl, rfl, rfl, Nat.le_refl _, fun _ h => .inl h, fun _ _ => rfl, fun _ c _ fz h => ⟨c, fz, h, rfl⟩⟩
  obtain ⟨a, cap, rfl, c, T, fz, m1, m2, m3, m4⟩ := hv.mrefv
  subst hl
  refine .fsl e l _ ⟨some a, cap, rfl, m2, m3, (fun e => by cases e), fun hne => ?_⟩
  have hpl : 0 < l.length := List.length_pos_iff.2 hne
  rcases m4 with ⟨rfl, hfit⟩ | ⟨_, _, h0, _⟩
  · refine ⟨b, off, rfl, .inr rfl, fun i hi => ?_⟩
    have hat : At F w b off ((cs.drop off).take (l.length * es)) := by
      have := (hσ.at_ h1).drop off
      rw [Nat.zero_add] at this
      intro i x hx
      rw [List.getElem?_take] at hx
      split at hx
      · exact this i x hx
      · cases hx
    rw [h2] at hat
    have hcell : ∀ k, k < es → ∃ x v, (e.cells l[i])[k]? = some x ∧ w.cell? ⟨b, off + i * es + k, none⟩ = some v ∧ VRel F w x v := by
      intro k hk
      have hlen : k < (e.cells l[i]).length := by rw [Sh.cells_length, he]; exact hk
      have hx := List.getElem?_eq_getElem hlen
      have := flat_get (f := e.cells) (es := es) (fun d => by rw [Sh.cells_length, he]) l i hi k hk
      obtain ⟨_, v, h4, h5⟩ := hat (i * es + k) _ (this.trans hx)
      exact ⟨_, v, hx, by rw [← h4, Nat.add_assoc], h5⟩
    refine ⟨(List.range es).map fun k => (w.cell? ⟨b, off + i * es + k, none⟩).getD undef, by simp [he], fun k u hk => ?_, freads_of_cells e l[i] _ (by simp [he]) (fun k x hk => ?_)⟩
    · have hke : k < es := by have := (List.getElem?_eq_some_iff.1 hk).1; simpa using this
      obtain ⟨x, v, _, h4, _⟩ := hcell k hke
      simp [hke, h4] at hk
      rw [he, h4, hk]
    · have hke : k < es := by have := (List.getElem?_eq_some_iff.1 hk).1; rw [Sh.cells_length, he] at this; exact this
      obtain ⟨x', v, h3, h4, h5⟩ := hcell k hke
      rw [h3] at hk
      cases hk
      have : VRel F w x v := h5
      simpa [List.getD, hke, h4] using this.mono hst
  · omega

theorem frzrel_sound {F F' : Nat → Prop} {w : World} {b off len es : Nat} {e : Sh} {l : List e.T} (hst : Stp F w F' w) (hh : ∀ v, VRel F w (.mref b off len es) v → VRel F' w (.fsl e l) v) {r r' : AV} (h : FrzRel b off len es e l r r') : ∀ v, VRel F w r v → VRel F' w r' v := by
  induction h with
  | here => exact hh
  | refl x => exact fun v h => h.mono hst
  | tup xs ys h hi ih =>
    intro v hv
    cases hv with
    | tup _ vs hs hr =>
      refine .tup _ _ (by rw [← h]; exact hs) (fun i y hy => ?_)
      have hil : i < xs.length := by rw [h]; exact (List.getElem?_eq_some_iff.1 hy).1
      exact ih i xs[i] y (List.getElem?_eq_getElem hil) hy _ (hr i _ (List.getElem?_eq_getElem hil))
  | agg xs ys h hl hi ih =>
    intro v hv
    obtain ⟨vs, rfl, hs, hr⟩ := hv.aggv
    refine .agg _ _ (by rw [← h]; exact hs) hl (fun i y hy => ?_)
    have hil : i < xs.length := by rw [h]; exact (List.getElem?_eq_some_iff.1 hy).1
    exact ih i xs[i] y (List.getElem?_eq_getElem hil) hy _ (hr i _ (List.getElem?_eq_getElem hil)).2
  | nil e' =>
    intro v hv
    cases hv
    exact .fsl e' [] _ ⟨none, 0, rfl, Nat.le_refl _, by unfold maxLen; omega, fun _ => rfl, fun hne => absurd rfl hne⟩
  | esl e' =>
    intro v hv
    cases hv with
    | esl a c h => exact .fsl e' [] _ ⟨some a, c, rfl, Nat.zero_le _, h, (fun e => by cases e), fun hne => absurd rfl hne⟩
  | via h ih =>
    intro v hv
    cases hv with
    | via _ _ _ hv => exact ih v hv


theorem frz_hp {F : Nat → Prop} {w : World} {σ : Hp} (hσ : RelHp F w σ) {j b off len es : Nat} {cs : List AV} {e : Sh} {l : List e.T} (h1 : σ[j]? = some (b, cs)) (h2 : (cs.drop off).take (len * es) = l.flatMap e.cells) (h3 : l.length = len ∧ e.size = es ∧ 0 < es) :
    Stp F w (fun x => F x ∨ x = b) w ∧ RelHp (fun x => F x ∨ x = b) w (σ.eraseIdx j) ∧ ∀ v, VRel F w (.mref b off len es) v → VRel (fun x => F x ∨ x = b) w (.fsl e l) v := by
  have hst : Stp F w (fun x => F x ∨ x = b) w := ⟨rfl, rfl, rfl, Nat.le_refl _, fun _ h => .inl h, fun _ _ => rfl, fun _ c _ fz h => ⟨c, fz, h, rfl⟩⟩
  have hperm : RelHp F w ((b, cs) :: σ.eraseIdx j) := hσ.perm (cons_erase_perm σ j (b, cs) h1)
  have hnd := hperm.nodup
  simp only [List.map_cons, List.nodup_cons] at hnd
  have hσ' : RelHp (fun x => F x ∨ x = b) w (σ.eraseIdx j) := ⟨hnd.2, fun p hp => (hperm.holds p (List.mem_cons_of_mem _ hp)).mono hst rfl (fun hF => by
    rcases hF with hF | hF
    · exact (hperm.holds p (List.mem_cons_of_mem _ hp)).1 hF
    · exact hnd.1 (List.mem_map.2 ⟨p, hp, hF⟩)), fun x hx => by
    rcases hx with hx | hx
    · exact hσ.low x hx
    · subst hx; exact (hperm.holds (x, cs) (List.mem_cons_self ..)).lt⟩
  exact ⟨hst, hσ', fun v hv => frz_vrel hσ h1 h2 h3 hv⟩
theorem frz_tm {t t' : Tm} {b off len es : Nat} {e : Sh} {l : List e.T} (k : Nat) (h : t k = .mref b off len es) (h' : t' = upd t [(k, .fsl e l)]) (i : Nat) : FrzRel b off len es e l (t i) (t' i) := by
  subst h'
  show FrzRel b off len es e l (t i) (match Nat.beq i k with | true => .fsl e l | false => t i)
  cases hb : Nat.beq i k with
  | true => rw [Nat.eq_of_beq_eq_true hb, h]; exact .here
  | false => exact .refl _
end
end Go.Proofs.Ytiihcgmnmcdcfaa
