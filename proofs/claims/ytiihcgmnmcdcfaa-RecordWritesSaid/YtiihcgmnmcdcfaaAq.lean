/-
  As XAo: the other operations that leave the memory alone; all of them together ('opD_sound'). Over any program.
-/
import Derived.Test.YtiihcgmnmcdcfaaAp
namespace Go.Proofs.Ytiihcgmnmcdcfaa
open Go.RowKit
section
variable {P : Program} {TT : TypeId → Option TI}

theorem cells?_rel {F : Nat → Prop} {w : World} {x : AV} {v : Value} {cs : List AV} (h : VRel F w x v) (hc : x.cells? = some cs) :
    v.cells.size = cs.length ∧ ∀ (i : Nat) (y : AV), cs[i]? = some y → y.leaf = true ∧ VRel F w y (v.cells.getD i undef) := by
  have one : ∀ (hl : x.leaf = true), some [x] = some cs → v.cells.size = cs.length ∧ ∀ (i : Nat) (y : AV), cs[i]? = some y → y.leaf = true ∧ VRel F w y (v.cells.getD i undef) := by
    intro hl e
    have e := Option.some.inj e
    subst e
    have h1 := h.one hl
    have hv : v.cells = #[v] := by cases v <;> first | rfl | cases h1
    rw [hv]
    exact ⟨rfl, fun i y hi => by cases i <;> simp at hi; subst hi; exact ⟨hl, h⟩⟩
  cases x with
  | agg cs' =>
    obtain rfl := Option.some.inj hc
    obtain ⟨vs, rfl, h1, h2⟩ := h.aggv
    exact ⟨h1.symm, h2⟩
  | tup => cases hc
  | any => cases hc
  | _ => exact one rfl hc

/-- Cells as values. -/
def CRel (F : Nat → Prop) (w : World) (cs : List AV) (vs : Array Value) : Prop := cs.length = vs.size ∧ ∀ (i : Nat) (x : AV), cs[i]? = some x → x.leaf = true ∧ VRel F w x (vs.getD i undef)

theorem CRel.set {F : Nat → Prop} {w : World} {cs : List AV} {vs : Array Value} (h : CRel F w cs vs) (k : Nat) {x : AV} {v : Value} (hl : x.leaf = true) (hx : VRel F w x v) : CRel F w (cs.set k x) (vs.setIfInBounds k v) := by
  refine ⟨by simp [h.1], fun i y hi => ?_⟩
  rw [List.getElem?_set] at hi
  by_cases hk : k = i
  · subst hk
    by_cases hlt : k < cs.length
    · simp [hlt] at hi
      subst hi
      have : k < vs.size := by rw [← h.1]; exact hlt
      exact ⟨hl, by simpa [Array.getD, this] using hx⟩
    · simp [hlt] at hi
  · simp [hk] at hi
    obtain ⟨h1, h2⟩ := h.2 i y hi
    refine ⟨h1, ?_⟩
    have hlt : i < vs.size := by rw [← h.1]; exact (List.getElem?_eq_some_iff.1 hi).1
    simpa [Array.getD, hlt, Array.getElem_setIfInBounds, hk] using h2

theorem splice_rel {F : Nat → Prop} {w : World} : ∀ (xs : List AV) (us : List Value) (cs : List AV) (vs : Array Value) (k n : Nat), xs.length = us.length →
    (∀ (i : Nat) (x : AV), xs[i]? = some x → x.leaf = true ∧ VRel F w x (us.getD i undef)) → CRel F w cs vs → CRel F w (splice cs (k + n) xs) ((us.zipIdx n).foldl (fun c p => c.setIfInBounds (k + p.2) p.1) vs)
  | [], [], cs, vs, k, n, _, _, h => h
  | x :: xs, u :: us, cs, vs, k, n, hl, hx, h => by
    have h0 := hx 0 x rfl
    simp only [splice, List.zipIdx_cons, List.foldl_cons]
    exact splice_rel xs us _ _ k (n + 1) (by simpa using hl) (fun i y hi => by simpa using hx (i + 1) y (by simpa using hi)) (h.set _ h0.1 (by simpa using h0.2))
  | [], _ :: _, _, _, _, _, hl, _, _ => by simp at hl
  | _ :: _, [], _, _, _, _, hl, _, _ => by simp at hl

theorem splice_length : ∀ (xs cs : List AV) (k : Nat), (splice cs k xs).length = cs.length
  | [], cs, k => rfl
  | x :: xs, cs, k => by simp [splice, splice_length xs]

theorem fill_rel {F : Nat → Prop} {w : World} {pl : List (Nat × Nat)} {place : Nat → Option (Nat × Nat)} (hp : ∀ (i : Nat) (p : Nat × Nat), pl[i]? = some p → place i = some p) :
    ∀ (parts : List (Nat × AV)) (us : List (Nat × Value)) (cs : List AV) (vs : Array Value) (out : List AV), parts.length = us.length →
      (∀ (i : Nat) (p : Nat × AV) (u : Nat × Value), parts[i]? = some p → us[i]? = some u → p.1 = u.1 ∧ VRel F w p.2 u.2) → CRel F w cs vs → fillA pl cs parts = some out → ∃ vs', Instr.fill place vs us = some vs' ∧ CRel F w out vs'
  | [], [], cs, vs, out, _, _, h, e => ⟨vs, rfl, by simp [fillA] at e; subst e; exact h⟩
  | p :: parts, u :: us, cs, vs, out, hl, hx, h, e => by
    obtain ⟨i, x⟩ := p
    obtain ⟨i', v⟩ := u
    obtain ⟨rfl, hv⟩ := hx 0 _ _ rfl rfl
    simp only [fillA] at e
    split at e
    · rename_i off size xs h1 h2
      split at e
      · rename_i e1 e2
        have e1 := Nat.eq_of_beq_eq_true e1
        have e2 := Nat.le_of_ble_eq_true e2
        obtain ⟨c1, c2⟩ := cells?_rel hv h2
        have hs := splice_rel xs v.cells.toList cs vs off 0 (by simp [c1]) (fun i y hi => by
          have := c2 i y hi
          have hlt : i < v.cells.size := by rw [c1]; exact (List.getElem?_eq_some_iff.1 hi).1
          simpa [Array.getD, List.getD, hlt] using this) h
        obtain ⟨vs', f1, f2⟩ := fill_rel hp parts us _ _ out (by simpa using hl) (fun i p u hi hu => hx (i + 1) p u (by simpa using hi) (by simpa using hu)) hs e
        refine ⟨vs', ?_, f2⟩
        simp only [Instr.fill, hp _ _ h1]
        rw [if_neg (by simp [c1, e1]; rw [← h.1]; omega)]
        rw [← f1]
        congr 1
        rw [← Array.foldl_toList]
        simp
      · cases e
    · cases e
  | [], _ :: _, _, _, _, hl, _, _, _ => by simp at hl
  | _ :: _, [], _, _, _, hl, _, _, _ => by simp at hl

theorem places_sound (ok : TTok P TT) : ∀ (fs : List Field) (ps : List (Nat × Nat)), placesT TT (fs.map fun f => (f.offset, f.type)) = some ps → fs.mapM (fun f => (P.info? f.type).map fun i => (f.offset, i.size)) = some ps
  | [], ps, h => by simp [placesT] at h; subst h; rfl
  | f :: fs, ps, h => by
    simp only [List.map_cons, placesT] at h
    split at h
    · rename_i i ps' h1 h2
      obtain ⟨j, _, _, hj, _, hs, _⟩ := tt_fact ok h1
      have := places_sound ok fs ps' h2
      simp at h
      subst h
      simp [List.mapM_cons, hj, this, hs]
    · cases h

theorem zero_rel {F : Nat → Prop} {w : World} {xs : List AV} {z : Value} (h : zeroB xs z.cells.toList = true) : CRel F w xs z.cells := by
  obtain ⟨h1, h2⟩ := zeroB_rel (F := F) (w := w) h
  refine ⟨by simpa using h1, fun i x hx => ?_⟩
  obtain ⟨h3, h4⟩ := h2 i x hx
  refine ⟨h4, ?_⟩
  have hlt : i < z.cells.size := by have := (List.getElem?_eq_some_iff.1 hx).1; simp at h1; omega
  simpa [Array.getD, List.getD, hlt] using h3

theorem CRel.aggr {F : Nat → Prop} {w : World} {cs : List AV} {vs : Array Value} (h : CRel F w cs vs) : VRel F w (.agg cs) (.agg vs) := .agg _ _ h.1 (fun i x hx => (h.2 i x hx).1) (fun i x hx => (h.2 i x hx).2)

theorem parts_rel {F : Nat → Prop} {w : World} {parts : Array (Nat × Operand)} {ρ : Operand → AV} {η : Operand → Value} (hx : ∀ x ∈ (parts.toList.map (·.2)), VRel F w (ρ x) (η x)) :
    (parts.toList.map fun p => (p.1, ρ p.2)).length = (parts.map fun (i, x) => (i, η x)).toList.length ∧ ∀ (i : Nat) (p : Nat × AV) (u : Nat × Value), (parts.toList.map fun p => (p.1, ρ p.2))[i]? = some p → (parts.map fun (i, x) => (i, η x)).toList[i]? = some u → p.1 = u.1 ∧ VRel F w p.2 u.2 := by
  refine ⟨by simp, fun i p u hp hu => ?_⟩
  simp only [Array.toList_map, List.getElem?_map, Option.map_eq_some_iff] at hp hu
  obtain ⟨a, h1, rfl⟩ := hp
  obtain ⟨a', h2, rfl⟩ := hu
  rw [h1] at h2
  cases h2
  exact ⟨rfl, hx a.2 (List.mem_map.2 ⟨a, List.mem_of_getElem? h1, rfl⟩)⟩

theorem build_sound (ok : TTok P TT) {t : TypeId} {parts : Array (Nat × Operand)} {ρ : Operand → AV} {v : AV} (h : buildA TT t (parts.toList.map fun p => (p.1, ρ p.2)) = some v) : SaysB P (.build t parts) ρ v := by
  intro η F w o ho hx
  obtain ⟨hl, hr⟩ := parts_rel (parts := parts) (ρ := ρ) (η := η) (F := F) (w := w) (by simpa [Op.operands] using hx)
  have fin : ∀ {cells : Array Value} {cs : List AV}, P.built t (parts.map fun (i, x) => (i, η x)).toList = some cells → CRel F w cs cells → ∃ v', (∀ w', (execOp η o).run P w' = .ok (.value v') w') ∧ VRel F w (.agg cs) v' :=
    fun hb hc => ⟨_, fun w' => by simp only [execOp, ho, Sem.run_bind, run_build w' t _ _ hb]; rfl, hc.aggr⟩
  unfold buildA at h
  split at h
  · rename_i fs sz by' z0 ht
    obtain ⟨j, d, z, hj, hd, hs, hb, hf, hz, hzz⟩ := tt_fact ok ht
    obtain ⟨fields, rfl, hfs⟩ := fits_strct hf
    split at h
    · rename_i ps hps
      rw [← hfs] at hps
      have hm := places_sound ok _ _ hps
      obtain ⟨out, e1, rfl⟩ := Option.map_eq_some_iff.1 h
      obtain ⟨vs', f1, f2⟩ := fill_rel (place := (ps.toArray[·]?)) (fun i p hi => by simpa using hi) _ _ _ _ _ hl hr (zero_rel (F := F) (w := w) hzz) e1
      exact fin (by simp only [Program.built, hj, hd, hz, hm]; exact f1) f2
    · cases h
  · rename_i n e sz by' z0 ht
    obtain ⟨j, d, z, hj, hd, hs, hb, hf, hz, hzz⟩ := tt_fact ok ht
    obtain rfl := fits_arr hf
    split at h
    · rename_i i hi
      obtain ⟨j', d', z', hj', hd', hs', _⟩ := tt_fact ok hi
      obtain ⟨out, e1, rfl⟩ := Option.map_eq_some_iff.1 h
      obtain ⟨vs', f1, f2⟩ := fill_rel (place := fun k => some (k * j'.size, j'.size)) (fun k p hk => by
        obtain ⟨a, ha, rfl⟩ := List.getElem?_eq_some_iff.1 hk
        simp [hs']) _ _ _ _ _ hl hr (zero_rel (F := F) (w := w) hzz) e1
      exact fin (by simp only [Program.built, hj, hd, hz, hj']; exact f1) f2
    · cases h
  · cases h
end
end Go.Proofs.Ytiihcgmnmcdcfaa
