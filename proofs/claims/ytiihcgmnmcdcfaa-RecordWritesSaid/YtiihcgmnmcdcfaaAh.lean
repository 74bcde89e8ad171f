/-
  Operations that make memory, or write it, do what the walk says ('opW_sound'). Over any program.
-/
import Derived.Test.YtiihcgmnmcdcfaaAr
import Derived.Deep.AppendSrc
import Derived.Great.BuildSlice
namespace Go.Proofs.Ytiihcgmnmcdcfaa
open Go.RowKit
section
variable {P : Program} {TT : TypeId → Option TI} {F F' : Nat → Prop} {w w' : World}

/-! ### The memory, step by step -/
theorem Holds.mono {b : Nat} {cs : List AV} (h : Holds F w b cs) (hst : Stp F w F' w') (hb : w'.heap[b]? = w.heap[b]?) (hF : ¬ F' b) : Holds F' w' b cs := by
  obtain ⟨_, c, T, h1, h2, h3⟩ := h
  exact ⟨hF, c, T, hb.trans h1, h2, fun i x hx => ⟨(h3 i x hx).1, (h3 i x hx).2.mono hst⟩⟩
theorem Holds.lt {b : Nat} {cs : List AV} (h : Holds F w b cs) : b < w.heap.size := by
  obtain ⟨_, _, _, h1, _⟩ := h
  exact at_lt h1
theorem RelHp.perm {σ σ' : Hp} (h : RelHp F w σ) (hp : σ'.Perm σ) : RelHp F w σ' :=
  ⟨((hp.map Prod.fst).nodup_iff).2 h.nodup, fun p hm => h.holds p (hp.mem_iff.1 hm), h.low⟩
theorem RelHp.sub {σ σ' : Hp} (h : RelHp F w σ) (hs : σ'.Sublist σ) : RelHp F w σ' :=
  ⟨h.nodup.sublist (hs.map _), fun p hm => h.holds p (hs.subset hm), h.low⟩
theorem cons_erase_perm : ∀ (σ : Hp) (i : Nat) (p : Nat × List AV), σ[i]? = some p → (p :: σ.eraseIdx i).Perm σ
  | [], i, p, h => by simp at h
  | q :: σ, 0, p, h => by simp at h; subst h; exact List.Perm.refl _
  | q :: σ, i + 1, p, h => (List.Perm.swap q p _).trans (.cons q (cons_erase_perm σ i p (by simpa using h)))
theorem pull_perm (i : Nat) (σ : Hp) : (pull i σ).Perm σ := by
  unfold pull
  split
  · rename_i p h
    exact cons_erase_perm σ i p h
  · exact List.Perm.refl _
theorem pulls_perm : ∀ (js : List Nat) (σ : Hp), (pulls js σ).Perm σ
  | [], _ => List.Perm.refl _
  | i :: r, σ => (pull_perm i _).trans (pulls_perm r σ)

/-- Nothing that was there turns. -/
theorem stp_of_same (hlow : ∀ b, F b → b < w.heap.size) (ho : w'.os = w.os) (ht : w'.tape = w.tape) (hu : w'.output = w.output) (hs : w.heap.size ≤ w'.heap.size) (hb : ∀ b, b < w.heap.size → w'.heap[b]? = w.heap[b]?) : Stp F w F w' :=
  ⟨ho, ht, hu, hs, fun _ h => h, fun b h => hb b (hlow b h), fun b c _ fz h => ⟨c, fz, (hb b (at_lt h)).trans h, rfl⟩⟩
theorem RelHp.same {σ : Hp} (h : RelHp F w σ) (hst : Stp F w F w') (hb : ∀ b, b < w.heap.size → w'.heap[b]? = w.heap[b]?) : RelHp F w' σ :=
  ⟨h.nodup, fun p hm => (h.holds p hm).mono hst (hb _ (h.holds p hm).lt) (h.holds p hm).1, fun b hF => Nat.lt_of_lt_of_le (h.low b hF) hst.size⟩
/-- A new block. -/
theorem relhp_alloc {σ : Hp} (h : RelHp F w σ) {c : Array Value} {T : TypeId} {cs : List AV} (hl : cs.length ≤ c.size) (hc : ∀ (i : Nat) (x : AV), cs[i]? = some x → x.leaf = true ∧ VRel F w x (c.getD i undef)) {w0 : World} (e0 : w0 = w ∨ w0 = w.drew) :
    Stp F w F (w0.alloc (.cells c T)) ∧ RelHp F (w0.alloc (.cells c T)) ((w.heap.size, cs) :: σ) := by
  have hold : ∀ b, b < w.heap.size → (w0.alloc (.cells c T)).heap[b]? = w.heap[b]? := fun b hb => by rcases e0 with rfl | rfl <;> exact Below.heap_alloc _ _ b (by simpa using hb)
  have hst : Stp F w F (w0.alloc (.cells c T)) := by
    rcases e0 with rfl | rfl
    · exact stp_of_same h.low rfl rfl rfl (by simp) hold
    · exact stp_of_same h.low rfl rfl rfl (by simp) hold
  have hr := h.same hst hold
  have hnew : (w0.alloc (.cells c T)).heap[w.heap.size]? = some (.cells c T (0, 0)) := by rcases e0 with rfl | rfl <;> exact alloc_at _ _
  refine ⟨hst, ⟨?_, fun p hm => ?_, hr.low⟩⟩
  · simp only [List.map_cons, List.nodup_cons]
    refine ⟨fun hm => ?_, h.nodup⟩
    obtain ⟨p, hp, e⟩ := List.mem_map.1 hm
    have := (h.holds p hp).lt
    omega
  · rcases List.mem_cons.1 hm with rfl | hm
    · exact ⟨fun hF => Nat.lt_irrefl _ (h.low _ hF), c, T, hnew, hl, fun i x hx => ⟨(hc i x hx).1, (hc i x hx).2.mono hst⟩⟩
    · exact hr.holds p hm
/-- A block written. -/
theorem relhp_set {σ : Hp} (h : RelHp F w σ) {j b : Nat} {cs cs' : List AV} (hj : σ[j]? = some (b, cs)) {c c' : Array Value} {T : TypeId} (hc : w.heap[b]? = some (.cells c T (0, 0))) (hsz : c'.size = c.size) (hl : cs'.length ≤ c'.size)
    (hr : ∀ (i : Nat) (x : AV), cs'[i]? = some x → x.leaf = true ∧ VRel F w x (c'.getD i undef)) (hw : ∀ k, k ≠ b → w'.heap[k]? = w.heap[k]?) (hwb : w'.heap[b]? = some (.cells c' T (0, 0))) (ho : w'.os = w.os) (ht : w'.tape = w.tape) (hu : w'.output = w.output) (hs : w'.heap.size = w.heap.size) :
    Stp F w F w' ∧ RelHp F w' (σ.set j (b, cs')) := by
  have hb := (h.holds (b, cs) (List.mem_of_getElem? hj)).1
  have hlt : j < σ.length := (List.getElem?_eq_some_iff.1 hj).1
  have hst : Stp F w F w' := ⟨ho, ht, hu, by omega, fun _ h => h, fun k hF => hw k (fun e => hb (e ▸ hF)), fun k d S fz hk => by
    by_cases e : k = b
    · subst e
      rw [hc] at hk
      cases hk
      exact ⟨c', (0, 0), hwb, hsz⟩
    · exact ⟨d, fz, (hw k e).trans hk, rfl⟩⟩
  have hkeys : (σ.set j (b, cs')).map Prod.fst = σ.map Prod.fst := by
    rw [List.map_set]
    apply List.ext_getElem?
    intro k
    rw [List.getElem?_set]
    split
    · rename_i e; subst e
      simp [hlt]
      have := (List.getElem?_eq_some_iff.1 hj).2
      rw [this]
    · rfl
  refine ⟨hst, ⟨hkeys ▸ h.nodup, fun p hm => ?_, fun k hF => by rw [hs]; exact h.low k hF⟩⟩
  obtain ⟨k, hk⟩ := List.mem_iff_getElem?.1 hm
  rw [List.getElem?_set] at hk
  split at hk
  · rename_i e; subst e
    simp at hk
    obtain ⟨_, rfl⟩ := hk
    exact ⟨hb, c', T, hwb, hl, fun i x hx => ⟨(hr i x hx).1, (hr i x hx).2.mono hst⟩⟩
  · rename_i hne
    have hm' := List.mem_of_getElem? hk
    have hpb : p.1 ≠ b := by
      intro e
      have hnd := h.nodup
      have h1 : (σ.map Prod.fst)[k]? = some b := by rw [List.getElem?_map, hk]; simp [e]
      have h2 : (σ.map Prod.fst)[j]? = some b := by rw [List.getElem?_map, hj]; rfl
      have hk' : k < (σ.map Prod.fst).length := (List.getElem?_eq_some_iff.1 h1).1
      have := (List.getElem?_inj (i := k) (j := j) hk' hnd).1 (h1.trans h2.symm)
      exact hne this.symm
    exact (h.holds p hm').mono hst (hw _ hpb) (h.holds p hm').1

theorem repC_get (z : List AV) : ∀ (n j : Nat), j < n * z.length → (repC z n)[j]? = z[j % z.length]?
  | 0, j, h => by simp at h
  | n + 1, j, h => by
    unfold repC
    by_cases hj : j < z.length
    · rw [List.getElem?_append_left hj, Nat.mod_eq_of_lt hj]
    · have e : (n + 1) * z.length = n * z.length + z.length := Nat.succ_mul n z.length
      rw [List.getElem?_append_right (by omega), repC_get z n (j - z.length) (by omega)]
      rw [Nat.mod_eq_sub_mod (a := j) (b := z.length) (by omega)]
theorem repC_length (z : List AV) (n : Nat) : (repC z n).length = n * z.length := by
  induction n with
  | zero => simp [repC]
  | succ n ih => simp [repC, ih, Nat.succ_mul]; omega
theorem made_rel {i : TI} {z : Value} (hz : zeroB i.zero z.cells.toList = true) {n m : Nat} (hnm : n ≤ m) : (repC i.zero n).length ≤ (madeCells z.cells (m * i.zero.length)).size ∧ ∀ (k : Nat) (x : AV), (repC i.zero n)[k]? = some x → x.leaf = true ∧ VRel F w x ((madeCells z.cells (m * i.zero.length)).getD k undef) := by
  obtain ⟨h1, h2⟩ := zero_rel (F := F) (w := w) hz
  have hle : n * i.zero.length ≤ m * i.zero.length := Nat.mul_le_mul_right _ hnm
  refine ⟨by rw [repC_length, size_madeCells]; exact hle, fun k x hx => ?_⟩
  have hk : k < n * i.zero.length := by rw [← repC_length]; exact (List.getElem?_eq_some_iff.1 hx).1
  rw [repC_get _ _ _ hk] at hx
  obtain ⟨h3, h4⟩ := h2 _ x hx
  refine ⟨h3, ?_⟩
  have hlt : k < m * i.zero.length := by omega
  have hpos : 0 < i.zero.length := by
    rcases Nat.eq_zero_or_pos i.zero.length with h0 | h0
    · rw [h0] at hk; omega
    · exact h0
  have hmod : k % i.zero.length < z.cells.size := by rw [← h1]; exact Nat.mod_lt _ hpos
  rw [h1] at h4 hlt
  rw [h1] at hmod
  simpa [madeCells, Array.getD, hlt, h1, hmod, Nat.mod_lt _ (h1 ▸ hpos)] using h4
end
end Go.Proofs.Ytiihcgmnmcdcfaa
