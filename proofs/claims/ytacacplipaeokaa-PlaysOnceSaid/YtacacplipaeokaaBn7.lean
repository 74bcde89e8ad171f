/-
  An: what the claim uses of them.
-/
import Derived.Deep.AppendSrc
import Derived.Deep.Upon
import Derived.Great.BuildSlice
import Derived.Maps.RangeRun
import Derived.Orders
import Derived.Test.YtacacplipaeokaaBn6
namespace Go.Proofs.Ytacacplipaeokaa
open Go.RowKit
section
variable {P : Program} {TT : TypeId → Option TI} {F F' : Nat → Prop} {w w' : World}
theorem Holds.mono {b : Nat} {cs : List AV} (h : Holds F w b cs) (hst : Stp F w F' w') (hb : w'.heap[b]? = w.heap[b]?) (hF : ¬ F' b) : Holds F' w' b cs := by
  obtain ⟨_, ⟨c, T, h1, h2, h3⟩ | ⟨x, o, h1, h2, h3⟩ | ⟨L, t, h1, h2, h3⟩⟩ := h
  · exact ⟨hF, .inl ⟨c, T, hb.trans h1, h2, fun i x hx => ⟨(h3 i x hx).1, (h3 i x hx).2.mono hst⟩⟩⟩
  · exact ⟨hF, .inr (.inl ⟨x, o, h1, hb.trans h2, h3⟩)⟩
  · exact ⟨hF, .inr (.inr ⟨L, t, h1, hb.trans h2, fun i => (h3 i).mono hst⟩)⟩
theorem Holds.lt {b : Nat} {cs : List AV} (h : Holds F w b cs) : b < w.heap.size := by
  obtain ⟨_, ⟨_, _, h1, _⟩ | ⟨_, _, _, h1, _⟩ | ⟨_, _, _, h1, _⟩⟩ := h
  · exact at_lt h1
  · exact at_lt h1
  · exact at_lt h1
theorem RelHp.perm {σ σ' : Hp} (h : RelHp F w σ) (hp : σ'.Perm σ) : RelHp F w σ' :=
  ⟨((hp.map Prod.fst).nodup_iff).2 h.nodup, fun p hm => h.holds p (hp.mem_iff.1 hm), h.low⟩
theorem RelHp.sub {σ σ' : Hp} (h : RelHp F w σ) (hs : σ'.Sublist σ) : RelHp F w σ' :=
  ⟨h.nodup.sublist (hs.map _), fun p hm => h.holds p (hs.subset hm), h.low⟩
theorem cons_erase_perm : ∀ (σ : Hp) (i : Nat) (p : Nat × List AV), σ[i]? = some p → (p :: σ.eraseIdx i).Perm σ
  | [], i, p, h => by simp at h
  | q :: σ, 0, p, h => by simp at h; subst h; exact List.Perm.refl _
  | q :: σ, i + 1, p, h => (List.Perm.swap q p _).trans (.cons q (cons_erase_perm σ i p (by simpa using h)))
theorem pull_perm (i : Nat) (σ : Hp) : (pull i σ).Perm σ := by
  unfold pull
  split
  · rename_i p h
    exact cons_erase_perm σ i p h
  · exact List.Perm.refl _
theorem pulls_perm : ∀ (js : List Nat) (σ : Hp), (pulls js σ).Perm σ
  | [], _ => List.Perm.refl _
  | i :: r, σ => (pull_perm i _).trans (pulls_perm r σ)
/-- Nothing that was there turns. -/
theorem stp_of_same (hlow : ∀ b, F b → b < w.heap.size) (ho : w'.os = w.os) (ht : w'.tape = w.tape) (hu : w'.output = w.output) (hs : w.heap.size ≤ w'.heap.size) (hb : ∀ b, b < w.heap.size → w'.heap[b]? = w.heap[b]?) (hd : w.drawn ≤ w'.drawn := by first | exact Nat.le_refl _ | exact Nat.le_succ _ | exact Nat.le_add_right _ _) : Stp F w F w' :=
  ⟨ho, ht, hu, hs, fun _ h => h, fun b h => hb b (hlow b h), fun b c _ fz h => ⟨c, fz, (hb b (at_lt h)).trans h, rfl⟩, hd⟩
theorem RelHp.same {σ : Hp} (h : RelHp F w σ) (hst : Stp F w F w') (hb : ∀ b, b < w.heap.size → w'.heap[b]? = w.heap[b]?) : RelHp F w' σ :=
  ⟨h.nodup, fun p hm => (h.holds p hm).mono hst (hb _ (h.holds p hm).lt) (h.holds p hm).1, fun b hF => Nat.lt_of_lt_of_le (h.low b hF) hst.size⟩
/-- A new block. -/
theorem relhp_alloc {σ : Hp} (h : RelHp F w σ) {c : Array Value} {T : TypeId} {cs : List AV} (hl : cs.length ≤ c.size) (hc : ∀ (i : Nat) (x : AV), cs[i]? = some x → x.leaf = true ∧ VRel F w x (c.getD i undef)) {w0 : World} (e0 : w0 = w ∨ w0 = w.drew) :
    Stp F w F (w0.alloc (.cells c T)) ∧ RelHp F (w0.alloc (.cells c T)) ((w.heap.size, cs) :: σ) := by
  have hold : ∀ b, b < w.heap.size → (w0.alloc (.cells c T)).heap[b]? = w.heap[b]? := fun b hb => by rcases e0 with rfl | rfl <;> exact Below.heap_alloc _ _ b (by simpa using hb)
  have hst : Stp F w F (w0.alloc (.cells c T)) := by
    rcases e0 with rfl | rfl
    · exact stp_of_same h.low rfl rfl rfl (by simp) hold
    · exact stp_of_same h.low rfl rfl rfl (by simp) hold
  have hr := h.same hst hold
  have hnew : (w0.alloc (.cells c T)).heap[w.heap.size]? = some (.cells c T (0, 0)) := by rcases e0 with rfl | rfl <;> exact alloc_at _ _
  refine ⟨hst, ⟨?_, fun p hm => ?_, hr.low⟩⟩
  · simp only [List.map_cons, List.nodup_cons]
    refine ⟨fun hm => ?_, h.nodup⟩
    obtain ⟨p, hp, e⟩ := List.mem_map.1 hm
    have := (h.holds p hp).lt
    omega
  · rcases List.mem_cons.1 hm with rfl | hm
    · exact ⟨fun hF => Nat.lt_irrefl _ (h.low _ hF), .inl ⟨c, T, hnew, hl, fun i x hx => ⟨(hc i x hx).1, (hc i x hx).2.mono hst⟩⟩⟩
    · exact hr.holds p hm
/-- A block written. -/
theorem relhp_set {σ : Hp} (h : RelHp F w σ) {j b : Nat} {cs cs' : List AV} (hj : σ[j]? = some (b, cs)) {c c' : Array Value} {T : TypeId} (hc : w.heap[b]? = some (.cells c T (0, 0))) (hsz : c'.size = c.size) (hl : cs'.length ≤ c'.size)
    (hr : ∀ (i : Nat) (x : AV), cs'[i]? = some x → x.leaf = true ∧ VRel F w x (c'.getD i undef)) (hw : ∀ k, k ≠ b → w'.heap[k]? = w.heap[k]?) (hwb : w'.heap[b]? = some (.cells c' T (0, 0))) (ho : w'.os = w.os) (ht : w'.tape = w.tape) (hu : w'.output = w.output) (hs : w'.heap.size = w.heap.size) (hd : w.drawn ≤ w'.drawn := by first | exact Nat.le_refl _ | exact Nat.le_succ _ | exact Nat.le_add_right _ _) :
    Stp F w F w' ∧ RelHp F w' (σ.set j (b, cs')) := by
  have hb := (h.holds (b, cs) (List.mem_of_getElem? hj)).1
  have hlt : j < σ.length := (List.getElem?_eq_some_iff.1 hj).1
  have hst : Stp F w F w' := ⟨ho, ht, hu, by omega, fun _ h => h, fun k hF => hw k (fun e => hb (e ▸ hF)), fun k d S fz hk => by
    by_cases e : k = b
    · subst e
      rw [hc] at hk
      cases hk
      exact ⟨c', (0, 0), hwb, hsz⟩
    · exact ⟨d, fz, (hw k e).trans hk, rfl⟩, hd⟩
  have hkeys : (σ.set j (b, cs')).map Prod.fst = σ.map Prod.fst := by
    rw [List.map_set]
    apply List.ext_getElem?
    intro k
    rw [List.getElem?_set]
    split
    · rename_i e; subst e
      simp [hlt]
      have := (List.getElem?_eq_some_iff.1 hj).2
      rw [this]
    · rfl
  refine ⟨hst, ⟨hkeys ▸ h.nodup, fun p hm => ?_, fun k hF => by rw [hs]; exact h.low k hF⟩⟩
  obtain ⟨k, hk⟩ := List.mem_iff_getElem?.1 hm
  rw [List.getElem?_set] at hk
  split at hk
  · rename_i e; subst e
    simp at hk
    obtain ⟨_, rfl⟩ := hk
    exact ⟨hb, .inl ⟨c', T, hwb, hl, fun i x hx => ⟨(hr i x hx).1, (hr i x hx).2.mono hst⟩⟩⟩
  · rename_i hne
    have hm' := List.mem_of_getElem? hk
    have hpb : p.1 ≠ b := by
      intro e
      have hnd := h.nodup
      have h1 : (σ.map Prod.fst)[k]? = some b := by rw [List.getElem?_map, hk]; simp [e]
      have h2 : (σ.map Prod.fst)[j]? = some b := by rw [List.getElem?_map, hj]; rfl
      have hk' : k < (σ.map Prod.fst).length := (List.getElem?_eq_some_iff.1 h1).1
      have := (List.getElem?_inj (i := k) (j := j) hk' hnd).1 (h1.trans h2.symm)
      exact hne this.symm
    exact (h.holds p hm').mono hst (hw _ hpb) (h.holds p hm').1
theorem repC_get (z : List AV) : ∀ (n j : Nat), j < n * z.length → (repC z n)[j]? = z[j % z.length]?
  | 0, j, h => by simp at h
  | n + 1, j, h => by
    unfold repC
    by_cases hj : j < z.length
    · rw [List.getElem?_append_left hj, Nat.mod_eq_of_lt hj]
    · have e : (n + 1) * z.length = n * z.length + z.length := Nat.succ_mul n z.length
      rw [List.getElem?_append_right (by omega), repC_get z n (j - z.length) (by omega)]
      rw [Nat.mod_eq_sub_mod (a := j) (b := z.length) (by omega)]
theorem repC_length (z : List AV) (n : Nat) : (repC z n).length = n * z.length := by
  induction n with
  | zero => simp [repC]
  | succ n ih => simp [repC, ih, Nat.succ_mul]; omega
theorem made_rel {i : TI} {z : Value} (hz : zeroB i.zero z.cells.toList = true) {n m : Nat} (hnm : n ≤ m) : (repC i.zero n).length ≤ (madeCells z.cells (m * i.zero.length)).size ∧ ∀ (k : Nat) (x : AV), (repC i.zero n)[k]? = some x → x.leaf = true ∧ VRel F w x ((madeCells z.cells (m * i.zero.length)).getD k undef) := by
  obtain ⟨h1, h2⟩ := zero_rel (F := F) (w := w) hz
  have hle : n * i.zero.length ≤ m * i.zero.length := Nat.mul_le_mul_right _ hnm
  refine ⟨by rw [repC_length, size_madeCells]; exact hle, fun k x hx => ?_⟩
  have hk : k < n * i.zero.length := by rw [← repC_length]; exact (List.getElem?_eq_some_iff.1 hx).1
  rw [repC_get _ _ _ hk] at hx
  obtain ⟨h3, h4⟩ := h2 _ x hx
  refine ⟨h3, ?_⟩
  have hlt : k < m * i.zero.length := by omega
  have hpos : 0 < i.zero.length := by
    rcases Nat.eq_zero_or_pos i.zero.length with h0 | h0
    · rw [h0] at hk; omega
    · exact h0
  have hmod : k % i.zero.length < z.cells.size := by rw [← h1]; exact Nat.mod_lt _ hpos
  rw [h1] at h4 hlt
  rw [h1] at hmod
  simpa [madeCells, Array.getD, hlt, h1, hmod, Nat.mod_lt _ (h1 ▸ hpos)] using h4
end
section
variable {P : Program} {TT : TypeId → Option TI} {F F' : Nat → Prop} {w w' : World}
/-- What an operation leads to. -/
def Leads (P : Program) (o : Oper) (ρ : Operand → AV) (σ : Hp) (K : AV → Hp → Prop) : Prop :=
  ∀ (a : Act) (F : Nat → Prop) (w : World), (∀ x ∈ o.op.operands.toList, VRel F w (ρ x) (a.eval x)) → RelHp F w σ → ∀ (next : Act → World → Prop) (Q : Exit → Act → World → Prop),
    (∀ v av σ' F' w', Stp F w F' w' → RelHp F' w' σ' → VRel F' w' av v → K av σ' → next (a.put o.dst v) w') → wq P o a w next Q
theorem leads_of_says {o : Oper} {ρ : Operand → AV} {σ : Hp} {K : AV → Hp → Prop} {v : AV} (h : Says P o.op ρ σ v) (hk : K v σ) : Leads P o ρ σ K := by
  intro a F w hx hσ next Q hn
  obtain ⟨v', h1, h2⟩ := h a.eval F w o rfl hx hσ
  unfold wq
  rw [h1]
  exact hn v' v σ F w (.refl _ _) hσ h2 hk
/-- An operation that makes one block, and hands back where. -/
theorem leads_alloc {o : Oper} {ρ : Operand → AV} {σ : Hp} {K : AV → Hp → Prop} {cs : List AV} {mk : Nat → AV} (hk : ∀ b, K (mk b) ((b, cs) :: σ))
    (h : ∀ (η : Operand → Value) (F : Nat → Prop) (w : World), (∀ x ∈ o.op.operands.toList, VRel F w (ρ x) (η x)) → ∃ (c : Array Value) (T : TypeId) (v : Value), (execOp η o).run P w = .ok (.value v) (w.alloc (.cells c T)) ∧ cs.length ≤ c.size ∧ (∀ (i : Nat) (x : AV), cs[i]? = some x → x.leaf = true ∧ VRel F w x (c.getD i undef)) ∧ VRel F (w.alloc (.cells c T)) (mk w.heap.size) v) : Leads P o ρ σ K := by
  intro a F w hx hσ next Q hn
  obtain ⟨c, T, v, h1, h2, h3, h4⟩ := h a.eval F w hx
  unfold wq
  rw [h1]
  obtain ⟨hst, hr⟩ := relhp_alloc hσ (T := T) h2 h3 (w0 := w) (.inl rfl)
  exact hn v _ _ F _ hst hr h4 (hk _)
theorem crel_of_cells {x : AV} {v : Value} {cs : List AV} (h : VRel F w x v) (hc : x.cells? = some cs) : cs.length ≤ v.cells.size ∧ ∀ (i : Nat) (x : AV), cs[i]? = some x → x.leaf = true ∧ VRel F w x (v.cells.getD i undef) := by
  obtain ⟨h1, h2⟩ := cells?_rel h hc
  exact ⟨by omega, h2⟩
theorem box_sound {o : Oper} {e : TypeId} {x : Operand} (ho : o.op = .box e x) {ρ : Operand → AV} {σ : Hp} {K : AV → Hp → Prop} {cs : List AV} (hc : (ρ x).cells? = some cs) (hk : ∀ b, K (.ptr b 0) ((b, cs) :: σ)) : Leads P o ρ σ K :=
  leads_alloc hk fun η F w hx => by
    have h1 := hx x (by simp [ho, Op.operands])
    obtain ⟨h2, h3⟩ := crel_of_cells h1 hc
    exact ⟨(η x).cells, e, .pointer (some ⟨w.heap.size, 0, none⟩), by simp [execOp, ho, Instr.box, newVar, newRow], h2, h3, .ptr _ _ ⟨_, _, _, alloc_at _ _⟩⟩
theorem alloc_sound (ok : TTok P TT) {o : Oper} {e : TypeId} (ho : o.op = .alloc e) {ρ : Operand → AV} {σ : Hp} {K : AV → Hp → Prop} {i : TI} (hi : TT e = some i) (hk : ∀ b, K (.ptr b 0) ((b, i.zero) :: σ)) : Leads P o ρ σ K :=
  leads_alloc hk fun η F w hx => by
    obtain ⟨j, d, z, hj, hd, _, _, _, hz, hzz⟩ := tt_fact ok hi
    obtain ⟨h1, h2⟩ := zero_rel (F := F) (w := w) hzz
    exact ⟨z.cells, e, .pointer (some ⟨w.heap.size, 0, none⟩), by simp [execOp, ho, Instr.alloc, newVar, newRow, zeroValue, typeInfo, hj, hz], by omega, h2, .ptr _ _ ⟨_, _, _, alloc_at _ _⟩⟩
theorem buildSlice_sound (ok : TTok P TT) {o : Oper} {t e : TypeId} {len : Nat} {parts : Array (Nat × Operand)} (ho : o.op = .buildSlice t len parts) {ρ : Operand → AV} {σ : Hp} {K : AV → Hp → Prop} {it i : TI} (ht : TT t = some it) (hk' : it.k = .slice e) (hi : TT e = some i) {cs : List AV}
    (hf : fillA ((List.range len).map fun j => (j * i.size, i.size)) (repC i.zero len) (parts.toList.map fun p => (p.1, ρ p.2)) = some cs) (hsz : len * i.size ≤ 16777216) (hpos : 1 ≤ i.size) (hk : ∀ b, K (.mref b 0 len i.size) ((b, cs) :: σ)) : Leads P o ρ σ K :=
  leads_alloc hk fun η F w hx => by
    obtain ⟨_, d, _, _, hd, _, _, hft, _, _⟩ := tt_fact ok ht
    rw [hk'] at hft
    obtain rfl := fits_slice hft
    obtain ⟨j, d', z, hj, hd', hs, ⟨_, hzl⟩, _, hz, hzz⟩ := tt_fact ok hi
    obtain ⟨hl, hr⟩ := parts_rel (parts := parts) (ρ := ρ) (η := η) (F := F) (w := w) (by simpa [ho, Op.operands] using hx)
    have hzs : z.cells.size = j.size := by have := (zero_rel (F := F) (w := w) hzz).1; omega
    obtain ⟨m1, m2⟩ := made_rel (F := F) (w := w) hzz (Nat.le_refl len)
    have hc0 : CRel F w (repC i.zero len) (madeCells z.cells (len * i.zero.length)) := ⟨by rw [repC_length, size_madeCells], m2⟩
    rw [hzl, ← hs] at hc0
    obtain ⟨vs', f1, f2⟩ := fill_rel (place := fun k => some (k * j.size, j.size)) (fun k p hk => by
      obtain ⟨a, ha, rfl⟩ := List.getElem?_eq_some_iff.1 hk
      simp [hs]) _ _ _ _ _ hl hr hc0 hf
    have hsize : vs'.size = len * j.size := by
      have e1 : ∀ (us : List (Nat × AV)) (xs out : List AV), fillA ((List.range len).map fun j => (j * i.size, i.size)) xs us = some out → out.length = xs.length := by
        intro us
        induction us with
        | nil => intro xs out h; simp [fillA] at h; subst h; rfl
        | cons p us ih =>
          intro xs out h
          obtain ⟨q, v⟩ := p
          simp only [fillA] at h
          split at h
          · split at h
            · rw [ih _ _ h, splice_length]
            · cases h
          · cases h
      have := e1 _ _ _ hf
      rw [repC_length] at this
      have h3 := f2.1
      rw [hzl, ← hs] at this
      omega
    refine ⟨vs', e, .slice (some ⟨w.heap.size, 0, none⟩) len len, ?_, by have := f2.1; omega, f2.2, .mref _ _ _ _ _ _ ⟨vs', e, (0, 0), alloc_at _ _, Nat.le_refl _, ?_, .inl ⟨rfl, by rw [hsize, hs]; omega⟩⟩⟩
    · by_cases h0 : len * j.size = 0
      · have : vs' = #[] := Array.size_eq_zero_iff.1 (by omega)
        subst this
        have f1' : Instr.fill (fun k => some (k * j.size, j.size)) #[] (parts.map fun (i, x) => (i, η x)).toList = some #[] := by
          have e0 : madeCells z.cells (len * j.size) = #[] := by rw [h0]; simp [madeCells, Array.range_zero']
          rw [e0] at f1
          exact f1
        simp only [execOp, ho, Instr.buildSlice, Sem.run_bind, run_underlying hd, Result.andThen_ok, run_sizeOf hj, h0, if_true, Sem.run_pure, Nat.reducePow, if_false, Nat.not_lt_zero, gt_iff_lt]
        rw [show ((Array.range 0).map fun x => (#[] : Array Value)[x % (#[] : Array Value).size]!) = #[] by simp [Array.range_zero'], f1']
        rfl
      · simp only [execOp, ho, Sem.run_bind, run_buildSlice w t e len _ vs' j z hd hj hz (by rw [hs]; omega) h0 f1]
        rfl
    · have : len ≤ len * i.size := Nat.le_mul_of_pos_right _ hpos
      unfold maxLen; omega
theorem makeSlice_sound (ok : TTok P TT) {o : Oper} {t e : TypeId} {l c : Operand} (ho : o.op = .makeSlice t l c) {ρ : Operand → AV} {σ : Hp} {K : AV → Hp → Prop} {it i : TI} (ht : TT t = some it) (hk' : it.k = .slice e) (hi : TT e = some i) {k k' : IntKind} {n m : Int} (hl : ρ l = .int k n) (hc : ρ c = .int k' m)
    (h0 : 0 ≤ n ∧ n ≤ m ∧ m ≤ 1048576 ∧ i.bytes ≤ 1024) (hk : ∀ b, K (.mref b 0 n.toNat i.size) ((b, repC i.zero n.toNat) :: σ)) : Leads P o ρ σ K :=
  leads_alloc hk fun η F w hx => by
    obtain ⟨_, d, _, _, hd, _, _, hft, _, _⟩ := tt_fact ok ht
    rw [hk'] at hft
    obtain rfl := fits_slice hft
    obtain ⟨j, d', z, hj, hd', hs, ⟨hb, hzl⟩, _, hz, hzz⟩ := tt_fact ok hi
    have h1 := hx l (by simp [ho, Op.operands]); rw [hl] at h1
    have h2 := hx c (by simp [ho, Op.operands]); rw [hc] at h2
    obtain ⟨m1, m2⟩ := made_rel (F := F) (w := w) hzz (show n.toNat ≤ m.toNat by omega)
    rw [hzl, ← hs] at m1 m2
    have hbm : (j.bytes : Int) * m ≤ 281474976710656 := by
      have : (j.bytes : Int) * m ≤ 1024 * 1048576 := Int.mul_le_mul (by omega) (by omega) (by omega) (by omega)
      omega
    refine ⟨madeCells z.cells (m.toNat * j.size), e, .slice (some ⟨w.heap.size, 0, none⟩) n.toNat m.toNat, ?_, m1, m2, .mref _ _ _ _ _ _ ⟨_, e, (0, 0), alloc_at _ _, by omega, by unfold maxLen; omega, .inl ⟨rfl, by rw [size_madeCells, hs]; omega⟩⟩⟩
    simp only [execOp, ho, h1.intv, h2.intv, Sem.run_bind, run_make w t e j z hd hj hz k k' n m h0.1 h0.2.1 hbm (by omega)]
    rfl
end
section
variable {P : Program} {TT : TypeId → Option TI} {F F' : Nat → Prop} {w w' : World}
theorem splice_get : ∀ (xs cs : List AV) (o k : Nat), o + xs.length ≤ cs.length → (splice cs o xs)[k]? = if o ≤ k ∧ k < o + xs.length then xs[k - o]? else cs[k]?
  | [], cs, o, k, _ => by rw [if_neg (by intro h; simp at h; omega)]; rfl
  | x :: xs, cs, o, k, h => by
    simp only [List.length_cons] at h
    rw [splice, splice_get xs (cs.set o x) (o + 1) k (by simp; omega)]
    simp only [List.length_cons]
    by_cases h1 : o + 1 ≤ k ∧ k < o + 1 + xs.length
    · rw [if_pos h1, if_pos (by omega), show k - o = (k - (o + 1)) + 1 by omega]; rfl
    · rw [if_neg h1]
      by_cases h2 : o = k
      · subst h2
        rw [if_pos (by omega), Nat.sub_self, List.getElem?_set]
        simp; omega
      · rw [if_neg (by omega), List.getElem?_set, if_neg h2]
theorem row_get (c vs : List Value) (o k : Nat) (h : o + vs.length ≤ c.length) : (c.take o ++ vs ++ c.drop (o + vs.length))[k]? = if o ≤ k ∧ k < o + vs.length then vs[k - o]? else c[k]? := by
  have hl : (c.take o).length = o := by simp; omega
  by_cases h1 : k < o
  · rw [if_neg (by omega), List.append_assoc, List.getElem?_append_left (by omega), List.getElem?_take, if_pos h1]
  · by_cases h2 : k < o + vs.length
    · rw [if_pos (by omega), List.append_assoc, List.getElem?_append_right (by omega), hl, List.getElem?_append_left (by omega)]
    · rw [if_neg (by omega), List.getElem?_append_right (by simp; omega), List.getElem?_drop]
      congr 1
      simp; omega
theorem writeAs_some {i : TI} {cs cs' : List AV} {o : Nat} {v : AV} (h : writeAs i cs o v = some cs') : ∃ vs, v.cells? = some vs ∧ vs.length = i.size ∧ o + i.size ≤ cs.length ∧ cs' = splice cs o vs := by
  unfold writeAs at h
  split at h
  · rename_i vs hv
    split at h
    · rename_i h1 h2
      exact ⟨vs, hv, Nat.eq_of_beq_eq_true h1, Nat.le_of_ble_eq_true h2, (Option.some.inj h).symm⟩
    · cases h
  · cases h
/-- Cells laid over others. -/
theorem laid_rel {c : Array Value} {cs xs : List AV} {vs : List Value} {o : Nat} (hc : ∀ (i : Nat) (x : AV), cs[i]? = some x → x.leaf = true ∧ VRel F w x (c.getD i undef)) (hx : xs.length = vs.length) (hv : ∀ (i : Nat) (x : AV), xs[i]? = some x → x.leaf = true ∧ VRel F w x (vs.getD i undef)) (ho : o + xs.length ≤ c.size)
    {out : List AV} (hol : out.length ≤ c.size) (hout : ∀ k y, out[k]? = some y → (if o ≤ k ∧ k < o + xs.length then xs[k - o]? else cs[k]?) = some y) :
    ∀ (i : Nat) (x : AV), out[i]? = some x → x.leaf = true ∧ VRel F w x ((c.toList.take o ++ vs ++ c.toList.drop (o + vs.length)).toArray.getD i undef) := by
  intro k y hk
  have h1 := hout k y hk
  have hlt : k < out.length := (List.getElem?_eq_some_iff.1 hk).1
  have hrow := row_get c.toList vs o k (by simp; omega)
  have hkc : k < c.size := by omega
  have hlen : (c.toList.take o ++ vs ++ c.toList.drop (o + vs.length)).length = c.size := by simp; omega
  have hgd : (c.toList.take o ++ vs ++ c.toList.drop (o + vs.length)).toArray.getD k undef = ((c.toList.take o ++ vs ++ c.toList.drop (o + vs.length))[k]?).getD undef := by
    have h2 : k < (c.toList.take o ++ vs ++ c.toList.drop (o + vs.length)).toArray.size := by rw [List.size_toArray, hlen]; exact hkc
    simp only [Array.getD, h2, dif_pos]
    rw [List.getElem?_eq_getElem (by rw [hlen]; exact hkc)]
    rfl
  rw [hgd, hrow]
  split at h1
  · rename_i hin
    rw [if_pos (by omega)]
    obtain ⟨h2, h3⟩ := hv _ y h1
    exact ⟨h2, by rw [List.getD_eq_getElem?_getD] at h3; exact h3⟩
  · rename_i hin
    rw [if_neg (by omega)]
    obtain ⟨h2, h3⟩ := hc _ y h1
    refine ⟨h2, ?_⟩
    simpa [Array.getD, hkc] using h3
theorem store_sound (ok : TTok P TT) {o : Oper} {t : TypeId} {p x : Operand} (ho : o.op = .store t p x) {ρ : Operand → AV} {σ : Hp} {K : AV → Hp → Prop} {i : TI} (hi : TT t = some i) {b off : Nat} (hp : ρ p = .ptr b off) (h : StoreAt i σ b off (ρ x) (fun σ' => K .any σ')) : Leads P o ρ σ K := by
  intro a F w hx hσ next Q hn
  obtain ⟨j, cs, cs', h1, h2, go⟩ := h
  obtain ⟨vs, hv, hvl, hle, rfl⟩ := writeAs_some h2
  obtain ⟨jt, d, z, hj, hd, hs, _⟩ := tt_fact ok hi
  have a1 := hx p (by simp [ho, Op.operands]); rw [hp] at a1
  have a2 := hx x (by simp [ho, Op.operands])
  obtain ⟨c1, c2⟩ := cells?_rel a2 hv
  obtain ⟨hF, c, T, hc, hcl, hcr⟩ := (hσ.holds _ (List.mem_of_getElem? h1)).cells a1.ptr_cells
  have hcl : cs.length ≤ c.size := hcl
  have hone : ∀ u ∈ (a.eval x).cells.toList, u.oneCell' = true := by
    intro u hu
    obtain ⟨k, hk⟩ := List.mem_iff_getElem?.1 hu
    have hlt : k < (a.eval x).cells.size := by have := (List.getElem?_eq_some_iff.1 hk).1; simpa using this
    obtain ⟨h3, h4⟩ := c2 k vs[k] (by simp)
    have := h4.one h3
    simpa [Array.getD, hlt, show (a.eval x).cells[k] = u by simpa [hlt] using hk] using this
  have hst := run_storeCells_at (P := P) b off T (a.eval x).cells.toList 0 c w hc (by simp [c1]; omega) hone
  have hrun : (execOp a.eval o).run P w = .ok .skip (w.setRow b (c.toList.take off ++ (a.eval x).cells.toList ++ c.toList.drop (off + (a.eval x).cells.toList.length)).toArray) := by
    simp only [Nat.add_zero] at hst
    have hsz : ¬ ((a.eval x).cells.size ≠ jt.size) := by rw [c1, hvl, hs]; simp
    simp only [execOp, ho, a1.ptrv, Instr.storeAt, Instr.sureAddr, Sem.run_bind, Sem.run_pure, Result.andThen_ok, storeVar, run_sizeOf hj, if_neg hsz, hst]
  unfold wq
  rw [hrun]
  have hlen : (c.toList.take off ++ (a.eval x).cells.toList ++ c.toList.drop (off + (a.eval x).cells.toList.length)).length = c.size := by simp; omega
  obtain ⟨s1, s2⟩ := relhp_set hσ h1 (cs' := splice cs off vs) hc (c' := (c.toList.take off ++ (a.eval x).cells.toList ++ c.toList.drop (off + (a.eval x).cells.toList.length)).toArray) (by simp only [List.size_toArray]; exact hlen) (by rw [splice_length]; simp only [List.size_toArray]; omega)
    (laid_rel (xs := vs) hcr (by simp [c1]) (fun k y hk => by
      have hlt : k < (a.eval x).cells.size := by rw [c1]; exact (List.getElem?_eq_some_iff.1 hk).1
      have := c2 k y hk
      simpa [Array.getD, List.getD, hlt] using this) (by omega) (by rw [splice_length]; omega) (fun k y hk => by rw [splice_get _ _ _ _ (by omega)] at hk; exact hk))
    (fun k hk => setRow_other w b k _ hk) (setRow_heap w b c _ T _ hc) rfl rfl rfl (by simp)
  exact hn undef .any _ F _ s1 s2 (.any _) go
theorem At.flat {α : Type} {f : α → List AV} {es : Nat} (hf : ∀ x, (f x).length = es) {b : Nat} : ∀ (l : List α) (o : Nat), (∀ i, (h : i < l.length) → At F w b (o + i * es) (f l[i])) → At F w b o (l.flatMap f)
  | [], o, _ => fun i x h => by simp at h
  | y :: l, o, h => by
    have h0 := h 0 (by simp)
    have ih := At.flat hf l (o + es) (fun i hi => by
      have := h (i + 1) (by simpa using hi)
      rw [Nat.succ_mul, show o + (i * es + es) = o + es + i * es by omega] at this
      simpa using this)
    intro i x hx
    rw [List.flatMap_cons] at hx
    by_cases hi : i < es
    · rw [List.getElem?_append_left (by rw [hf]; exact hi)] at hx
      have := h0 i x (by simpa using hx)
      simpa using this
    · rw [List.getElem?_append_right (by rw [hf]; omega), hf] at hx
      have := ih (i - es) x hx
      rw [show o + es + (i - es) = o + i by omega] at this
      exact this
theorem flat_length {α : Type} {f : α → List AV} {es : Nat} (hf : ∀ x, (f x).length = es) : ∀ (l : List α), (l.flatMap f).length = l.length * es
  | [] => by simp
  | y :: l => by rw [List.flatMap_cons, List.length_append, hf, flat_length hf l, List.length_cons, Nat.succ_mul]; omega
/-- Cells known, as values. -/
theorem at_news {b o : Nat} {cs : List AV} (h : At F w b o cs) : ∃ news : List Value, news.length = cs.length ∧ (∀ j u, news[j]? = some u → w.cell? ⟨b, o + j, none⟩ = some u) ∧ (∀ (i : Nat) (x : AV), cs[i]? = some x → x.leaf = true ∧ VRel F w x (news.getD i undef)) ∧ ∀ u ∈ news, u.oneCell' = true := by
  have hc : ∀ m, m < cs.length → ∃ v, w.cell? ⟨b, o + m, none⟩ = some v ∧ v.oneCell' = true := by
    intro m hm
    obtain ⟨h1, v, h2, h3⟩ := h m cs[m] (by simp [hm])
    exact ⟨v, h2, h3.one h1⟩
  refine ⟨(List.range cs.length).map fun m => (w.cell? ⟨b, o + m, none⟩).getD undef, by simp, fun j u hj => ?_, fun i x hx => ?_, fun u hu => ?_⟩
  · have hlt : j < cs.length := by have := (List.getElem?_eq_some_iff.1 hj).1; simpa using this
    obtain ⟨v, h2, _⟩ := hc j hlt
    simp [hlt, h2] at hj
    rw [h2, hj]
  · have hlt : i < cs.length := (List.getElem?_eq_some_iff.1 hx).1
    obtain ⟨h1, v, h2, h3⟩ := h i x hx
    refine ⟨h1, ?_⟩
    simpa [List.getD, hlt, h2] using h3
  · obtain ⟨m, hm, rfl⟩ := List.mem_map.1 hu
    obtain ⟨v, h2, h3⟩ := hc m (List.mem_range.1 hm)
    rw [h2]
    exact h3
/-- What is appended. -/
theorem src_sound {σ : Hp} {es n : Nat} {x : AV} {new : List AV} (h : SrcAt σ es x n new) (hσ : RelHp F w σ) {v : Value} (hv : VRel F w x v) {tx e' : TypeId} (hk : P.underlying tx = some (.slice e')) :
    ∃ news : List Value, Src P es tx v n news w ∧ new.length = news.length ∧ ∀ (i : Nat) (x : AV), new[i]? = some x → x.leaf = true ∧ VRel F w x (news.getD i undef) := by
  have empty : ∀ (a : Option Addr) (c : Nat), Src P es tx (.slice a 0 c) 0 [] w := by
    intro a c
    cases a with
    | none => exact Src.ofNil w hk c
    | some a => exact Src.ofSlice w hk a 0 c [] (by simp) (fun j u h => by simp at h) (fun _ h => by cases h)
  cases h with
  | nils => cases hv; exact ⟨[], empty _ _, rfl, fun i x h => by simp at h⟩
  | zsl => cases hv; exact ⟨[], empty _ _, rfl, fun i x h => by simp at h⟩
  | esl => cases hv; exact ⟨[], empty _ _, rfl, fun i x h => by simp at h⟩
  | fsl s l hs =>
    obtain ⟨a, c, rfl, h1, h2, h3⟩ := hv.fslv
    by_cases hne : l = []
    · subst hne
      exact ⟨[], empty _ _, rfl, fun i x h => by simp at h⟩
    · obtain ⟨b, o, rfl, hF, hr⟩ := h3 hne
      have hat : At F w b o (l.flatMap s.cells) := At.flat (es := s.size) (fun d => Sh.cells_length s d) l o (fun i hi => by
        obtain ⟨cs', q1, q2, q3⟩ := hr i hi
        exact At.of_lies s q2 q3)
      obtain ⟨news, n1, n2, n3, n4⟩ := at_news hat
      have hl := flat_length (fun d => Sh.cells_length s d) l
      exact ⟨news, Src.ofSlice w hk _ _ c news (by rw [n1, hl, hs]) (fun j u hj => by rw [addr_add]; exact n2 j u hj) n4, n1.symm, n3⟩
  | mref j b off len cs h1 h2 =>
    obtain ⟨a, cap, rfl, c, T, fz, m1, m2, m3, m4⟩ := hv.mrefv
    have hat : At F w b off ((cs.drop off).take (n * es)) := by
      have := (hσ.at_ h1 ⟨c, T, fz, m1⟩).drop off
      rw [Nat.zero_add] at this
      intro i x hx
      rw [List.getElem?_take] at hx
      split at hx
      · exact this i x hx
      · cases hx
    have hl : ((cs.drop off).take (n * es)).length = n * es := by simp; omega
    obtain ⟨news, n1, n2, n3, n4⟩ := at_news hat
    rcases m4 with ⟨rfl, _⟩ | ⟨q1, q2, rfl, rfl⟩
    · exact ⟨news, Src.ofSlice w hk _ _ cap news (by rw [n1, hl]) (fun j u hj => by rw [addr_add]; exact n2 j u hj) n4, n1.symm, n3⟩
    · have h0 : (List.take (0 * es) (List.drop off cs)) = [] := by simp
      rw [h0]
      exact ⟨[], empty _ _, rfl, fun i x h => by simp at h⟩
theorem run_append_op {η : Operand → Value} {o : Oper} {s x : Operand} {t t' : TypeId} (ho : o.op = .call ⟨.builtin .append, #[s, x], #[t, t']⟩) {v : Value} {w w' : World} (h : (Builtin.append_ #[t, t'] o.type #[η s, η x]).run P w = .ok v w') : (execOp η o).run P w = .ok (.value v) w' := by
  rw [call_args _ _ _ o ho]
  simp [builtin, h]
theorem size_zeroC (z : Array Value) (n : Nat) : (Builtin.zeroCells z n).size = n * z.size := by simp [Builtin.zeroCells]
/-- A new row behind append. -/
theorem grown_rel {σ : Hp} (hσ : RelHp F w σ) {e : TypeId} {i : TI} {z : Value} {olds news : List Value} {co cn : List AV} {len n cap : Nat} (ho : co.length = olds.length) (hn : cn.length = news.length) (hor : ∀ (i : Nat) (x : AV), co[i]? = some x → x.leaf = true ∧ VRel F w x (olds.getD i undef)) (hnr : ∀ (i : Nat) (x : AV), cn[i]? = some x → x.leaf = true ∧ VRel F w x (news.getD i undef))
    (hlo : olds.length = len * i.size) (hln : news.length = n * i.size) (hzs : z.cells.size = i.size) (hc1 : len + n ≤ cap) (hc2 : cap ≤ maxLen) :
    let w2 := w.drew.alloc (.cells ((olds ++ news).toArray ++ Builtin.zeroCells z.cells (cap - (len + n))) e)
    Stp F w F w2 ∧ RelHp F w2 ((w.heap.size, co ++ cn) :: σ) ∧ VRel F w2 (.mref w.heap.size 0 (len + n) i.size) (.slice (some ⟨w.heap.size, 0, none⟩) (len + n) cap) := by
  intro w2
  have hsz : ((olds ++ news).toArray ++ Builtin.zeroCells z.cells (cap - (len + n))).size = cap * i.size := by
    simp only [Array.size_append, List.size_toArray, List.length_append, size_zeroC, hzs, hlo, hln]
    rw [← Nat.add_mul, ← Nat.add_mul]
    congr 1
    omega
  obtain ⟨h1, h2⟩ := relhp_alloc hσ (c := (olds ++ news).toArray ++ Builtin.zeroCells z.cells (cap - (len + n))) (T := e) (cs := co ++ cn) (by simp; omega) (fun k x hx => by
    have hlt : k < (co ++ cn).length := (List.getElem?_eq_some_iff.1 hx).1
    have hk2 : k < (olds ++ news).length := by simp at hlt ⊢; omega
    have e1 : ((olds ++ news).toArray ++ Builtin.zeroCells z.cells (cap - (len + n))).getD k undef = (olds ++ news).getD k undef := by
      rw [Array.getD_eq_getD_getElem?, Array.getElem?_append_left (by simpa using hk2), List.getD_eq_getElem?_getD, List.getElem?_toArray]
    rw [e1]
    by_cases hk : k < co.length
    · rw [List.getElem?_append_left hk] at hx
      rw [List.getD_eq_getElem?_getD, List.getElem?_append_left (by omega), ← List.getD_eq_getElem?_getD]
      exact hor k x hx
    · rw [List.getElem?_append_right (by omega)] at hx
      rw [List.getD_eq_getElem?_getD, List.getElem?_append_right (by omega), ← List.getD_eq_getElem?_getD, ← ho]
      exact hnr _ x hx) (w0 := w.drew) (.inr rfl)
  refine ⟨h1, h2, .mref _ _ _ _ _ _ ⟨_, e, (0, 0), ?_, hc1, hc2, .inl ⟨rfl, by rw [hsz]; omega⟩⟩⟩
  exact alloc_at w.drew _
theorem append0_sound (ok : TTok P TT) {o : Oper} {s x : Operand} {t t' e e' : TypeId} (ho : o.op = .call ⟨.builtin .append, #[s, x], #[t, t']⟩) {ρ : Operand → AV} {σ : Hp} {K : AV → Hp → Prop} {it it' i : TI} (ht : TT t = some it) (hk : it.k = .slice e) (ht' : TT t' = some it') (hk' : it'.k = .slice e') (hi : TT e = some i)
    (h : Append0 i σ (ρ s) (ρ x) K) : Leads P o ρ σ K := by
  intro a F w hx hσ next Q hnx
  obtain ⟨_, d, _, _, hd, _, _, hft, _, _⟩ := tt_fact ok ht
  rw [hk] at hft
  obtain rfl := fits_slice hft
  obtain ⟨_, d', _, _, hd', _, _, hft', _, _⟩ := tt_fact ok ht'
  rw [hk'] at hft'
  obtain rfl := fits_slice hft'
  obtain ⟨j, dj, z, hj, hdj, hs, ⟨hb, hzl⟩, _, hz, hzz⟩ := tt_fact ok hi
  have hzs : z.cells.size = i.size := by have := (zero_rel (F := F) (w := w) hzz).1; omega
  have a1 := hx s (by simp [ho, Op.operands, Call.operands])
  have a2 := hx x (by simp [ho, Op.operands, Call.operands])
  have fits : ∀ {len n : Nat}, len + n ≤ 1048576 → i.bytes ≤ 1024 → (len + n) * j.bytes ≤ 140737488355328 := by
    intro len n h1 h2
    rw [hb]
    have : (len + n) * i.bytes ≤ 1048576 * 1024 := Nat.mul_le_mul h1 h2
    omega
  cases h with
  | fresh n new hsn hsrc hn hby h0 go same =>
    obtain ⟨news, src, q1, q2⟩ := src_sound (P := P) hsrc hσ a2 hd'
    rw [← hs] at src
    obtain ⟨ad, hv⟩ : ∃ ad, a.eval s = .slice ad 0 0 := by
      rcases hsn with hsn | hsn
      · rw [hsn] at a1; revert a1; generalize a.eval s = u; intro a1; cases a1; exact ⟨none, rfl⟩
      · rw [hsn] at a1; revert a1; generalize a.eval s = u; intro a1; cases a1; exact ⟨_, rfl⟩
    by_cases hn0 : n = 0
    · subst hn0
      have hnews : news = [] := List.length_eq_zero_iff.1 (by rw [src.newsLen]; simp)
      subst hnews
      have hr := run_append_op (η := a.eval) ho (by rw [hv]; exact run_append_nothing w t t' o.type e j hd hj ad 0 0 (Nat.le_refl _) _ src)
      unfold wq
      rw [hr]
      exact hnx _ _ σ F w (.refl _ _) hσ (by rw [← hv]; exact a1) (same rfl)
    · have hold : (Builtin.firstCells j.size 0 (.slice ad 0 0)).run P w.drew = .ok #[] w.drew := by
        cases ad with
        | none => exact run_firstCells_none w.drew _ _ _ _
        | some ad => exact run_firstCells_some w.drew j.size 0 ad 0 0 [] (by simp) (fun j u h => by simp at h)
      have hgrow := run_append_grow_src (P := P) w t t' o.type e j z hd hj hz ad 0 0 [] hold _ n news src (by omega) (by omega) (growslice_fits (by omega) (fits (by omega) hby))
      have hge := grownCap_ge w (0 + n) 0 e
      have hcm := grownCap_le_maxLen w (0 + n) 0 e (by unfold maxLen; omega)
      obtain ⟨g1, g2, g3⟩ := grown_rel hσ (e := e) (i := i) (z := z) (olds := []) (co := []) (news := news) (cn := new) (len := 0) (n := n) (cap := grownCap w (0 + n) 0 e) rfl q1 (fun i x h => by simp at h) q2 (by simp) (by rw [src.newsLen, hs]) hzs hge hcm
      have hr := run_append_op (η := a.eval) ho (by rw [hv]; exact hgrow)
      unfold wq
      rw [hr]
      have := go hn0 w.heap.size
      rw [show n = 0 + n from (Nat.zero_add n).symm] at this
      exact hnx _ _ _ F _ g1 g2 g3 this
  | more jj b len n cs new hsm hj1 hcl hsrc hn hby h0 go =>
    obtain ⟨news, src, q1, q2⟩ := src_sound (P := P) hsrc hσ a2 hd'
    rw [hsm] at a1
    obtain ⟨ad, cap, hv, c, T, fz, m1, m2, m3, m4⟩ := a1.mrefv
    obtain ⟨hF, c', T', hc', hcl', hcr'⟩ := (hσ.holds _ (List.mem_of_getElem? hj1)).cells ⟨c, T, fz, m1⟩
    have hcl' : cs.length ≤ c'.size := hcl'
    have hcc : c = c' ∧ T = T' ∧ fz = (0, 0) := by
      rw [hc'] at m1; cases m1; exact ⟨rfl, rfl, rfl⟩
    obtain ⟨rfl, rfl, rfl⟩ := hcc
    have hlt : jj < σ.length := (List.getElem?_eq_some_iff.1 hj1).1
    have hco : (cs.take (len * i.size)).length = len * i.size := by simp; omega
    have hcor : ∀ (k : Nat) (x : AV), (cs.take (len * i.size))[k]? = some x → x.leaf = true ∧ VRel F w x (c.getD k undef) := by
      intro k x hx
      rw [List.getElem?_take] at hx
      split at hx
      · exact hcr' k x hx
      · cases hx
    have hsub : RelHp F w (σ.eraseIdx jj) := hσ.sub (List.eraseIdx_sublist _ _)
    by_cases hroom : len + n ≤ cap
    · rcases m4 with ⟨rfl, hfit⟩ | ⟨ha1, ha2, hl0, hc0⟩
      · rw [Nat.zero_add] at hfit
        have hmul : (len + n) * i.size ≤ cap * i.size := Nat.mul_le_mul_right _ hroom
        rw [Nat.add_mul] at hmul
        have hnl : news.length = n * i.size := src.newsLen
        have hst := run_storeCells_at (P := P) b (len * i.size) T news 0 c w hc' (by omega) src.one
        simp only [Nat.add_zero] at hst
        rw [← hs] at src
        have happ : (Builtin.append_ #[t, t'] o.type #[.slice (some ⟨b, 0, none⟩) len cap, a.eval x]).run P w = .ok (.slice (some ⟨b, 0, none⟩) (len + n) cap) (w.setRow b (c.toList.take (len * i.size) ++ news ++ c.toList.drop (len * i.size + news.length)).toArray) := by
          rw [← hs] at hst ⊢
          simp [Builtin.append_, run_underlying hd, run_underlying hd', sizeOf, typeInfo, hj, src.len, hroom, src.cells, Addr.add_lit, hst]
        have hr := run_append_op (η := a.eval) ho (by rw [hv]; exact happ)
        have hlen : (c.toList.take (len * i.size) ++ news ++ c.toList.drop (len * i.size + news.length)).length = c.size := by simp; omega
        obtain ⟨s1, s2⟩ := relhp_set hσ hj1 (cs' := cs.take (len * i.size) ++ new) hc' (c' := (c.toList.take (len * i.size) ++ news ++ c.toList.drop (len * i.size + news.length)).toArray) (by simp only [List.size_toArray]; exact hlen) (by rw [List.size_toArray, hlen, List.length_append, hco, q1]; omega)
          (laid_rel (cs := cs.take (len * i.size)) (xs := new) (fun k y hk => hcor k y hk) q1 q2 (by omega) (by simp only [List.length_append, hco, q1]; omega) (fun k y hk => by
            by_cases hkl : k < len * i.size
            · rw [if_neg (by omega)]
              rw [List.getElem?_append_left (by omega)] at hk
              exact hk
            · rw [List.getElem?_append_right (by omega), hco] at hk
              have := (List.getElem?_eq_some_iff.1 hk).1
              rw [if_pos (by omega)]
              exact hk))
          (fun k hk => setRow_other w b k _ hk) (setRow_heap w b c _ T _ hc') rfl rfl rfl (by simp)
        unfold wq
        rw [hr]
        refine hnx _ _ _ F _ s1 (s2.perm ?_) ?_ (go b)
        · have := cons_erase_perm (σ.set jj (b, cs.take (len * i.size) ++ new)) jj (b, cs.take (len * i.size) ++ new) (by simp [hlt])
          rw [List.eraseIdx_set_eq] at this
          exact this
        · exact .mref _ _ _ _ _ _ ⟨_, T, (0, 0), setRow_heap w b c _ T _ hc', by omega, m3, .inl ⟨rfl, by simp only [List.size_toArray]; rw [hlen]; omega⟩⟩
      · subst hl0; subst hc0
        obtain rfl : n = 0 := by omega
        have hnews : news = [] := List.length_eq_zero_iff.1 (by rw [src.newsLen]; simp)
        subst hnews
        rw [← hs] at src
        have hnew : new = [] := List.length_eq_zero_iff.1 (by simpa using q1)
        subst hnew
        have hr := run_append_op (η := a.eval) ho (by rw [hv]; exact run_append_nothing w t t' o.type e j hd hj (some ad) 0 0 (Nat.le_refl _) _ src)
        unfold wq
        rw [hr]
        have hperm : RelHp F w ((b, cs) :: σ.eraseIdx jj) := hσ.perm (cons_erase_perm σ jj (b, cs) hj1)
        have g0 : K (.mref b 0 0 i.size) ((b, []) :: σ.eraseIdx jj) := by simpa using go b
        refine hnx _ _ ((b, []) :: σ.eraseIdx jj) F w (.refl _ _) ⟨hperm.nodup, fun p hp => ?_, hperm.low⟩ (.mref b 0 0 i.size ad 0 ⟨c, T, (0, 0), hc', Nat.le_refl _, by unfold maxLen; omega, .inr ⟨ha1, ha2, rfl, rfl⟩⟩) g0
        rcases List.mem_cons.1 hp with rfl | hp
        · exact ⟨hF, .inl ⟨c, T, hc', by simp, fun i x h => by simp at h⟩⟩
        · exact hperm.holds p (List.mem_cons_of_mem _ hp)
    · obtain ⟨olds, o1, o2, o3⟩ : ∃ olds : List Value, olds.length = len * i.size ∧ (Builtin.firstCells i.size len (.slice (some ad) len cap)).run P w.drew = .ok olds.toArray w.drew ∧ ∀ (k : Nat) (x : AV), (cs.take (len * i.size))[k]? = some x → x.leaf = true ∧ VRel F w x (olds.getD k undef) := by
        rcases m4 with ⟨rfl, hfit⟩ | ⟨ha1, ha2, rfl, rfl⟩
        · have hat : At F w b 0 (cs.take (len * i.size)) := by
            have := hσ.at_ hj1 ⟨_, _, _, hc'⟩
            intro k x hx
            rw [List.getElem?_take] at hx
            split at hx
            · exact this k x hx
            · cases hx
          obtain ⟨olds, n1, n2, n3, n4⟩ := at_news hat
          refine ⟨olds, by rw [n1, hco], run_firstCells_some w.drew i.size len _ len cap olds (by rw [n1, hco]) (fun k u hk => ?_), n3⟩
          rw [addr_add]
          exact n2 k u hk
        · exact ⟨[], by simp, run_firstCells_some w.drew i.size 0 ad 0 0 [] (by simp) (fun j u h => by simp at h), fun k x h => by simp at h⟩
      have hnl : news.length = n * i.size := src.newsLen
      rw [← hs] at src
      have hgrow := run_append_grow_src (P := P) w t t' o.type e j z hd hj hz (some ad) len cap olds (by rw [hs]; exact o2) _ n news src (by omega) (by omega) (growslice_fits (by omega) (fits (by omega) hby))
      have hge := grownCap_ge w (len + n) cap e
      have hcm := grownCap_le_maxLen w (len + n) cap e (by unfold maxLen; omega)
      obtain ⟨g1, g2, g3⟩ := grown_rel hsub (e := e) (i := i) (z := z) (olds := olds) (co := cs.take (len * i.size)) (news := news) (cn := new) (len := len) (n := n) (cap := grownCap w (len + n) cap e) (by rw [hco, o1]) q1 o3 q2 o1 hnl hzs hge hcm
      have hr := run_append_op (η := a.eval) ho (by rw [hv]; exact hgrow)
      unfold wq
      rw [hr]
      exact hnx _ _ _ F _ g1 g2 g3 (go w.heap.size)
  | moreO jj b off len n cs new hsm hj1 hcl hsrc hn hby h0 goIn go =>
    obtain ⟨news, src, q1, q2⟩ := src_sound (P := P) hsrc hσ a2 hd'
    rw [hsm] at a1
    obtain ⟨ad, cap, hv, c, T, fz, m1, m2, m3, m4⟩ := a1.mrefv
    obtain ⟨hF, c', T', hc', hcl', hcr'⟩ := (hσ.holds _ (List.mem_of_getElem? hj1)).cells ⟨c, T, fz, m1⟩
    have hcl' : cs.length ≤ c'.size := hcl'
    have hcc : c = c' ∧ T = T' ∧ fz = (0, 0) := by
      rw [hc'] at m1; cases m1; exact ⟨rfl, rfl, rfl⟩
    obtain ⟨rfl, rfl, rfl⟩ := hcc
    have hlt : jj < σ.length := (List.getElem?_eq_some_iff.1 hj1).1
    have hco : (cs.take (off + len * i.size)).length = off + len * i.size := by simp; omega
    have hco2 : ((cs.drop off).take (len * i.size)).length = len * i.size := by simp; omega
    have hcor : ∀ (k : Nat) (x : AV), (cs.take (off + len * i.size))[k]? = some x → x.leaf = true ∧ VRel F w x (c.getD k undef) := by
      intro k x hx
      rw [List.getElem?_take] at hx
      split at hx
      · exact hcr' k x hx
      · cases hx
    have hsub : RelHp F w (σ.eraseIdx jj) := hσ.sub (List.eraseIdx_sublist _ _)
    by_cases hroom : len + n ≤ cap
    · rcases m4 with ⟨rfl, hfit⟩ | ⟨ha1, ha2, hl0, hc0⟩
      · have hfit : off + cap * i.size ≤ c.size := hfit
        have hmul : (len + n) * i.size ≤ cap * i.size := Nat.mul_le_mul_right _ hroom
        rw [Nat.add_mul] at hmul
        have hnl : news.length = n * i.size := src.newsLen
        have hst := run_storeCells_at (P := P) b (off + len * i.size) T news 0 c w hc' (by omega) src.one
        simp only [Nat.add_zero] at hst
        rw [← hs] at src
        have happ : (Builtin.append_ #[t, t'] o.type #[.slice (some ⟨b, off, none⟩) len cap, a.eval x]).run P w = .ok (.slice (some ⟨b, off, none⟩) (len + n) cap) (w.setRow b (c.toList.take (off + len * i.size) ++ news ++ c.toList.drop (off + len * i.size + news.length)).toArray) := by
          rw [← hs] at hst ⊢
          simp [Builtin.append_, run_underlying hd, run_underlying hd', sizeOf, typeInfo, hj, src.len, hroom, src.cells, Addr.add_lit, hst]
        have hr := run_append_op (η := a.eval) ho (by rw [hv]; exact happ)
        have hlen : (c.toList.take (off + len * i.size) ++ news ++ c.toList.drop (off + len * i.size + news.length)).length = c.size := by simp; omega
        obtain ⟨s1, s2⟩ := relhp_set hσ hj1 (cs' := cs.take (off + len * i.size) ++ new) hc' (c' := (c.toList.take (off + len * i.size) ++ news ++ c.toList.drop (off + len * i.size + news.length)).toArray) (by simp only [List.size_toArray]; exact hlen) (by rw [List.size_toArray, hlen, List.length_append, hco, q1]; omega)
          (laid_rel (cs := cs.take (off + len * i.size)) (xs := new) (fun k y hk => hcor k y hk) q1 q2 (by omega) (by simp only [List.length_append, hco, q1]; omega) (fun k y hk => by
            by_cases hkl : k < off + len * i.size
            · rw [if_neg (by omega)]
              rw [List.getElem?_append_left (by omega)] at hk
              exact hk
            · rw [List.getElem?_append_right (by omega), hco] at hk
              have := (List.getElem?_eq_some_iff.1 hk).1
              rw [if_pos (by omega)]
              exact hk))
          (fun k hk => setRow_other w b k _ hk) (setRow_heap w b c _ T _ hc') rfl rfl rfl (by simp)
        unfold wq
        rw [hr]
        refine hnx _ _ _ F _ s1 (s2.perm ?_) ?_ goIn
        · have := cons_erase_perm (σ.set jj (b, cs.take (off + len * i.size) ++ new)) jj (b, cs.take (off + len * i.size) ++ new) (by simp [hlt])
          rw [List.eraseIdx_set_eq] at this
          exact this
        · exact .mref _ _ _ _ _ _ ⟨_, T, (0, 0), setRow_heap w b c _ T _ hc', by omega, m3, .inl ⟨rfl, by simp only [List.size_toArray]; rw [hlen]; omega⟩⟩
      · subst hl0; subst hc0
        obtain rfl : n = 0 := by omega
        have hnews : news = [] := List.length_eq_zero_iff.1 (by rw [src.newsLen]; simp)
        subst hnews
        rw [← hs] at src
        have hnew : new = [] := List.length_eq_zero_iff.1 (by simpa using q1)
        subst hnew
        have hr := run_append_op (η := a.eval) ho (by rw [hv]; exact run_append_nothing w t t' o.type e j hd hj (some ad) 0 0 (Nat.le_refl _) _ src)
        unfold wq
        rw [hr]
        have hperm : RelHp F w ((b, cs) :: σ.eraseIdx jj) := hσ.perm (cons_erase_perm σ jj (b, cs) hj1)
        have g0 : K (.mref b off 0 i.size) ((b, cs.take off) :: σ.eraseIdx jj) := by simpa using goIn
        refine hnx _ _ ((b, cs.take off) :: σ.eraseIdx jj) F w (.refl _ _) ⟨hperm.nodup, fun p hp => ?_, hperm.low⟩ (.mref b off 0 i.size ad 0 ⟨c, T, (0, 0), hc', Nat.le_refl _, by unfold maxLen; omega, .inr ⟨ha1, ha2, rfl, rfl⟩⟩) g0
        rcases List.mem_cons.1 hp with rfl | hp
        · exact ⟨hF, .inl ⟨c, T, hc', by simp only [List.length_take]; omega, fun k x h => by
            rw [List.getElem?_take] at h
            split at h
            · exact hcr' k x h
            · cases h⟩⟩
        · exact hperm.holds p (List.mem_cons_of_mem _ hp)
    · obtain ⟨olds, o1, o2, o3⟩ : ∃ olds : List Value, olds.length = len * i.size ∧ (Builtin.firstCells i.size len (.slice (some ad) len cap)).run P w.drew = .ok olds.toArray w.drew ∧ ∀ (k : Nat) (x : AV), ((cs.drop off).take (len * i.size))[k]? = some x → x.leaf = true ∧ VRel F w x (olds.getD k undef) := by
        rcases m4 with ⟨rfl, hfit⟩ | ⟨ha1, ha2, rfl, rfl⟩
        · have hat : At F w b off ((cs.drop off).take (len * i.size)) := by
            have := hσ.at_ hj1 ⟨_, _, _, hc'⟩
            intro k x hx
            rw [List.getElem?_take] at hx
            split at hx
            · rw [List.getElem?_drop] at hx
              have h5 := this (off + k) x hx
              simpa only [Nat.zero_add] using h5
            · cases hx
          obtain ⟨olds, n1, n2, n3, n4⟩ := at_news hat
          refine ⟨olds, by rw [n1, hco2], run_firstCells_some w.drew i.size len _ len cap olds (by rw [n1, hco2]) (fun k u hk => ?_), n3⟩
          rw [addr_add]
          exact n2 k u hk
        · exact ⟨[], by simp, run_firstCells_some w.drew i.size 0 ad 0 0 [] (by simp) (fun j u h => by simp at h), fun k x h => by simp at h⟩
      have hnl : news.length = n * i.size := src.newsLen
      rw [← hs] at src
      have hgrow := run_append_grow_src (P := P) w t t' o.type e j z hd hj hz (some ad) len cap olds (by rw [hs]; exact o2) _ n news src (by omega) (by omega) (growslice_fits (by omega) (fits (by omega) hby))
      have hge := grownCap_ge w (len + n) cap e
      have hcm := grownCap_le_maxLen w (len + n) cap e (by unfold maxLen; omega)
      obtain ⟨g1, g2, g3⟩ := grown_rel hsub (e := e) (i := i) (z := z) (olds := olds) (co := (cs.drop off).take (len * i.size)) (news := news) (cn := new) (len := len) (n := n) (cap := grownCap w (len + n) cap e) (by rw [hco2, o1]) q1 o3 q2 o1 hnl hzs hge hcm
      have hr := run_append_op (η := a.eval) ho (by rw [hv]; exact hgrow)
      unfold wq
      rw [hr]
      exact hnx _ _ _ F _ g1 g2 g3 (go w.heap.size)
theorem run_append_zeros (w : World) (t t' ty e : TypeId) (k : IntKind) (i : TypeInfo) (z : Value) (hd : P.underlying t = some (.slice e)) (hd' : P.underlying t' = some (.int k)) (hi : P.info? e = some i) (hz : i.zero = some z) (k' : IntKind) (m : Nat) (h0 : 0 < m) (hm : m ≤ 1048576) (hb : m * i.bytes ≤ 140737488355328) (hs : 0 < i.size) :
    (Builtin.append_ #[t, t'] ty #[.slice none 0 0, .int k' (m : Int)]).run P w = .ok (.slice (some ⟨w.heap.size, 0, none⟩) m (grownCap w m 0 e)) (w.drew.alloc (.cells (([] ++ (Builtin.zeroCells z.cells m).toList).toArray ++ Builtin.zeroCells z.cells (grownCap w m 0 e - m)) e)) := by
  have hw : IntKind.i64.wrap (m : Int) = m := by rw [IntKind.wrap_i64]; omega
  have h1 : ¬ ((m : Int) < 0) := by omega
  have h2 : ¬ ((281474976710656 : Int) < (m : Int) * (i.bytes : Int)) := by
    have : ((m * i.bytes : Nat) : Int) ≤ 140737488355328 := by omega
    rw [Int.natCast_mul] at this; omega
  have h3 : ¬ (9223372036854775807 < (m : Int)) := by omega
  have h4 : ¬ (281474976710656 < Builtin.nextslicecap m 0 * i.bytes) := by rw [nextslicecap_zero h0]; omega
  have h5 : m ≠ 0 := by omega
  have h6 : i.size ≠ 0 := by omega
  simp [Builtin.append_, run_underlying hd, run_underlying hd', sizeOf, typeInfo, zeroValue, hi, hz, asInt, asIntOf, hw, h1, h2, h3, h4, h5, Question.forced, run_firstCells_none, newRow, grownCap]
  intro h7
  exact absurd h7 (Nat.mul_ne_zero h5 h6)
theorem appendz_sound (ok : TTok P TT) {o : Oper} {s x : Operand} {t t' e : TypeId} {k : IntKind} (ho : o.op = .call ⟨.builtin .append, #[s, x], #[t, t']⟩) {ρ : Operand → AV} {σ : Hp} {K : AV → Hp → Prop} {it it' i : TI} (ht : TT t = some it) (hk : it.k = .slice e) (ht' : TT t' = some it') (hk' : it'.k = .int k) (hi : TT e = some i)
    (h : AppendZ i σ (ρ s) (ρ x) K) : Leads P o ρ σ K := by
  intro a F w hx hσ next Q hnx
  obtain ⟨_, d, _, _, hd, _, _, hft, _, _⟩ := tt_fact ok ht
  rw [hk] at hft
  obtain rfl := fits_slice hft
  obtain ⟨_, d', _, _, hd', _, _, hft', _, _⟩ := tt_fact ok ht'
  rw [hk'] at hft'
  obtain rfl := fits_int hft'
  obtain ⟨j, dj, z, hj, hdj, hs, ⟨hb, hzl⟩, _, hz, hzz⟩ := tt_fact ok hi
  have hzs : z.cells.size = i.size := by have := (zero_rel (F := F) (w := w) hzz).1; omega
  have a1 := hx s (by simp [ho, Op.operands, Call.operands])
  have a2 := hx x (by simp [ho, Op.operands, Call.operands])
  cases h with
  | nils k2 n hsn hxn hn hby h0 go same =>
    rw [hsn] at a1
    rw [hxn] at a2
    have e1 : a.eval s = .slice none 0 0 := by revert a1; generalize a.eval s = u; intro a1; cases a1; rfl
    have e2 : a.eval x = .int k2 n := a2.intv
    by_cases hn0 : n = 0
    · subst hn0
      have happ : (Builtin.append_ #[t, t'] o.type #[.slice none 0 0, .int k2 0]).run P w = .ok (.slice none 0 0) w := by
        have hw : IntKind.i64.wrap 0 = 0 := by decide
        simp [Builtin.append_, run_underlying hd, run_underlying hd', sizeOf, typeInfo, hj, asInt, asIntOf, hw]
      have hr := run_append_op (η := a.eval) ho (by rw [e1, e2]; exact happ)
      unfold wq
      rw [hr]
      exact hnx _ _ σ F w (.refl _ _) hσ .nils (same rfl)
    · obtain ⟨m, rfl⟩ : ∃ m : Nat, n = m := ⟨n.toNat, by omega⟩
      have hm0 : 0 < m := by omega
      have hmul : m * j.bytes ≤ 140737488355328 := by
        rw [hb]
        have : m * i.bytes ≤ 1048576 * 1024 := Nat.mul_le_mul (by omega) hby
        omega
      have hgrow := run_append_zeros (P := P) w t t' o.type e k j z hd hd' hj hz k2 m hm0 (by omega) hmul (by omega)
      have hge := grownCap_ge w m 0 e
      have hcm := grownCap_le_maxLen w m 0 e (by unfold maxLen; omega)
      obtain ⟨r1, r2⟩ := made_rel (F := F) (w := w) hzz (Nat.le_refl m)
      have hcell : (madeCells z.cells (m * i.zero.length)) = Builtin.zeroCells z.cells m := by
        unfold madeCells Builtin.zeroCells
        rw [hzs, hzl]
      have hsz : (Builtin.zeroCells z.cells m).size = m * i.zero.length := by rw [← hcell, size_madeCells]
      obtain ⟨g1, g2, g3⟩ := grown_rel hσ (e := e) (i := i) (z := z) (olds := []) (co := []) (news := (Builtin.zeroCells z.cells m).toList) (cn := repC i.zero m) (len := 0) (n := m) (cap := grownCap w m 0 e) rfl (by rw [repC_length, Array.length_toList, hsz]) (fun i x h => by simp at h) (fun k y hk => by
        have := r2 k y hk
        rw [hcell] at this
        rw [List.getD_eq_getElem?_getD, Array.getElem?_toList, ← Array.getD_eq_getD_getElem?]
        exact this) (by simp) (by rw [Array.length_toList, hsz, hzl]) hzs (by rw [Nat.zero_add]; exact hge) hcm
      rw [Nat.zero_add] at g1 g2 g3
      have hr := run_append_op (η := a.eval) ho (by rw [e1, e2]; exact hgrow)
      unfold wq
      rw [hr]
      exact hnx _ _ _ F _ g1 g2 g3 (go (by omega) w.heap.size)
theorem append_sound (ok : TTok P TT) {o : Oper} {s x : Operand} {t t' e e' : TypeId} (ho : o.op = .call ⟨.builtin .append, #[s, x], #[t, t']⟩) {ρ : Operand → AV} {σ : Hp} {K : AV → Hp → Prop} {it it' i : TI} (ht : TT t = some it) (hk : it.k = .slice e) (ht' : TT t' = some it') (hk' : it'.k = .slice e') (hi : TT e = some i)
    (h : AppendAt i σ (ρ s) (ρ x) K) : Leads P o ρ σ K := by
  cases h with
  | fresh n new hs hx hn hb h0 go same => exact append0_sound ok ho ht hk ht' hk' hi (.fresh n new hs hx hn hb h0 go same)
  | more j b len n cs new hs h1 h2 hx hn hb h0 go => exact append0_sound ok ho ht hk ht' hk' hi (.more j b len n cs new hs h1 h2 hx hn hb h0 go)
  | moreO j b off len n cs new hs h1 h2 hx hn hb h0 goIn go => exact append0_sound ok ho ht hk ht' hk' hi (.moreO j b off len n cs new hs h1 h2 hx hn hb h0 goIn go)
  | perm K2 hp h hk2 =>
    have := append0_sound ok ho ht hk ht' hk' hi h
    intro a F w hx hσ next Q hn
    refine this a F w hx (hσ.perm hp) next Q (fun v av σ' F' w' h1 h2 h3 h4 => ?_)
    obtain ⟨σ4, p, k | ⟨hl, k⟩⟩ := hk2 av σ' h4
    · exact hn v av σ4 F' w' h1 (h2.perm p) h3 k
    · exact hn v _ σ4 F' w' h1 (h2.perm p) (.via _ _ hl h3) k
end
section
variable {P : Program} {TT : TypeId → Option TI} {F : Nat → Prop} {w : World}
/-- Cells that are laid into a block. -/
theorem lay_cells {σ : Hp} (hσ : RelHp F w σ) {j b off : Nat} {cs : List AV} (h1 : σ[j]? = some (b, cs)) (hca : CellsAt w b) (xs : List AV) (news : List Value) (hl : xs.length = news.length) (hle : off + xs.length ≤ cs.length) (hv : ∀ (k : Nat) (y : AV), xs[k]? = some y → y.leaf = true ∧ VRel F w y (news.getD k undef)) :
    ∃ w', (storeCells ⟨b, off, none⟩ news).run P w = .ok () w' ∧ Stp F w F w' ∧ RelHp F w' (σ.set j (b, splice cs off xs)) := by
  obtain ⟨hF, c, T, hc, hcl, hcr⟩ := (hσ.holds _ (List.mem_of_getElem? h1)).cells hca
  have hcl : cs.length ≤ c.size := hcl
  have hone : ∀ u ∈ news, u.oneCell' = true := by
    intro u hu
    obtain ⟨k, hk⟩ := List.mem_iff_getElem?.1 hu
    have hlt : k < news.length := (List.getElem?_eq_some_iff.1 hk).1
    obtain ⟨h3, h4⟩ := hv k (xs[k]'(by omega)) (by simp)
    have := h4.one h3
    rwa [List.getD_eq_getElem?_getD, hk] at this
  have hst := run_storeCells_at (P := P) b off T news 0 c w hc (by omega) hone
  simp only [Nat.add_zero] at hst
  have hlen : (c.toList.take off ++ news ++ c.toList.drop (off + news.length)).length = c.size := by simp; omega
  obtain ⟨s1, s2⟩ := relhp_set hσ h1 (cs' := splice cs off xs) hc (c' := (c.toList.take off ++ news ++ c.toList.drop (off + news.length)).toArray) (by simp only [List.size_toArray]; exact hlen) (by rw [splice_length]; simp only [List.size_toArray]; omega)
    (laid_rel (xs := xs) hcr hl hv (by omega) (by rw [splice_length]; omega) (fun k y hk => by rw [splice_get _ _ _ _ (by omega)] at hk; exact hk))
    (fun k hk => setRow_other w b k _ hk) (setRow_heap w b c _ T _ hc) rfl rfl rfl (by simp)
  exact ⟨_, hst, s1, s2⟩
theorem run_clear_op {η : Operand → Value} {o : Oper} {s : Operand} {t : TypeId} (ho : o.op = .call ⟨.builtin .clear, #[s], #[t]⟩) {v : Value} {w w' : World} (h : (Builtin.clear_ #[t] o.type #[η s]).run P w = .ok v w') : (execOp η o).run P w = .ok (.value v) w' := by
  rw [call_args _ _ _ o ho]
  simp [builtin, h]
theorem run_copy_op {η : Operand → Value} {o : Oper} {d x : Operand} {t t' : TypeId} (ho : o.op = .call ⟨.builtin .copy, #[d, x], #[t, t']⟩) {v : Value} {w w' : World} (h : (Builtin.copy_ #[t, t'] o.type #[η d, η x]).run P w = .ok v w') : (execOp η o).run P w = .ok (.value v) w' := by
  rw [call_args _ _ _ o ho]
  simp [builtin, h]
theorem set_same {σ : Hp} {j : Nat} {p : Nat × List AV} (h : σ[j]? = some p) : σ.set j p = σ := by
  obtain ⟨h1, h2⟩ := List.getElem?_eq_some_iff.1 h
  subst h2
  exact List.set_getElem_self h1
theorem clear_sound (ok : TTok P TT) {o : Oper} {s : Operand} {t e : TypeId} (ho : o.op = .call ⟨.builtin .clear, #[s], #[t]⟩) {ρ : Operand → AV} {σ : Hp} {K : AV → Hp → Prop} {it i : TI} (ht : TT t = some it) (hk : it.k = .slice e) (hi : TT e = some i) (h : ClearAt i σ (ρ s) (fun σ' => K (.tup []) σ')) : Leads P o ρ σ K := by
  intro a F w hx hσ next Q hnx
  obtain ⟨_, d, _, _, hd, _, _, hft, _, _⟩ := tt_fact ok ht
  rw [hk] at hft
  obtain rfl := fits_slice hft
  obtain ⟨j, dj, z, hj, hdj, hs, ⟨hb, hzl⟩, _, hz, hzz⟩ := tt_fact ok hi
  have a1 := hx s (by simp [ho, Op.operands, Call.operands])
  have e0 : ∀ (ad : Option Addr) (c : Nat), (Builtin.clear_ #[t] o.type #[.slice ad 0 c]).run P w = .ok (.tuple #[]) w := fun ad c => by
    cases ad <;> simp [Builtin.clear_, run_underlying hd]
  have done : ∀ (ad : Option Addr) (c : Nat), a.eval s = .slice ad 0 c → K (.tup []) σ → wq P o a w next Q := fun ad c hv hK => by
    unfold wq
    rw [run_clear_op (η := a.eval) ho (by rw [hv]; exact e0 ad c)]
    exact hnx (.tuple #[]) _ σ F w (.refl _ _) hσ (.tup _ _ rfl (fun i x h => by simp at h)) hK
  cases h with
  | none hs go =>
    rcases hs with hs | hs | hs
    · rw [hs] at a1; generalize hv : a.eval s = v at a1; cases a1; exact done _ _ hv go
    · rw [hs] at a1; generalize hv : a.eval s = v at a1; cases a1; exact done _ _ hv go
    · rw [hs] at a1; generalize hv : a.eval s = v at a1; cases a1; exact done _ _ hv go
  | mref j' b off len cs hsm h1 h2 go =>
    rw [hsm] at a1
    obtain ⟨ad, cap, hv, c, T, fz, m1, m2, m3, m4⟩ := a1.mrefv
    by_cases hl0 : len = 0
    · subst hl0
      refine done _ _ hv ?_
      have e : splice cs off (repC i.zero 0) = cs := rfl
      rw [e, set_same h1] at go
      exact go
    · obtain ⟨rfl, _⟩ : ad = ⟨b, off, none⟩ ∧ off + cap * i.size ≤ c.size := by
        rcases m4 with h | ⟨_, _, h, _⟩
        · exact h
        · exact absurd h hl0
      obtain ⟨r1, r2⟩ := made_rel (F := F) (w := w) hzz (Nat.le_refl len)
      have hzsz : z.cells.size = i.zero.length := ((zero_rel (F := F) (w := w) hzz).1).symm
      have hcell : (madeCells z.cells (len * i.zero.length)) = Builtin.zeroCells z.cells len := by
        unfold madeCells Builtin.zeroCells
        rw [hzsz]
      have hsz : (Builtin.zeroCells z.cells len).size = len * i.zero.length := by rw [← hcell, size_madeCells]
      obtain ⟨w', k1, k2, k3⟩ := lay_cells (P := P) hσ h1 (off := off) ⟨_, _, _, m1⟩ (repC i.zero len) (Builtin.zeroCells z.cells len).toList (by rw [repC_length, Array.length_toList, hsz]) (by rw [repC_length, hzl]; exact h2) (fun k y hk => by
        have := r2 k y hk
        rw [hcell] at this
        refine ⟨this.1, ?_⟩
        rw [List.getD_eq_getElem?_getD, Array.getElem?_toList, ← Array.getD_eq_getD_getElem?]
        exact this.2)
      obtain ⟨len, rfl⟩ : ∃ m, len = m + 1 := ⟨len - 1, by omega⟩
      have hrun : (Builtin.clear_ #[t] o.type #[.slice (some ⟨b, off, none⟩) (len + 1) cap]).run P w = .ok (.tuple #[]) w' := by
        simp [Builtin.clear_, run_underlying hd, zeroValue, typeInfo, hj, hz, k1]
      unfold wq
      rw [run_clear_op (η := a.eval) ho (by rw [hv]; exact hrun)]
      exact hnx (.tuple #[]) _ _ F w' k2 k3 (.tup _ _ rfl (fun i x h => by simp at h)) go
theorem copy_sound (ok : TTok P TT) {o : Oper} {d x : Operand} {t t' e e' : TypeId} (ho : o.op = .call ⟨.builtin .copy, #[d, x], #[t, t']⟩) {ρ : Operand → AV} {σ : Hp} {K : AV → Hp → Prop} {it it' i : TI} (ht : TT t = some it) (hk : it.k = .slice e) (ht' : TT t' = some it') (hk' : it'.k = .slice e') (hi : TT e = some i)
    (h : CopyAt i σ (ρ d) (ρ x) K) : Leads P o ρ σ K := by
  intro a F w hx hσ next Q hnx
  obtain ⟨_, dd, _, _, hd, _, _, hft, _, _⟩ := tt_fact ok ht
  rw [hk] at hft
  obtain rfl := fits_slice hft
  obtain ⟨_, d', _, _, hd', _, _, hft', _, _⟩ := tt_fact ok ht'
  rw [hk'] at hft'
  obtain rfl := fits_slice hft'
  obtain ⟨j, dj, z, hj, hdj, hs, _⟩ := tt_fact ok hi
  have a1 := hx d (by simp [ho, Op.operands, Call.operands])
  have a2 := hx x (by simp [ho, Op.operands, Call.operands])
  cases h with
  | none new hdn hsrc go =>
    obtain ⟨news, src, q1, q2⟩ := src_sound (P := P) hsrc hσ a2 hd'
    have hnews : news = [] := List.length_eq_zero_iff.1 (by rw [src.newsLen]; simp)
    subst hnews
    rw [← hs] at src
    obtain ⟨ad, c, hv⟩ : ∃ ad c, a.eval d = .slice ad 0 c := by
      rcases hdn with hdn | hdn | hdn
      · rw [hdn] at a1; generalize a.eval d = v at a1; cases a1; exact ⟨_, _, rfl⟩
      · rw [hdn] at a1; generalize a.eval d = v at a1; cases a1; exact ⟨_, _, rfl⟩
      · rw [hdn] at a1; generalize a.eval d = v at a1; cases a1; exact ⟨_, _, rfl⟩
    have hrun : (Builtin.copy_ #[t, t'] o.type #[.slice ad 0 c, a.eval x]).run P w = .ok (goInt 0) w := by
      cases ad <;> simp [Builtin.copy_, run_underlying hd, src.len, sizeOf, typeInfo, hj, src.cells, storeCells]
    unfold wq
    rw [run_copy_op (η := a.eval) ho (by rw [hv]; exact hrun)]
    exact hnx _ _ σ F w (.refl _ _) hσ (.int _ _) go
  | mref jj b off len n cs new hdm h1 h2 hsrc hn go =>
    obtain ⟨news, src, q1, q2⟩ := src_sound (P := P) hsrc hσ a2 hd'
    rw [hdm] at a1
    obtain ⟨ad, cap, hv, c, T, fz, m1, m2, m3, m4⟩ := a1.mrefv
    have hnl : news.length = n * i.size := src.newsLen
    have hmul : n * i.size ≤ len * i.size := Nat.mul_le_mul_right _ hn
    rw [← hs] at src
    by_cases hl0 : len = 0
    · obtain rfl : n = 0 := by omega
      have hnews : news = [] := List.length_eq_zero_iff.1 (by rw [hnl]; simp)
      subst hnews
      have hnew : new = [] := List.length_eq_zero_iff.1 (by simpa using q1)
      subst hnew
      subst hl0
      have hrun : (Builtin.copy_ #[t, t'] o.type #[.slice (some ad) 0 cap, a.eval x]).run P w = .ok (goInt 0) w := by
        simp [Builtin.copy_, run_underlying hd, src.len, sizeOf, typeInfo, hj, src.cells, storeCells]
      unfold wq
      rw [run_copy_op (η := a.eval) ho (by rw [hv]; exact hrun)]
      have e : splice cs off ([] : List AV) = cs := rfl
      rw [e, set_same h1] at go
      exact hnx _ _ σ F w (.refl _ _) hσ (.int _ _) go
    · obtain ⟨rfl, _⟩ : ad = ⟨b, off, none⟩ ∧ off + cap * i.size ≤ c.size := by
        rcases m4 with h | ⟨_, _, h, _⟩
        · exact h
        · exact absurd h hl0
      obtain ⟨w', k1, k2, k3⟩ := lay_cells (P := P) hσ h1 (off := off) ⟨_, _, _, m1⟩ new news q1 (by omega) q2
      have hrun : (Builtin.copy_ #[t, t'] o.type #[.slice (some ⟨b, off, none⟩) len cap, a.eval x]).run P w = .ok (goInt n) w' := by
        simp [Builtin.copy_, run_underlying hd, src.len, sizeOf, typeInfo, hj, Nat.min_eq_left hn, src.cells, k1]
      unfold wq
      rw [run_copy_op (η := a.eval) ho (by rw [hv]; exact hrun)]
      exact hnx _ _ _ F w' k2 k3 (.int _ _) go
  | part jj b off len cs hdm h1 h2 j2 b2 off2 n cs2 hxm h3 h4 hn go =>
    rw [hdm] at a1
    rw [hxm] at a2
    obtain ⟨ad, cap, hv, c, T, fz, m1, m2, m3, m4⟩ := a1.mrefv
    obtain ⟨a3, cap3, hv3, c3, T3, fz3, p1, p2, p3, p4⟩ := a2.mrefv
    have hmul : len * i.size ≤ n * i.size := Nat.mul_le_mul_right _ hn
    by_cases hl0 : len = 0
    · subst hl0
      have hc : (Builtin.firstCells i.size 0 (.slice (some a3) n cap3)).run P w = .ok (([] : List Value).toArray) w := run_firstCells_some w i.size 0 a3 n cap3 [] (by simp) (fun j u h => by simp at h)
      rw [← hs] at hc
      have hrun : (Builtin.copy_ #[t, t'] o.type #[.slice (some ad) 0 cap, .slice (some a3) n cap3]).run P w = .ok (goInt 0) w := by
        simp [Builtin.copy_, run_underlying hd, sizeOf, typeInfo, hj, Builtin.lenOf, hc, storeCells]
      unfold wq
      rw [run_copy_op (η := a.eval) ho (by rw [hv, hv3]; exact hrun)]
      have e : splice cs off ((cs2.drop off2).take (0 * i.size)) = cs := by rw [Nat.zero_mul]; rfl
      rw [e, set_same h1] at go
      exact hnx _ _ σ F w (.refl _ _) hσ (.int _ _) go
    · obtain ⟨rfl, _⟩ : ad = ⟨b, off, none⟩ ∧ off + cap * i.size ≤ c.size := by
        rcases m4 with h | ⟨_, _, h, _⟩
        · exact h
        · exact absurd h hl0
      obtain ⟨rfl, _⟩ : a3 = ⟨b2, off2, none⟩ ∧ off2 + cap3 * i.size ≤ c3.size := by
        rcases p4 with h | ⟨_, _, h, _⟩
        · exact h
        · omega
      have hat : At F w b2 off2 ((cs2.drop off2).take (len * i.size)) := by
        have := (hσ.at_ h3 ⟨c3, T3, fz3, p1⟩).drop off2
        rw [Nat.zero_add] at this
        intro i x hx
        rw [List.getElem?_take] at hx
        split at hx
        · exact this i x hx
        · cases hx
      have hl : ((cs2.drop off2).take (len * i.size)).length = len * i.size := by simp; omega
      obtain ⟨news, n1, n2, n3, n4⟩ := at_news hat
      have hc : (Builtin.firstCells i.size len (.slice (some ⟨b2, off2, none⟩) n cap3)).run P w = .ok news.toArray w := run_firstCells_some w i.size len _ n cap3 news (by rw [n1, hl]) (fun j u hj => by rw [addr_add]; exact n2 j u hj)
      rw [← hs] at hc
      obtain ⟨w', k1, k2, k3⟩ := lay_cells (P := P) hσ h1 (off := off) ⟨_, _, _, m1⟩ ((cs2.drop off2).take (len * i.size)) news n1.symm (by rw [hl]; exact h2) n3
      have hrun : (Builtin.copy_ #[t, t'] o.type #[.slice (some ⟨b, off, none⟩) len cap, .slice (some ⟨b2, off2, none⟩) n cap3]).run P w = .ok (goInt len) w' := by
        simp [Builtin.copy_, run_underlying hd, sizeOf, typeInfo, hj, Builtin.lenOf, Nat.min_eq_right hn, hc, k1]
      unfold wq
      rw [run_copy_op (η := a.eval) ho (by rw [hv, hv3]; exact hrun)]
      exact hnx _ _ _ F w' k2 k3 (.int _ _) go
end
section
variable {P : Program} {TT : TypeId → Option TI}
theorem freads_of_cells {F : Nat → Prop} {w : World} : ∀ (s : Sh) (d : s.T) (vs : List Value), vs.length = s.size → (∀ (k : Nat) (x : AV), (s.cells d)[k]? = some x → VRel F w x (vs.getD k undef)) → FReads F w s vs d := by
  intro s
  induction s with
  | int k => intro d vs hl h; match vs, hl with | [v], _ => have := (h 0 _ rfl).intv; exact congrArg (fun x => [x]) this
  | bool => intro d vs hl h; match vs, hl with | [v], _ => have := (h 0 _ rfl).boolv; exact congrArg (fun x => [x]) this
  | str => intro d vs hl h; match vs, hl with | [v], _ => have := (h 0 _ rfl).strv; exact congrArg (fun x => [x]) this
  | nil => intro d vs hl h; exact List.length_eq_zero_iff.1 hl
  | slice e ih =>
    intro d vs hl h
    match vs, hl with
    | [v], _ =>
      have := h 0 _ rfl
      cases this with
      | fsl _ _ _ h => exact h
  | field f r ihf ihr =>
    intro d vs hl h
    simp only [Sh.size] at hl
    refine ⟨vs.take f.size, vs.drop f.size, (List.take_append_drop _ _).symm, by simp; omega, ihf d.1 _ (by simp; omega) (fun k x hk => ?_), ihr d.2 _ (by simp; omega) (fun k x hk => ?_)⟩
    · have hkl : k < f.size := by rw [← Sh.cells_length f d.1]; exact (List.getElem?_eq_some_iff.1 hk).1
      have := h k x (by show (f.cells d.1 ++ r.cells d.2)[k]? = some x; rw [List.getElem?_append_left (by rw [Sh.cells_length]; exact hkl)]; exact hk)
      rw [List.getD_eq_getElem?_getD] at this ⊢
      rw [List.getElem?_take, if_pos hkl]
      exact this
    · have := h (f.size + k) x (by show (f.cells d.1 ++ r.cells d.2)[f.size + k]? = some x; rw [List.getElem?_append_right (by rw [Sh.cells_length]; omega), Sh.cells_length, Nat.add_sub_cancel_left]; exact hk)
      rw [List.getD_eq_getElem?_getD] at this ⊢
      rw [List.getElem?_drop]
      exact this
theorem flat_get {α : Type} {f : α → List AV} {es : Nat} (hf : ∀ x, (f x).length = es) : ∀ (l : List α) (i : Nat) (h : i < l.length) (k : Nat), k < es → (l.flatMap f)[i * es + k]? = (f l[i])[k]?
  | [], i, h, _, _ => by simp at h
  | y :: l, 0, h, k, hk => by rw [List.flatMap_cons, List.getElem?_append_left (by rw [hf]; omega)]; simp
  | y :: l, i + 1, h, k, hk => by
    rw [List.flatMap_cons, List.getElem?_append_right (by rw [hf, Nat.succ_mul]; omega), hf, show (i + 1) * es + k - es = i * es + k by rw [Nat.succ_mul]; omega]
    simpa using flat_get hf l i (by simpa using h) k hk
theorem frz_vrel {F : Nat → Prop} {w : World} {σ : Hp} (hσ : RelHp F w σ) {j b off len es : Nat} {cs : List AV} {e : Sh} {l : List e.T} (h1 : σ[j]? = some (b, cs)) (h2 : (cs.drop off).take (len * es) = l.flatMap e.cells) (h3 : l.length = len ∧ e.size = es ∧ 0 < es) {v : Value} (hv : VRel F w (.mref b off len es) v) :
    VRel (fun x => F x ∨ x = b) w (.fsl e l) v := by
  obtain ⟨hl, he, hpos⟩ := h3
  have hst : Stp F w (fun x => F x ∨ x = b) w := ⟨rfl, rfl, rfl, Nat.le_refl _, fun _ h => .inl h, fun _ _ => rfl, fun _ c _ fz h => ⟨c, fz, h, rfl⟩, Nat.le_refl _⟩
  obtain ⟨a, cap, rfl, c, T, fz, m1, m2, m3, m4⟩ := hv.mrefv
  subst hl
  refine .fsl e l _ ⟨some a, cap, rfl, m2, m3, (fun e => by cases e), fun hne => ?_⟩
  have hpl : 0 < l.length := List.length_pos_iff.2 hne
  rcases m4 with ⟨rfl, hfit⟩ | ⟨_, _, h0, _⟩
  · refine ⟨b, off, rfl, ⟨.inr rfl, c, T, fz, m1⟩, fun i hi => ?_⟩
    have hat : At F w b off ((cs.drop off).take (l.length * es)) := by
      have := (hσ.at_ h1 ⟨c, T, fz, m1⟩).drop off
      rw [Nat.zero_add] at this
      intro i x hx
      rw [List.getElem?_take] at hx
      split at hx
      · exact this i x hx
      · cases hx
    rw [h2] at hat
    have hcell : ∀ k, k < es → ∃ x v, (e.cells l[i])[k]? = some x ∧ w.cell? ⟨b, off + i * es + k, none⟩ = some v ∧ VRel F w x v := by
      intro k hk
      have hlen : k < (e.cells l[i]).length := by rw [Sh.cells_length, he]; exact hk
      have hx := List.getElem?_eq_getElem hlen
      have := flat_get (f := e.cells) (es := es) (fun d => by rw [Sh.cells_length, he]) l i hi k hk
      obtain ⟨_, v, h4, h5⟩ := hat (i * es + k) _ (this.trans hx)
      exact ⟨_, v, hx, by rw [← h4, Nat.add_assoc], h5⟩
    refine ⟨(List.range es).map fun k => (w.cell? ⟨b, off + i * es + k, none⟩).getD undef, by simp [he], fun k u hk => ?_, freads_of_cells e l[i] _ (by simp [he]) (fun k x hk => ?_)⟩
    · have hke : k < es := by have := (List.getElem?_eq_some_iff.1 hk).1; simpa using this
      obtain ⟨x, v, _, h4, _⟩ := hcell k hke
      simp [hke, h4] at hk
      rw [he, h4, hk]
    · have hke : k < es := by have := (List.getElem?_eq_some_iff.1 hk).1; rw [Sh.cells_length, he] at this; exact this
      obtain ⟨x', v, h3, h4, h5⟩ := hcell k hke
      rw [h3] at hk
      cases hk
      have : VRel F w x v := h5
      simpa [List.getD, hke, h4] using this.mono hst
  · omega
theorem frzrel_sound {F F' : Nat → Prop} {w : World} {b off len es : Nat} {e : Sh} {l : List e.T} (hst : Stp F w F' w) (hh : ∀ v, VRel F w (.mref b off len es) v → VRel F' w (.fsl e l) v) {r r' : AV} (h : FrzRel b off len es e l r r') : ∀ v, VRel F w r v → VRel F' w r' v := by
  induction h with
  | here => exact hh
  | refl x => exact fun v h => h.mono hst
  | tup xs ys h hi ih =>
    intro v hv
    cases hv with
    | tup _ vs hs hr =>
      refine .tup _ _ (by rw [← h]; exact hs) (fun i y hy => ?_)
      have hil : i < xs.length := by rw [h]; exact (List.getElem?_eq_some_iff.1 hy).1
      exact ih i xs[i] y (List.getElem?_eq_getElem hil) hy _ (hr i _ (List.getElem?_eq_getElem hil))
  | agg xs ys h hl hi ih =>
    intro v hv
    obtain ⟨vs, rfl, hs, hr⟩ := hv.aggv
    refine .agg _ _ (by rw [← h]; exact hs) hl (fun i y hy => ?_)
    have hil : i < xs.length := by rw [h]; exact (List.getElem?_eq_some_iff.1 hy).1
    exact ih i xs[i] y (List.getElem?_eq_getElem hil) hy _ (hr i _ (List.getElem?_eq_getElem hil)).2
  | nil e' =>
    intro v hv
    cases hv
    exact .fsl e' [] _ ⟨none, 0, rfl, Nat.le_refl _, by unfold maxLen; omega, fun _ => rfl, fun hne => absurd rfl hne⟩
  | esl e' =>
    intro v hv
    cases hv with
    | esl a c h => exact .fsl e' [] _ ⟨some a, c, rfl, Nat.zero_le _, h, (fun e => by cases e), fun hne => absurd rfl hne⟩
  | via h ih =>
    intro v hv
    cases hv with
    | via _ _ _ hv => exact ih v hv
theorem frz_hp {F : Nat → Prop} {w : World} {σ : Hp} (hσ : RelHp F w σ) {j b off len es : Nat} {cs : List AV} {e : Sh} {l : List e.T} (h1 : σ[j]? = some (b, cs)) (h2 : (cs.drop off).take (len * es) = l.flatMap e.cells) (h3 : l.length = len ∧ e.size = es ∧ 0 < es) :
    Stp F w (fun x => F x ∨ x = b) w ∧ RelHp (fun x => F x ∨ x = b) w (σ.eraseIdx j) ∧ ∀ v, VRel F w (.mref b off len es) v → VRel (fun x => F x ∨ x = b) w (.fsl e l) v := by
  have hst : Stp F w (fun x => F x ∨ x = b) w := ⟨rfl, rfl, rfl, Nat.le_refl _, fun _ h => .inl h, fun _ _ => rfl, fun _ c _ fz h => ⟨c, fz, h, rfl⟩, Nat.le_refl _⟩
  have hperm : RelHp F w ((b, cs) :: σ.eraseIdx j) := hσ.perm (cons_erase_perm σ j (b, cs) h1)
  have hnd := hperm.nodup
  simp only [List.map_cons, List.nodup_cons] at hnd
  have hσ' : RelHp (fun x => F x ∨ x = b) w (σ.eraseIdx j) := ⟨hnd.2, fun p hp => (hperm.holds p (List.mem_cons_of_mem _ hp)).mono hst rfl (fun hF => by
    rcases hF with hF | hF
    · exact (hperm.holds p (List.mem_cons_of_mem _ hp)).1 hF
    · exact hnd.1 (List.mem_map.2 ⟨p, hp, hF⟩)), fun x hx => by
    rcases hx with hx | hx
    · exact hσ.low x hx
    · subst hx; exact (hperm.holds (x, cs) (List.mem_cons_self ..)).lt⟩
  exact ⟨hst, hσ', fun v hv => frz_vrel hσ h1 h2 h3 hv⟩
end
section
variable {P : Program} {TT : TypeId → Option TI}
theorem vrels_args {F : Nat → Prop} {w : World} {xs : Array Operand} {ρ : Operand → AV} {η : Operand → Value} (h : ∀ x ∈ xs.toList, VRel F w (ρ x) (η x)) : VRels F w (xs.toList.map ρ) (xs.map η) := by
  refine ⟨by simp, fun i x hi => ?_⟩
  simp only [List.getElem?_map, Option.map_eq_some_iff] at hi
  obtain ⟨a, h1, rfl⟩ := hi
  have hlt : i < xs.size := by have := (List.getElem?_eq_some_iff.1 h1).1; simpa using this
  have : xs[i] = a := by simpa [hlt] using h1
  simpa [Array.getD, hlt, this] using h a (List.mem_of_getElem? h1)
theorem vrels_append {F : Nat → Prop} {w : World} {xs ys : List AV} {us vs : Array Value} (h : VRels F w xs us) (k : VRels F w ys vs) : VRels F w (xs ++ ys) (us ++ vs) := by
  refine ⟨by simp [h.1, k.1], fun i x hi => ?_⟩
  rw [Array.getD_eq_getD_getElem?]
  by_cases hlt : i < xs.length
  · rw [List.getElem?_append_left hlt] at hi
    rw [Array.getElem?_append_left (by rw [← h.1]; exact hlt), ← Array.getD_eq_getD_getElem?]
    exact h.2 i x hi
  · rw [List.getElem?_append_right (by omega)] at hi
    rw [Array.getElem?_append_right (by rw [← h.1]; omega), ← Array.getD_eq_getD_getElem?, ← h.1]
    exact k.2 _ x hi
theorem vrels_one {F : Nat → Prop} {w : World} {x : AV} {v : Value} (h : VRel F w x v) : VRels F w [x] #[v] := ⟨rfl, fun i y hi => by cases i <;> simp at hi; subst hi; exact h⟩
theorem leads_unvia {o : Oper} {ρ : Operand → AV} {σ : Hp} {K : AV → Hp → Prop} (h : Leads P o (fun x => unvia (ρ x)) σ K) : Leads P o ρ σ K := fun a F w hx => h a F w (fun x hm => (hx x hm).unvia)
theorem callee_sound {o : Oper} {c : Call} (ho : o.op = .call c) {ρ : Operand → AV} {K : FuncId → List AV → Prop} {KY : Nat → List AV → Prop} (h : calleeW P c ρ K KY) :
    (∃ l xs, KY l xs ∧ ∀ (η : Operand → Value) (F : Nat → Prop) (w : World), (∀ x ∈ o.op.operands.toList, VRel F w (ρ x) (η x)) → ∃ vs, VRels F w xs vs ∧ execOp η o = Instr.yield l vs) ∨ ∃ f xs, K f xs ∧ ∀ (η : Operand → Value) (F : Nat → Prop) (w : World), (∀ x ∈ o.op.operands.toList, VRel F w (ρ x) (η x)) → ∃ vs, VRels F w xs vs ∧ (Enters P f → (execOp η o).run P w = .ok (.enter f vs) w) := by
  unfold calleeW at h
  split at h
  · rename_i f0 hc
    split at h
    · rename_i g first cap hf
      refine .inr ⟨g, _, h, fun η F w hx => ?_⟩
      have h1 := hx f0 (by simp [ho, Op.operands, Call.operands, hc])
      rw [hf] at h1
      have h2 := vrels_args (xs := c.args) (ρ := fun x => unvia (ρ x)) (η := η) (F := F) (w := w) (fun x hm => (hx x (by simp only [ho, Op.operands, Call.operands, hc, Array.toList_append, List.mem_append]; exact .inr hm)).unvia)
      cases hv : η f0 with
      | func f' v1 v2 =>
        rw [hv] at h1
        obtain ⟨rfl, r1, r2⟩ : f' = .func g ∧ VRels F w first v1 ∧ VRels F w cap v2 := by cases h1 with | fn _ _ _ _ _ hs1 hs2 h1 h2 => exact ⟨rfl, ⟨hs1, h1⟩, ⟨hs2, h2⟩⟩
        refine ⟨v1 ++ c.args.map η ++ v2, vrels_append (vrels_append r1 h2) r2, fun he => ?_⟩
        simp only [execOp, ho, resolve, hc, Deferred.ofValue, hv, Sem.run_bind, Sem.run_pure, Result.andThen_ok, invoke]
        exact he _ _
      | _ => rw [hv] at h1; cases h1
    · rename_i l hf
      refine .inl ⟨l, _, h, fun η F w hx => ?_⟩
      have h1 := hx f0 (by simp [ho, Op.operands, Call.operands, hc])
      rw [hf] at h1
      have h2 := vrels_args (xs := c.args) (ρ := fun x => unvia (ρ x)) (η := η) (F := F) (w := w) (fun x hm => (hx x (by simp only [ho, Op.operands, Call.operands, hc, Array.toList_append, List.mem_append]; exact .inr hm)).unvia)
      cases hv : η f0 with
      | func f' v1 v2 =>
        rw [hv] at h1
        obtain ⟨rfl, r1, r2⟩ : f' = .yield l ∧ v1 = #[] ∧ v2 = #[] := by cases h1 with | fn _ _ _ _ _ hs1 hs2 h1 h2 => exact ⟨rfl, Array.size_eq_zero_iff.1 hs1.symm, Array.size_eq_zero_iff.1 hs2.symm⟩
        subst r1 r2
        refine ⟨c.args.map η, h2, ?_⟩
        simp only [execOp, ho, resolve, hc, Deferred.ofValue, hv, pure_bind, invoke]
        simp
      | _ => rw [hv] at h1; cases h1
    · exact h.elim
  · rename_i r m hc
    have fin : ∀ (t : TypeId) (v : AV), ρ r = .iface t v → (∀ F w u, VRel F w v u → ∃ ad, u = .pointer (some ad)) → InvAt P t m (fun g => K g (v :: c.args.toList.map fun x => unvia (ρ x))) →
        ∃ f xs, K f xs ∧ ∀ (η : Operand → Value) (F : Nat → Prop) (w : World), (∀ x ∈ o.op.operands.toList, VRel F w (ρ x) (η x)) → ∃ vs, VRels F w xs vs ∧ (Enters P f → (execOp η o).run P w = .ok (.enter f vs) w) := by
      rintro t v hr hp ⟨g, hm, go⟩
      refine ⟨g, _, go, fun η F w hx => ?_⟩
      have h1 := hx r (by simp [ho, Op.operands, Call.operands, hc])
      rw [hr] at h1
      have h2 := vrels_args (xs := c.args) (ρ := fun x => unvia (ρ x)) (η := η) (F := F) (w := w) (fun x hm => (hx x (by simp only [ho, Op.operands, Call.operands, hc, Array.toList_append, List.mem_append]; exact .inr hm)).unvia)
      cases hv : η r with
      | iface t' u =>
        rw [hv] at h1
        obtain ⟨rfl, hu⟩ : t' = t ∧ VRel F w v u := by cases h1 with | iface _ _ _ h => exact ⟨rfl, h⟩
        obtain ⟨ad, rfl⟩ := hp F w u hu
        refine ⟨#[.pointer (some ad)] ++ c.args.map η, (show VRels F w ([v] ++ c.args.toList.map fun x => unvia (ρ x)) _ from vrels_append (vrels_one hu) h2), fun he => ?_⟩
        have hex : (#[η r] ++ c.args.map η).extract 1 (#[η r] ++ c.args.map η).size = c.args.map η := by
          apply Array.ext'
          simp
          exact List.take_of_length_le (by simp)
        have h0 : (#[η r] ++ c.args.map η)[0]? = some (η r) := by rw [Array.getElem?_append_left (by simp)]; rfl
        have hinv : invoke (.fn (.method m) #[]) (#[η r] ++ c.args.map η) = callMethod (η r) m (c.args.map η) := by
          unfold invoke
          simp only [h0]
          exact congrArg (callMethod (η r) m) hex
        have hcm : (callMethod (η r) m (c.args.map η)).run P w = .ok (.enter g (#[.pointer (some ad)] ++ c.args.map η)) w := by
          rw [hv]
          unfold callMethod
          have hm' := hm ad w
          simp only [Sem.run_bind, run_program, Result.andThen_ok, hm']
          exact he _ _
        simp only [execOp, ho, resolve, hc, Sem.run_bind, Sem.run_pure, Result.andThen_ok, hinv, hcm]
      | _ => rw [hv] at h1; cases h1
    split at h
    · rename_i t b o' hr
      exact .inr <| fin t _ hr (fun F w u hu => ⟨_, hu.ptrv⟩) h
    · rename_i t cs hr
      exact .inr <| fin t _ hr (fun F w u hu => by obtain ⟨b, o', e, _⟩ := hu.eptr_at; exact ⟨_, e⟩) h
    · exact h.elim
  · exact h.elim
/-- A cell that leads to what is frozen reads as a list. -/
theorem frz_cell {F F' : Nat → Prop} {w : World} {σ : Hp} (hσ : RelHp F' w σ) {b off len es : Nat} {e : Sh} {l : List e.T} (hh : ∀ v, VRel F w (.mref b off len es) v → VRel F' w (.fsl e l) v) {i k b' : Nat} {cs : List AV} (hi : σ[i]? = some (b', cs)) (hk : cs[k]? = some (.mref b off len es)) : RelHp F' w (σ.set i (b', cs.set k (.fsl e l))) := by
  have hlt : i < σ.length := (List.getElem?_eq_some_iff.1 hi).1
  have hkeys : (σ.set i (b', cs.set k (.fsl e l))).map Prod.fst = σ.map Prod.fst := by
    rw [List.map_set]
    apply List.ext_getElem?
    intro n
    rw [List.getElem?_set]
    split
    · rename_i e; subst e
      have := (List.getElem?_eq_some_iff.1 hi).2
      simp [hlt, this]
    · rfl
  refine ⟨hkeys ▸ hσ.nodup, fun p hm => ?_, hσ.low⟩
  rcases List.mem_or_eq_of_mem_set hm with hm | rfl
  · exact hσ.holds p hm
  · obtain ⟨hF, c, T, h1, h2, h3⟩ := (hσ.holds _ (List.mem_of_getElem? hi)).leafs hk rfl
    refine ⟨hF, .inl ⟨c, T, h1, by simpa using h2, fun n x hn => ?_⟩⟩
    rw [List.getElem?_set] at hn
    split at hn
    · rename_i e; subst e
      split at hn
      · cases hn
        refine ⟨rfl, hh _ ?_⟩
        have := (h3 k _ hk).2
        revert this
        generalize c.getD k undef = v
        intro this
        cases this with
        | mref _ _ _ _ a cap h => exact .mref _ _ _ _ a cap h
      · cases hn
    · exact h3 n x hn
theorem callAt_get {f : FuncId} {xs : List AV} {σ : Hp} {K : AV → Hp → Prop} (h : CallAt P f K xs σ) : ACalls P f xs σ K := by
  induction h with
  | mk js R call go =>
    obtain ⟨hent, hcall⟩ := call
    refine ⟨hent, fun F w vs hvs hσ => (hcall F w vs hvs (hσ.perm (pulls_perm js _))).mono ?_⟩
    rintro e w' ⟨r, v, σ', F', rfl, h1, h2, h3, h4⟩
    exact ⟨r, v, σ', F', rfl, h1, h2, h3, go r σ' h4⟩
  | perm R hp call go =>
    obtain ⟨hent, hcall⟩ := call
    refine ⟨hent, fun F w vs hvs hσ => (hcall F w vs hvs (hσ.perm hp)).mono ?_⟩
    rintro e w' ⟨r, v, σ', F', rfl, h1, h2, h3, h4⟩
    obtain ⟨σ3, k1, k2⟩ := go r σ' h4
    exact ⟨r, v, σ3, F', rfl, h1, h2.perm k1, h3, k2⟩
  | frzc j b off len es cs e l h1 h2 h3 i k b' cs' hi hk h ih =>
    obtain ⟨hent, hcall⟩ := ih
    refine ⟨hent, fun F w vs hvs hσ => ?_⟩
    obtain ⟨hst, hσ', hh⟩ := frz_hp hσ h1 h2 h3
    refine (hcall _ w vs (hvs.mono hst) (frz_cell hσ' hh hi hk)).mono ?_
    rintro e w' ⟨r, v, σ', F', rfl, q1, q2, q3, q4⟩
    exact ⟨r, v, σ', F', rfl, hst.trans q1, q2, q3, q4⟩
  | frz j b off len es cs e l h1 h2 h3 h4 h ih =>
    obtain ⟨hent, hcall⟩ := ih
    refine ⟨hent, fun F w vs hvs hσ => ?_⟩
    obtain ⟨hst, hσ', hh⟩ := frz_hp hσ h1 h2 h3
    have hv := frzrel_sound hst hh h4 (.tuple vs) (.tup _ _ hvs.1 hvs.2)
    cases hv with
    | tup _ _ hs hr =>
      refine (hcall _ w vs ⟨hs, hr⟩ hσ').mono ?_
      rintro e w' ⟨r, v, σ', F', rfl, h1, h2, h3, h4⟩
      exact ⟨r, v, σ', F', rfl, hst.trans h1, h2, h3, h4⟩
theorem callAt_sound {o : Oper} {c : Call} (ho : o.op = .call c) {ρ : Operand → AV} {σ : Hp} {K : AV → Hp → Prop} (h : calleeW P c ρ (fun f xs => CallAt P f K xs σ) (fun l xs => YieldAt P l K xs σ)) : Leads P o ρ σ K := by
  rcases callee_sound ho h with ⟨l, xs, hc, hrun⟩ | ⟨f, xs, hc, hrun⟩
  · intro a F w hx hσ next Q hn
    obtain ⟨vs, hvs, hr⟩ := hrun a.eval F w hx
    unfold wq
    rw [hr]
    cases hc with
    | mk js R call go =>
      obtain ⟨f, tmps, assign, body, h1, h2⟩ := call F w vs hvs (hσ.perm (pulls_perm js σ))
      rw [h1]
      refine RoundIn.mono h2 ?_
      rintro e w' ⟨r, v, σ', F', rfl, h1, h2, h3, h4⟩
      exact ⟨v, rfl, hn v r σ' F' w' h1 h2 h3 (go _ _ h4)⟩
    | perm R hp call go =>
      obtain ⟨f, tmps, assign, body, h1, h2⟩ := call F w vs hvs (hσ.perm hp)
      rw [h1]
      refine RoundIn.mono h2 ?_
      rintro e w' ⟨r, v, σ', F', rfl, h1, h2, h3, h4⟩
      obtain ⟨σ3, k1, k2⟩ := go _ _ h4
      exact ⟨v, rfl, hn v r σ3 F' w' h1 (h2.perm k1) h3 k2⟩
  obtain ⟨hent, hcall⟩ := callAt_get hc
  intro a F w hx hσ next Q hn
  obtain ⟨vs, hvs, hr⟩ := hrun a.eval F w hx
  unfold wq
  rw [hr hent]
  refine (hcall F w vs hvs hσ).mono ?_
  rintro e w' ⟨r, v, σ', F', rfl, h1, h2, h3, h4⟩
  exact ⟨v, rfl, hn v r σ' F' w' h1 h2 h3 h4⟩
theorem makeMap_sound {o : Oper} {t : TypeId} (ho : o.op = .makeMap t none) {ρ : Operand → AV} {σ : Hp} {K : AV → Hp → Prop} (hk : ∀ b, K (.mapr b) ((b, [.mapc []]) :: σ)) : Leads P o ρ σ K := by
  intro a F w hx hσ next Q hn
  have hrun : (execOp a.eval o).run P w = .ok (.value (.map (some w.heap.size))) (w.alloc (.map #[] 0)) := by
    have e : (Instr.makeMap t none).run P w = .ok (.map (some w.heap.size)) (w.alloc (.map #[] 0)) := rfl
    simp [execOp, ho, e, Result.andThen]
  unfold wq
  rw [hrun]
  have hold : ∀ b, b < w.heap.size → (w.alloc (.map #[] 0)).heap[b]? = w.heap[b]? := fun b hb => Below.heap_alloc _ _ b hb
  have hst : Stp F w F (w.alloc (.map #[] 0)) := stp_of_same hσ.low rfl rfl rfl (by simp) hold
  have hr := hσ.same hst hold
  have hnew : (w.alloc (.map #[] 0)).heap[w.heap.size]? = some (.map #[] 0) := alloc_at _ _
  refine hn _ (.mapr w.heap.size) _ F _ hst ⟨?_, fun p hm => ?_, hr.low⟩ (.mapr _) (hk _)
  · simp only [List.map_cons, List.nodup_cons]
    refine ⟨fun hm => ?_, hσ.nodup⟩
    obtain ⟨p, hp, e⟩ := List.mem_map.1 hm
    have := (hσ.holds p hp).lt
    omega
  · rcases List.mem_cons.1 hm with rfl | hm
    · exact ⟨fun hF => Nat.lt_irrefl _ (hσ.low _ hF), .inr (.inl ⟨_, _, rfl, hnew, rfl⟩)⟩
    · exact hr.holds p hm
theorem relhp_setO {σ : Hp} {F : Nat → Prop} {w : World} (h : RelHp F w σ) {j b : Nat} {x x' : AV} {o o' : Obj} (ho : objM x = some o) (ho' : objM x' = some o') (hj : σ[j]? = some (b, [x])) :
    Stp F w F { w with heap := w.heap.setIfInBounds b o' } ∧ RelHp F { w with heap := w.heap.setIfInBounds b o' } (σ.set j (b, [x'])) := by
  obtain ⟨hb, hc⟩ := (h.holds (b, [x]) (List.mem_of_getElem? hj)).objv ho
  have hlt : j < σ.length := (List.getElem?_eq_some_iff.1 hj).1
  obtain ⟨hwb, hw⟩ := MapKept.heap_set (o' := o') hc
  have hst : Stp F w F { w with heap := w.heap.setIfInBounds b o' } := ⟨rfl, rfl, rfl, by simp, fun _ h => h, fun k hF => hw k (fun e => hb (e ▸ hF)), fun k d S fz hk => by
    by_cases e : k = b
    · subst e
      rw [hc] at hk
      cases hk
      exact (objM_cells ho).elim
    · exact ⟨d, fz, (hw k e).trans hk, rfl⟩, Nat.le_refl _⟩
  have hkeys : (σ.set j (b, [x'])).map Prod.fst = σ.map Prod.fst := by
    rw [List.map_set]
    apply List.ext_getElem?
    intro k
    rw [List.getElem?_set]
    split
    · rename_i e; subst e
      simp [hlt]
      have := (List.getElem?_eq_some_iff.1 hj).2
      rw [this]
    · rfl
  refine ⟨hst, ⟨hkeys ▸ h.nodup, fun p hm => ?_, fun k hF => by simpa using h.low k hF⟩⟩
  obtain ⟨k, hk⟩ := List.mem_iff_getElem?.1 hm
  rw [List.getElem?_set] at hk
  split at hk
  · rename_i e; subst e
    simp at hk
    obtain ⟨_, rfl⟩ := hk
    exact ⟨hb, .inr (.inl ⟨_, _, rfl, hwb, ho'⟩)⟩
  · rename_i hne
    have hm' := List.mem_of_getElem? hk
    have hpb : p.1 ≠ b := fun e => by
      have hnd := h.nodup
      have h1 : (σ.map Prod.fst)[k]? = some b := by rw [List.getElem?_map, hk]; simp [e]
      have h2 : (σ.map Prod.fst)[j]? = some b := by rw [List.getElem?_map, hj]; rfl
      have hk' : k < (σ.map Prod.fst).length := (List.getElem?_eq_some_iff.1 h1).1
      have := (List.getElem?_inj (i := k) (j := j) hk' hnd).1 (h1.trans h2.symm)
      exact hne this.symm
    exact (h.holds p hm').mono hst (hw _ hpb) (h.holds p hm').1
theorem relhp_setM {σ : Hp} {F : Nat → Prop} {w : World} (h : RelHp F w σ) {j b : Nat} {l l' : List (Int × Int)} (hj : σ[j]? = some (b, [.mapc l])) :
    Stp F w F { w with heap := w.heap.setIfInBounds b (.map (mapE 0 l').toArray l'.length) } ∧ RelHp F { w with heap := w.heap.setIfInBounds b (.map (mapE 0 l').toArray l'.length) } (σ.set j (b, [.mapc l'])) := relhp_setO h rfl rfl hj
theorem mapPut_sound (ok : TTok P TT) {o : Oper} {t : TypeId} {m k x : Operand} (ho : o.op = .mapUpdate t m k x ∨ o.op = .insert t m k x) {ρ : Operand → AV} {σ : Hp} {K : AV → Hp → Prop} (h : mapPutW TT t (unvia (ρ m)) (unvia (ρ k)) (unvia (ρ x)) σ K) : Leads P o ρ σ K := by
  intro a F w hx hσ next Q hn
  unfold mapPutW at h
  split at h
  · rename_i z n v hz hk hxv
    obtain ⟨kt, et, h1, h2, h3⟩ := mapZ_fact ok hz
    obtain ⟨j, b, l, hm, hj, go⟩ := h
    have hops : m ∈ o.op.operands.toList ∧ k ∈ o.op.operands.toList ∧ x ∈ o.op.operands.toList := by rcases ho with ho | ho <;> simp [ho, Op.operands]
    have a1 := (hx m hops.1).unvia
    rw [hm] at a1
    have a2 := (hx k hops.2.1).unvia
    rw [hk] at a2
    have a3 := (hx x hops.2.2).unvia
    rw [hxv] at a3
    have e1 : a.eval m = .map (some b) := a1.maprv
    have e2 : a.eval k = .int .i64 n := a2.intv
    have e3 : a.eval x = .int .i64 v := a3.intv
    obtain ⟨_, hb⟩ := (hσ.holds _ (List.mem_of_getElem? hj)).mapv
    have hrun : (execOp a.eval o).run P w = .ok .skip { w with heap := w.heap.setIfInBounds b (.map (mapE 0 (putM l n v)).toArray (putM l n v).length) } := by
      rcases ho with ho | ho <;> simp [execOp, ho, e1, e2, e3, run_updateM h1 h2 hb n v, Result.andThen]
    unfold wq
    rw [hrun]
    obtain ⟨s1, s2⟩ := relhp_setM hσ (l' := putM l n v) hj
    exact hn undef .any _ F _ s1 s2 (.any _) go
  · exact h.elim
/-- A map's entries are as old as they are far. -/
theorem born_mapE : ∀ (l : List (Int × Int)) (m : Nat) (e : MapEntry), e ∈ mapE m l → ∃ (i : Nat) (p : Int × Int), l[i]? = some p ∧ e = { key := .int .i64 p.1, val := .int .i64 p.2, born := m + i }
  | [], _, _, h => by cases h
  | p :: l, m, e, h => by
    rcases List.mem_cons.1 h with rfl | h
    · exact ⟨0, p, rfl, rfl⟩
    · obtain ⟨i, q, h1, h2⟩ := born_mapE l (m + 1) e h
      exact ⟨i + 1, q, h1, by rw [h2]; simp only [MapEntry.mk.injEq, true_and]; omega⟩
theorem mapE_mem {l : List (Int × Int)} {m i : Nat} {p : Int × Int} (h : l[i]? = some p) : ({ key := .int .i64 p.1, val := .int .i64 p.2, born := m + i } : MapEntry) ∈ mapE m l :=
  List.mem_of_getElem? (i := i) (by rw [mapE_get, h]; rfl)
theorem born_nodup : ∀ (l : List (Int × Int)) (m : Nat), ((mapE m l).map (·.born)).Nodup ∧ ∀ x ∈ (mapE m l).map (·.born), m ≤ x
  | [], _ => ⟨List.nodup_nil, fun _ h => by cases h⟩
  | p :: l, m => by
    obtain ⟨h1, h2⟩ := born_nodup l (m + 1)
    refine ⟨List.nodup_cons.2 ⟨fun hm => ?_, h1⟩, fun x hx => ?_⟩
    · have := h2 _ hm
      exact Nat.not_succ_le_self _ this
    · rcases List.mem_cons.1 hx with rfl | hx
      · exact Nat.le_refl _
      · exact Nat.le_of_succ_le (h2 _ hx)
theorem rangeMap_sound (ok : TTok P TT) {o : Oper} {t : TypeId} {x : Operand} (ho : o.op = .range t x) {ρ : Operand → AV} {σ : Hp} {K : AV → Hp → Prop} (h : rangeW TT t (unvia (ρ x)) σ K) : Leads P o ρ σ K := by
  intro a F w hx hσ next Q hn
  unfold rangeW at h
  split at h
  · rename_i z hz
    obtain ⟨kt, et, h1, h2, h3⟩ := mapZ_fact ok hz
    obtain ⟨j, b, l, hm, hj, go⟩ := h
    have a1 := (hx x (by simp [ho, Op.operands])).unvia
    rw [hm] at a1
    have e1 : a.eval x = .map (some b) := a1.maprv
    obtain ⟨_, hb⟩ := (hσ.holds _ (List.mem_of_getElem? hj)).mapv
    have hrun : (execOp a.eval o).run P w = .ok (.value (.pointer (some ⟨w.heap.size, 0, none⟩))) (w.alloc (.mapIter (some b) l.length #[] l.length)) := by
      have e := run_range_map (P := P) w t kt et b _ _ h1 hb
      simp [execOp, ho, e1, e, Result.andThen]
    unfold wq
    rw [hrun]
    have hold : ∀ k, k < w.heap.size → (w.alloc (.mapIter (some b) l.length #[] l.length)).heap[k]? = w.heap[k]? := fun k hk => Below.heap_alloc _ _ k hk
    have hst : Stp F w F (w.alloc (.mapIter (some b) l.length #[] l.length)) := stp_of_same hσ.low rfl rfl rfl (by simp) hold
    have hr := hσ.same hst hold
    have hnew : (w.alloc (.mapIter (some b) l.length #[] l.length)).heap[w.heap.size]? = some (.mapIter (some b) l.length #[] l.length) := alloc_at _ _
    refine hn _ (.itr w.heap.size) _ F _ hst ⟨?_, fun p hm => ?_, hr.low⟩ (.itr _) (go _)
    · simp only [List.map_cons, List.nodup_cons]
      refine ⟨fun hm => ?_, hσ.nodup⟩
      obtain ⟨p, hp, e⟩ := List.mem_map.1 hm
      have := (hσ.holds p hp).lt
      omega
    · rcases List.mem_cons.1 hm with rfl | hm
      · exact ⟨fun hF => Nat.lt_irrefl _ (hσ.low _ hF), .inr (.inl ⟨_, _, rfl, hnew, rfl⟩)⟩
      · exact hr.holds p hm
  · exact h.elim
theorem relhp_drew {σ : Hp} {F : Nat → Prop} {w : World} (h : RelHp F w σ) : Stp F w F w.drew ∧ RelHp F w.drew σ := by
  have hst : Stp F w F w.drew := ⟨rfl, rfl, rfl, Nat.le_refl _, fun _ h => h, fun _ _ => rfl, fun k d S fz hk => ⟨d, fz, hk, rfl⟩, Nat.le_succ _⟩
  exact ⟨hst, h.nodup, fun p hp => (h.holds p hp).mono hst rfl (h.holds p hp).1, h.low⟩
theorem nextMap_sound {o : Oper} {x : Operand} (ho : o.op = .next x false) {ρ : Operand → AV} {σ : Hp} {K : AV → Hp → Prop} (h : NextAt σ (unvia (ρ x)) K) : Leads P o ρ σ K := by
  intro a F w hx hσ next Q hn
  obtain ⟨j, j2, r, b, l, seen, hm, h1, h2, stop, go⟩ := h
  have a1 := (hx x (by simp [ho, Op.operands])).unvia
  rw [hm] at a1
  have e1 : a.eval x = .pointer (some ⟨r, 0, none⟩) := a1.itrv
  obtain ⟨_, hr⟩ := (hσ.holds _ (List.mem_of_getElem? h1)).objv rfl
  obtain ⟨_, hb⟩ := (hσ.holds _ (List.mem_of_getElem? h2)).mapv
  have hborn : ∀ x ∈ (mapE 0 l).toArray.toList, x.born < l.length := fun x hx => by
    obtain ⟨i, p, hi, rfl⟩ := born_mapE l 0 x hx
    show 0 + i < _
    have := (List.getElem?_eq_some_iff.1 hi).1
    omega
  unfold wq
  rcases run_next_at (P := P) w o.type r b l.length l.length seen.toArray _ _ hr hb hborn (Nat.le_refl _) with ⟨hz, hrun⟩ | ⟨e, he, w1, hw1, hrun⟩
  · have hrun' : (execOp a.eval o).run P w = .ok (.value (.tuple #[.bool false])) w := by simp [execOp, ho, e1, hrun, Result.andThen]
    rw [hrun']
    refine hn _ (.tup [.bool false]) σ F w (Stp.refl _ _) hσ (.tup _ _ rfl fun i y hy => ?_) (stop fun i hi => ?_)
    · match i, hy with
      | 0, hy => cases hy; exact .bool _
      | i + 1, hy => simp at hy
    · have hz : leftOf (mapE 0 l).toArray seen.toArray = #[] := Array.eq_empty_of_size_eq_zero hz
      unfold leftOf at hz
      rw [Array.filter_eq_empty_iff] at hz
      have := hz _ (by simpa using mapE_mem (m := 0) (List.getElem?_eq_getElem hi))
      simpa using this
  · have hrun' : (execOp a.eval o).run P w = .ok (.value (.tuple #[.bool true, e.key, e.val])) (Go.ChangeMaps.setBlock w1 r (.mapIter (some b) l.length (seen.toArray.push e.born) l.length)) := by simp [execOp, ho, e1, hrun, Result.andThen]
    rw [hrun']
    unfold leftOf at he
    have he2 : e ∈ mapE 0 l ∧ e.born ∉ seen := by simpa using he
    obtain ⟨i, p, hi, rfl⟩ := born_mapE l 0 e he2.1
    have hns : i ∉ seen := by simpa using he2.2
    have hw : Stp F w F w1 ∧ RelHp F w1 σ := by
      rcases hw1 with rfl | rfl
      · exact ⟨Stp.refl _ _, hσ⟩
      · exact relhp_drew hσ
    obtain ⟨s1, s2⟩ := relhp_setO (x' := .itrc b l.length (seen ++ [i])) hw.2 rfl rfl h1
    have e2 : (seen ++ [i]).toArray = seen.toArray.push (0 + i) := by simp
    rw [e2] at s1 s2
    refine hn _ (.tup [.bool true, .int .i64 p.1, .int .i64 p.2]) _ F _ (hw.1.trans s1) s2 (.tup _ _ rfl fun k y hy => ?_) (go i p hi hns)
    match k, hy with
    | 0, hy => cases hy; exact .bool _
    | 1, hy => cases hy; exact .int _ _
    | 2, hy => cases hy; exact .int _ _
    | k + 3, hy => simp at hy
theorem entryMap_sound {o : Oper} {x : Operand} (ho : o.op = .entry x) {ρ : Operand → AV} {σ : Hp} {K : AV → Hp → Prop} (h : EntryAt σ (unvia (ρ x)) K) : Leads P o ρ σ K := by
  intro a F w hx hσ next Q hn
  obtain ⟨j, j2, r, b, i, l, p, seen, hm, h1, h2, h3, go⟩ := h
  have a1 := (hx x (by simp [ho, Op.operands])).unvia
  rw [hm] at a1
  have e1 : a.eval x = .pointer (some ⟨r, 0, none⟩) := a1.itrv
  obtain ⟨_, hr⟩ := (hσ.holds _ (List.mem_of_getElem? h1)).objv rfl
  obtain ⟨_, hb⟩ := (hσ.holds _ (List.mem_of_getElem? h2)).mapv
  have hr : w.heap[r]? = some (.mapIter (some b) l.length (seen.toArray.push (0 + i)) l.length) := by
    rw [hr]; simp
  have hrun := run_entry_at (P := P) w r b l.length seen.toArray (mapE 0 l).toArray l.length { key := .int .i64 p.1, val := .int .i64 p.2, born := 0 + i } hr hb (by simpa using mapE_mem (m := 0) h3) (by simpa using (born_nodup l 0).1)
  have hrun' : (execOp a.eval o).run P w = .ok (.value (.tuple #[.int .i64 p.1, .int .i64 p.2])) w := by simp [execOp, ho, e1, hrun, Result.andThen]
  unfold wq
  rw [hrun']
  refine hn _ (.tup [.int .i64 p.1, .int .i64 p.2]) σ F w (Stp.refl _ _) hσ (.tup _ _ rfl fun k y hy => ?_) go
  match k, hy with
  | 0, hy => cases hy; exact .int _ _
  | 1, hy => cases hy; exact .int _ _
  | k + 2, hy => simp at hy
theorem opW_sound (ok : TTok P TT) {o : Oper} {ρ : Operand → AV} {σ : Hp} {K : AV → Hp → Prop} (h : opW P TT o.op ρ σ K) : Leads P o ρ σ K := by
  have dd : opD P TT o.op ρ σ (fun v => K v σ) → Leads P o ρ σ K := fun h => by
    obtain ⟨v, h1, h2⟩ := opD_sound ok h
    exact leads_of_says h2 h1
  generalize hop : o.op = op at h dd
  unfold opW at h
  split at h
  · split at h
    · rename_i cs hc; exact box_sound hop hc h
    · exact h.elim
  · split at h
    · rename_i i hi; exact alloc_sound ok hop hi h
    · exact h.elim
  · split at h
    · rename_i e sz by' z0 ht
      split at h
      · rename_i i hi
        split at h
        · rename_i cs hf hs1 hs2
          exact buildSlice_sound ok hop ht rfl hi hf (Nat.le_of_ble_eq_true hs1) (Nat.le_of_ble_eq_true hs2) h
        · exact h.elim
      · exact h.elim
    · exact h.elim
  · split at h
    · rename_i e sz by' z0 k n k' m ht hl hc
      split at h
      · rename_i i hi
        exact makeSlice_sound ok hop ht rfl hi hl hc h.fact h.go
      · exact h.elim
    · exact h.elim
  · split at h
    · rename_i i hi
      split at h
      · rename_i b off hp; exact store_sound ok hop hi hp h
      · exact h.elim
    · exact h.elim
  · split at h
    · exact makeMap_sound hop h
    · exact h.elim
  · exact mapPut_sound ok (.inl hop) h
  · exact mapPut_sound ok (.inr hop) h
  · exact rangeMap_sound ok hop h
  · split at h
    · exact nextMap_sound hop h
    · exact h.elim
  · exact entryMap_sound hop h
  · rename_i args tys
    split at h
    · rename_i s x t t' hargs htys
      obtain rfl : args = #[s, x] := by cases args; simp_all
      obtain rfl : tys = #[t, t'] := by cases tys; simp_all
      split at h
      · rename_i e s1 b1 z1 e' s2 b2 z2 ht ht'
        split at h
        · rename_i i hi; exact leads_unvia (append_sound ok hop ht rfl ht' rfl hi (ρ := fun x => unvia (ρ x)) h)
        · exact h.elim
      · rename_i e s1 b1 z1 k' s2 b2 z2 ht ht'
        split at h
        · rename_i i hi; exact leads_unvia (appendz_sound ok hop ht rfl ht' rfl hi (ρ := fun x => unvia (ρ x)) h)
        · exact h.elim
      · exact h.elim
    · exact h.elim
  · rename_i args tys
    split at h
    · rename_i s t hargs htys
      obtain rfl : args = #[s] := by cases args; simp_all
      obtain rfl : tys = #[t] := by cases tys; simp_all
      split at h
      · rename_i e s1 b1 z1 ht
        split at h
        · rename_i i hi; exact leads_unvia (clear_sound ok hop ht rfl hi (ρ := fun x => unvia (ρ x)) h)
        · exact h.elim
      · exact h.elim
    · exact h.elim
  · rename_i args tys
    split at h
    · rename_i d x t t' hargs htys
      obtain rfl : args = #[d, x] := by cases args; simp_all
      obtain rfl : tys = #[t, t'] := by cases tys; simp_all
      split at h
      · rename_i e s1 b1 z1 e' s2 b2 z2 ht ht'
        split at h
        · rename_i i hi; exact leads_unvia (copy_sound ok hop ht rfl ht' rfl hi (ρ := fun x => unvia (ρ x)) h)
        · exact h.elim
      · exact h.elim
    · exact h.elim
  · exact dd h
  · exact callAt_sound hop h
  · exact dd h
/-- The temporaries, known. -/
def TRel (F : Nat → Prop) (w : World) (t : Tm) (a : Act) : Prop := ∀ i, VRel F w (t i) (a.tmps.getD i undef)
theorem TRel.mono {F F' : Nat → Prop} {w w' : World} {t : Tm} {a : Act} (h : TRel F w t a) (hst : Stp F w F' w') : TRel F' w' t a := fun i => (h i).mono hst
theorem TRel.put {F : Nat → Prop} {w : World} {t : Tm} {a : Act} (h : TRel F w t a) {d : Option Tmp} {x : AV} {v : Value} (hx : VRel F w x v) (hd : ∀ i, d = some i → i < a.tmps.size) : TRel F w (put t d x) (a.put d v) := by
  cases d with
  | none => exact h
  | some d =>
    intro i
    show VRel F w (match Nat.beq i d with | true => x | false => t i) ((a.tmps.setIfInBounds d v).getD i undef)
    have hdl := hd d rfl
    cases hb : Nat.beq i d with
    | true =>
      have := Nat.eq_of_beq_eq_true hb
      subst this
      simpa [Array.getD, hdl] using hx
    | false =>
      have hne : d ≠ i := fun e => by subst e; rw [Nat.beq_refl] at hb; cases hb
      have := h i
      rw [Array.getD_eq_getD_getElem?] at this ⊢
      rw [Array.getElem?_setIfInBounds_ne hne]
      exact this
theorem ofLeaf_rel {F : Nat → Prop} {w : World} (v : Value) : VRel F w (ofLeaf v) v := by
  cases v with
  | int k n => exact .int _ _
  | bool b => exact .bool _
  | string s => exact .str _
  | pointer a => cases a <;> first | exact .nilp | exact .any _
  | slice a l c => cases a <;> cases l <;> cases c <;> first | exact .nils | exact .any _
  | nilIface => exact .nilif
  | nilFunc => exact .nilfn
  | map a => cases a <;> first | exact .nilm | exact .any _
  | _ => exact .any _
theorem eval_rel {F : Nat → Prop} {w : World} {t : Tm} {a : Act} (x : Operand) (h : ∀ i, x = .tmp i → VRel F w (t i) (a.tmps.getD i undef)) : VRel F w (ev t x) (a.eval x) := by
  cases x with
  | tmp i => exact h i rfl
  | const v =>
    show VRel F w (ofVal v) v
    cases v with
    | agg cs =>
      show VRel F w (match (cs.toList.map ofLeaf).all AV.leaf with | true => .agg (cs.toList.map ofLeaf) | false => .any) _
      split
      · rename_i hl
        refine .agg _ _ (by simp) (fun i x hx => ?_) (fun i x hx => ?_)
        · exact List.all_eq_true.1 hl x (List.mem_of_getElem? hx)
        · simp only [List.getElem?_map, Option.map_eq_some_iff] at hx
          obtain ⟨v, hv, rfl⟩ := hx
          have hlt : i < cs.size := by have := (List.getElem?_eq_some_iff.1 hv).1; simpa using this
          have : cs[i] = v := by simpa [hlt] using hv
          simpa [Array.getD, hlt, this] using ofLeaf_rel v
      · exact .any _
    | tuple vs =>
      show VRel F w (match vs.toList with | [] => .tup [] | _ => .any) _
      split
      · rename_i h0
        exact .tup _ _ (by simp at h0; simp [h0]) (fun i x h => by simp at h)
      · exact .any _
    | int k n => exact ofLeaf_rel (.int k n)
    | bool b => exact ofLeaf_rel (.bool b)
    | string x => exact ofLeaf_rel (.string x)
    | float k b => exact ofLeaf_rel (.float k b)
    | complex k b c => exact ofLeaf_rel (.complex k b c)
    | pointer x => exact ofLeaf_rel (.pointer x)
    | slice x l c => exact ofLeaf_rel (.slice x l c)
    | map x => exact ofLeaf_rel (.map x)
    | chan x => exact ofLeaf_rel (.chan x)
    | func f x y => exact ofLeaf_rel (.func f x y)
    | nilFunc => exact ofLeaf_rel .nilFunc
    | iface t x => exact ofLeaf_rel (.iface t x)
    | nilIface => exact ofLeaf_rel .nilIface
  | global g => exact .any _
  | func f => exact .fn _ _ _ _ _ rfl rfl (fun i x h => by simp at h) (fun i x h => by simp at h)
theorem TRel.eval {F : Nat → Prop} {w : World} {t : Tm} {a : Act} (h : TRel F w t a) (x : Operand) : VRel F w (ev t x) (a.eval x) := eval_rel x fun i _ => h i
end
section
variable {P : Program} {TT : TypeId → Option TI}
/-- A frame's marks, of ranges over functions that are done. -/
structure Marks (B : Nat) (F : Nat → Prop) (w : World) (ds : List Deferred) : Prop where
  low : B ≤ w.heap.size
  nodup : ds.Nodup
  is : ∀ d ∈ ds, ∃ D, d = { target := .collected D, args := #[] } ∧ B ≤ D ∧ F D ∧ w.heap[D]? = some (.deferred (some []))
theorem Marks.mono {B : Nat} {F F' : Nat → Prop} {w w' : World} {ds : List Deferred} (h : Marks B F w ds) (hst : Stp F w F' w') : Marks B F' w' ds :=
  ⟨Nat.le_trans h.low hst.size, h.nodup, fun d hd => by
    obtain ⟨D, h1, h2, h3, h4⟩ := h.is d hd
    exact ⟨D, h1, h2, hst.sub D h3, (hst.fix D h3).trans h4⟩⟩
/-- A frame, known. -/
structure SRel (B n : Nat) (F : Nat → Prop) (w : World) (t : Tm) (σ : Hp) (a : Act) : Prop where
  tm : TRel F w t a
  hp : RelHp F w σ
  size : n ≤ a.tmps.size
  defers : Marks B F w a.defers
theorem put_size (a : Act) (d : Option Tmp) (v : Value) : (a.put d v).tmps.size = a.tmps.size := by cases d <;> simp [Act.put]
theorem put_def (a : Act) (d : Option Tmp) (v : Value) : (a.put d v).defers = a.defers := by cases d <;> rfl
theorem SRel.put {B n : Nat} {F F' : Nat → Prop} {w w' : World} {t : Tm} {σ σ' : Hp} {a : Act} (h : SRel B n F w t σ a) (hst : Stp F w F' w') (hp : RelHp F' w' σ') {d : Option Tmp} {x : AV} {v : Value} (hx : VRel F' w' x v) (hd : ∀ i, d = some i → i < n) : SRel B n F' w' (put t d x) σ' (a.put d v) :=
  ⟨(h.tm.mono hst).put hx (fun i e => Nat.lt_of_lt_of_le (hd i e) h.size), hp, by rw [put_size]; exact h.size, by rw [put_def]; exact h.defers.mono hst⟩
theorem nilcs_hp {F : Nat → Prop} {w : World} {σ : Hp} (h : RelHp F w σ) {i b' : Nat} {cs cs2 : List AV} (hi : σ[i]? = some (b', cs)) (hl : cs2.length = cs.length) (hk : ∀ (k : Nat) (x y : AV), cs[k]? = some x → cs2[k]? = some y → x = y ∨ (x = .nils ∧ ∃ e : Sh, y = .fsl e [])) : RelHp F w (σ.set i (b', cs2)) := by
  refine ⟨?_, fun p hp => ?_, h.low⟩
  · have e1 : (σ.set i (b', cs2)).map Prod.fst = σ.map Prod.fst := by
      rw [List.map_set]
      refine List.ext_getElem (by simp) fun j h1 h2 => ?_
      rw [List.getElem_set]
      split
      · rename_i hj; subst hj
        have := List.getElem?_eq_some_iff.1 hi
        obtain ⟨q1, q2⟩ := this
        rw [List.getElem_map, q2]
      · rfl
    rw [e1]; exact h.nodup
  · rcases List.mem_or_eq_of_mem_set hp with hp | rfl
    · exact h.holds p hp
    · have hh := h.holds _ (List.mem_of_getElem? hi)
      by_cases hn : ∃ k : Nat, cs[k]? = some AV.nils
      · obtain ⟨k, hkn⟩ := hn
        obtain ⟨h1, c, T, h2, h3, h4⟩ := hh.leafs hkn rfl
        refine ⟨h1, .inl ⟨c, T, h2, by rw [hl]; exact h3, fun j y hy => ?_⟩⟩
        have hj : j < cs.length := by rw [← hl]; exact (List.getElem?_eq_some_iff.1 hy).1
        have hx := List.getElem?_eq_getElem hj
        obtain ⟨q1, q2⟩ := h4 j _ hx
        rcases hk j _ _ hx hy with e | ⟨e, e', rfl⟩
        · rw [← e]; exact ⟨q1, q2⟩
        · rw [e] at q2
          refine ⟨rfl, ?_⟩
          revert q2; generalize c.getD j undef = u; intro q2; cases q2
          exact .fsl e' [] _ ⟨none, 0, rfl, Nat.le_refl _, Nat.zero_le _, (fun _ => rfl), fun hne => absurd rfl hne⟩
      · have e : cs2 = cs := by
          refine List.ext_getElem hl fun j h1 h2 => ?_
          rcases hk j _ _ (List.getElem?_eq_getElem h2) (List.getElem?_eq_getElem h1) with e | ⟨e, _⟩
          · exact e.symm
          · exact absurd ⟨j, (List.getElem?_eq_getElem h2).trans (congrArg some e)⟩ hn
        rw [e]; exact hh
theorem RelHp.shed {F : Nat → Prop} {w : World} {σ σ' : Hp} (h : RelHp F w σ) (hs : Shed σ σ') : RelHp F w σ' := by
  induction hs with
  | refl => exact h
  | pull js _ ih => exact ih (h.perm (pulls_perm js _))
  | perm hp _ ih => exact ih (h.perm hp)
  | nilc i b' cs cs2 hi hl hk _ ih => exact ih (nilcs_hp h hi hl hk)
  | @drop k n σ σ2 _ ih =>
    refine ih (h.sub ?_)
    have h1 : (σ.drop (k + n)).Sublist (σ.drop k) := by
      rw [← List.drop_drop]
      exact List.drop_sublist _ _
    have h2 := (List.Sublist.refl (σ.take k)).append h1
    rwa [List.take_append_drop] at h2
theorem SRel.shed {B n : Nat} {F : Nat → Prop} {w : World} {t : Tm} {σ σ' : Hp} {a : Act} (h : SRel B n F w t σ a) (hs : Shed σ σ') : SRel B n F w t σ' a := ⟨h.tm, h.hp.shed hs, h.size, h.defers⟩
/-- What a guard says. -/
def guardIs (ops : List Oper) (o : Oper) (t : Tm) (b : Bool) : Prop :=
  (o.guard = none ∧ b = true) ∨ ∃ j want d x, o.guard = some (j, want) ∧ (ops[j]?).bind (·.dst) = some d ∧ ((t d = .bool x ∧ b = (x == want)) ∨ (t d = .tup [] ∧ b = false))
theorem guardW_get {ops : List Oper} {o : Oper} {t : Tm} {A B : Prop} (h : guardW ops o t A B) : (guardIs ops o t true ∧ A) ∨ (guardIs ops o t false ∧ B) := by
  unfold guardW at h
  split at h
  · rename_i hg
    exact .inl ⟨.inl ⟨hg, rfl⟩, h⟩
  · rename_i j want hg
    split at h
    · rename_i d hd
      split at h
      · rename_i b hb
        cases want <;> cases b
        · exact .inl ⟨.inr ⟨j, _, d, _, hg, hd, .inl ⟨hb, rfl⟩⟩, h⟩
        · exact .inr ⟨.inr ⟨j, _, d, _, hg, hd, .inl ⟨hb, rfl⟩⟩, h⟩
        · exact .inr ⟨.inr ⟨j, _, d, _, hg, hd, .inl ⟨hb, rfl⟩⟩, h⟩
        · exact .inl ⟨.inr ⟨j, _, d, _, hg, hd, .inl ⟨hb, rfl⟩⟩, h⟩
      · rename_i hb
        exact .inr ⟨.inr ⟨j, _, d, false, hg, hd, .inr ⟨hb, rfl⟩⟩, h⟩
      · exact h.elim
    · exact h.elim
theorem vrel_undef {F : Nat → Prop} {w : World} : VRel F w (.tup []) undef := .tup _ _ rfl (fun i x h => by simp at h)
theorem vrel_tup0 {F : Nat → Prop} {w : World} {u : Value} (h : VRel F w (.tup []) u) : u = .tuple #[] := by
  cases h with
  | tup _ vs hs h => rw [Array.size_eq_zero_iff.1 hs.symm]
theorem wanted_of {ops : List Oper} {o : Oper} {t : Tm} {a : Act} {b : Bool} (h : guardIs ops o t b) (hr : ∀ d, (∃ j want, o.guard = some (j, want) ∧ (ops[j]?).bind (·.dst) = some d) → ∃ F w, VRel F w (t d) (a.tmps.getD d undef)) : Region.wanted o (yielded ops.toArray a.tmps) = b := by
  rcases h with ⟨hg, rfl⟩ | ⟨j, want, d, x, hg, h1, ⟨h2, rfl⟩ | ⟨h2, rfl⟩⟩
  · simp [Region.wanted, hg]
  · obtain ⟨F, w, h3⟩ := hr d ⟨j, want, hg, h1⟩
    rw [h2] at h3
    have h3 := h3.boolv
    have h4 : a.tmps[d]? = some (.bool x) := by
      rw [Array.getD_eq_getD_getElem?] at h3
      cases hq : a.tmps[d]? with
      | none => rw [hq] at h3; simp [undef] at h3
      | some v => rw [hq] at h3; simpa using h3
    have h5 : yielded ops.toArray a.tmps j = some x := by
      unfold yielded
      simp only [List.getElem?_toArray, h1, Option.bind_some, h4]
    simp [Region.wanted, hg, h5]
  · obtain ⟨F, w, h3⟩ := hr d ⟨j, want, hg, h1⟩
    rw [h2] at h3
    have h3 := vrel_tup0 h3
    have h5 : yielded ops.toArray a.tmps j = none := by
      unfold yielded
      simp only [List.getElem?_toArray, h1, Option.bind_some]
      rw [Array.getD_eq_getD_getElem?] at h3
      cases hq : a.tmps[d]? with
      | none => rfl
      | some v => rw [hq] at h3; simp at h3; rw [h3]
    simp [Region.wanted, hg, h5]
theorem opsW_sound (ok : TTok P TT) {B n : Nat} {ops : List Oper} {Q : Exit → Act → World → Prop} : ∀ (l : List Oper) (t : Tm) (σ : Hp) (K : Tm → Hp → Prop) (F : Nat → Prop) (w : World) (a : Act), (∀ o ∈ l, ∀ d, o.dst = some d → d < n) → opsW P TT ops l t σ K → SRel B n F w t σ a →
    (∀ t' σ' F' w' a', Stp F w F' w' → SRel B n F' w' t' σ' a' → K t' σ' → Q .normal a' w') → wqList P ops.toArray Q l a w
  | [], t, σ, K, F, w, a, _, h, hs, hq => hq t σ F w a (.refl _ _) hs h
  | o :: l, t, σ, K, F, w, a, hd, h, hs, hq => by
    have hw : ∀ {b : Bool}, guardIs ops o t b → Region.wanted o (yielded ops.toArray a.tmps) = b := fun hg => wanted_of hg fun d _ => ⟨F, w, hs.tm d⟩
    rcases guardW_get h with ⟨hg, h⟩ | ⟨hg, h⟩
    · unfold wqList
      rw [if_pos (hw hg)]
      refine (opW_sound ok h a F w (fun x _ => hs.tm.eval x) hs.hp _ Q ?_)
      intro v av σ' F' w' h1 h2 h3 h4
      exact opsW_sound ok l _ σ' K F' w' _ (fun o ho => hd o (List.mem_cons_of_mem _ ho)) h4 (hs.put h1 h2 h3 (hd o (List.mem_cons_self ..))) (fun t' σ'' F'' w'' a' k1 k2 k3 => hq t' σ'' F'' w'' a' (h1.trans k1) k2 k3)
    · unfold wqList
      rw [if_neg (by rw [hw hg]; simp)]
      exact opsW_sound ok l _ σ K F w _ (fun o ho => hd o (List.mem_cons_of_mem _ ho)) h (hs.put (.refl _ _) hs.hp vrel_undef (hd o (List.mem_cons_self ..))) hq
/-- What a quiet operation leads to: one value. -/
def LeadsQ (P : Program) (o : Oper) (ρ : Operand → AV) (σ : Hp) (v : AV) : Prop :=
  ∀ (a : Act) (F : Nat → Prop) (w : World), (∀ x ∈ o.op.operands.toList, VRel F w (ρ x) (a.eval x)) → RelHp F w σ → ∀ (next : Act → World → Prop) (Q : Exit → Act → World → Prop),
    (∀ u F' w', Stp F w F' w' → RelHp F' w' σ → VRel F' w' v u → next (a.put o.dst u) w') → wq P o a w next Q
theorem opQ_sound (ok : TTok P TT) {o : Oper} {ρ : Operand → AV} {σ : Hp} {K : AV → Prop} (h : opQ P TT o.op ρ σ K) : ∃ v, K v ∧ LeadsQ P o ρ σ v := by
  have dd : opD P TT o.op ρ σ K → ∃ v, K v ∧ LeadsQ P o ρ σ v := fun h => by
    obtain ⟨v, h1, h2⟩ := opD_sound ok h
    refine ⟨v, h1, fun a F w hx hσ next Q hn => ?_⟩
    obtain ⟨v', h3, h4⟩ := h2 a.eval F w o rfl hx hσ
    unfold wq
    rw [h3]
    exact hn v' F w (.refl _ _) hσ h4
  generalize hop : o.op = op at h dd
  unfold opQ at h
  split at h
  · exact dd h
  · obtain ⟨_, _, h, _⟩ | ⟨f, xs, hc, hrun⟩ := callee_sound hop h
    · exact h.elim
    cases hc with
    | mk js r call go =>
      obtain ⟨hent, hcall⟩ := call
      refine ⟨r, go, fun a F w hx hσ next Q hn => ?_⟩
      obtain ⟨vs, hvs, hr⟩ := hrun a.eval F w hx
      unfold wq
      rw [hr hent]
      refine (hcall F w vs hvs (hσ.perm (pulls_perm js σ))).mono ?_
      rintro e w' ⟨r', v, σ', F', rfl, h1, h2, h3, rfl, rfl⟩
      exact ⟨v, rfl, hn v F' w' h1 (h2.perm (pulls_perm js σ).symm) h3⟩
    | perm hp r call go =>
      obtain ⟨hent, hcall⟩ := call
      refine ⟨r, go, fun a F w hx hσ next Q hn => ?_⟩
      obtain ⟨vs, hvs, hr⟩ := hrun a.eval F w hx
      unfold wq
      rw [hr hent]
      refine (hcall F w vs hvs (hσ.perm hp)).mono ?_
      rintro e w' ⟨r', v, σ', F', rfl, h1, h2, h3, rfl, hp'⟩
      exact ⟨v, rfl, hn v F' w' h1 (h2.perm (hp.symm.trans hp')) h3⟩
  · exact dd h
end
end Go.Proofs.Ytacacplipaeokaa
