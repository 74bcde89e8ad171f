/-
  Operations that make memory, or write it, do what the walk says: 'opW_sound'. Over any program.
-/
import Derived.Test.YtiihcgmnmcdcfaaAh
namespace Go.Proofs.Ytiihcgmnmcdcfaa
open Go.RowKit
section
variable {P : Program} {TT : TypeId → Option TI} {F F' : Nat → Prop} {w w' : World}

/-- What an operation leads to. -/
def Leads (P : Program) (o : Oper) (ρ : Operand → AV) (σ : Hp) (K : AV → Hp → Prop) : Prop :=
  ∀ (a : Act) (F : Nat → Prop) (w : World), (∀ x ∈ o.op.operands.toList, VRel F w (ρ x) (a.eval x)) → RelHp F w σ → ∀ (next : Act → World → Prop) (Q : Exit → Act → World → Prop),
    (∀ v av σ' F' w', Stp F w F' w' → RelHp F' w' σ' → VRel F' w' av v → K av σ' → next (a.put o.dst v) w') → o.wp P a w next Q

theorem leads_of_says {o : Oper} {ρ : Operand → AV} {σ : Hp} {K : AV → Hp → Prop} {v : AV} (h : Says P o.op ρ σ v) (hk : K v σ) : Leads P o ρ σ K := by
  intro a F w hx hσ next Q hn
  obtain ⟨v', h1, h2⟩ := h a.eval F w o rfl hx hσ
  unfold Oper.wp
  rw [h1]
  exact hn v' v σ F w (.refl _ _) hσ h2 hk

/-- An operation that makes one block, and hands back where. -/
theorem leads_alloc {o : Oper} {ρ : Operand → AV} {σ : Hp} {K : AV → Hp → Prop} {cs : List AV} {mk : Nat → AV} (hk : ∀ b, K (mk b) ((b, cs) :: σ))
    (h : ∀ (η : Operand → Value) (F : Nat → Prop) (w : World), (∀ x ∈ o.op.operands.toList, VRel F w (ρ x) (η x)) → ∃ (c : Array Value) (T : TypeId) (v : Value), (execOp η o).run P w = .ok (.value v) (w.alloc (.cells c T)) ∧ cs.length ≤ c.size ∧ (∀ (i : Nat) (x : AV), cs[i]? = some x → x.leaf = true ∧ VRel F w x (c.getD i undef)) ∧ VRel F (w.alloc (.cells c T)) (mk w.heap.size) v) : Leads P o ρ σ K := by
  intro a F w hx hσ next Q hn
  obtain ⟨c, T, v, h1, h2, h3, h4⟩ := h a.eval F w hx
  unfold Oper.wp
  rw [h1]
  obtain ⟨hst, hr⟩ := relhp_alloc hσ (T := T) h2 h3 (w0 := w) (.inl rfl)
  exact hn v _ _ F _ hst hr h4 (hk _)

theorem crel_of_cells {x : AV} {v : Value} {cs : List AV} (h : VRel F w x v) (hc : x.cells? = some cs) : cs.length ≤ v.cells.size ∧ ∀ (i : Nat) (x : AV), cs[i]? = some x → x.leaf = true ∧ VRel F w x (v.cells.getD i undef) := by
  obtain ⟨h1, h2⟩ := cells?_rel h hc
  exact ⟨by omega, h2⟩

theorem box_sound {o : Oper} {e : TypeId} {x : Operand} (ho : o.op = .box e x) {ρ : Operand → AV} {σ : Hp} {K : AV → Hp → Prop} {cs : List AV} (hc : (ρ x).cells? = some cs) (hk : ∀ b, K (.ptr b 0) ((b, cs) :: σ)) : Leads P o ρ σ K :=
  leads_alloc hk fun η F w hx => by
    have h1 := hx x (by simp [ho, Op.operands])
    obtain ⟨h2, h3⟩ := crel_of_cells h1 hc
    exact ⟨(η x).cells, e, .pointer (some ⟨w.heap.size, 0, none⟩), by simp [execOp, ho, Instr.box, newVar, newRow], h2, h3, .ptr _ _⟩

theorem alloc_sound (ok : TTok P TT) {o : Oper} {e : TypeId} (ho : o.op = .alloc e) {ρ : Operand → AV} {σ : Hp} {K : AV → Hp → Prop} {i : TI} (hi : TT e = some i) (hk : ∀ b, K (.ptr b 0) ((b, i.zero) :: σ)) : Leads P o ρ σ K :=
  leads_alloc hk fun η F w hx => by
    obtain ⟨j, d, z, hj, hd, _, _, _, hz, hzz⟩ := tt_fact ok hi
    obtain ⟨h1, h2⟩ := zero_rel (F := F) (w := w) hzz
    exact ⟨z.cells, e, .pointer (some ⟨w.heap.size, 0, none⟩), by simp [execOp, ho, Instr.alloc, newVar, newRow, zeroValue, typeInfo, hj, hz], by omega, h2, .ptr _ _⟩

theorem buildSlice_sound (ok : TTok P TT) {o : Oper} {t e : TypeId} {len : Nat} {parts : Array (Nat × Operand)} (ho : o.op = .buildSlice t len parts) {ρ : Operand → AV} {σ : Hp} {K : AV → Hp → Prop} {it i : TI} (ht : TT t = some it) (hk' : it.k = .slice e) (hi : TT e = some i) {cs : List AV}
    (hf : fillA ((List.range len).map fun j => (j * i.size, i.size)) (repC i.zero len) (parts.toList.map fun p => (p.1, ρ p.2)) = some cs) (hsz : len * i.size ≤ 16777216) (hpos : 1 ≤ i.size) (hk : ∀ b, K (.mref b 0 len i.size) ((b, cs) :: σ)) : Leads P o ρ σ K :=
  leads_alloc hk fun η F w hx => by
    obtain ⟨_, d, _, _, hd, _, _, hft, _, _⟩ := tt_fact ok ht
    rw [hk'] at hft
    obtain rfl := fits_slice hft
    obtain ⟨j, d', z, hj, hd', hs, ⟨_, hzl⟩, _, hz, hzz⟩ := tt_fact ok hi
    obtain ⟨hl, hr⟩ := parts_rel (parts := parts) (ρ := ρ) (η := η) (F := F) (w := w) (by simpa [ho, Op.operands] using hx)
    have hzs : z.cells.size = j.size := by have := (zero_rel (F := F) (w := w) hzz).1; omega
    obtain ⟨m1, m2⟩ := made_rel (F := F) (w := w) hzz (Nat.le_refl len)
    have hc0 : CRel F w (repC i.zero len) (madeCells z.cells (len * i.zero.length)) := ⟨by rw [repC_length, size_madeCells], m2⟩
    rw [hzl, ← hs] at hc0
    obtain ⟨vs', f1, f2⟩ := fill_rel (place := fun k => some (k * j.size, j.size)) (fun k p hk => by
      obtain ⟨a, ha, rfl⟩ := List.getElem?_eq_some_iff.1 hk
      simp [hs]) _ _ _ _ _ hl hr hc0 hf
    have hsize : vs'.size = len * j.size := by
      have e1 : ∀ (us : List (Nat × AV)) (xs out : List AV), fillA ((List.range len).map fun j => (j * i.size, i.size)) xs us = some out → out.length = xs.length := by
        intro us
        induction us with
        | nil => intro xs out h; simp [fillA] at h; subst h; rfl
        | cons p us ih =>
          intro xs out h
          obtain ⟨q, v⟩ := p
          simp only [fillA] at h
          split at h
          · split at h
            · rw [ih _ _ h, splice_length]
            · cases h
          · cases h
      have := e1 _ _ _ hf
      rw [repC_length] at this
      have h3 := f2.1
      rw [hzl, ← hs] at this
      omega
    refine ⟨vs', e, .slice (some ⟨w.heap.size, 0, none⟩) len len, ?_, by have := f2.1; omega, f2.2, .mref _ _ _ _ _ _ ⟨vs', e, (0, 0), alloc_at _ _, Nat.le_refl _, ?_, .inl ⟨rfl, by rw [hsize, hs]; omega⟩⟩⟩
    · by_cases h0 : len * j.size = 0
      · have : vs' = #[] := Array.size_eq_zero_iff.1 (by omega)
        subst this
        have f1' : Instr.fill (fun k => some (k * j.size, j.size)) #[] (parts.map fun (i, x) => (i, η x)).toList = some #[] := by
          have e0 : madeCells z.cells (len * j.size) = #[] := by rw [h0]; simp [madeCells, Array.range_zero']
          rw [e0] at f1
          exact f1
        simp only [execOp, ho, Instr.buildSlice, Sem.run_bind, run_underlying hd, Result.andThen_ok, run_sizeOf hj, h0, if_true, Sem.run_pure, Nat.reducePow, if_false, Nat.not_lt_zero, gt_iff_lt]
        rw [show ((Array.range 0).map fun x => (#[] : Array Value)[x % (#[] : Array Value).size]!) = #[] by simp [Array.range_zero'], f1']
        rfl
      · simp only [execOp, ho, Sem.run_bind, run_buildSlice w t e len _ vs' j z hd hj hz (by rw [hs]; omega) h0 f1]
        rfl
    · have : len ≤ len * i.size := Nat.le_mul_of_pos_right _ hpos
      unfold maxLen; omega

theorem makeSlice_sound (ok : TTok P TT) {o : Oper} {t e : TypeId} {l c : Operand} (ho : o.op = .makeSlice t l c) {ρ : Operand → AV} {σ : Hp} {K : AV → Hp → Prop} {it i : TI} (ht : TT t = some it) (hk' : it.k = .slice e) (hi : TT e = some i) {k k' : IntKind} {n m : Int} (hl : ρ l = .int k n) (hc : ρ c = .int k' m)
    (h0 : 0 ≤ n ∧ n ≤ m ∧ m ≤ 1048576 ∧ i.bytes ≤ 1024) (hk : ∀ b, K (.mref b 0 n.toNat i.size) ((b, repC i.zero n.toNat) :: σ)) : Leads P o ρ σ K :=
  leads_alloc hk fun η F w hx => by
    obtain ⟨_, d, _, _, hd, _, _, hft, _, _⟩ := tt_fact ok ht
    rw [hk'] at hft
    obtain rfl := fits_slice hft
    obtain ⟨j, d', z, hj, hd', hs, ⟨hb, hzl⟩, _, hz, hzz⟩ := tt_fact ok hi
    have h1 := hx l (by simp [ho, Op.operands]); rw [hl] at h1
    have h2 := hx c (by simp [ho, Op.operands]); rw [hc] at h2
    obtain ⟨m1, m2⟩ := made_rel (F := F) (w := w) hzz (show n.toNat ≤ m.toNat by omega)
    rw [hzl, ← hs] at m1 m2
    have hbm : (j.bytes : Int) * m ≤ 281474976710656 := by
      have : (j.bytes : Int) * m ≤ 1024 * 1048576 := Int.mul_le_mul (by omega) (by omega) (by omega) (by omega)
      omega
    refine ⟨madeCells z.cells (m.toNat * j.size), e, .slice (some ⟨w.heap.size, 0, none⟩) n.toNat m.toNat, ?_, m1, m2, .mref _ _ _ _ _ _ ⟨_, e, (0, 0), alloc_at _ _, by omega, by unfold maxLen; omega, .inl ⟨rfl, by rw [size_madeCells, hs]; omega⟩⟩⟩
    simp only [execOp, ho, h1.intv, h2.intv, Sem.run_bind, run_make w t e j z hd hj hz k k' n m h0.1 h0.2.1 hbm (by omega)]
    rfl
end
end Go.Proofs.Ytiihcgmnmcdcfaa
