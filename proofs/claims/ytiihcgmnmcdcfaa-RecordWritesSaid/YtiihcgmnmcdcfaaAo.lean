/-
  An operation that leaves the memory alone does what the walk says ('opD_sound'). Over any program.
-/
import Derived.Test.YtiihcgmnmcdcfaaAs
import Derived.Laws.Pointers
import Derived.Laws.Small
namespace Go.Proofs.Ytiihcgmnmcdcfaa
open Go.RowKit

/-- The cells cs lie in block b from o on. -/
def At (F : Nat → Prop) (w : World) (b o : Nat) (cs : List AV) : Prop := ∀ (i : Nat) (x : AV), cs[i]? = some x → x.leaf = true ∧ ∃ v, w.cell? ⟨b, o + i, none⟩ = some v ∧ VRel F w x v
theorem Holds.at_ {F : Nat → Prop} {w : World} {b : Nat} {cs : List AV} (h : Holds F w b cs) : At F w b 0 cs := by
  obtain ⟨_, c, T, h1, h2, h3⟩ := h
  intro i x hx
  have hi : i < cs.length := (List.getElem?_eq_some_iff.1 hx).1
  obtain ⟨h4, h5⟩ := h3 i x hx
  refine ⟨h4, c.getD i undef, ?_, h5⟩
  rw [Nat.zero_add, cell_at h1]
  have : i < c.size := by omega
  simp [Array.getD, this]
theorem At.drop {F : Nat → Prop} {w : World} {b o : Nat} {cs : List AV} (h : At F w b o cs) (k : Nat) : At F w b (o + k) (cs.drop k) := by
  intro i x hx
  rw [List.getElem?_drop] at hx
  obtain ⟨h1, v, h2, h3⟩ := h (k + i) x hx
  exact ⟨h1, v, by rw [← h2, Nat.add_assoc], h3⟩
theorem At.of_lies {F : Nat → Prop} {w : World} {b o : Nat} (s : Sh) {cs : List Value} {d : s.T} (h : Lies w b o cs) (hr : FReads F w s cs d) : At F w b o (s.cells d) := by
  obtain ⟨h1, h2⟩ := FReads.cells s cs d hr
  intro i x hx
  obtain ⟨h3, h4⟩ := h2 i x hx
  have hi : i < cs.length := by rw [← h1]; exact (List.getElem?_eq_some_iff.1 hx).1
  exact ⟨h3, _, h i _ (by rw [List.getElem?_eq_getElem hi]), by simpa [List.getD, hi] using h4⟩
theorem At.eptr {F : Nat → Prop} {w : World} {b o : Nat} {cs : List AV} (h : At F w b o cs) (hF : F b) : VRel F w (.eptr cs) (.pointer (some ⟨b, o, none⟩)) := by
  refine .eptr cs b o (fun i => (w.cell? ⟨b, o + i, none⟩).getD undef) hF (fun i x hx => ?_) (fun i x hx => (h i x hx).1) (fun i x hx => ?_)
  · obtain ⟨_, v, h2, _⟩ := h i x hx; rw [h2]; rfl
  · obtain ⟨_, v, h2, h3⟩ := h i x hx; rw [h2]; exact h3
theorem VRel.eptr_at {F : Nat → Prop} {w : World} {cs : List AV} {v : Value} (h : VRel F w (.eptr cs) v) : ∃ b o, v = .pointer (some ⟨b, o, none⟩) ∧ F b ∧ At F w b o cs := by
  cases h with
  | eptr cs b o f hF h1 hl h => exact ⟨b, o, rfl, hF, fun i x hx => ⟨hl i x hx, f i, h1 i x hx, h i x hx⟩⟩

section
variable {P : Program} {TT : TypeId → Option TI} {F : Nat → Prop} {w : World}

theorem run_isAgg {t : TypeId} {d : TypeDesc} (h : P.underlying t = some d) (w : World) : (isAgg t).run P w = .ok d.isRow w := by
  unfold isAgg
  rw [Sem.run_bind, run_underlying h w]
  cases d <;> rfl
theorem run_sizeOf {t : TypeId} {j : TypeInfo} (h : P.info? t = some j) (w : World) : (sizeOf t).run P w = .ok j.size w := by simp [sizeOf, typeInfo, h]

theorem read_sound (ok : TTok P TT) {t : TypeId} {i : TI} (ht : TT t = some i) {b o : Nat} {cs : List AV} (h : At F w b o cs) {k : Nat} {v : AV} (hv : readAs i cs k = some v) :
    ∃ v', (loadVar t ⟨b, o + k, none⟩).run P w = .ok v' w ∧ VRel F w v v' := by
  obtain ⟨j, d, z, hj, hd, hs, hb, hf, hz, hzz⟩ := tt_fact ok ht
  have hw := fits_wide hf
  unfold readAs at hv
  split at hv
  · rename_i hwide
    split at hv
    · rename_i hle
      have hle := Nat.le_of_ble_eq_true hle
      simp only [Option.some.injEq] at hv
      subst hv
      have hc : ∀ m, m < i.size → ∃ x, cs[k + m]? = some x ∧ x.leaf = true ∧ ∃ v, w.cell? ⟨b, o + k + m, none⟩ = some v ∧ VRel F w x v := by
        intro m hm
        have hk : k + m < cs.length := by omega
        obtain ⟨h1, v, h2, h3⟩ := h (k + m) cs[k + m] (by simp [hk])
        exact ⟨_, by simp [hk], h1, v, by rw [← h2, Nat.add_assoc], h3⟩
      have hr : w.rangeAt b (o + k) ((List.range i.size).map fun m => (w.cell? ⟨b, o + k + m, none⟩).getD undef) := by
        intro m v hm
        have hmi : m < i.size := by have := (List.getElem?_eq_some_iff.1 hm).1; simpa using this
        obtain ⟨x, _, _, v', h2, _⟩ := hc m hmi
        simp [hmi] at hm
        rw [h2] at hm ⊢
        simpa using hm
      refine ⟨_, run_loadVar_mid (P := P) w b (o + k) t _ d hr hd (by rw [hw, hwide]) (by simp [hj, hs]), ?_⟩
      refine .agg _ _ (by simp; omega) (fun m x hx => ?_) (fun m x hx => ?_)
      · rw [List.getElem?_take] at hx
        split at hx
        · rename_i hm
          obtain ⟨x', h1, h2, _⟩ := hc m hm
          rw [List.getElem?_drop, h1] at hx
          cases hx
          exact h2
        · cases hx
      · rw [List.getElem?_take] at hx
        split at hx
        · rename_i hm
          obtain ⟨x', h1, _, v, h2, h3⟩ := hc m hm
          rw [List.getElem?_drop, h1] at hx
          cases hx
          simpa [hm, h2] using h3
        · cases hx
    · cases hv
  · rename_i hwide
    obtain ⟨_, v', h2, h3⟩ := h k v hv
    refine ⟨v', ?_, h3⟩
    unfold loadVar
    rw [Sem.run_bind, run_isAgg hd]
    simp [hw, hwide, h2]

/-- What an operation says: a value, whatever stands for what it looks at. -/
def Says (P : Program) (op : Op) (ρ : Operand → AV) (σ : Hp) (v : AV) : Prop :=
  ∀ (η : Operand → Value) (F : Nat → Prop) (w : World) (o : Oper), o.op = op → (∀ x ∈ op.operands.toList, VRel F w (ρ x) (η x)) → RelHp F w σ → ∃ v', (execOp η o).run P w = .ok (.value v') w ∧ VRel F w v v'

/-- As Says, of what doesn't look at the memory: in whatever world. -/
def SaysB (P : Program) (op : Op) (ρ : Operand → AV) (v : AV) : Prop :=
  ∀ (η : Operand → Value) (F : Nat → Prop) (w : World) (o : Oper), o.op = op → (∀ x ∈ op.operands.toList, VRel F w (ρ x) (η x)) → ∃ v', (∀ w', (execOp η o).run P w' = .ok (.value v') w') ∧ VRel F w v v'
theorem SaysB.unvia {P : Program} {op : Op} {ρ : Operand → AV} {v : AV} (h : SaysB P op (fun x => Go.Proofs.Ytiihcgmnmcdcfaa.unvia (ρ x)) v) : SaysB P op ρ v := fun η F w o ho hx => h η F w o ho (fun x hm => (hx x hm).unvia)
theorem saysB_unvia {P : Program} {op : Op} {ρ : Operand → AV} {K : AV → Prop} (h : ∃ v, K v ∧ SaysB P op (fun x => Go.Proofs.Ytiihcgmnmcdcfaa.unvia (ρ x)) v) : ∃ v, K v ∧ SaysB P op ρ v := by
  obtain ⟨v, h1, h2⟩ := h
  exact ⟨v, h1, h2.unvia⟩
theorem SaysB.says {P : Program} {op : Op} {ρ : Operand → AV} {v : AV} (h : SaysB P op ρ v) (σ : Hp) : Says P op ρ σ v := fun η F w o ho hx _ => by
  obtain ⟨v', h1, h2⟩ := h η F w o ho hx
  exact ⟨v', h1 w, h2⟩

theorem RelHp.at_ {F : Nat → Prop} {w : World} {σ : Hp} (h : RelHp F w σ) {j b : Nat} {cs : List AV} (hj : σ[j]? = some (b, cs)) : At F w b 0 cs := (h.holds (b, cs) (List.mem_of_getElem? hj)).at_

theorem says_move {x : Operand} {ρ : Operand → AV} : SaysB P (.move x) ρ (ρ x) := fun η F w o ho hx => ⟨η x, fun _ => by simp [execOp, ho], hx x (by simp [Op.operands])⟩
theorem says_assign {x : Operand} {ρ : Operand → AV} : SaysB P (.assign x) ρ (ρ x) := fun η F w o ho hx => ⟨η x, fun _ => by simp [execOp, ho], hx x (by simp [Op.operands])⟩
theorem VRel.boolv {b : Bool} {v : Value} (h : VRel F w (.bool b) v) : v = .bool b := by cases h; rfl
theorem VRel.intv {k : IntKind} {n : Int} {v : Value} (h : VRel F w (.int k n) v) : v = .int k n := by cases h; rfl
theorem VRel.strv {s : ByteArray} {v : Value} (h : VRel F w (.str s) v) : v = .string s := by cases h; rfl
theorem VRel.ptrv {b o : Nat} {v : Value} (h : VRel F w (.ptr b o) v) : v = .pointer (some ⟨b, o, none⟩) := by cases h; rfl
theorem VRel.mrefv {b off len e : Nat} {v : Value} (h : VRel F w (.mref b off len e) v) : ∃ a cap, v = .slice (some a) len cap ∧ MRef w b off len e a cap := by cases h with | mref _ _ _ _ a cap h => exact ⟨a, cap, rfl, h⟩
theorem VRel.aggv {cs : List AV} {v : Value} (h : VRel F w (.agg cs) v) : ∃ vs, v = .agg vs ∧ cs.length = vs.size ∧ (∀ (i : Nat) (x : AV), cs[i]? = some x → x.leaf = true ∧ VRel F w x (vs.getD i undef)) := by
  cases h with | agg cs vs hs hl h => exact ⟨vs, rfl, hs, fun i x hx => ⟨hl i x hx, h i x hx⟩⟩

theorem says_pick {c a b : Operand} {ρ : Operand → AV} {x : Bool} (h : ρ c = .bool x) : SaysB P (.pick c a b) ρ (if x then ρ a else ρ b) := by
  intro η F w o ho hx
  have hc := hx c (by simp [Op.operands])
  have ha := hx a (by simp [Op.operands])
  have hb := hx b (by simp [Op.operands])
  rw [h] at hc
  have hc := hc.boolv
  cases x
  · exact ⟨η b, fun _ => by simp [execOp, ho, hc, asBool], hb⟩
  · exact ⟨η a, fun _ => by simp [execOp, ho, hc, asBool], ha⟩

theorem load_sound (ok : TTok P TT) {t : TypeId} {a : Operand} {ρ : Operand → AV} {σ : Hp} {K : AV → Prop} {i : TI} (ht : TT t = some i) (h : loadW i (ρ a) σ K) : ∃ v, K v ∧ Says P (.load t a) ρ σ v := by
  unfold loadW at h
  split at h
  · rename_i cs hcs
    split at h
    · rename_i v hv
      refine ⟨v, h, fun η F w o ho hx _ => ?_⟩
      have ha := hx a (by simp [Op.operands])
      rw [hcs] at ha
      obtain ⟨b, o', e, hF, hat⟩ := ha.eptr_at
      obtain ⟨v', h1, h2⟩ := read_sound ok ht hat hv
      rw [Nat.add_zero] at h1
      exact ⟨v', by simp [execOp, ho, e, Instr.loadAt, Instr.sureAddr, h1], h2⟩
    · exact h.elim
  · rename_i b o' hcs
    obtain ⟨j, cs, v, h1, h2, go⟩ := h
    refine ⟨v, go, fun η F w o ho hx hσ => ?_⟩
    have ha := hx a (by simp [Op.operands])
    rw [hcs] at ha
    obtain ⟨v', h3, h4⟩ := read_sound ok ht (hσ.at_ h1) h2
    rw [Nat.zero_add] at h3
    exact ⟨v', by simp [execOp, ho, ha.ptrv, Instr.loadAt, Instr.sureAddr, h3], h4⟩
  · exact h.elim
end
end Go.Proofs.Ytiihcgmnmcdcfaa
