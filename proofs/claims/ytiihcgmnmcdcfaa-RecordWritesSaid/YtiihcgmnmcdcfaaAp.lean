/-
  As XAo: sums, comparisons, places, slices. Over any program.
-/
import Derived.Test.YtiihcgmnmcdcfaaAo
namespace Go.Proofs.Ytiihcgmnmcdcfaa
open Go.RowKit
section
variable {P : Program} {TT : TypeId → Option TI}

theorem says_of {op : Op} {ρ : Operand → AV} {v : AV} {u : Value} (hu : ∀ F w, VRel F w v u) (h : ∀ (η : Operand → Value) (F : Nat → Prop) (w : World) (o : Oper), o.op = op → (∀ x ∈ op.operands.toList, VRel F w (ρ x) (η x)) → ∀ w', (execOp η o).run P w' = .ok (.value u) w') : SaysB P op ρ v :=
  fun η F w o ho hx => ⟨u, h η F w o ho hx, hu F w⟩

theorem cmpW_get {b : Bool} {K : AV → Prop} (h : cmpW b K) : K (.bool b) := by cases b <;> exact h

/-- What an operation on two integers gives. -/
theorem intW_sound {op : BinOp} {k : IntKind} {a b : Int} {K : AV → Prop} (hop : op ≠ .shl ∧ op ≠ .shr) (h : intW op k a b K) :
    ∃ v u, K v ∧ (∀ F w, VRel F w v u) ∧ ∀ (t : TypeId) (w : World), (binOp op t (.int k a) (.int k b)).run P w = .ok u w := by
  cases op <;> simp only [intW] at h
  case add => exact ⟨_, _, h, fun _ _ => .int _ _, fun t w => by simp [binOp, Op.intArith]⟩
  case sub => exact ⟨_, _, h, fun _ _ => .int _ _, fun t w => by simp [binOp, Op.intArith]⟩
  case mul => exact ⟨_, _, h, fun _ _ => .int _ _, fun t w => by simp [binOp, Op.intArith]⟩
  case quo => exact ⟨_, _, h.go, fun _ _ => .int _ _, fun t w => by simp [binOp, Op.intDiv, h.fact]⟩
  case rem => exact ⟨_, _, h.go, fun _ _ => .int _ _, fun t w => by simp [binOp, Op.intDiv, h.fact]⟩
  case and => exact ⟨_, _, h, fun _ _ => .int _ _, fun t w => by rw [show binOp .and t (.int k a) (.int k b) = Op.intBits .and k a b by simp [binOp]]; rfl⟩
  case or => exact ⟨_, _, h, fun _ _ => .int _ _, fun t w => by rw [show binOp .or t (.int k a) (.int k b) = Op.intBits .or k a b by simp [binOp]]; rfl⟩
  case xor => exact ⟨_, _, h, fun _ _ => .int _ _, fun t w => by rw [show binOp .xor t (.int k a) (.int k b) = Op.intBits .xor k a b by simp [binOp]]; rfl⟩
  case andNot => exact ⟨_, _, h, fun _ _ => .int _ _, fun t w => by rw [show binOp .andNot t (.int k a) (.int k b) = Op.intBits .andNot k a b by simp [binOp]]; rfl⟩
  case eql => exact ⟨_, _, cmpW_get h, fun _ _ => .bool _, fun t w => by simp [binOp, Op.intCmp]; exact Bool.beq_eq_decide_eq _ _⟩
  case neq => exact ⟨_, _, cmpW_get h, fun _ _ => .bool _, fun t w => by simp [binOp, Op.intCmp, bne, Bool.beq_eq_decide_eq]⟩
  case lss => exact ⟨_, _, cmpW_get h, fun _ _ => .bool _, fun t w => by simp [binOp, Op.intCmp]⟩
  case leq => exact ⟨_, _, cmpW_get h, fun _ _ => .bool _, fun t w => by simp [binOp, Op.intCmp]⟩
  case gtr => exact ⟨_, _, cmpW_get h, fun _ _ => .bool _, fun t w => by simp [binOp, Op.intCmp]⟩
  case geq => exact ⟨_, _, cmpW_get h, fun _ _ => .bool _, fun t w => by simp [binOp, Op.intCmp]⟩

theorem shiftW_sound {op : BinOp} {k yk : IntKind} {a b : Int} {K : AV → Prop} (h : shiftW op k a b K) :
    ∃ v u, K v ∧ (∀ F w, VRel F w v u) ∧ ∀ (t : TypeId) (w : World), (binOp op t (.int k a) (.int yk b)).run P w = .ok u w := by
  cases op <;> simp only [shiftW] at h
  case shl => exact ⟨_, _, h.go, fun _ _ => .int _ _, fun t w => by have := h.fact; simp [binOp, Op.shift, show ¬ b < 0 by omega]⟩
  case shr => exact ⟨_, _, h.go, fun _ _ => .int _ _, fun t w => by have := h.fact; simp [binOp, Op.shift, show ¬ b < 0 by omega]⟩

theorem guard_plain {op : BinOp} {t : TypeId} {x y : Operand} {a b : Value} (h : (∀ u, a ≠ .agg u) ∧ (a ≠ .nilIface ∨ b ≠ .nilIface)) (w : World) : (eqGuard op t x y a b).run P w = .ok () w := by
  obtain ⟨h1, h2⟩ := h
  cases op <;> first
    | rfl
    | (cases a <;> first
        | rfl
        | exact absurd rfl (h1 _)
        | (cases b <;> first
            | rfl
            | exact absurd rfl (h2.resolve_left (by simp))))
theorem guard_const {op : BinOp} {t : TypeId} {x : Operand} {v : Value} {a b : Value} (w : World) (h : ∀ u, a ≠ .agg u) : (eqGuard op t x (.const v) a b).run P w = .ok () w := by
  by_cases hn : a = .nilIface ∧ b = .nilIface
  · obtain ⟨rfl, rfl⟩ := hn
    cases op <;> first | rfl | simp [eqGuard]
  · exact guard_plain ⟨h, by by_cases ha : a = .nilIface; exact .inr fun hb => hn ⟨ha, hb⟩; exact .inl ha⟩ w

theorem run_binop {η : Operand → Value} {o : Oper} {op : BinOp} {t yt : TypeId} {x y : Operand} {w : World} {u : Value} (ho : o.op = .binOp op t x y yt) (hg : (eqGuard op t x y (η x) (η y)).run P w = .ok () w) (h : (binOp op t (η x) (η y)).run P w = .ok u w) :
    (execOp η o).run P w = .ok (.value u) w := by
  simp [execOp, ho, hg, h]

theorem run_equal {t : TypeId} (a b : Value) (w : World) :
    (Op.equal t a b).run P w = (Op.equalIn (9999 + 1) t a b).run P w := rfl

theorem nilEq_sound (ok : TTok P TT) {t : TypeId} {i : TI} (ht : TT t = some i) {x y : AV} {want : Bool} {K : AV → Prop} (h : nilEq i.k want x y K) :
    ∃ r : Bool, K (.bool (r == want)) ∧ ∀ (F : Nat → Prop) (w : World) (a b : Value), VRel F w x a → VRel F w y b → (∀ u, a ≠ .agg u) ∧ (∀ w', (Op.equal t a b).run P w' = .ok r w') ∧
      binOp .eql t a b = (do pure (.bool (← Op.equal t a b))) ∧ binOp .neq t a b = (do pure (.bool (!(← Op.equal t a b)))) := by
  obtain ⟨j, d, z, hj, hd, _, _, hf, _, _⟩ := tt_fact ok ht
  unfold nilEq at h
  split at h
  · rename_i e hk
    rw [hk] at hf; have := fits_ptr hf; subst this
    refine ⟨true, by simpa using h, fun F w a b ha hb => ?_⟩
    cases ha; cases hb
    exact ⟨by simp, fun w' => by rw [run_equal, Op.equalIn, Sem.run_bind, run_underlying hd]; rfl, rfl, rfl⟩
  · rename_i e b' o' hk
    rw [hk] at hf; have := fits_ptr hf; subst this
    refine ⟨false, by simpa using h, fun F w a b ha hb => ?_⟩
    cases ha; cases hb
    exact ⟨by simp, fun w' => by rw [run_equal, Op.equalIn, Sem.run_bind, run_underlying hd]; rfl, rfl, rfl⟩
  · rename_i e cs hk
    rw [hk] at hf; have := fits_ptr hf; subst this
    refine ⟨false, by simpa using h, fun F w a b ha hb => ?_⟩
    obtain ⟨_, _, rfl, _⟩ := ha.eptr_at
    cases hb
    exact ⟨by simp, fun w' => by rw [run_equal, Op.equalIn, Sem.run_bind, run_underlying hd]; rfl, rfl, rfl⟩
  · rename_i e hk
    rw [hk] at hf; have := fits_slice hf; subst this
    refine ⟨true, by simpa using h, fun F w a b ha hb => ?_⟩
    cases ha; cases hb
    exact ⟨by simp, fun w' => by rw [run_equal, Op.equalIn, Sem.run_bind, run_underlying hd]; rfl, rfl, rfl⟩
  · rename_i e _ _ _ _ hk
    rw [hk] at hf; have := fits_slice hf; subst this
    refine ⟨false, by simpa using h, fun F w a b ha hb => ?_⟩
    obtain ⟨_, _, rfl, _⟩ := ha.mrefv
    cases hb
    exact ⟨by simp, fun w' => by rw [run_equal, Op.equalIn, Sem.run_bind, run_underlying hd]; rfl, rfl, rfl⟩
  · rename_i e hk
    rw [hk] at hf; have := fits_slice hf; subst this
    refine ⟨false, by simpa using h, fun F w a b ha hb => ?_⟩
    cases ha; cases hb
    exact ⟨by simp, fun w' => by rw [run_equal, Op.equalIn, Sem.run_bind, run_underlying hd]; rfl, rfl, rfl⟩
  · rename_i e s l hk
    rw [hk] at hf; have := fits_slice hf; subst this
    refine ⟨false, by simpa using h.go, fun F w a b ha hb => ?_⟩
    obtain ⟨_, c, rfl, _, _, h4⟩ := ha.fslv
    obtain ⟨b', o, rfl, _⟩ := h4 (List.ne_nil_of_length_pos h.fact)
    cases hb
    exact ⟨by simp, fun w' => by rw [run_equal, Op.equalIn, Sem.run_bind, run_underlying hd]; rfl, rfl, rfl⟩
  · rename_i hk
    rw [hk] at hf; obtain ⟨m, rfl⟩ := fits_iface hf
    refine ⟨true, by simpa using h, fun F w a b ha hb => ?_⟩
    cases ha; cases hb
    exact ⟨by simp, fun w' => by rw [run_equal, Op.equalIn, Sem.run_bind, run_underlying hd]; rfl, rfl, rfl⟩
  · rename_i _ _ hk
    rw [hk] at hf; obtain ⟨m, rfl⟩ := fits_iface hf
    refine ⟨false, by simpa using h, fun F w a b ha hb => ?_⟩
    cases ha; cases hb
    exact ⟨by simp, fun w' => by rw [run_equal, Op.equalIn, Sem.run_bind, run_underlying hd]; rfl, rfl, rfl⟩
  · rename_i hk
    rw [hk] at hf; obtain ⟨_, _, _, rfl⟩ := fits_func hf
    refine ⟨true, by simpa using h, fun F w a b ha hb => ?_⟩
    cases ha; cases hb
    exact ⟨by simp, fun w' => by rw [run_equal, Op.equalIn, Sem.run_bind, run_underlying hd]; rfl, rfl, rfl⟩
  · rename_i _ _ _ hk
    rw [hk] at hf; obtain ⟨_, _, _, rfl⟩ := fits_func hf
    refine ⟨false, by simpa using h, fun F w a b ha hb => ?_⟩
    cases ha; cases hb
    exact ⟨by simp, fun w' => by rw [run_equal, Op.equalIn, Sem.run_bind, run_underlying hd]; rfl, rfl, rfl⟩
  · exact h.elim

theorem bin_sound (ok : TTok P TT) {op : BinOp} {t yt : TypeId} {x y : Operand} {ρ : Operand → AV} {K : AV → Prop} (h : binW TT op t y (ρ x) (ρ y) K) : ∃ v, K v ∧ SaysB P (.binOp op t x y yt) ρ v := by
  unfold binW at h
  split at h
  · rename_i k a k' b hx hy
    have fin : (∃ v u, K v ∧ (∀ F w, VRel F w v u) ∧ ∀ (t : TypeId) (w : World), (binOp op t (.int k a) (.int k' b)).run P w = .ok u w) → ∃ v, K v ∧ SaysB P (.binOp op t x y yt) ρ v := by
      rintro ⟨v, u, hk, hu, hr⟩
      refine ⟨v, hk, says_of hu fun η F w o ho hxy => ?_⟩
      have h1 := hxy x (by simp [Op.operands])
      have h2 := hxy y (by simp [Op.operands])
      rw [hx] at h1; rw [hy] at h2
      have e1 := h1.intv; have e2 := h2.intv
      intro w
      refine run_binop ho ?_ ?_
      · rw [e1, e2]; exact guard_plain ⟨by simp, .inl (by simp)⟩ w
      · rw [e1, e2]; exact hr t w
    split at h
    · exact fin (shiftW_sound h)
    · exact fin (shiftW_sound h)
    · rename_i hn1 hn2
      split at h
      · rename_i hk
        have := of_decide_eq_true hk
        subst this
        exact fin (intW_sound ⟨hn1, hn2⟩ h)
      · exact h.elim
  · rename_i a b hx hy
    split at h
    · rename_i s b' z' ht
      obtain ⟨j, d, z, hj, hd, _, _, hf, _, _⟩ := tt_fact ok ht
      have := fits_bool hf; subst this
      have he : ∀ w, (Op.equal t (.bool a) (.bool b)).run P w = .ok (a == b) w := fun w => by rw [run_equal, Op.equalIn, Sem.run_bind, run_underlying hd]; rfl
      split at h
      · refine ⟨_, cmpW_get h, says_of (fun _ _ => .bool _) fun η F w o ho hxy => ?_⟩
        have h1 := hxy x (by simp [Op.operands])
        have h2 := hxy y (by simp [Op.operands])
        rw [hx] at h1; rw [hy] at h2
        have e1 := h1.boolv; have e2 := h2.boolv
        intro w
        refine run_binop ho ?_ ?_
        · rw [e1, e2]; exact guard_plain ⟨by simp, .inl (by simp)⟩ w
        · rw [e1, e2]; simp [binOp, he]
      · refine ⟨_, cmpW_get h, says_of (fun _ _ => .bool _) fun η F w o ho hxy => ?_⟩
        have h1 := hxy x (by simp [Op.operands])
        have h2 := hxy y (by simp [Op.operands])
        rw [hx] at h1; rw [hy] at h2
        have e1 := h1.boolv; have e2 := h2.boolv
        intro w
        refine run_binop ho ?_ ?_
        · rw [e1, e2]; exact guard_plain ⟨by simp, .inl (by simp)⟩ w
        · rw [e1, e2]; simp [binOp, he]
      · exact h.elim
    · exact h.elim
  · rename_i a b hx hy
    have fin : ∀ r : Bool, K (.bool r) → (∀ w, (binOp op t (.string a) (.string b)).run P w = .ok (.bool r) w) → ∃ v, K v ∧ SaysB P (.binOp op t x y yt) ρ v := by
      intro r hk hr
      refine ⟨_, hk, says_of (fun _ _ => .bool _) fun η F w o ho hxy => ?_⟩
      have h1 := hxy x (by simp [Op.operands])
      have h2 := hxy y (by simp [Op.operands])
      rw [hx] at h1; rw [hy] at h2
      have e1 := h1.strv; have e2 := h2.strv
      intro w
      refine run_binop ho ?_ ?_
      · rw [e1, e2]; exact guard_plain ⟨by simp, .inl (by simp)⟩ w
      · rw [e1, e2]; exact hr w
    split at h
    · exact fin _ (cmpW_get h) fun w => rfl
    · exact fin _ (cmpW_get h) fun w => rfl
    · exact h.elim
  · split at h
    · rename_i i hc ht
      obtain ⟨cv, rfl⟩ : ∃ cv, y = .const cv := by cases y <;> first | exact ⟨_, rfl⟩ | cases hc
      split at h
      · obtain ⟨r, hk, hr⟩ := nilEq_sound ok ht h
        refine ⟨_, hk, says_of (fun _ _ => .bool _) fun η F w o ho hxy => ?_⟩
        obtain ⟨g1, g2, g3, g4⟩ := hr F w _ _ (hxy x (by simp [Op.operands])) (hxy (.const cv) (by simp [Op.operands]))
        exact fun w => run_binop ho (guard_const w g1) (by rw [g3]; simp [g2])
      · obtain ⟨r, hk, hr⟩ := nilEq_sound ok ht h
        refine ⟨_, hk, says_of (fun _ _ => .bool _) fun η F w o ho hxy => ?_⟩
        obtain ⟨g1, g2, g3, g4⟩ := hr F w _ _ (hxy x (by simp [Op.operands])) (hxy (.const cv) (by simp [Op.operands]))
        exact fun w => run_binop ho (guard_const w g1) (by rw [g4]; simp [g2])
      · exact h.elim
    · exact h.elim
end
end Go.Proofs.Ytiihcgmnmcdcfaa
