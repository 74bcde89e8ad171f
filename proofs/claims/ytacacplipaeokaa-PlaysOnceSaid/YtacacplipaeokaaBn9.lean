/-
  Ag: what the claim uses of them.
-/
import Derived.Test.YtacacplipaeokaaBn8
namespace Go.Proofs.Ytacacplipaeokaa
open Go.RowKit
section
variable {P : Program} {TT : TypeId → Option TI}
/-- It leads to one value. -/
def One (X : (AV → Prop) → Prop) : Prop := ∀ K, X K → ∃ v, K v ∧ ∀ K' : AV → Prop, K' v → X K'
theorem one_k {v : AV} : One (fun K => K v) := fun _ h => ⟨v, h, fun _ h => h⟩
theorem one_false : One (fun _ => False) := fun _ h => h.elim
theorem one_with {p : Prop} {X : (AV → Prop) → Prop} (h : One X) : One (fun K => With p (X K)) := fun K ⟨hp, h1⟩ => by
  obtain ⟨v, h2, h3⟩ := h K h1
  exact ⟨v, h2, fun K' hk => ⟨hp, h3 K' hk⟩⟩
theorem one_strict {v : AV} : One (fun K => strict v K) := fun K h => ⟨v, (strict_eq v K) ▸ h, fun K' h => by show strict v K'; rw [strict_eq]; exact h⟩
theorem one_idx {α : Type} {l : List α} {n : Int} {f : α → AV} : One (fun K => IdxF l n fun d => K (f d)) := fun _ ⟨x, h0, h1, go⟩ => ⟨f x, go, fun _ h => ⟨x, h0, h1, h⟩⟩
theorem one_cmp {b : Bool} : One (fun K => cmpW b K) := fun K h => ⟨.bool b, by cases b <;> exact h, fun K' h => by cases b <;> exact h⟩
theorem one_eqat {t : TypeId} {xs ys : List AV} {f : Bool → Bool} : One (fun K => EqAt P TT t xs ys fun b => cmpW (f b) K) := fun K ⟨h1, h2, go⟩ => by
  obtain ⟨v, k1, k2⟩ := one_cmp K go
  exact ⟨v, k1, fun K' h => ⟨h1, h2, k2 K' h⟩⟩
theorem one_ahead {t : TypeId} {m : String} {X : (AV → Prop) → Prop} (h : One X) : One (fun K => AheadAt P t m (X K)) := fun K ⟨hp, h1⟩ => by
  obtain ⟨v, h2, h3⟩ := h K h1
  exact ⟨v, h2, fun K' hk => ⟨hp, h3 K' hk⟩⟩
theorem one_nilEq (k : TK) (want : Bool) (x y : AV) : One (nilEq k want x y) := by
  intro K h
  unfold nilEq at h
  split at h
  all_goals first | exact ⟨_, h, fun _ h => h⟩ | exact h.elim | exact one_with one_k K h
theorem one_int (op : BinOp) (k : IntKind) (a b : Int) : One (intW op k a b) := by
  cases op <;> first | exact one_cmp | exact one_with one_k | exact one_k | exact one_false
theorem one_shift (op : BinOp) (k : IntKind) (a b : Int) : One (shiftW op k a b) := by
  cases op <;> first | exact one_with one_k | exact one_false
theorem one_match {b : Bool} {X Y : (AV → Prop) → Prop} (h1 : One X) (h2 : One Y) : One (fun K => match b with | true => X K | false => Y K) := by cases b; exact h2; exact h1
set_option maxHeartbeats 1000000 in
theorem one_bin (op : BinOp) (t : TypeId) (y0 : Operand) (x y : AV) : One (binW TT op t y0 x y) := by
  unfold binW
  cases x <;> cases y
  case int.int k a k' b => cases op <;> first | exact one_shift _ _ _ _ | exact one_match (one_int _ _ _ _) one_false
  case bool.bool a b =>
    rcases TT t with _ | ⟨k, s, by', z⟩
    · exact one_false
    · cases k <;> cases op <;> first | exact one_cmp | exact one_false
  case str.str a b => cases op <;> first | exact one_cmp | exact one_false
  all_goals
    cases hc : opConst y0 <;> cases ht : TT t <;> cases op <;> first | exact one_false | exact one_nilEq _ _ _ _
theorem one_binA (op : BinOp) (t : TypeId) (y0 : Operand) (x y : AV) : One (binA P TT op t y0 x y) := by
  unfold binA
  split
  · cases op <;> first | exact one_eqat (f := fun b => b) | exact one_eqat (f := fun b => !b) | exact one_false
  · cases op <;> first | exact one_with one_k | exact one_false
  · exact one_bin _ _ _ _ _
theorem one_un (op : UnOp) (x : AV) : One (unW op x) := by
  unfold unW
  split <;> first | exact one_k | exact one_false
theorem one_conv (s d : TypeId) (x : AV) : One (convW TT s d x) := by
  unfold convW
  split <;> first | exact one_k | exact one_with one_k | exact one_false
theorem one_slice (t : TypeId) (x : AV) (lo hi mx : Option AV) : One (sliceW TT t x lo hi mx) := by
  unfold sliceW
  split
  · split
    · split <;> first | exact one_with one_k | exact one_false
    · split <;> first | exact one_with one_k | exact one_false
    · split <;> first | exact one_with one_k | exact one_false
    · exact one_false
  · split
    · split <;> first | exact one_with one_k | exact one_false
    · exact one_false
  · exact one_false
theorem one_idxA (t : TypeId) (x ix : AV) : One (indexAddrW TT t x ix) := by
  unfold indexAddrW
  split
  · split <;> first | exact one_with one_idx | exact one_with one_k | exact one_false
  · split <;> first | exact one_with one_k | exact one_false
  · exact one_false
theorem one_fieldAddr (s : TypeId) (x : AV) (f : Nat) : One (fieldAddrW TT s x f) := by
  unfold fieldAddrW
  split
  · split
    · split
      · split <;> first | exact one_k | exact one_false
      · exact one_false
    · exact one_false
  · exact one_false
theorem one_field (s : TypeId) (x : AV) (f : Nat) : One (fieldW TT s x f) := by
  unfold fieldW
  split
  · split
    · split
      · split <;> first | exact one_k | exact one_false
      · exact one_false
    · exact one_false
  · exact one_false
theorem one_len (k : TK) (x : AV) : One (lenW k x) := by
  unfold lenW
  split <;> first | exact one_k | exact one_false
theorem one_cap (k : TK) (x : AV) : One (capW k x) := by
  unfold capW
  split <;> first | exact one_k | exact one_false
theorem one_min (xs : List AV) : One (minW xs) := by
  unfold minW
  split
  · exact one_match one_k one_false
  · exact one_false
theorem one_max (xs : List AV) : One (maxW xs) := by
  unfold maxW
  split
  · exact one_match one_k one_false
  · exact one_false
theorem one_cplx (x y : AV) : One (cplxW x y) := by
  unfold cplxW
  split <;> first | exact one_k | exact one_false
theorem one_real (x : AV) : One (realW x) := by
  unfold realW
  split <;> first | exact one_k | exact one_false
theorem one_imag (x : AV) : One (imagW x) := by
  unfold imagW
  split <;> first | exact one_k | exact one_false
theorem one_load (i : TI) (a : AV) (σ : Hp) : One (loadW i a σ) := by
  unfold loadW
  split
  · split <;> first | exact one_k | exact one_false
  · exact fun K ⟨j, cs, v, h1, h2, go⟩ => ⟨v, go, fun K' h => ⟨j, cs, v, h1, h2, h⟩⟩
  · exact one_false
theorem one_lookup (t : TypeId) (m k : AV) (c : Bool) (σ : Hp) : One (lookupW TT t m k c σ) := by
  unfold lookupW
  split
  · intro K ⟨j, b, l, hm, h1, go⟩
    cases c with
    | true => exact ⟨_, go, fun K' h => ⟨j, b, l, hm, h1, h⟩⟩
    | false => exact ⟨_, go, fun K' h => ⟨j, b, l, hm, h1, h⟩⟩
  · exact one_false
theorem one_opD (o : Op) (ρ : Operand → AV) (σ : Hp) : One (opD P TT o ρ σ) := by
  unfold opD
  split
  · exact one_strict
  · exact one_strict
  · split
    · exact one_match one_strict one_strict
    · exact one_false
  · split <;> first | exact one_k | exact one_false
  · split <;> first | exact one_load _ _ _ | exact one_false
  · split <;> first | exact one_k | exact one_ahead one_k | exact one_false
  · exact one_binA _ _ _ _ _
  · exact one_un _ _
  · exact one_conv _ _ _
  · split <;> first | exact one_k | exact one_false
  · exact one_k
  · exact one_slice _ _ _ _ _
  · exact one_fieldAddr _ _ _
  · exact one_field _ _ _
  · exact one_idxA _ _ _
  · split <;> first | exact one_match one_k one_k | exact one_k | exact one_false
  · exact one_lookup _ _ _ _ _
  · split
    · split <;> first | exact one_k | exact one_false
    · exact one_false
  · split
    · split <;> first | exact one_len _ _ | exact one_false
    · exact one_false
  · split <;> first | exact one_min _ | exact one_false
  · split <;> first | exact one_max _ | exact one_false
  · split <;> first | exact one_cplx _ _ | exact one_false
  · split <;> first | exact one_real _ | exact one_false
  · split <;> first | exact one_imag _ | exact one_false
  · split
    · split <;> first | exact one_cap _ _ | exact one_false
    · exact one_false
  · exact one_false
theorem blind_same {o : Op} (hb : blind o = true) {ρ : Operand → AV} {σ σ' : Hp} {K : AV → Prop} (h : opD P TT o ρ σ K) : opD P TT o ρ σ' K := by
  cases o <;> first | exact h | cases hb | (rename_i c; obtain ⟨f, args, tys⟩ := c; cases f <;> first | cases hb | (rename_i b; cases b <;> first | exact h | cases hb))
theorem one_calleeQ (c : Call) (ρ : Operand → AV) (σ : Hp) : One (fun K => calleeW P c ρ (fun f xs => CallQ P f xs σ K) (fun _ _ => False)) := by
  have one_q : ∀ (f : FuncId) (xs : List AV), One (CallQ P f xs σ) := fun f xs K h => by
    cases h with
    | mk js r call go => exact ⟨r, go, fun K' h => .mk js r call h⟩
    | perm hp r call go => exact ⟨r, go, fun K' h => .perm hp r call h⟩
  unfold calleeW
  split
  · split <;> first | exact one_q _ _ | exact one_false
  · split
    · exact fun K ⟨g, h, go⟩ => (one_q _ _ K go).imp fun v hv => ⟨hv.1, fun K' hk => ⟨g, h, hv.2 K' hk⟩⟩
    · exact fun K ⟨g, h, go⟩ => (one_q _ _ K go).imp fun v hv => ⟨hv.1, fun K' hk => ⟨g, h, hv.2 K' hk⟩⟩
    · exact one_false
  · exact one_false
theorem one_opQ (o : Op) (ρ : Operand → AV) (σ : Hp) : One (opQ P TT o ρ σ) := by
  unfold opQ
  split
  · exact one_opD _ _ _
  · exact one_calleeQ _ _ _
  · exact one_opD _ _ _
theorem yield_mono {l : Nat} {K K' : AV → Hp → Prop} (hk : ∀ v σ, K v σ → K' v σ) {xs : List AV} {σ : Hp} (h : YieldAt P l K xs σ) : YieldAt P l K' xs σ := by
  cases h with
  | mk js R call go => exact .mk js R call fun r σ' hr => hk _ _ (go r σ' hr)
  | perm R hp call go => exact .perm R hp call fun r σ' hr => (go r σ' hr).imp fun σ3 h => ⟨h.1, hk _ _ h.2⟩
theorem callee_mono {c : Call} {ρ : Operand → AV} {A B : FuncId → List AV → Prop} {Y Z : Nat → List AV → Prop} (hab : ∀ f xs, A f xs → B f xs) (hyz : ∀ l xs, Y l xs → Z l xs) (h : calleeW P c ρ A Y) : calleeW P c ρ B Z := by
  unfold calleeW at h ⊢
  split at h
  · split at h
    · exact hab _ _ h
    · exact hyz _ _ h
    · exact h.elim
  · split at h
    · obtain ⟨g, h1, h2⟩ := h; exact ⟨g, h1, hab _ _ h2⟩
    · obtain ⟨g, h1, h2⟩ := h; exact ⟨g, h1, hab _ _ h2⟩
    · exact h.elim
  · exact h.elim
theorem call_mono {f : FuncId} {K K' : AV → Hp → Prop} (hk : ∀ v σ, K v σ → K' v σ) {xs : List AV} {σ : Hp} (h : CallAt P f K xs σ) : CallAt P f K' xs σ := by
  induction h with
  | mk js R call go => exact .mk js R call fun r σ' hr => hk _ _ (go r σ' hr)
  | perm R hp call go => exact .perm R hp call fun r σ' hr => (go r σ' hr).imp fun σ3 h => ⟨h.1, hk _ _ h.2⟩
  | frz j b off len es cs e l h1 h2 h3 h4 h ih => exact .frz j b off len es cs e l h1 h2 h3 h4 ih
  | frzc j b off len es cs e l h1 h2 h3 i k b' cs' hi hk h ih => exact .frzc j b off len es cs e l h1 h2 h3 i k b' cs' hi hk ih
theorem app0_mono {i : TI} {σ : Hp} {s x : AV} {K K' : AV → Hp → Prop} (hk : ∀ v σ, K v σ → K' v σ) (h : AppendAt i σ s x K) : AppendAt i σ s x K' := by
  cases h with
  | fresh n new hs hx hn hb h0 go same => exact .fresh n new hs hx hn hb h0 (fun h b => hk _ _ (go h b)) (fun h => hk _ _ (same h))
  | more j b len n cs new hs h1 h2 hx hn hb h0 go => exact .more j b len n cs new hs h1 h2 hx hn hb h0 (fun b => hk _ _ (go b))
  | moreO j b off len n cs new hs h1 h2 hx hn hb h0 goIn go => exact .moreO j b off len n cs new hs h1 h2 hx hn hb h0 (hk _ _ goIn) (fun b => hk _ _ (go b))
  | perm K2 hp h hk2 => exact .perm K2 hp h fun v σ3 h => (hk2 v σ3 h).imp fun σ4 h => ⟨h.1, h.2.imp (hk _ _) fun h => ⟨h.1, hk _ _ h.2⟩⟩
theorem appz_mono {i : TI} {σ : Hp} {s x : AV} {K K' : AV → Hp → Prop} (hk : ∀ v σ, K v σ → K' v σ) (h : AppendZ i σ s x K) : AppendZ i σ s x K' := by
  cases h with
  | nils k n hs hx hn hb h0 go same => exact .nils k n hs hx hn hb h0 (fun h b => hk _ _ (go h b)) (fun h => hk _ _ (same h))
theorem opW_mono {o : Op} {ρ : Operand → AV} {σ : Hp} {K K' : AV → Hp → Prop} (hk : ∀ v σ, K v σ → K' v σ) (h : opW P TT o ρ σ K) : opW P TT o ρ σ K' := by
  have dd : ∀ {o : Op}, opD P TT o ρ σ (fun v => K v σ) → opD P TT o ρ σ (fun v => K' v σ) := fun h => by
    obtain ⟨v, h1, h2⟩ := one_opD _ _ _ _ h
    exact h2 _ (hk _ _ h1)
  unfold opW at h ⊢
  split at h
  · split at h
    · exact fun b => hk _ _ (h b)
    · exact h.elim
  · split at h
    · exact fun b => hk _ _ (h b)
    · exact h.elim
  · split at h
    · split at h
      · split at h
        · exact fun b => hk _ _ (h b)
        · exact h.elim
      · exact h.elim
    · exact h.elim
  · split at h
    · split at h
      · exact ⟨h.fact, fun b => hk _ _ (h.go b)⟩
      · exact h.elim
    · exact h.elim
  · split at h
    · split at h
      · obtain ⟨j, cs, cs', h1, h2, go⟩ := h; exact ⟨j, cs, cs', h1, h2, hk _ _ go⟩
      · exact h.elim
    · exact h.elim
  · split at h
    · exact fun b => hk _ _ (h b)
    · exact h.elim
  · unfold mapPutW at h ⊢
    split at h
    · obtain ⟨j, b, l, hm, h1, go⟩ := h; exact ⟨j, b, l, hm, h1, hk _ _ go⟩
    · exact h.elim
  · unfold mapPutW at h ⊢
    split at h
    · obtain ⟨j, b, l, hm, h1, go⟩ := h; exact ⟨j, b, l, hm, h1, hk _ _ go⟩
    · exact h.elim
  · unfold rangeW at h ⊢
    split at h
    · obtain ⟨j, b, l, hm, h1, go⟩ := h; exact ⟨j, b, l, hm, h1, fun r => hk _ _ (go r)⟩
    · exact h.elim
  · split at h
    · obtain ⟨j, j2, r, b, l, seen, hx, h1, h2, stop, go⟩ := h; exact ⟨j, j2, r, b, l, seen, hx, h1, h2, fun h => hk _ _ (stop h), fun i p h3 h4 => hk _ _ (go i p h3 h4)⟩
    · exact h.elim
  · obtain ⟨j, j2, r, b, i, l, p, seen, hx, h1, h2, h3, go⟩ := h; exact ⟨j, j2, r, b, i, l, p, seen, hx, h1, h2, h3, hk _ _ go⟩
  · split at h
    · split at h
      · split at h
        · exact app0_mono hk h
        · exact h.elim
      · split at h
        · exact appz_mono hk h
        · exact h.elim
      · exact h.elim
    · exact h.elim
  · split at h
    · split at h
      · split at h
        · cases h with
          | none hs go => exact .none hs (hk _ _ go)
          | mref j b off len cs hs h1 h2 go => exact .mref j b off len cs hs h1 h2 (hk _ _ go)
        · exact h.elim
      · exact h.elim
    · exact h.elim
  · split at h
    · split at h
      · split at h
        · cases h with
          | none new hd hx go => exact .none new hd hx (hk _ _ go)
          | mref j b off len n cs new hd h1 h2 hx hn go => exact .mref j b off len n cs new hd h1 h2 hx hn (hk _ _ go)
          | part j b off len cs hd h1 h2 j2 b2 off2 n cs2 hx h3 h4 hn go => exact .part j b off len cs hd h1 h2 j2 b2 off2 n cs2 hx h3 h4 hn (hk _ _ go)
        · exact h.elim
      · exact h.elim
    · exact h.elim
  · exact dd h
  · exact callee_mono (fun f xs h => call_mono hk h) (fun l xs h => yield_mono hk h) h
  · exact dd h
theorem map_eq {ρ ρ' : Operand → AV} {l : List Operand} (h : ∀ x ∈ l, ρ x = ρ' x) : l.map ρ = l.map ρ' := List.map_congr_left h
theorem call_operands {c : Call} {ρ ρ' : Operand → AV} (h : ∀ x ∈ (Op.call c).operands.toList, ρ x = ρ' x) : (∀ f, c.callee = .value f → ρ f = ρ' f) ∧ (∀ r m, c.callee = .invoke r m → ρ r = ρ' r) ∧ ∀ x ∈ c.args.toList, ρ x = ρ' x := by
  obtain ⟨f, args, tys⟩ := c
  simp only [Op.operands, Call.operands, Array.toList_append, List.mem_append] at h
  refine ⟨fun g e => ?_, fun r m e => ?_, fun x hx => h x (.inr hx)⟩
  · subst e; exact h g (.inl (by simp))
  · subst e; exact h r (.inl (by simp))
theorem callee_congr {c : Call} {ρ ρ' : Operand → AV} {A : FuncId → List AV → Prop} {Y : Nat → List AV → Prop} (h : ∀ x ∈ (Op.call c).operands.toList, ρ x = ρ' x) : calleeW P c ρ A Y = calleeW P c ρ' A Y := by
  obtain ⟨h1, h2, h3⟩ := call_operands h
  have e : (c.args.toList.map fun x => unvia (ρ x)) = c.args.toList.map fun x => unvia (ρ' x) := List.map_congr_left fun x hx => by rw [h3 x hx]
  unfold calleeW
  rw [e]
  split
  · rename_i f hf; rw [h1 f hf]
  · rename_i r m hr; rw [h2 r m hr]
  · rfl
theorem opD_congr {o : Op} {ρ ρ' : Operand → AV} {σ : Hp} {K : AV → Prop} (h : ∀ x ∈ o.operands.toList, ρ x = ρ' x) : opD P TT o ρ σ K = opD P TT o ρ' σ K := by
  cases o with
  | call c =>
    obtain ⟨f, args, tys⟩ := c
    obtain ⟨_, _, h3⟩ := call_operands h
    cases f with
    | builtin b =>
      obtain ⟨l⟩ := args
      have h3 : ∀ x ∈ l, ρ x = ρ' x := h3
      match l, h3 with
      | [], _ => cases b <;> rfl
      | [x], h3 =>
        have hx := h3 x (by simp)
        cases b <;> first | rfl | (obtain ⟨tys⟩ := tys; rcases tys with _ | ⟨t, _ | ⟨t', _ | ⟨t'', r⟩⟩⟩ <;> first | rfl | simp only [opD, hx])
      | [x, y], h3 =>
        have hx := h3 x (by simp)
        have hy := h3 y (by simp)
        cases b <;> first | rfl | (obtain ⟨tys⟩ := tys; rcases tys with _ | ⟨t, _ | ⟨t', _ | ⟨t'', r⟩⟩⟩ <;> first | rfl | simp only [opD, hx, hy])
      | _ :: _ :: _ :: _, _ => cases b <;> rfl
    | _ => rfl
  | build t parts =>
    have e : (parts.toList.map fun p => (p.1, ρ p.2)) = parts.toList.map fun p => (p.1, ρ' p.2) := List.map_congr_left fun p hp => by rw [h p.2 (by simp only [Op.operands]; exact List.mem_map.2 ⟨p, hp, rfl⟩)]
    show (match buildA TT t (parts.toList.map fun p => (p.1, ρ p.2)) with | some v => K v | none => False) = _
    rw [e]; rfl
  | makeFunc f first cap =>
    have e1 : first.toList.map ρ = first.toList.map ρ' := map_eq fun x hx => h x (by simp only [Op.operands, Array.toList_append, List.mem_append]; exact .inl hx)
    have e2 : cap.toList.map ρ = cap.toList.map ρ' := map_eq fun x hx => h x (by simp only [Op.operands, Array.toList_append, List.mem_append]; exact .inr hx)
    show K (.fn f (first.toList.map ρ) (cap.toList.map ρ)) = _
    rw [e1, e2]; rfl
  | slice t x lo hi mx =>
    have hx := h x (by simp [Op.operands])
    have e : ∀ (o : Option Operand), (∀ y, o = some y → y ∈ (Op.slice t x lo hi mx).operands.toList) → (o.map fun x => unvia (ρ x)) = o.map fun x => unvia (ρ' x) := fun o ho => by
      cases o with
      | none => rfl
      | some y => simp [h y (ho y rfl)]
    show sliceW TT t (unvia (ρ x)) (lo.map fun x => unvia (ρ x)) (hi.map fun x => unvia (ρ x)) (mx.map fun x => unvia (ρ x)) K = _
    rw [hx, e lo (fun y hy => by subst hy; simp [Op.operands]), e hi (fun y hy => by subst hy; simp [Op.operands]), e mx (fun y hy => by subst hy; simp [Op.operands])]; rfl
  | pick c a b => simp only [opD, h c (by simp [Op.operands]), h a (by simp [Op.operands]), h b (by simp [Op.operands])]
  | binOp op t x y yt => simp only [opD, h x (by simp [Op.operands]), h y (by simp [Op.operands])]
  | indexAddr t x y => simp only [opD, h x (by simp [Op.operands]), h y (by simp [Op.operands])]
  | lookup t x y c => simp only [opD, h x (by simp [Op.operands]), h y (by simp [Op.operands])]
  | _ => first | rfl | (rename_i x; simp only [opD, h x (by simp [Op.operands])]) | (rename_i x _; simp only [opD, h x (by simp [Op.operands])]) | (rename_i x _ _; simp only [opD, h x (by simp [Op.operands])]) | (rename_i x _ _ _; simp only [opD, h x (by simp [Op.operands])])
theorem opQ_congr {o : Op} {ρ ρ' : Operand → AV} {σ : Hp} {K : AV → Prop} (h : ∀ x ∈ o.operands.toList, ρ x = ρ' x) : opQ P TT o ρ σ K = opQ P TT o ρ' σ K := by
  have hd := opD_congr (P := P) (TT := TT) (σ := σ) (K := K) h
  cases o with
  | call c =>
    obtain ⟨f, args, tys⟩ := c
    cases f with
    | builtin b => exact hd
    | value g => exact callee_congr (P := P) (A := fun f xs => CallQ P f xs σ K) (Y := fun _ _ => False) h
    | invoke r m => exact callee_congr (P := P) (A := fun f xs => CallQ P f xs σ K) (Y := fun _ _ => False) h
  | _ => exact hd
theorem opW_congr {o : Op} {ρ ρ' : Operand → AV} {σ : Hp} {K : AV → Hp → Prop} (h : ∀ x ∈ o.operands.toList, ρ x = ρ' x) : opW P TT o ρ σ K = opW P TT o ρ' σ K := by
  have hd := opD_congr (P := P) (TT := TT) (σ := σ) (K := fun v => K v σ) h
  cases o with
  | call c =>
    obtain ⟨f, args, tys⟩ := c
    obtain ⟨_, _, h3⟩ := call_operands h
    cases f with
    | builtin b =>
      obtain ⟨l⟩ := args
      have h3 : ∀ x ∈ l, ρ x = ρ' x := h3
      match l, h3 with
      | [], _ => cases b <;> first | exact hd | rfl
      | [x], h3 =>
        have hx := h3 x (by simp)
        cases b <;> first | exact hd | rfl | (obtain ⟨tys⟩ := tys; rcases tys with _ | ⟨t, _ | ⟨t', _ | ⟨t'', r⟩⟩⟩ <;> first | rfl | simp only [opW, hx])
      | [x, y], h3 =>
        have hx := h3 x (by simp)
        have hy := h3 y (by simp)
        cases b <;> first | exact hd | rfl | (obtain ⟨tys⟩ := tys; rcases tys with _ | ⟨t, _ | ⟨t', _ | ⟨t'', r⟩⟩⟩ <;> first | rfl | simp only [opW, hx, hy])
      | _ :: _ :: _ :: _, _ => cases b <;> first | exact hd | rfl
    | value g => exact callee_congr (P := P) (A := fun f xs => CallAt P f K xs σ) (Y := fun l xs => YieldAt P l K xs σ) h
    | invoke r m => exact callee_congr (P := P) (A := fun f xs => CallAt P f K xs σ) (Y := fun l xs => YieldAt P l K xs σ) h
  | box t x => simp only [opW, h x (by simp [Op.operands])]
  | buildSlice t len parts =>
    have e : (parts.toList.map fun p => (p.1, ρ p.2)) = parts.toList.map fun p => (p.1, ρ' p.2) := List.map_congr_left fun p hp => by rw [h p.2 (by simp only [Op.operands]; exact List.mem_map.2 ⟨p, hp, rfl⟩)]
    simp only [opW, e]
  | makeSlice t l c => simp only [opW, h l (by simp [Op.operands]), h c (by simp [Op.operands])]
  | store t a x => simp only [opW, h a (by simp [Op.operands]), h x (by simp [Op.operands])]
  | makeMap t r => cases r with
    | none => rfl
    | some r => exact hd
  | mapUpdate t m k x => simp only [opW, h m (by simp [Op.operands]), h k (by simp [Op.operands]), h x (by simp [Op.operands])]
  | insert t m k x => simp only [opW, h m (by simp [Op.operands]), h k (by simp [Op.operands]), h x (by simp [Op.operands])]
  | range t x => simp only [opW, h x (by simp [Op.operands])]
  | next x s => simp only [opW, h x (by simp [Op.operands])]
  | entry x => simp only [opW, h x (by simp [Op.operands])]
  | _ => first | exact hd | rfl
theorem allX_succ {ops : List Oper} {Q : List Nat} {n : Nat} {listed : List Bool} {t : Tm} {σ : Hp} {K : Tm → Hp → Prop} : allX P TT ops Q (n + 1) listed t σ K = ((readyA ops listed = [] → K t σ) ∧ ∀ i ∈ readyA ops listed, oneX P TT ops (memN i Q) i t σ fun t' σ' => allX P TT ops Q n (listed.set i true) t' σ' K) := rfl
def Rdy (_ops : List Oper) (listed : List Bool) (o : Oper) : Prop := ∀ e ∈ o.after.toList, Region.binds .any e = true → listed.getD e.on false = true
theorem mem_readyL {ops : List Oper} {listed : List Bool} {i : Nat} : i ∈ readyA ops listed ↔ listed.getD i true = false ∧ ∃ o, ops[i]? = some o ∧ Rdy ops listed o := by
  unfold readyA Rdy
  simp only [List.mem_filter, List.mem_range, Bool.and_eq_true, Bool.not_eq_true']
  constructor
  · rintro ⟨h1, h2, h3⟩
    refine ⟨h2, ops[i], by simp [h1], ?_⟩
    rw [List.getElem?_eq_getElem h1] at h3
    intro e he hb
    have := List.all_eq_true.1 h3 e he
    simpa [hb] using this
  · rintro ⟨h2, o, h1, h3⟩
    refine ⟨(List.getElem?_eq_some_iff.1 h1).1, h2, ?_⟩
    rw [h1]
    refine List.all_eq_true.2 fun e he => ?_
    cases hb : Region.binds .any e with
    | false => simp
    | true => rw [h3 e he hb]; simp
def ClosedL (ops : List Oper) (listed : List Bool) : Prop := ∀ (j : Nat) (o : Oper), ops[j]? = some o → listed.getD j false = true → Rdy ops listed o
theorem getD_set_trueL {l : List Bool} {i k : Nat} (h : l.getD k false = true) : (l.set i true).getD k false = true := by
  rw [List.getD_eq_getElem?_getD] at h ⊢
  rw [List.getElem?_set]
  split
  · rename_i e; subst e
    split
    · rfl
    · rename_i hn; rw [List.getElem?_eq_none (by omega)] at h; cases h
  · exact h
theorem getD_set_neL {l : List Bool} {i k : Nat} (b : Bool) (h : k ≠ i) : (l.set i true).getD k b = l.getD k b := by
  rw [List.getD_eq_getElem?_getD, List.getD_eq_getElem?_getD, List.getElem?_set, if_neg (Ne.symm h)]
theorem getD_ff {l : List Bool} {i : Nat} (h : l.getD i true = false) : l.getD i false = false := by
  rw [List.getD_eq_getElem?_getD] at h ⊢
  cases hq : l[i]? with
  | none => rw [hq] at h; cases h
  | some b => rw [hq] at h; exact h
theorem Rdy.set {ops : List Oper} {listed : List Bool} {o : Oper} (h : Rdy ops listed o) (i : Nat) : Rdy ops (listed.set i true) o := fun e he hb => getD_set_trueL (h e he hb)
theorem ClosedL.set {ops : List Oper} {listed : List Bool} (h : ClosedL ops listed) {j : Nat} {o : Oper} (ho : ops[j]? = some o) (hr : Rdy ops listed o) : ClosedL ops (listed.set j true) := by
  intro k p hp hk
  by_cases hkj : k = j
  · subst hkj
    rw [ho] at hp; cases hp
    exact hr.set k
  · rw [getD_set_neL false hkj] at hk
    exact (h k p hp hk).set j
theorem ready_set {ops : List Oper} {listed : List Bool} {i j : Nat} (hi : i ∈ readyA ops listed) (h : i ≠ j) : i ∈ readyA ops (listed.set j true) := by
  obtain ⟨h1, o, h2, h3⟩ := mem_readyL.1 hi
  exact mem_readyL.2 ⟨by rw [getD_set_neL true h]; exact h1, o, h2, h3.set j⟩
theorem memN_iff {j : Nat} {l : List Nat} : memN j l = true ↔ j ∈ l := by
  unfold memN
  rw [List.any_eq_true]
  exact ⟨fun ⟨x, h1, h2⟩ => Nat.eq_of_beq_eq_true h2 ▸ h1, fun h => ⟨j, h, Nat.beq_refl j⟩⟩
def RowOk (ops : List Oper) (k : Nat) (row : List Nat) : Prop := ∀ o, ops[k]? = some o → ∀ listed, ClosedL ops listed → Rdy ops listed o → ∀ j ∈ row, listed.getD j false = true
theorem rowT_ok {ops : List Oper} {acc : List (List Nat)} (hlen : acc.length ≤ ops.length) (h : ∀ (k : Nat) (row : List Nat), acc[k]? = some row → RowOk ops k row) {k : Nat} {o : Oper} (ho : ops[k]? = some o) : RowOk ops k (rowT o acc) := by
  intro o' ho' listed hc hr j hj
  rw [ho] at ho'; cases ho'
  unfold rowT at hj
  obtain ⟨e, he, hj⟩ := List.mem_flatMap.1 hj
  split at hj
  · rename_i hb
    have hon := hr e he hb
    rcases List.mem_cons.1 hj with rfl | hj
    · exact hon
    · cases hq : acc[e.on]? with
      | none => rw [hq] at hj; simp at hj
      | some row =>
        rw [hq] at hj
        cases hp : ops[e.on]? with
        | some p => exact h e.on row hq p hp listed hc (hc e.on p hp hon) j (by simpa using hj)
        | none =>
          have h1 := (List.getElem?_eq_some_iff.1 hq).1
          have h2 := List.getElem?_eq_none_iff.1 hp
          omega
  · cases hj
theorem rowsT_ok {ops : List Oper} : ∀ (os : List Oper) (acc : List (List Nat)) (pre : List Oper), ops = pre ++ os → acc.length = pre.length → (∀ (k : Nat) (row : List Nat), acc[k]? = some row → RowOk ops k row) → ∀ (k : Nat) (row : List Nat), (rowsT os acc)[k]? = some row → RowOk ops k row
  | [], acc, pre, _, _, h => h
  | o :: os, acc, pre, he, hl, h => by
    refine rowsT_ok os _ (pre ++ [o]) (by rw [he]; simp) (by simp [hl]) ?_
    intro k row hk
    by_cases hlt : k < acc.length
    · rw [List.getElem?_append_left hlt] at hk
      exact h k row hk
    · have hk' := hk
      rw [List.getElem?_append_right (by omega)] at hk
      have hz : k - acc.length = 0 := by
        have := (List.getElem?_eq_some_iff.1 hk).1
        simp at this; omega
      rw [hz] at hk
      simp only [List.getElem?_cons_zero, Option.some.injEq] at hk
      subst hk
      have hk0 : k = pre.length := by omega
      have ho : ops[k]? = some o := by rw [he, hk0]; simp
      intro o' ho' listed hc hr j hj
      exact rowT_ok (by rw [he, hl]; simp) h ho o' ho' listed hc hr j (List.mem_eraseDups.1 hj)
def gsel (want : Bool) (x : AV) (A B : Prop) : Prop :=
  match x with
  | .bool b => (match want, b with | true, true => A | true, false => B | false, true => B | false, false => A)
  | .tup [] => B
  | _ => False
/-- What a guard leads to, at every frame that tells it the same. -/
theorem guard_same {ops : List Oper} {o : Oper} {t : Tm} {A B : Prop} (h : guardW ops o t A B) :
    (A ∧ ∀ (t2 : Tm), (∀ d ∈ o.looksAt ops.toArray, t2 d = t d) → ∀ {A' B' : Prop}, A' → guardW ops o t2 A' B') ∨ (B ∧ ∀ (t2 : Tm), (∀ d ∈ o.looksAt ops.toArray, t2 d = t d) → ∀ {A' B' : Prop}, B' → guardW ops o t2 A' B') := by
  unfold guardW at h
  split at h
  · rename_i hg
    refine .inl ⟨h, fun t2 _ A' B' ha => ?_⟩
    unfold guardW; rw [hg]; exact ha
  · rename_i j want hg
    split at h
    · rename_i d hd
      have hmem : d ∈ o.looksAt ops.toArray := by
        unfold Oper.looksAt
        rw [hg]
        simp only [List.getElem?_toArray, hd, Option.toList_some, List.mem_append, List.mem_singleton, or_true]
      have go : ∀ (t2 : Tm), (∀ d ∈ o.looksAt ops.toArray, t2 d = t d) → ∀ {A' B' : Prop}, gsel want (t d) A' B' → guardW ops o t2 A' B' := fun t2 h2 A' B' hx => by
        unfold guardW
        rw [hg]
        dsimp only
        rw [hd]
        dsimp only
        rw [h2 d hmem]
        exact hx
      split at h
      · rename_i b hb
        cases want <;> cases b
        · exact .inl ⟨h, fun t2 h2 A' B' ha => go t2 h2 (by rw [hb]; exact ha)⟩
        · exact .inr ⟨h, fun t2 h2 A' B' ha => go t2 h2 (by rw [hb]; exact ha)⟩
        · exact .inr ⟨h, fun t2 h2 A' B' ha => go t2 h2 (by rw [hb]; exact ha)⟩
        · exact .inl ⟨h, fun t2 h2 A' B' ha => go t2 h2 (by rw [hb]; exact ha)⟩
      · rename_i hb
        exact .inr ⟨h, fun t2 h2 A' B' ha => go t2 h2 (by rw [hb]; exact ha)⟩
      · exact h.elim
    · exact h.elim
theorem ev_same {ops : List Oper} {o : Oper} {t t2 : Tm} (h : ∀ d ∈ o.looksAt ops.toArray, t2 d = t d) : ∀ x ∈ o.op.operands.toList, ev t2 x = ev t x := by
  intro x hx
  cases x with
  | tmp d =>
    refine h d ?_
    unfold Oper.looksAt
    refine List.mem_append_left _ (List.mem_filterMap.2 ⟨_, hx, rfl⟩)
  | _ => rfl
theorem load_opD {o : Op} (h : isLoad o = true) {ρ : Operand → AV} {σ : Hp} {K : AV → Hp → Prop} : opW P TT o ρ σ K = opD P TT o ρ σ (fun v => K v σ) := by
  cases o <;> first | rfl | cases h
theorem blind_opD {o : Op} (h : blind o = true) {ρ : Operand → AV} {σ : Hp} {K : AV → Hp → Prop} : opW P TT o ρ σ K = opD P TT o ρ σ (fun v => K v σ) := by
  cases o <;> first | rfl | cases h | (rename_i c; obtain ⟨f, args, tys⟩ := c; cases f <;> first | cases h | (rename_i b; cases b <;> first | rfl | cases h))
/-- An operation that leaves the memory alone yields one value, at every frame that tells it the same. -/
theorem yields {ops : List Oper} {Q : List Nat} {j : Nat} {o : Oper} (ho : ops[j]? = some o) {t : Tm} {σ : Hp} {K : Tm → Hp → Prop} (hk : effX ops Q j = false) (h : oneX P TT ops (memN j Q) j t σ K) :
    ∃ v, K (put t o.dst v) σ ∧ ∀ (t2 : Tm) (σ2 : Hp), (∀ d ∈ o.looksAt ops.toArray, t2 d = t d) → (σ2 = σ ∨ (blind o.op = true ∧ memN j Q = false)) → ∀ (K2 : Tm → Hp → Prop), K2 (put t2 o.dst v) σ2 → oneX P TT ops (memN j Q) j t2 σ2 K2 := by
  unfold oneX at h ⊢
  rw [ho] at h ⊢
  dsimp only at h ⊢
  cases hq : memN j Q with
  | true =>
    rw [hq] at h
    dsimp only at h ⊢
    rcases guard_same h with ⟨h, g⟩ | ⟨h, g⟩
    · obtain ⟨v, h1, h2⟩ := one_opQ _ _ _ _ h
      refine ⟨v, h1, fun t2 σ2 ht hσ K2 hk2 => g t2 ht ?_⟩
      rcases hσ with rfl | ⟨_, h⟩
      · rw [opQ_congr (ev_same ht)]
        exact h2 (fun v => K2 (put t2 o.dst v) σ2) hk2
      · cases h
    · refine ⟨.tup [], h, fun t2 σ2 ht hσ K2 hk2 => g t2 ht ?_⟩
      rcases hσ with rfl | ⟨_, h⟩
      · exact hk2
      · cases h
  | false =>
    rw [hq] at h
    dsimp only at h ⊢
    have hne : effB o.op = false := by
      unfold effX at hk
      rw [ho, hq] at hk
      simpa using hk
    have e : ∀ (ρ : Operand → AV) (σ : Hp) (K : AV → Hp → Prop), opW P TT o.op ρ σ K = opD P TT o.op ρ σ (fun v => K v σ) := fun ρ σ K => by
      unfold effB at hne
      simp only [Bool.not_eq_false', Bool.or_eq_true] at hne
      rcases hne with h | h
      · exact blind_opD h
      · exact load_opD h
    rcases guard_same h with ⟨h, g⟩ | ⟨h, g⟩
    · rw [e] at h
      obtain ⟨v, h1, h2⟩ := one_opD _ _ _ _ h
      refine ⟨v, h1, fun t2 σ2 ht hσ K2 hk2 => g t2 ht ?_⟩
      rw [e, opD_congr (ev_same ht)]
      rcases hσ with rfl | ⟨hb, _⟩
      · exact h2 (fun v => K2 (put t2 o.dst v) σ2) hk2
      · exact blind_same hb (h2 (fun v => K2 (put t2 o.dst v) σ2) hk2)
    · exact ⟨.tup [], h, fun t2 σ2 ht hσ K2 hk2 => g t2 ht hk2⟩
/-- An operation, at a frame in which another place is laid. -/
theorem oneX_put {ops : List Oper} {q : Bool} {i : Nat} {o : Oper} (ho : ops[i]? = some o) {t t2 : Tm} {σ : Hp} {K K2 : Tm → Hp → Prop} (ht : ∀ d ∈ o.looksAt ops.toArray, t2 d = t d) (hk : ∀ v σ', K (put t o.dst v) σ' → K2 (put t2 o.dst v) σ') (h : oneX P TT ops q i t σ K) : oneX P TT ops q i t2 σ K2 := by
  unfold oneX at h ⊢
  rw [ho] at h ⊢
  dsimp only at h ⊢
  cases q with
  | true =>
    dsimp only at h ⊢
    rcases guard_same h with ⟨h, g⟩ | ⟨h, g⟩
    · obtain ⟨v, h1, h2⟩ := one_opQ _ _ _ _ h
      refine g t2 ht ?_
      rw [opQ_congr (ev_same ht)]
      exact h2 _ (hk _ _ h1)
    · exact g t2 ht (hk _ _ h)
  | false =>
    dsimp only at h ⊢
    rcases guard_same h with ⟨h, g⟩ | ⟨h, g⟩
    · refine g t2 ht ?_
      rw [opW_congr (ev_same ht)]
      exact opW_mono (fun v σ' h => hk v σ' h) h
    · exact g t2 ht (hk _ _ h)
theorem put_put {t : Tm} {d d' : Option Tmp} {v v' : AV} (h : ∀ x, d = some x → d' ≠ some x) : put (put t d v) d' v' = put (put t d' v') d v := by
  cases d with
  | none => rfl
  | some x => cases d' with
    | none => rfl
    | some y =>
      have hne : y ≠ x := fun e => h x rfl (by rw [e])
      funext i
      show (match Nat.beq i y with | true => v' | false => match Nat.beq i x with | true => v | false => t i) = (match Nat.beq i x with | true => v | false => match Nat.beq i y with | true => v' | false => t i)
      cases h1 : Nat.beq i y <;> cases h2 : Nat.beq i x <;> first | rfl | exact absurd ((Nat.eq_of_beq_eq_true h1).symm.trans (Nat.eq_of_beq_eq_true h2)) hne
theorem put_off {t : Tm} {d : Option Tmp} {v : AV} {x : Tmp} (h : d ≠ some x) : put t d v x = t x := by
  cases d with
  | none => rfl
  | some y =>
    show (match Nat.beq x y with | true => v | false => t x) = t x
    cases hb : Nat.beq x y with
    | false => rfl
    | true => exact absurd (by rw [Nat.eq_of_beq_eq_true hb]) h
def RowsOk (ops : List Oper) (rows : List (List Nat)) : Prop := ∀ (k : Nat) (row : List Nat), rows[k]? = some row → RowOk ops k row
theorem apart_of {ops : List Oper} (h0 : apartOk ops = true) {listed : List Bool} {i j : Nat} {oi oj : Oper} (hij : i ≠ j) (hi : ops[i]? = some oi) (hj : ops[j]? = some oj) (hui : listed.getD i true = false) (huj : listed.getD j true = false) (hri : Rdy ops listed oi) (hrj : Rdy ops listed oj) : oi.apart ops.toArray oj = true := by
  rcases (apart_get h0).2 i j oi oj hi hj with e | e | e | e
  · exact absurd e hij
  · obtain ⟨ed, h1, h2, rfl⟩ := bindsA_get e
    have := hri ed (by simpa using h1) h2
    rw [getD_ff huj] at this; cases this
  · obtain ⟨ed, h1, h2, rfl⟩ := bindsA_get e
    have := hrj ed (by simpa using h1) h2
    rw [getD_ff hui] at this; cases this
  · exact e
theorem firstX_get {ops : List Oper} {rows : List (List Nat)} {Q : List Nat} {listed : List Bool} {j : Nat} (h : firstX ops rows Q listed j = true) : ∃ o, ops[j]? = some o ∧ effX ops Q j = false ∧ ((blind o.op = true ∧ memN j Q = false) ∨ ∀ k, k < ops.length → listed.getD k false = true ∨ effX ops Q k = false ∨ memN j ((rows[k]?).getD []) = true) := by
  unfold firstX at h
  split at h
  · rename_i o ho
    refine ⟨o, ho, ?_⟩
    simp only [Bool.or_eq_true, Bool.and_eq_true, Bool.not_eq_true'] at h
    rcases h with ⟨h1, h2⟩ | ⟨h1, h2⟩
    · exact ⟨by unfold effX effB; rw [ho]; simp [h1], .inl ⟨h1, h2⟩⟩
    · refine ⟨?_, .inr fun k hk => ?_⟩
      · unfold effX effB; rw [ho]
        rcases h1 with h1 | h1 <;> simp [h1]
      · have := List.all_eq_true.1 h2 k (List.mem_range.2 hk)
        simp only [Bool.or_eq_true, Bool.not_eq_true'] at this
        rcases this with (h | h) | h
        · exact .inl h
        · exact .inr (.inl h)
        · exact .inr (.inr h)
  · cases h
/-- One that leaves the memory alone may be taken first. -/
theorem allX_first {ops : List Oper} {rows : List (List Nat)} {Q : List Nat} {K : Tm → Hp → Prop} (h0 : apartOk ops = true) (hR : RowsOk ops rows) {j : Nat} : ∀ (n : Nat) (listed : List Bool) (t : Tm) (σ : Hp), ClosedL ops listed → j ∈ readyA ops listed → firstX ops rows Q listed j = true →
    oneX P TT ops (memN j Q) j t σ (fun t' σ' => allX P TT ops Q n (listed.set j true) t' σ' K) → allX P TT ops Q (n + 1) listed t σ K := by
  intro n
  induction n with
  | zero =>
    intro listed t σ hc hj hf h
    obtain ⟨oj, ho, he, _⟩ := firstX_get hf
    obtain ⟨v, h1, _⟩ := yields ho he h
    exact h1.elim
  | succ n ih =>
    intro listed t σ hc hj hf h
    obtain ⟨oj, ho, he, hfirst⟩ := firstX_get hf
    obtain ⟨huj, oj', ho', hrj⟩ := mem_readyL.1 hj
    rw [ho] at ho'; cases ho'
    obtain ⟨v, h1, h2⟩ := yields ho he h
    rw [allX_succ]
    refine ⟨fun hn => by rw [hn] at hj; (cases hj), fun i hi => ?_⟩
    by_cases hij : i = j
    · subst hij
      exact h2 t σ (fun _ _ => rfl) (.inl rfl) _ h1
    obtain ⟨hui, oi, hoi, hri⟩ := mem_readyL.1 hi
    have hap := Oper.apart_spec (apart_of h0 hij hoi ho hui huj hri hrj)
    rw [allX_succ] at h1
    have hone := h1.2 i (ready_set hi hij)
    -- what i does at the frame in which j's place is laid, it does without it
    have hlook : ∀ d ∈ oi.looksAt ops.toArray, t d = put t oj.dst v d := fun d hd => (put_off fun e => hap.2.2 d e hd).symm
    have hput : ∀ u, put (put t oj.dst v) oi.dst u = put (put t oi.dst u) oj.dst v := fun u => put_put fun x hx hi => hap.2.1 x hi hx
    have hset : (listed.set j true).set i true = (listed.set i true).set j true := List.set_comm _ _ (Ne.symm hij)
    have hci := hc.set hoi hri
    have hji := ready_set hj (Ne.symm hij)
    have hfi : firstX ops rows Q (listed.set i true) j = true := by
      unfold firstX at hf ⊢
      rw [ho] at hf ⊢
      simp only [Bool.or_eq_true, Bool.and_eq_true, Bool.not_eq_true'] at hf ⊢
      refine hf.imp id fun h => ⟨h.1, List.all_eq_true.2 fun k hk => ?_⟩
      have := List.all_eq_true.1 h.2 k hk
      simp only [Bool.or_eq_true, Bool.not_eq_true'] at this ⊢
      exact this.imp (fun h => h.imp getD_set_trueL id) id
    have hlj : ∀ u, ∀ d ∈ oj.looksAt ops.toArray, put t oi.dst u d = t d := fun u d hd => put_off fun e => hap.1 d e hd
    have fin : ∀ u σ', (σ' = σ ∨ (blind oj.op = true ∧ memN j Q = false)) → allX P TT ops Q n ((listed.set j true).set i true) (put (put t oj.dst v) oi.dst u) σ' K → allX P TT ops Q (n + 1) (listed.set i true) (put t oi.dst u) σ' K := fun u σ' hσ hh => by
      refine ih (listed.set i true) (put t oi.dst u) σ' hci hji hfi ?_
      refine h2 _ σ' (hlj u) hσ _ ?_
      rw [hset, hput] at hh
      exact hh
    cases hei : effX ops Q i with
    | true =>
      -- then j is blind
      have hb : blind oj.op = true ∧ memN j Q = false := by
        rcases hfirst with h | h
        · exact h
        · have hlt : i < ops.length := (List.getElem?_eq_some_iff.1 hoi).1
          rcases h i hlt with h | h | h
          · rw [getD_ff hui] at h; cases h
          · rw [hei] at h; cases h
          · cases hq : rows[i]? with
            | none => rw [hq] at h; cases h
            | some row =>
              rw [hq] at h
              have := hR i row hq oi hoi listed hc hri j (memN_iff.1 h)
              rw [getD_ff huj] at this; cases this
      exact oneX_put hoi hlook (fun u σ' hh => fin u σ' (.inr hb) hh) hone
    | false =>
      obtain ⟨u, k1, k2⟩ := yields hoi hei hone
      exact k2 t σ hlook (.inl rfl) _ (fin u σ (.inl rfl) k1)
/-- A plan is one of all orders. -/
theorem sch_all {ops : List Oper} {rows : List (List Nat)} {Q : List Nat} {K : Tm → Hp → Prop} (h0 : apartOk ops = true) (hR : RowsOk ops rows) : ∀ (s : Sch) (n : Nat) (pend : List Nat) (listed : List Bool) (t : Tm) (σ : Hp), schOk ops rows Q s n pend listed = true → ClosedL ops listed → schW P TT ops s t σ K →
    (pend = [] → allX P TT ops Q n listed t σ K) ∧ ((∀ i ∈ pend, i ∈ readyA ops listed) → ∀ i ∈ pend, oneX P TT ops (memN i Q) i t σ fun t' σ' => allX P TT ops Q n (listed.set i true) t' σ' K) := by
  intro s
  induction s with
  | stop =>
    intro n pend listed t σ hs hc h
    unfold schOk at hs
    split at hs
    · rename_i n _ _ _ hr
      refine ⟨fun _ => ?_, fun _ i hi => by cases hi⟩
      rw [allX_succ, hr]
      exact ⟨fun _ => h, fun i hi => by cases hi⟩
    · cases hs
  | one j q s ih =>
    intro n pend listed t σ hs hc h
    have step : ∀ m, memN j Q = q → j ∈ readyA ops listed → schOk ops rows Q s m [] (listed.set j true) = true → oneX P TT ops (memN j Q) j t σ fun t' σ' => allX P TT ops Q m (listed.set j true) t' σ' K := fun m hq hj hs => by
      obtain ⟨_, o, ho, hr⟩ := mem_readyL.1 hj
      rw [hq]
      have h : oneX P TT ops q j t σ fun t' σ' => schW P TT ops s t' σ' K := h
      exact oneX_put ho (fun _ _ => rfl) (fun v σ' hh => (ih m [] _ _ σ' hs (hc.set ho hr) hh).1 rfl) h
    unfold schOk at hs
    split at hs
    · rename_i n
      simp only [Bool.and_eq_true, Bool.or_eq_true, beq_iff_eq] at hs
      obtain ⟨⟨⟨h1, h2⟩, h3⟩, h4⟩ := hs
      have hj := memN_iff.1 h2
      refine ⟨fun _ => ?_, fun _ i hi => by cases hi⟩
      have hst := step n h1 hj h4
      rcases h3 with h3 | h3
      · exact allX_first h0 hR n listed t σ hc hj h3 hst
      · split at h3
        · rename_i i hr
          rw [allX_succ, hr]
          refine ⟨fun h => (by cases h), fun k hk => ?_⟩
          obtain rfl := List.mem_singleton.1 hk
          obtain rfl := Nat.eq_of_beq_eq_true h3
          exact hst
        · cases h3
    · rename_i i
      simp only [Bool.and_eq_true, beq_iff_eq] at hs
      obtain ⟨⟨h1, h2⟩, h4⟩ := hs
      refine ⟨fun h => (by cases h), fun hp k hk => ?_⟩
      obtain rfl := Nat.eq_of_beq_eq_true h2
      obtain rfl := List.mem_singleton.1 hk
      exact step _ h1 (hp k hk) h4
    · cases hs
  | alt j s r ih ihr =>
    intro n pend listed t σ hs hc h
    obtain ⟨ha, hb⟩ : oneX P TT ops false j t σ (fun t' σ' => schW P TT ops s t' σ' K) ∧ schW P TT ops r t σ K := h
    have step : ∀ m, memN j Q = false → j ∈ readyA ops listed → schOk ops rows Q s m [] (listed.set j true) = true → oneX P TT ops (memN j Q) j t σ fun t' σ' => allX P TT ops Q m (listed.set j true) t' σ' K := fun m hq hj hs => by
      obtain ⟨_, o, ho, hr⟩ := mem_readyL.1 hj
      rw [hq]
      exact oneX_put ho (fun _ _ => rfl) (fun v σ' hh => (ih m [] _ _ σ' hs (hc.set ho hr) hh).1 rfl) ha
    unfold schOk at hs
    split at hs
    · rename_i n
      split at hs
      · rename_i i i2 l hr
        simp only [Bool.and_eq_true, Bool.not_eq_true'] at hs
        obtain ⟨⟨⟨h1, h2⟩, h3⟩, h4⟩ := hs
        obtain rfl := Nat.eq_of_beq_eq_true h1
        refine ⟨fun _ => ?_, fun _ i hi => by cases hi⟩
        rw [allX_succ, hr]
        refine ⟨fun h => (by cases h), fun k hk => ?_⟩
        rcases List.mem_cons.1 hk with rfl | hk
        · exact step n h2 (by rw [hr]; exact List.mem_cons_self ..) h3
        · exact (ihr n (i2 :: l) listed t σ h4 hc hb).2 (fun i hi => by rw [hr]; exact List.mem_cons_of_mem _ hi) k hk
      · cases hs
    · rename_i i i2 l
      simp only [Bool.and_eq_true, Bool.not_eq_true'] at hs
      obtain ⟨⟨⟨h1, h2⟩, h3⟩, h4⟩ := hs
      obtain rfl := Nat.eq_of_beq_eq_true h1
      refine ⟨fun h => (by cases h), fun hp k hk => ?_⟩
      rcases List.mem_cons.1 hk with rfl | hk
      · exact step n h2 (hp _ (List.mem_cons_self ..)) h3
      · exact (ihr n (i2 :: l) listed t σ h4 hc hb).2 (fun i hi => hp i (List.mem_cons_of_mem _ hi)) k hk
    · cases hs
theorem callee_opQ {o : Oper} {ρ : Operand → AV} {σ : Hp} {K : AV → Prop} (ok : TTok P TT) (h : opQ P TT o.op ρ σ K) (a : Act) (F : Nat → Prop) (w : World) (hx : ∀ x ∈ o.op.operands.toList, VRel F w (ρ x) (a.eval x)) (hσ : RelHp F w σ) (next : Act → World → Prop) (Q : Exit → Act → World → Prop) (hn : ∀ v u F' w', Stp F w F' w' → RelHp F' w' σ → VRel F' w' v u → K v → next (a.put o.dst u) w') : wq P o a w next Q := by
  obtain ⟨v, h1, h2⟩ := opQ_sound ok h
  exact h2 a F w hx hσ next Q fun u F' w' k1 k2 k3 => hn v u F' w' k1 k2 k3 h1
/-- All orders, walked, are the region's. -/
theorem all_any (ok : TTok P TT) {B n : Nat} {ops : List Oper} {Q : List Nat} (hd : ∀ o ∈ ops, ∀ d, o.dst = some d → d < n) {K : Tm → Hp → Prop} {Q' : Exit → Act → World → Prop} {F0 : Nat → Prop} {w0 : World} (hq : ∀ t' σ' F' w' a', Stp F0 w0 F' w' → SRel B n F' w' t' σ' a' → K t' σ' → Q' .normal a' w') :
    ∀ (m : Nat) (listed : List Bool) (t : Tm) (σ : Hp) (F : Nat → Prop) (w : World) (a : Act), left listed.toArray ≤ m → listed.length = ops.length → allX P TT ops Q (m + 1) listed t σ K → SRel B n F w t σ a → Stp F0 w0 F w → wqAny P .any ops.toArray (noPan Q') m listed.toArray a w := by
  intro m
  induction m with
  | zero =>
    intro listed t σ F w a hl hlen h hs hst
    have hr : readyA ops listed = [] := by
      rw [← ready_eq, List.eq_nil_iff_forall_not_mem]
      intro j hj
      have := (mem_ready.1 hj).1
      rw [left_zero (by omega)] at this
      cases this
    rw [allX_succ] at h
    exact ⟨by rw [ready_eq]; exact hr, hq t σ F w a hst hs (h.1 hr)⟩
  | succ m ih =>
    intro listed t σ F w a hl hlen h hs hst
    rw [allX_succ] at h
    refine ⟨fun hr => hq t σ F w a hst hs (h.1 (by rw [← ready_eq]; exact hr)), fun j hj => ?_⟩
    rw [ready_eq] at hj
    have h := h.2 j hj
    have guard : ∀ {o : Oper} {b : Bool}, guardIs ops o t b → Region.wanted o (yielded ops.toArray a.tmps) = b := fun hg => wanted_of hg fun d _ => ⟨F, w, hs.tm d⟩
    obtain ⟨hun, o, ho, _⟩ := mem_readyL.1 hj
    have hset : (listed.set j true).toArray = listed.toArray.setIfInBounds j true := by simp
    have hun' : listed.toArray.getD j true = false := by
      rw [Array.getD_eq_getD_getElem?, List.getElem?_toArray, ← List.getD_eq_getElem?_getD]; exact hun
    have hlt : left (listed.toArray.setIfInBounds j true) ≤ m := by have := left_set hun'; omega
    have goOn : ∀ (x : AV) (u : Value) (σ' : Hp) (F' : Nat → Prop) (w' : World), Stp F w F' w' → RelHp F' w' σ' → VRel F' w' x u → allX P TT ops Q (m + 1) (listed.set j true) (put t o.dst x) σ' K → wqAny P .any ops.toArray (noPan Q') m (listed.toArray.setIfInBounds j true) (a.put o.dst u) w' := fun x u σ' F' w' q1 q2 q3 hk => by
      rw [← hset]
      exact ih _ _ σ' F' w' _ (by rw [hset]; exact hlt) (by simpa using hlen) hk (hs.put q1 q2 q3 (hd o (List.mem_of_getElem? ho))) (hst.trans q1)
    unfold oneX at h
    rw [ho] at h
    dsimp only at h
    unfold wqOp
    rw [show ops.toArray[j]? = some o by simpa using ho]
    cases hq' : memN j Q with
    | true =>
      rw [hq'] at h
      dsimp only at h
      rcases guardW_get h with ⟨hg, h⟩ | ⟨hg, h⟩
      · simp only [guard hg, if_true]
        exact (callee_opQ ok h a F w (fun x _ => hs.tm.eval x) hs.hp _ _ fun v u F' w' k1 k2 k3 k4 => goOn v u σ F' w' k1 k2 k3 k4)
      · simp only [guard hg, Bool.false_eq_true, if_false]
        exact goOn (.tup []) undef σ F w (.refl _ _) hs.hp vrel_undef h
    | false =>
      rw [hq'] at h
      dsimp only at h
      rcases guardW_get h with ⟨hg, h⟩ | ⟨hg, h⟩
      · simp only [guard hg, if_true]
        refine (opW_sound ok h a F w (fun x _ => hs.tm.eval x) hs.hp _ _ ?_)
        intro v av σ' F' w' q1 q2 q3 q4
        exact goOn av v σ' F' w' q1 q2 q3 q4
      · simp only [guard hg, Bool.false_eq_true, if_false]
        exact goOn (.tup []) undef σ F w (.refl _ _) hs.hp vrel_undef h
theorem sched_sound (ok : TTok P TT) (hm : P.follows .mixedOrders = true) {r : Option Nat} {B n id : Nat} {ops : Array Oper} {t : Tm} {σ : Hp} {K : Tm → Hp → Prop} {F : Nat → Prop} {w : World} {a : Act} {Q : Exit → Act → World → Prop} {Q0 : List Nat} {s : Sch} (h0 : planOk ops.toList Q0 s = true) (h : schW P TT ops.toList s t σ K) (hd : ∀ o ∈ ops.toList, ∀ d, o.dst = some d → d < n) (hnd : ∀ o ∈ ops.toList, ∀ c, o.op ≠ .defer c) (hs : SRel B n F w t σ a)
    (hq : ∀ t' σ' F' w' a', Stp F w F' w' → SRel B n F' w' t' σ' a' → K t' σ' → Q .normal a' w') : (Code.region id ops true).wpIn (FW r) 0 P Q a w := by
  have hdrew : Stp F w F { w with drawn := w.drawn + 1 } := stp_of_same hs.hp.low rfl rfl rfl (Nat.le_refl _) (fun _ _ => rfl)
  unfold planOk at h0
  simp only [Bool.and_eq_true] at h0
  obtain ⟨⟨h1, h2⟩, h3⟩ := h0
  have hall := (sch_all (K := K) h1 (rowsT_ok ops.toList [] [] rfl rfl (fun k row h => by cases h)) s _ [] _ t σ h3 (fun j o ho hl => by
    rw [List.getD_eq_getElem?_getD, List.getElem?_replicate] at hl
    split at hl <;> cases hl) h).1 rfl
  refine wpIn_mono (region_any hm hnd ?_) noPan_up
  have key := all_any (P := P) (Q' := Q) ok hd (F0 := F) (w0 := w) hq ops.toList.length (List.replicate ops.toList.length false) t σ F { w with drawn := w.drawn + 1 } a (by
      unfold left
      refine Nat.le_trans (List.length_filter_le _ _) (by simp)) (by simp) hall ⟨hs.tm.mono hdrew, hs.hp.same hdrew (fun _ _ => rfl), hs.size, hs.defers.mono hdrew⟩ hdrew
  simpa using key
end
end Go.Proofs.Ytacacplipaeokaa
