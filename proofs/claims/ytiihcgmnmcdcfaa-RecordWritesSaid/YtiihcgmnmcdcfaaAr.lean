/-
  As XAo: places and slices; all operations that leave the memory alone ('opD_sound'). Over any program.
-/
import Derived.Test.YtiihcgmnmcdcfaaAq
import Derived.Laws.StructEq
import Derived.ChangeKeysEq
namespace Go.Proofs.Ytiihcgmnmcdcfaa
open Go.RowKit
section
variable {P : Program} {TT : TypeId → Option TI}

theorem un_sound {op : UnOp} {t : TypeId} {x : Operand} {ρ : Operand → AV} {K : AV → Prop} (h : unW op (ρ x) K) : ∃ v, K v ∧ SaysB P (.unOp op t x) ρ v := by
  unfold unW at h
  split at h
  · rename_i b hx
    refine ⟨_, h, says_of (fun _ _ => .bool _) fun η F w o ho hxy => ?_⟩
    have h1 := hxy x (by simp [Op.operands]); rw [hx] at h1
    simp [execOp, ho, h1.boolv, Op.unary]
  · rename_i k n hx
    refine ⟨_, h, says_of (fun _ _ => .int _ _) fun η F w o ho hxy => ?_⟩
    have h1 := hxy x (by simp [Op.operands]); rw [hx] at h1
    simp [execOp, ho, h1.intv, Op.unary, Op.intArith]
  · rename_i k n hx
    refine ⟨_, h, says_of (fun _ _ => .int _ _) fun η F w o ho hxy => ?_⟩
    have h1 := hxy x (by simp [Op.operands]); rw [hx] at h1
    rw [show execOp η o = (do pure (.value (← Op.intBits .xor k (if k.signed then -1 else k.max) n))) by simp [execOp, ho, h1.intv, Op.unary]]
    exact fun _ => rfl
  · exact h.elim

theorem conv_sound (ok : TTok P TT) {s d : TypeId} {x : Operand} {ρ : Operand → AV} {K : AV → Prop} (h : convW TT s d (ρ x) K) : ∃ v, K v ∧ SaysB P (.convert s d x) ρ v := by
  unfold convW at h
  split at h
  · rename_i i k sz by' z0 k' n hs hd hx
    obtain ⟨_, ds, _, _, hds, _⟩ := tt_fact ok hs
    obtain ⟨_, dd, _, _, hdd, _, _, hf, _, _⟩ := tt_fact ok hd
    obtain rfl := fits_int hf
    refine ⟨_, h, says_of (fun _ _ => .int _ _) fun η F w o ho hxy => ?_⟩
    have h1 := hxy x (by simp [Op.operands]); rw [hx] at h1
    simp [execOp, ho, h1.intv, convert, run_underlying hds, run_underlying hdd, Conv.intToInt]
  · exact h.elim

theorem iface_sound (ok : TTok P TT) {t : TypeId} {x : Operand} {ρ : Operand → AV} {i : TI} (ht : TT t = some i) (hn : i.k ≠ .iface) : SaysB P (.makeInterface t x) ρ (.iface t (ρ x)) := by
  intro η F w o ho hx
  obtain ⟨_, d, _, _, hd, _, _, hf, _, _⟩ := tt_fact ok ht
  refine ⟨_, ?_, .iface _ _ _ (hx x (by simp [Op.operands]))⟩
  have : ∀ m, d ≠ .interface m := by rintro m rfl; cases hk : i.k <;> rw [hk] at hf <;> simp_all [TK.fits]
  cases d <;> first | exact absurd rfl (this _) | simp [execOp, ho, Instr.makeInterface, run_underlying hd]

theorem makeFunc_sound {f : Fn} {first cap : Array Operand} {ρ : Operand → AV} : SaysB P (.makeFunc f first cap) ρ (.fn f (first.toList.map ρ) (cap.toList.map ρ)) := by
  intro η F w o ho hx
  have key : ∀ (xs : Array Operand), (∀ x ∈ xs.toList, VRel F w (ρ x) (η x)) → ∀ (i : Nat) (x : AV), (xs.toList.map ρ)[i]? = some x → VRel F w x ((xs.map η).getD i undef) := by
    intro xs h i x hi
    simp only [List.getElem?_map, Option.map_eq_some_iff] at hi
    obtain ⟨a, h1, rfl⟩ := hi
    have hlt : i < xs.size := by have := (List.getElem?_eq_some_iff.1 h1).1; simpa using this
    have : xs[i] = a := by simpa [hlt] using h1
    simpa [Array.getD, hlt, this] using h a (List.mem_of_getElem? h1)
  exact ⟨.func f (first.map η) (cap.map η), by simp [execOp, ho, Instr.makeFunc], .fn _ _ _ _ _ (by simp) (by simp) (key first fun x hx' => hx x (by simp only [Op.operands, Array.toList_append, List.mem_append]; exact .inl hx')) (key cap fun x hx' => hx x (by simp only [Op.operands, Array.toList_append, List.mem_append]; exact .inr hx'))⟩

theorem addr_add (b o n : Nat) : (⟨b, o, none⟩ : Addr).add n = ⟨b, o + n, none⟩ := Addr.add_mid b o n

theorem fieldAddr_sound (ok : TTok P TT) {s : TypeId} {x : Operand} {f : Nat} {ρ : Operand → AV} {K : AV → Prop} (h : fieldAddrW TT s (ρ x) f K) : ∃ v, K v ∧ SaysB P (.fieldAddr s x f) ρ v := by
  unfold fieldAddrW at h
  split at h
  · rename_i fs sz by' z0 ht
    obtain ⟨_, d, _, _, hd, _, _, hf, _, _⟩ := tt_fact ok ht
    obtain ⟨fields, rfl, hfs⟩ := fits_strct hf
    split at h
    · rename_i off t hft
      split at h
      · rename_i i hi
        obtain ⟨j', d', z', hj', hd', hs', _⟩ := tt_fact ok hi
        rw [← hfs, List.getElem?_map, Option.map_eq_some_iff] at hft
        obtain ⟨fd, hfd, e⟩ := hft
        cases e
        have hfd' : fields[f]? = some fd := by simpa using hfd
        split at h
        · rename_i b o' hb hx
          have hb := Nat.le_of_ble_eq_true hb
          have hz : ¬ j'.size = 0 := by omega
          refine ⟨_, h, says_of (fun _ _ => .ptr _ _) fun η F w o ho hxy => ?_⟩
          have h1 := hxy x (by simp [Op.operands]); rw [hx] at h1
          simp [execOp, ho, h1.ptrv, Instr.fieldAt, run_underlying hd, hfd', Instr.sureAddr, fieldPlace, run_sizeOf hj', hz, addr_add]
        · rename_i cs hb hx
          have hb := Nat.le_of_ble_eq_true hb
          have hz : ¬ j'.size = 0 := by omega
          refine ⟨_, h, fun η F w o ho hxy => ?_⟩
          have h1 := hxy x (by simp [Op.operands]); rw [hx] at h1
          obtain ⟨b, o', e, hF, hat⟩ := h1.eptr_at
          exact ⟨_, by simp [execOp, ho, e, Instr.fieldAt, run_underlying hd, hfd', Instr.sureAddr, fieldPlace, run_sizeOf hj', hz, addr_add], (hat.drop _).eptr hF⟩
        · exact h.elim
      · exact h.elim
    · exact h.elim
  · exact h.elim

theorem part_sound (ok : TTok P TT) {t : TypeId} {i : TI} (ht : TT t = some i) {F : Nat → Prop} {w : World} {cs : List AV} {vs : Array Value} (h : CRel F w cs vs) {k : Nat} {v : AV} (hv : readAs i cs k = some v) :
    ∃ v', (∀ w', (part t vs k).run P w' = .ok v' w') ∧ VRel F w v v' := by
  obtain ⟨j, d, z, hj, hd, hs, hb, hf, hz, hzz⟩ := tt_fact ok ht
  have hw := fits_wide hf
  obtain ⟨hl, hr⟩ := h
  unfold readAs at hv
  split at hv
  · rename_i hwide
    split at hv
    · rename_i hle
      have hle := Nat.le_of_ble_eq_true hle
      simp only [Option.some.injEq] at hv
      subst hv
      refine ⟨.agg (vs.extract k (k + j.size)), fun _ => by unfold part; simp [Sem.run_bind, run_isAgg hd, hw, hwide, run_sizeOf hj], CRel.aggr ⟨by simp; omega, fun m x hx => ?_⟩⟩
      rw [List.getElem?_take] at hx
      split at hx
      · rename_i hm
        rw [List.getElem?_drop] at hx
        obtain ⟨h1, h2⟩ := hr _ x hx
        have hlt : k + m < vs.size := by rw [← hl]; exact (List.getElem?_eq_some_iff.1 hx).1
        have hlt2 : m < min (k + j.size) vs.size - k := by omega
        refine ⟨h1, ?_⟩
        simpa [Array.getD, hlt, hlt2] using h2
      · cases hx
    · cases hv
  · rename_i hwide
    obtain ⟨h1, h2⟩ := hr k v hv
    have hlt : k < vs.size := by rw [← hl]; exact (List.getElem?_eq_some_iff.1 hv).1
    refine ⟨vs.getD k undef, fun w' => ?_, h2⟩
    unfold part
    rw [Sem.run_bind, run_isAgg hd]
    simp [hw, hwide, hlt, Array.getD]

theorem eqV_sound (ok : TTok P TT) (D : Nat) : ∀ (d : Nat) (t : TypeId) (x y : AV) (l : List Bool), eqV P TT d t x y = some l → ∀ (F : Nat → Prop) (w : World) (a b : Value), VRel F w x a → VRel F w y b → ∀ w', (Op.equalIn (D + d) t a b).run P w' = .ok (allB l) w' := by
  intro d
  induction d with
  | zero => intro t x y l h; cases h
  | succ d ih =>
    intro t x y l h F w a b ha hb w'
    unfold eqV at h
    split at h
    · rename_i p q hu
      cases h
      rw [ha.boolv, hb.boolv]
      rw [show D + (d + 1) = (D + d) + 1 from rfl, run_equalIn_bool' w' (D + d) t p q hu]
      simp [allB]
    · rename_i k0 k p k' q hu
      split at h
      · rename_i hk
        have := of_decide_eq_true hk
        subst this
        cases h
        rw [ha.intv, hb.intv]
        rw [show D + (d + 1) = (D + d) + 1 from rfl, run_equalIn_int w' (D + d) t k k0 p q hu]
        simp [allB]
        exact Bool.beq_eq_decide_eq _ _
      · cases h
    · rename_i p q hu
      cases h
      rw [ha.strv, hb.strv]
      rw [show D + (d + 1) = (D + d) + 1 from rfl, run_equalIn_string w' (D + d) t p q hu]
      simp [allB]
    · rename_i fs xs ys hu
      split at h
      · cases h
      · rename_i hst
        obtain ⟨vs, rfl, hvs⟩ := ha.aggv
        obtain ⟨us, rfl, hus⟩ := hb.aggv
        have hf : P.fieldsOf t = fs := by simp [Program.fieldsOf, hu]
        rw [show D + (d + 1) = (D + d) + 1 from rfl, run_equalIn_agg w' (D + d) t vs us (by rw [hf]; exact hu) hst, hf]
        have key : ∀ (gs : List Field) (l : List Bool), eqFs TT (eqV P TT d) xs ys gs = some l → (Op.eqFields (D + d) vs us gs).run P w' = .ok (allB l) w' := by
          intro gs
          induction gs with
          | nil => intro l h; cases h; simp [Op.eqFields, allB]
          | cons f gs ihg =>
            intro l h
            unfold eqFs at h
            split at h
            · rename_i i hn hi
              split at h
              · rename_i p q hp hq
                split at h
                · rename_i l1 l2 h1 h2
                  cases h
                  obtain ⟨p', e1, r1⟩ := part_sound ok hi ⟨hvs.1, hvs.2⟩ hp
                  obtain ⟨q', e2, r2⟩ := part_sound ok hi ⟨hus.1, hus.2⟩ hq
                  have e3 := ih f.type p q l1 h1 F w p' q' r1 r2 w'
                  have hn' : f.name ≠ "_" := by intro e; rw [e] at hn; cases hn
                  simp only [Op.eqFields, hn', ne_eq, not_false_eq_true, if_true, Sem.run_bind, e1, e2, e3, Result.andThen_ok]
                  cases hb1 : allB l1
                  · simp only [Bool.not_false, if_true, Sem.run_pure]
                    have : allB (l1 ++ l2) = false := by unfold allB at hb1 ⊢; rw [List.all_append, hb1]; rfl
                    rw [this]
                  · simp only [Bool.not_true, Bool.false_eq_true, if_false]
                    rw [ihg l2 h2]
                    have : allB (l1 ++ l2) = allB l2 := by unfold allB at hb1 ⊢; rw [List.all_append, hb1]; rfl
                    rw [this]
                · cases h
              · cases h
            · cases h
        exact key fs.toList l h
    · rename_i n e xs ys hu
      obtain ⟨vs, rfl, hvs⟩ := ha.aggv
      obtain ⟨us, rfl, hus⟩ := hb.aggv
      have key : ∀ (ks : List Nat) (l : List Bool), eqIs TT (eqV P TT d) e (P.cellsOf e) xs ys ks = some l → (Op.eqItems (D + d) e (P.cellsOf e) vs us ks).run P w' = .ok (allB l) w' := by
        intro ks
        induction ks with
        | nil => intro l h; cases h; simp [Op.eqItems, allB]
        | cons k ks ihk =>
          intro l h
          unfold eqIs at h
          split at h
          · rename_i i hi
            split at h
            · rename_i p q hp hq
              split at h
              · rename_i l1 l2 h1 h2
                cases h
                obtain ⟨p', e1, r1⟩ := part_sound ok hi ⟨hvs.1, hvs.2⟩ hp
                obtain ⟨q', e2, r2⟩ := part_sound ok hi ⟨hus.1, hus.2⟩ hq
                have e3 := ih e p q l1 h1 F w p' q' r1 r2 w'
                simp only [Op.eqItems, Sem.run_bind, e1, e2, e3, Result.andThen_ok]
                cases hb1 : allB l1
                · simp only [Bool.not_false, if_true, Sem.run_pure]
                  have : allB (l1 ++ l2) = false := by unfold allB at hb1 ⊢; rw [List.all_append, hb1]; rfl
                  rw [this]
                · simp only [Bool.not_true, Bool.false_eq_true, if_false]
                  rw [ihk l2 h2]
                  have : allB (l1 ++ l2) = allB l2 := by unfold allB at hb1 ⊢; rw [List.all_append, hb1]; rfl
                  rw [this]
              · cases h
            · cases h
          · cases h
      split at h
      · rename_i i hi
        obtain ⟨j, _, _, hj, _⟩ := tt_fact ok hi
        rw [show D + (d + 1) = (D + d) + 1 from rfl, run_equalIn_array w' (D + d) vs us hu hj]
        exact key _ l h
      · cases h
    · cases h
theorem binA_sound (ok : TTok P TT) {op : BinOp} {t yt : TypeId} {x y : Operand} {ρ : Operand → AV} {K : AV → Prop} (h : binA P TT op t y (ρ x) (ρ y) K) : ∃ v, K v ∧ SaysB P (.binOp op t x y yt) ρ v := by
  unfold binA at h
  split at h
  · rename_i xs ys hx hy
    have both : ∀ (η : Operand → Value) (F : Nat → Prop) (w : World), (∀ z ∈ (Op.binOp op t x y yt).operands.toList, VRel F w (ρ z) (η z)) → ∃ vs us, η x = .agg vs ∧ η y = .agg us ∧ VRel F w (.agg xs) (.agg vs) ∧ VRel F w (.agg ys) (.agg us) := fun η F w hxy => by
      have h1 := hxy x (by simp [Op.operands])
      have h2 := hxy y (by simp [Op.operands])
      rw [hx] at h1; rw [hy] at h2
      obtain ⟨vs, e1, _⟩ := h1.aggv
      obtain ⟨us, e2, _⟩ := h2.aggv
      rw [e1] at h1; rw [e2] at h2
      exact ⟨vs, us, e1, e2, h1, h2⟩
    split at h
    · obtain ⟨g1, g2, go⟩ := h
      refine ⟨_, cmpW_get go, says_of (fun _ _ => .bool _) fun η F w o ho hxy => ?_⟩
      obtain ⟨vs, us, e1, e2, r1, r2⟩ := both η F w hxy
      intro w'
      refine run_binop ho ?_ ?_
      · rw [e1, e2]; exact run_eqGuard_agg w' _ t x y vs us g1
      · rw [e1, e2, run_eql_struct, show (10000 : Nat) = 9992 + 8 from rfl, eqV_sound ok 9992 8 t _ _ _ g2 F w _ _ r1 r2 w']; rfl
    · obtain ⟨g1, g2, go⟩ := h
      refine ⟨_, cmpW_get go, says_of (fun _ _ => .bool _) fun η F w o ho hxy => ?_⟩
      obtain ⟨vs, us, e1, e2, r1, r2⟩ := both η F w hxy
      intro w'
      refine run_binop ho ?_ ?_
      · rw [e1, e2]; exact run_eqGuard_agg w' _ t x y vs us g1
      · rw [e1, e2, run_neq_struct, show (10000 : Nat) = 9992 + 8 from rfl, eqV_sound ok 9992 8 t _ _ _ g2 F w _ _ r1 r2 w']; rfl
    · exact h.elim
  · exact bin_sound ok h

theorem field_sound (ok : TTok P TT) {s : TypeId} {x : Operand} {f : Nat} {ρ : Operand → AV} {K : AV → Prop} (h : fieldW TT s (ρ x) f K) : ∃ v, K v ∧ SaysB P (.field s x f) ρ v := by
  unfold fieldW at h
  split at h
  · rename_i fs sz by' z0 cs ht hx
    obtain ⟨_, d, _, _, hd, _, _, hf, _, _⟩ := tt_fact ok ht
    obtain ⟨fields, rfl, hfs⟩ := fits_strct hf
    split at h
    · rename_i off t hft
      split at h
      · rename_i i hi
        rw [← hfs, List.getElem?_map, Option.map_eq_some_iff] at hft
        obtain ⟨fd, hfd, e⟩ := hft
        cases e
        have hfd' : fields[f]? = some fd := by simpa using hfd
        split at h
        · rename_i v hv
          refine ⟨v, h, fun η F w o ho hxy => ?_⟩
          have h1 := hxy x (by simp [Op.operands]); rw [hx] at h1
          obtain ⟨vs, e, h2, h3⟩ := h1.aggv
          obtain ⟨v', h4, h5⟩ := part_sound ok hi (w := w) ⟨h2, h3⟩ hv
          exact ⟨v', by simp [execOp, ho, e, Instr.field, run_underlying hd, hfd', asAgg, h4], h5⟩
        · exact h.elim
      · exact h.elim
    · exact h.elim
  · exact h.elim

theorem indexAddr_sound (ok : TTok P TT) {t : TypeId} {x ix : Operand} {ρ : Operand → AV} {K : AV → Prop} (h : indexAddrW TT t (ρ x) (ρ ix) K) : ∃ v, K v ∧ SaysB P (.indexAddr t x ix) ρ v := by
  unfold indexAddrW at h
  split at h
  · rename_i e sz by' z0 k n ht hix
    obtain ⟨_, d, _, _, hd, _, _, hf, _, _⟩ := tt_fact ok ht
    obtain rfl := fits_slice hf
    split at h
    · rename_i i s l hi hx
      obtain ⟨j', _, _, hj', _, hs', _⟩ := tt_fact ok hi
      obtain ⟨hsz, hidx⟩ := h
      obtain ⟨dt, h0, h1, go⟩ := hidx
      refine ⟨_, go, fun η F w o ho hxy => ?_⟩
      have a1 := hxy x (by simp [Op.operands]); rw [hx] at a1
      have a2 := hxy ix (by simp [Op.operands]); rw [hix] at a2
      obtain ⟨a, c, e, hc1, hc2, hc3⟩ := a1.fslv
      have hlt : n.toNat < l.length := (List.getElem?_eq_some_iff.1 h1).1
      obtain ⟨b, o', rfl, hF, hrows⟩ := hc3 (fun e => by subst e; cases hlt)
      obtain ⟨cs', q1, q2, q3⟩ := hrows _ hlt
      have hd' : l[n.toNat] = dt := by rw [List.getElem?_eq_getElem hlt] at h1; exact Option.some.inj h1
      rw [hd'] at q3
      have hn : 0 ≤ n ∧ n < (l.length : Int) := by omega
      refine ⟨_, ?_, (At.of_lies s q2 q3).eptr hF⟩
      simp [execOp, ho, e, a2.intv, Instr.indexAt, asIntOf, run_underlying hd, hn, run_sizeOf hj', addr_add, hs', hsz]
    · rename_i i b off len es hi hx
      obtain ⟨j', _, _, hj', _, hs', _⟩ := tt_fact ok hi
      obtain ⟨⟨hsz, h0, h1⟩, go⟩ := h
      refine ⟨_, go, says_of (fun _ _ => .ptr _ _) fun η F w o ho hxy => ?_⟩
      have a1 := hxy x (by simp [Op.operands]); rw [hx] at a1
      have a2 := hxy ix (by simp [Op.operands]); rw [hix] at a2
      obtain ⟨a, cap, e, c, T, fz, m1, m2, m3, m4⟩ := a1.mrefv
      have ha : a = ⟨b, off, none⟩ := by rcases m4 with m4 | m4; exact m4.1; omega
      subst ha
      simp [execOp, ho, e, a2.intv, Instr.indexAt, asIntOf, run_underlying hd, h0, h1, run_sizeOf hj', addr_add, hs', hsz]
    · exact h.elim
  · rename_i m e sz by' z0 k n ht hix
    obtain ⟨_, d, _, _, hd, _, _, hf, _, _⟩ := tt_fact ok ht
    obtain rfl := fits_arr hf
    split at h
    · rename_i i b o' hi hx
      obtain ⟨j', _, _, hj', _, hs', _⟩ := tt_fact ok hi
      obtain ⟨⟨h0, h1⟩, go⟩ := h
      refine ⟨_, go, says_of (fun _ _ => .ptr _ _) fun η F w o ho hxy => ?_⟩
      have a1 := hxy x (by simp [Op.operands]); rw [hx] at a1
      have a2 := hxy ix (by simp [Op.operands]); rw [hix] at a2
      simp [execOp, ho, a1.ptrv, a2.intv, Instr.indexAt, asIntOf, Instr.sureAddr, run_underlying hd, h0, h1, run_sizeOf hj', addr_add, hs']
    · rename_i i cs hi hx
      obtain ⟨j', _, _, hj', _, hs', _⟩ := tt_fact ok hi
      obtain ⟨⟨h0, h1⟩, go⟩ := h
      refine ⟨_, go, fun η F w o ho hxy => ?_⟩
      have a1 := hxy x (by simp [Op.operands]); rw [hx] at a1
      have a2 := hxy ix (by simp [Op.operands]); rw [hix] at a2
      obtain ⟨b, o', e, hF, hat⟩ := a1.eptr_at
      exact ⟨_, by simp [execOp, ho, e, a2.intv, Instr.indexAt, asIntOf, Instr.sureAddr, run_underlying hd, h0, h1, run_sizeOf hj', addr_add, hs'], (hat.drop _).eptr hF⟩
    · exact h.elim
  · exact h.elim

theorem extract_sound {x : Operand} {i : Nat} {ρ : Operand → AV} {vs : List AV} {v : AV} (hx : ρ x = .tup vs) (hv : vs[i]? = some v) : SaysB P (.extract x i) ρ v := by
  intro η F w o ho hxy
  have a1 := hxy x (by simp [Op.operands]); rw [hx] at a1
  cases he : η x with
  | tuple us =>
    rw [he] at a1
    cases a1 with
    | tup cs vs hs h =>
      have h1 := h i v hv
      have hlt : i < us.size := by rw [← hs]; exact (List.getElem?_eq_some_iff.1 hv).1
      refine ⟨us.getD i undef, ?_, h1⟩
      simp [execOp, ho, he, Instr.extract, hlt, Array.getD]
  | _ => rw [he] at a1; cases a1

theorem assert_sound (ok : TTok P TT) {x : Operand} {tx t e : TypeId} {s b : Nat} {z : List AV} {ρ : Operand → AV} {K : AV → Prop} (ht : TT t = some ⟨.ptr e, s, b, z⟩) (hz0 : z = [.nilp]) (h : (∃ t' v, ρ x = .iface t' v ∧ (match Nat.beq t' t with | true => K (.tup [v, .bool true]) | false => K (.tup [.nilp, .bool false]))) ∨ (ρ x = .nilif ∧ K (.tup [.nilp, .bool false]))) : ∃ v, K v ∧ SaysB P (.typeAssert x tx t true) ρ v := by
  obtain ⟨j, d, zv, hj, hd, hs, ⟨hb, hzl⟩, hf, hz, hzz⟩ := tt_fact ok ht
  obtain rfl := fits_ptr hf
  have tup2 : ∀ {F : Nat → Prop} {w : World} {a c : AV} {u v : Value}, VRel F w a u → VRel F w c v → VRel F w (.tup [a, c]) (.tuple #[u, v]) := fun h1 h2 => .tup _ _ rfl fun i y hy => by
    rcases i with _ | _ | i
    · simp at hy; subst hy; exact h1
    · simp at hy; subst hy; exact h2
    · simp at hy
  have hzp : zv = .pointer none := by
    obtain ⟨j2, z2, k1, k2, k3⟩ := tt_zero ok ht rfl
    rw [hj] at k1; cases k1
    rw [hz] at k2; cases k2
    cases zv with
    | agg cs => cases k3
    | pointer p => cases p with
      | none => rfl
      | some p => subst hz0; exact absurd hzz (by simp [Value.cells, zeroB, AV.isVal])
    | _ => subst hz0; exact absurd hzz (by simp [Value.cells, zeroB, AV.isVal])
  have hzv : ∀ w, (zeroValue t).run P w = .ok (.pointer none) w := fun w => by simp [zeroValue, typeInfo, hj, hz, hzp]
  rcases h with ⟨t', v, hx, h⟩ | ⟨hx, h⟩
  · split at h
    · rename_i hb
      have e := Nat.eq_of_beq_eq_true hb
      subst e
      refine ⟨_, h, fun η F w o ho hxy => ?_⟩
      have a1 := hxy x (by simp [Op.operands]); rw [hx] at a1
      cases hv : η x with
      | iface t2 u =>
        rw [hv] at a1
        cases a1 with
        | iface _ _ _ hu => exact ⟨.tuple #[u, .bool true], fun w' => by simp [execOp, ho, hv, Instr.typeAssert, run_underlying hd], tup2 hu (.bool _)⟩
      | _ => rw [hv] at a1; cases a1
    · rename_i hb
      refine ⟨_, h, fun η F w o ho hxy => ?_⟩
      have a1 := hxy x (by simp [Op.operands]); rw [hx] at a1
      cases hv : η x with
      | iface t2 u =>
        rw [hv] at a1
        cases a1 with
        | iface _ _ _ hu =>
          have hne : ¬ t' = t := fun e => by subst e; rw [Nat.beq_refl] at hb; cases hb
          exact ⟨.tuple #[.pointer none, .bool false], fun w' => by simp [execOp, ho, hv, Instr.typeAssert, run_underlying hd, hne, hzv], tup2 .nilp (.bool _)⟩
      | _ => rw [hv] at a1; cases a1
  · refine ⟨_, h, fun η F w o ho hxy => ?_⟩
    have a1 := hxy x (by simp [Op.operands]); rw [hx] at a1
    have hv : η x = .nilIface := by revert a1; generalize η x = u; intro a1; cases a1; rfl
    exact ⟨.tuple #[.pointer none, .bool false], fun w' => by simp [execOp, ho, hv, Instr.typeAssert, run_underlying hd, hzv], tup2 .nilp (.bool _)⟩

theorem bound_ok {n : Int} {y : Nat} {code : BoundsCode} {k : IntKind} (h0 : 0 ≤ n) (h1 : n ≤ y) (w : World) : (Instr.sliceBound (.int k n) y code).run P w = .ok n.toNat w := by
  simp [Instr.sliceBound, asIntOf, h0, h1]
/-- What the bounds of a slice are. -/
theorem bounds_sound {lo hi : Option AV} {vlo vhi : Option Value} {F : Nat → Prop} {w : World} {len cap : Nat} {l h : Int} (hlo : ∀ x, lo = some x → ∃ v, vlo = some v ∧ VRel F w x v) (hlo0 : lo = none → vlo = none) (hhi : ∀ x, hi = some x → ∃ v, vhi = some v ∧ VRel F w x v) (hhi0 : hi = none → vhi = none)
    (el : loInt lo = some l) (eh : hiInt len hi = some h) (h1 : 0 ≤ l) (h2 : l ≤ h) (h3 : h ≤ len) (h4 : len ≤ cap) (w' : World) : (Instr.sliceBounds true len cap vlo vhi none).run P w' = .ok (l.toNat, h.toNat, cap) w' := by
  have e2 : (vhi = none ∧ h = len) ∨ ∃ k, vhi = some (.int k h) := by
    cases hi with
    | none => exact .inl ⟨hhi0 rfl, by simpa [hiInt] using eh.symm⟩
    | some x =>
      obtain ⟨v, rfl, hv⟩ := hhi x rfl
      cases x <;> simp [hiInt] at eh
      subst eh
      exact .inr ⟨_, by rw [hv.intv]⟩
  have e1 : (vlo = none ∧ l = 0) ∨ ∃ k, vlo = some (.int k l) := by
    cases lo with
    | none => exact .inl ⟨hlo0 rfl, by simpa [loInt] using el.symm⟩
    | some x =>
      obtain ⟨v, rfl, hv⟩ := hlo x rfl
      cases x <;> simp [loInt] at el
      subst el
      exact .inr ⟨_, by rw [hv.intv]⟩
  have hh : (h.toNat : Int) = h := by omega
  rcases e2 with ⟨rfl, rfl⟩ | ⟨k2, rfl⟩ <;> rcases e1 with ⟨rfl, rfl⟩ | ⟨k1, rfl⟩
  · simp [Instr.sliceBounds]
  · simp [Instr.sliceBounds, bound_ok h1 (show l ≤ (len : Nat) from h2)]
  · simp [Instr.sliceBounds, bound_ok (show 0 ≤ h by omega) (show h ≤ (cap : Nat) by omega)]
  · simp [Instr.sliceBounds, bound_ok (show 0 ≤ h by omega) (show h ≤ (cap : Nat) by omega), bound_ok h1 (show l ≤ (h.toNat : Nat) by omega)]

theorem opt_rel {F : Nat → Prop} {w : World} {ρ : Operand → AV} {η : Operand → Value} {o : Option Operand} (h : ∀ x, o = some x → VRel F w (ρ x) (η x)) : (∀ x, o.map ρ = some x → ∃ v, o.map η = some v ∧ VRel F w x v) ∧ (o.map ρ = none → o.map η = none) := by
  cases o with
  | none => exact ⟨(fun x h => by cases h), fun _ => rfl⟩
  | some y => exact ⟨(fun x hx => by cases hx; exact ⟨_, rfl, h y rfl⟩), (fun h => by cases h)⟩

theorem slice_sound (ok : TTok P TT) {t : TypeId} {x : Operand} {lo hi mx : Option Operand} {ρ : Operand → AV} {K : AV → Prop} (h : sliceW TT t (ρ x) (lo.map ρ) (hi.map ρ) (mx.map ρ) K) : ∃ v, K v ∧ SaysB P (.slice t x lo hi mx) ρ v := by
  unfold sliceW at h
  split at h
  · rename_i e sz by' z0 ht hmx
    have hmx : mx = none := by simpa using hmx
    subst hmx
    obtain ⟨_, d, _, _, hd, _, _, hf, _, _⟩ := tt_fact ok ht
    obtain rfl := fits_slice hf
    have hops : ∀ {η : Operand → Value} {F : Nat → Prop} {w : World}, (∀ y ∈ (Op.slice t x lo hi none).operands.toList, VRel F w (ρ y) (η y)) → VRel F w (ρ x) (η x) ∧ (∀ y, lo = some y → VRel F w (ρ y) (η y)) ∧ (∀ y, hi = some y → VRel F w (ρ y) (η y)) := by
      intro η F w hy
      refine ⟨hy x (by simp [Op.operands]), fun y e => hy y (by subst e; simp [Op.operands]), fun y e => hy y (by subst e; simp [Op.operands])⟩
    split at h
    · rename_i i b off len es hi' hx
      obtain ⟨j', _, _, hj', _, hs', _⟩ := tt_fact ok hi'
      split at h
      · rename_i l hh el eh
        obtain ⟨⟨h1, h2, h3, hsz⟩, go⟩ := h
        refine ⟨_, go, fun η F w o ho hxy => ?_⟩
        obtain ⟨a1, a2, a3⟩ := hops hxy
        rw [hx] at a1
        obtain ⟨a, cap, ea, c, T, fz, m1, m2, m3, m4⟩ := a1.mrefv
        have hb := bounds_sound (P := P) (w := w) (opt_rel a2).1 (opt_rel a2).2 (opt_rel a3).1 (opt_rel a3).2 el eh h1 h2 h3 m2
        refine ⟨.slice (some (if cap = l.toNat then a else a.add (l.toNat * j'.size))) (hh.toNat - l.toNat) (cap - l.toNat), ?_, ?_⟩
        · intro w'
          simp only [execOp, ho, Instr.sliceAt, Sem.run_bind, run_underlying hd, Result.andThen_ok, Option.map_none, ea, Instr.slice, hb, run_sizeOf hj', Sem.run_pure]
          split <;> rfl
        · refine .mref _ _ _ _ _ _ ⟨c, T, fz, m1, by omega, by omega, ?_⟩
          by_cases hcl : cap = l.toNat
          · refine .inr ?_
            rw [if_pos hcl]
            rcases m4 with ⟨rfl, _⟩ | ⟨q1, q2, q3, q4⟩
            · exact ⟨rfl, rfl, by omega, by omega⟩
            · exact ⟨q1, q2, by omega, by omega⟩
          · refine .inl ?_
            rw [if_neg hcl]
            rcases m4 with ⟨rfl, q⟩ | ⟨q1, q2, q3, q4⟩
            · refine ⟨by rw [addr_add, hs', hsz], ?_⟩
              have : off + l.toNat * es + (cap - l.toNat) * es = off + cap * es := by
                rw [Nat.add_assoc, ← Nat.add_mul]; congr 2; omega
              omega
            · omega
      · exact h.elim
    · rename_i i s xs hi' hx
      obtain ⟨j', _, _, hj', _, hs', _⟩ := tt_fact ok hi'
      split at h
      · rename_i l hh el eh
        obtain ⟨⟨h1, h2, h3, hsz⟩, go⟩ := h
        refine ⟨_, go, fun η F w o ho hxy => ?_⟩
        obtain ⟨a1, a2, a3⟩ := hops hxy
        rw [hx] at a1
        obtain ⟨a, cap, ea, c1, c2, c3⟩ := a1.fslv
        have hb := bounds_sound (P := P) (w := w) (opt_rel a2).1 (opt_rel a2).2 (opt_rel a3).1 (opt_rel a3).2 el eh h1 h2 h3 c1
        have hlen : ((xs.drop l.toNat).take (hh.toNat - l.toNat)).length = hh.toNat - l.toNat := by simp; omega
        refine ⟨.slice (if cap = l.toNat then a else a.map (·.add (l.toNat * j'.size))) (hh.toNat - l.toNat) (cap - l.toNat), ?_, ?_⟩
        · intro w'
          simp only [execOp, ho, Instr.sliceAt, Sem.run_bind, run_underlying hd, Result.andThen_ok, Option.map_none, ea, Instr.slice, hb, run_sizeOf hj', Sem.run_pure]
        · refine .fsl _ _ _ ⟨_, _, by rw [hlen], by omega, by omega, (fun he => ?_), fun hne => ?_⟩
          · have h00 := a1.fsl0 ea
            split at he
            · have := h00 he; omega
            · have := h00 (Option.map_eq_none_iff.1 he); omega
          have hpos : 0 < hh.toNat - l.toNat := by
            rcases Nat.eq_zero_or_pos (hh.toNat - l.toNat) with h0 | h0
            · exact absurd (List.length_eq_zero_iff.1 (by rw [hlen, h0])) hne
            · exact h0
          obtain ⟨b, o', rfl, hF, hr⟩ := c3 (fun e => by subst e; simp at h3; omega)
          refine ⟨b, o' + l.toNat * s.size, by rw [if_neg (by omega)]; simp [addr_add, hs', hsz], hF, fun m hm => ?_⟩
          rw [hlen] at hm
          obtain ⟨cs', q1, q2, q3⟩ := hr (l.toNat + m) (by omega)
          refine ⟨cs', q1, ?_, by simpa using q3⟩
          rw [Nat.add_assoc, ← Nat.add_mul]
          exact q2
      · exact h.elim
    · rename_i i hi' hx
      obtain ⟨j', _, _, hj', _, hs', _⟩ := tt_fact ok hi'
      split at h
      · rename_i l hh el eh
        obtain ⟨⟨h1, h2, h3⟩, go⟩ := h
        refine ⟨_, go, fun η F w o ho hxy => ?_⟩
        obtain ⟨a1, a2, a3⟩ := hops hxy
        rw [hx] at a1
        have ea : η x = .slice none 0 0 := by revert a1; generalize η x = u; intro a1; cases a1; rfl
        have hb := bounds_sound (P := P) (w := w) (cap := 0) (opt_rel a2).1 (opt_rel a2).2 (opt_rel a3).1 (opt_rel a3).2 el eh h1 h2 h3 (Nat.le_refl _)
        have hl0 : l.toNat = 0 := by omega
        have hh0 : hh.toNat = 0 := by omega
        refine ⟨.slice none 0 0, ?_, .nils⟩
        intro w'
        simp [execOp, ho, Instr.sliceAt, Sem.run_bind, run_underlying hd, Result.andThen_ok, ea, Instr.slice, hb, run_sizeOf hj', Sem.run_pure, hl0, hh0]
      · exact h.elim
    · exact h.elim
  · exact h.elim

theorem call_args {η : Operand → Value} (b : Builtin) (args : Array Operand) (tys : Array TypeId) (o : Oper) (ho : o.op = .call ⟨.builtin b, args, tys⟩) : execOp η o = builtin b tys o.type (args.map fun | .const _ => true | _ => false) (args.map η) := by
  simp [execOp, ho, resolve, invoke]
  rfl

theorem len_sound (ok : TTok P TT) {x : Operand} {tys : Array TypeId} {t : TypeId} {i : TI} {ρ : Operand → AV} {K : AV → Prop} (hty : tys.toList = [t]) (ht : TT t = some i) (h : lenW i.k (ρ x) K) : ∃ v, K v ∧ SaysB P (.call ⟨.builtin .len, #[x], tys⟩) ρ v := by
  obtain ⟨_, d, _, _, hd, _, _, hf, _, _⟩ := tt_fact ok ht
  obtain rfl : tys = #[t] := by cases tys; simp_all
  unfold lenW at h
  have fin : ∀ (n : Nat), K (.int .i64 n) → (∀ (F : Nat → Prop) (w : World) (v : Value), VRel F w (ρ x) v → ∀ ty w', (Builtin.len_ #[t] ty #[v]).run P w' = .ok (.int .i64 n) w') → ∃ v, K v ∧ SaysB P (.call ⟨.builtin .len, #[x], #[t]⟩) ρ v := by
    intro n hk hr
    refine ⟨_, hk, says_of (fun _ _ => .int _ _) fun η F w o ho hxy => ?_⟩
    have a1 := hxy x (by simp [Op.operands, Call.operands])
    rw [call_args _ _ _ o ho]
    simp [builtin, hr F w _ a1]
  split at h
  · rename_i e s l hk hx
    rw [hk] at hf; obtain rfl := fits_slice hf
    refine fin _ h fun F w v hv ty w' => ?_
    rw [hx] at hv
    obtain ⟨a, c, rfl, _⟩ := hv.fslv
    simp [Builtin.len_, run_underlying hd, goInt]
  · rename_i e b off len es hk hx
    rw [hk] at hf; obtain rfl := fits_slice hf
    refine fin _ h fun F w v hv ty w' => ?_
    rw [hx] at hv
    obtain ⟨a, c, rfl, _⟩ := hv.mrefv
    simp [Builtin.len_, run_underlying hd, goInt]
  · rename_i e hk hx
    rw [hk] at hf; obtain rfl := fits_slice hf
    refine fin 0 h fun F w v hv ty w' => ?_
    rw [hx] at hv
    cases hv
    simp [Builtin.len_, run_underlying hd, goInt]
  · rename_i e hk hx
    rw [hk] at hf; obtain rfl := fits_slice hf
    refine fin 0 h fun F w v hv ty w' => ?_
    rw [hx] at hv
    cases hv
    simp [Builtin.len_, run_underlying hd, goInt]
  · rename_i e hk hx
    rw [hk] at hf; obtain rfl := fits_slice hf
    refine fin 0 h fun F w v hv ty w' => ?_
    rw [hx] at hv
    cases hv
    simp [Builtin.len_, run_underlying hd, goInt]
  · exact h.elim

theorem min_sound {x y : Operand} {tys : Array TypeId} {ρ : Operand → AV} {K : AV → Prop} (h : minW [ρ x, ρ y] K) : ∃ v, K v ∧ SaysB P (.call ⟨.builtin .min, #[x, y], tys⟩) ρ v := by
  unfold minW at h
  split at h
  · rename_i k a k' b e
    simp only [List.cons.injEq, and_true] at e
    split at h
    · refine ⟨_, h, says_of (fun _ _ => .int _ _) fun η F w o ho hxy => ?_⟩
      have a1 := hxy x (by simp [Op.operands, Call.operands]); rw [e.1] at a1
      have a2 := hxy y (by simp [Op.operands, Call.operands]); rw [e.2] at a2
      rw [call_args _ _ _ o ho]
      simp [builtin, Builtin.min_, Builtin.min2, a1.intv, a2.intv]
    · exact h.elim
  · exact h.elim
theorem max_sound {x y : Operand} {tys : Array TypeId} {ρ : Operand → AV} {K : AV → Prop} (h : maxW [ρ x, ρ y] K) : ∃ v, K v ∧ SaysB P (.call ⟨.builtin .max, #[x, y], tys⟩) ρ v := by
  unfold maxW at h
  split at h
  · rename_i k a k' b e
    simp only [List.cons.injEq, and_true] at e
    split at h
    · refine ⟨_, h, says_of (fun _ _ => .int _ _) fun η F w o ho hxy => ?_⟩
      have a1 := hxy x (by simp [Op.operands, Call.operands]); rw [e.1] at a1
      have a2 := hxy y (by simp [Op.operands, Call.operands]); rw [e.2] at a2
      rw [call_args _ _ _ o ho]
      simp [builtin, Builtin.max_, Builtin.max2, a1.intv, a2.intv]
    · exact h.elim
  · exact h.elim

/-- Does an operation look at no memory? -/
def blindB : Op → Bool
  | .load _ _ => false
  | _ => true
theorem opD_blind (ok : TTok P TT) {op : Op} {ρ : Operand → AV} {σ : Hp} {K : AV → Prop} (hb : blindB op = true) (h : opD P TT op ρ σ K) : ∃ v, K v ∧ SaysB P op ρ v := by
  unfold opD at h
  split at h
  · rw [strict_eq] at h; exact ⟨_, h, says_move⟩
  · rw [strict_eq] at h; exact ⟨_, h, says_assign⟩
  · split at h
    · rename_i x hx
      rw [strict_eq, strict_eq] at h
      refine ⟨_, ?_, says_pick hx⟩
      cases x <;> exact h
    · exact h.elim
  · split at h
    · rename_i v hv
      exact ⟨v, h, build_sound ok hv⟩
    · exact h.elim
  · split at h
    · cases hb
    · exact h.elim
  · rename_i x
    split at h
    · rename_i b o' hx
      refine ⟨_, h, says_of (fun _ _ => .ptr _ _) fun η F w o ho hxy => ?_⟩
      have h1 := hxy x (by simp [Op.operands]); rw [hx] at h1
      simp [execOp, ho, h1.ptrv]
    · rename_i cs hx
      refine ⟨_, h, fun η F w o ho hxy => ?_⟩
      have h1 := hxy x (by simp [Op.operands]); rw [hx] at h1
      obtain ⟨b, o', e, hF, hat⟩ := h1.eptr_at
      exact ⟨_, by simp [execOp, ho, e], hat.eptr hF⟩
    · rename_i f a c hx
      refine ⟨_, h, fun η F w o ho hxy => ?_⟩
      have h1 := hxy x (by simp [Op.operands]); rw [hx] at h1
      cases hv : η x with
      | func f' v1 v2 =>
        rw [hv] at h1
        have : f' = .func f := by cases h1; rfl
        subst this
        exact ⟨_, by simp [execOp, ho, hv], h1⟩
      | _ => rw [hv] at h1; cases h1
    · rename_i m t b o' c hx
      obtain ⟨ha, h⟩ := h
      refine ⟨_, h, fun η F w o ho hxy => ?_⟩
      have h1 := hxy x (by simp [Op.operands]); rw [hx] at h1
      cases hv : η x with
      | func f' v1 v2 =>
        rw [hv] at h1
        have h2 := h1
        obtain ⟨rfl, hs, hr⟩ : f' = .method m ∧ 1 = v1.size ∧ VRel F w (.iface t (.ptr b o')) (v1.getD 0 undef) := by
          cases h1 with | fn _ _ _ _ _ hs1 hs2 h1 h2 => exact ⟨rfl, hs1, h1 0 _ rfl⟩
        have h0 : v1[0]? = some (.iface t (.pointer (some ⟨b, o', none⟩))) := by
          have hlt : 0 < v1.size := by omega
          have e1 : v1.getD 0 undef = v1[0] := by simp [Array.getD, hlt]
          rw [e1] at hr
          rw [Array.getElem?_eq_getElem hlt]
          revert hr
          generalize v1[0] = u
          intro hr
          cases hr with
          | iface _ _ _ h => cases h; rfl
        refine ⟨.func (.method m) v1 v2, fun w' => ?_, h2⟩
        have hn := ha ⟨b, o', none⟩ w'
        simp only [execOp, ho, hv, h0, Sem.run_bind, run_program, Result.andThen_ok, hn]
        rfl
      | _ => rw [hv] at h1; cases h1
    · exact h.elim
  · exact saysB_unvia (binA_sound ok (ρ := fun x => unvia (ρ x)) h)
  · exact un_sound h
  · exact conv_sound ok h
  · rename_i t x
    split at h
    · exact h.elim
    · rename_i i hn hi
      exact ⟨_, h, iface_sound ok hi (fun e => hn i.size i.bytes i.zero (by rw [← e]))⟩
    · exact h.elim
  · exact ⟨_, h, makeFunc_sound⟩
  · exact saysB_unvia (slice_sound ok (ρ := fun x => unvia (ρ x)) h)
  · exact fieldAddr_sound ok h
  · exact field_sound ok h
  · exact saysB_unvia (indexAddr_sound ok (ρ := fun x => unvia (ρ x)) h)
  · rename_i x tx t ok2
    split at h
    · rename_i e s b t' v ht hx
      exact assert_sound ok ht rfl (.inl ⟨t', v, hx, h⟩)
    · rename_i e s b ht hx
      exact assert_sound ok ht rfl (.inr ⟨hx, h⟩)
    · exact h.elim
  · split at h
    · rename_i vs hx
      split at h
      · rename_i v hv; exact ⟨v, h, extract_sound hx hv⟩
      · exact h.elim
    · exact h.elim
  · rename_i args tys
    split at h
    · rename_i x t hx ht
      obtain rfl : args = #[x] := by cases args; simp_all
      split at h
      · rename_i i hi; exact saysB_unvia (len_sound ok ht hi (ρ := fun x => unvia (ρ x)) h)
      · exact h.elim
    · exact h.elim
  · rename_i args tys
    split at h
    · rename_i x y hx
      obtain rfl : args = #[x, y] := by cases args; simp_all
      exact min_sound h
    · exact h.elim
  · rename_i args tys
    split at h
    · rename_i x y hx
      obtain rfl : args = #[x, y] := by cases args; simp_all
      exact max_sound h
    · exact h.elim
  · exact h.elim

theorem opD_sound (ok : TTok P TT) {op : Op} {ρ : Operand → AV} {σ : Hp} {K : AV → Prop} (h : opD P TT op ρ σ K) : ∃ v, K v ∧ Says P op ρ σ v := by
  cases hb : blindB op with
  | true =>
    obtain ⟨v, h1, h2⟩ := opD_blind ok hb h
    exact ⟨v, h1, h2.says σ⟩
  | false =>
    cases op with
    | load t a =>
      have h : (match TT t with | some i => loadW i (ρ a) σ K | none => False) := h
      split at h
      · rename_i i hi; exact load_sound ok hi h
      · exact h.elim
    | _ => cases hb
end
end Go.Proofs.Ytiihcgmnmcdcfaa
