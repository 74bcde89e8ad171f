/-
  The walk's words are sound: what a value stands for outlives what the run does; an operation that leaves the memory alone does what the walk says. Over any program.
-/
import Derived.Test.YtiihcgmnmcdcfaaAw
import Derived.Deep.MidRow
namespace Go.Proofs.Ytiihcgmnmcdcfaa
open Go.RowKit

/-! ### Types -/
def TK.fits : TypeDesc → TK → Bool
  | .int k, .int k' => decide (k = k')
  | .bool, .bool => true
  | .string, .str => true
  | .slice e, .slice e' => decide (e = e')
  | .pointer e, .ptr e' => decide (e = e')
  | .struct fs, .strct l => decide (fs.toList.map (fun f => (f.offset, f.type)) = l)
  | .array n e, .arr n' e' => decide (n = n') && decide (e = e')
  | .interface _, .iface => true
  | .func _ _ _, .func => true
  | .map k e, .map k' e' => decide (k = k') && decide (e = e')
  | _, _ => false
def AV.isVal : AV → Value → Bool
  | .int k n, .int k' n' => decide (k = k') && decide (n = n')
  | .bool b, .bool b' => b == b'
  | .str s, .string s' => decide (s.size = 0) && decide (s'.size = 0)
  | .nilp, .pointer none => true
  | .nils, .slice none 0 0 => true
  | .nilif, .nilIface => true
  | .nilfn, .nilFunc => true
  | _, _ => false
def zeroB : List AV → List Value → Bool
  | [], [] => true
  | x :: xs, v :: vs => x.isVal v && zeroB xs vs
  | _, _ => false
def isAggV : Value → Bool
  | .agg _ => true
  | _ => false
def tiOk (P : Program) (t : TypeId) (i : TI) : Bool :=
  match P.info? t, P.underlying t with
  | some j, some d => decide (j.size = i.size) && (decide (j.bytes = i.bytes ∧ i.zero.length = i.size) && (TK.fits d i.k && (match j.zero with | some z => zeroB i.zero z.cells.toList && (i.wide || !isAggV z) | none => false)))
  | _, _ => false
def TTok (P : Program) (TT : TypeId → Option TI) : Prop := ∀ t i, TT t = some i → tiOk P t i = true
def ttAll (P : Program) (TT : TypeId → Option TI) (n : Nat) : Bool := (List.range n).all fun t => match TT t with | some i => tiOk P t i | none => true
theorem ttok_of {P : Program} {TT : TypeId → Option TI} {n : Nat} (h : ttAll P TT n = true) (ho : ∀ t, n ≤ t → TT t = none) : TTok P TT := by
  intro t i hi
  by_cases ht : t < n
  · have := List.all_eq_true.1 h t (List.mem_range.2 ht)
    rw [hi] at this
    exact this
  · rw [ho t (Nat.le_of_not_lt ht)] at hi
    cases hi

theorem tt_fact {P : Program} {TT : TypeId → Option TI} (ok : TTok P TT) {t : TypeId} {i : TI} (h : TT t = some i) :
    ∃ j d z, P.info? t = some j ∧ P.underlying t = some d ∧ j.size = i.size ∧ (j.bytes = i.bytes ∧ i.zero.length = i.size) ∧ TK.fits d i.k = true ∧ j.zero = some z ∧ zeroB i.zero z.cells.toList = true := by
  have h1 := ok t i h
  unfold tiOk at h1
  split at h1
  · rename_i j d hj hd
    simp only [Bool.and_eq_true, decide_eq_true_eq] at h1
    obtain ⟨h2, h3, h4, h5⟩ := h1
    split at h5
    · rename_i z hz
      simp only [Bool.and_eq_true] at h5
      exact ⟨j, d, z, hj, hd, h2, h3, h4, hz, h5.1⟩
    · cases h5
  · cases h1
theorem tt_zero {P : Program} {TT : TypeId → Option TI} (ok : TTok P TT) {t : TypeId} {i : TI} (h : TT t = some i) (hw : i.wide = false) : ∃ j z, P.info? t = some j ∧ j.zero = some z ∧ isAggV z = false := by
  have h1 := ok t i h
  unfold tiOk at h1
  split at h1
  · rename_i j d hj hd
    simp only [Bool.and_eq_true, decide_eq_true_eq] at h1
    obtain ⟨h2, h3, h4, h5⟩ := h1
    split at h5
    · rename_i z hz
      simp only [Bool.and_eq_true, Bool.or_eq_true, hw, Bool.false_eq_true, false_or, Bool.not_eq_true'] at h5
      exact ⟨j, z, hj, hz, h5.2⟩
    · cases h5
  · cases h1
theorem fits_int {d : TypeDesc} {k : IntKind} (h : TK.fits d (.int k) = true) : d = .int k := by cases d <;> simp_all [TK.fits]
theorem fits_bool {d : TypeDesc} (h : TK.fits d .bool = true) : d = .bool := by cases d <;> simp_all [TK.fits]
theorem fits_slice {d : TypeDesc} {e : TypeId} (h : TK.fits d (.slice e) = true) : d = .slice e := by cases d <;> simp_all [TK.fits]
theorem fits_ptr {d : TypeDesc} {e : TypeId} (h : TK.fits d (.ptr e) = true) : d = .pointer e := by cases d <;> simp_all [TK.fits]
theorem fits_strct {d : TypeDesc} {l : List (Nat × TypeId)} (h : TK.fits d (.strct l) = true) : ∃ fs, d = .struct fs ∧ fs.toList.map (fun f => (f.offset, f.type)) = l := by cases d <;> simp_all [TK.fits]
theorem fits_arr {d : TypeDesc} {n : Nat} {e : TypeId} (h : TK.fits d (.arr n e) = true) : d = .array n e := by cases d <;> simp_all [TK.fits]
theorem fits_iface {d : TypeDesc} (h : TK.fits d .iface = true) : ∃ m, d = .interface m := by cases d <;> simp_all [TK.fits]
theorem fits_func {d : TypeDesc} (h : TK.fits d .func = true) : ∃ a b c, d = .func a b c := by cases d <;> simp_all [TK.fits]
theorem fits_wide {d : TypeDesc} {i : TI} (h : TK.fits d i.k = true) : d.isRow = i.wide := by
  unfold TI.wide
  cases hk : i.k <;> rw [hk] at h <;> cases d <;> first | rfl | simp [TK.fits] at h

theorem isVal_rel {F : Nat → Prop} {w : World} {x : AV} {v : Value} (h : x.isVal v = true) : VRel F w x v ∧ x.leaf = true := by
  unfold AV.isVal at h
  split at h
  · simp only [Bool.and_eq_true, decide_eq_true_eq] at h; obtain ⟨rfl, rfl⟩ := h; exact ⟨.int _ _, rfl⟩
  · simp only [beq_iff_eq] at h; subst h; exact ⟨.bool _, rfl⟩
  · rename_i s s'
    simp only [Bool.and_eq_true, decide_eq_true_eq] at h
    obtain ⟨h1, h2⟩ := h
    have : s = s' := by
      apply ByteArray.ext
      apply Array.ext
      · exact h1.trans h2.symm
      · intro i hi _; have : i < s.size := hi; omega
    subst this
    exact ⟨.str _, rfl⟩
  · exact ⟨.nilp, rfl⟩
  · exact ⟨.nils, rfl⟩
  · exact ⟨.nilif, rfl⟩
  · exact ⟨.nilfn, rfl⟩
  · cases h
theorem zeroB_rel {F : Nat → Prop} {w : World} : ∀ {xs : List AV} {vs : List Value}, zeroB xs vs = true → xs.length = vs.length ∧ ∀ i x, xs[i]? = some x → VRel F w x (vs.getD i undef) ∧ x.leaf = true
  | [], [], _ => ⟨rfl, fun i x h => by simp at h⟩
  | x :: xs, v :: vs, h => by
    simp only [zeroB, Bool.and_eq_true] at h
    obtain ⟨h1, h2⟩ := zeroB_rel (F := F) (w := w) h.2
    refine ⟨by simp [h1], fun i y hi => ?_⟩
    cases i with
    | zero => simp at hi; subst hi; simpa using isVal_rel h.1
    | succ i => simpa using h2 i y (by simpa using hi)
  | [], _ :: _, h => by simp [zeroB] at h
  | _ :: _, [], h => by simp [zeroB] at h

/-! ### What stands stays -/
theorem Stp.refl (F : Nat → Prop) (w : World) : Stp F w F w := ⟨rfl, rfl, rfl, Nat.le_refl _, fun _ h => h, fun _ _ => rfl, fun _ c _ fz h => ⟨c, fz, h, rfl⟩⟩
theorem Stp.trans {F F' F'' : Nat → Prop} {w w' w'' : World} (h : Stp F w F' w') (k : Stp F' w' F'' w'') : Stp F w F'' w'' :=
  ⟨k.os.trans h.os, k.tape.trans h.tape, k.output.trans h.output, Nat.le_trans h.size k.size, fun b hb => k.sub b (h.sub b hb), fun b hb => (k.fix b (h.sub b hb)).trans (h.fix b hb),
    fun b c T fz hb => by
      obtain ⟨c', fz', h1, h2⟩ := h.rows b c T fz hb
      obtain ⟨c'', fz'', h3, h4⟩ := k.rows b c' T fz' h1
      exact ⟨c'', fz'', h3, h4.trans h2⟩⟩

theorem cell_fix {w w' : World} {b : Nat} (h : w'.heap[b]? = w.heap[b]?) (o : Nat) : w'.cell? ⟨b, o, none⟩ = w.cell? ⟨b, o, none⟩ := World.cell?_of_block (w := w) (a := ⟨b, o, none⟩) h
theorem Lies.fix {w w' : World} {b o : Nat} {cs : List Value} (h : Lies w b o cs) (hb : w'.heap[b]? = w.heap[b]?) : Lies w' b o cs := fun j u hu => (cell_fix hb _).trans (h j u hu)
theorem FReads.mono {F F' : Nat → Prop} {w w' : World} (hst : Stp F w F' w') : ∀ (s : Sh) (cs : List Value) (d : s.T), FReads F w s cs d → FReads F' w' s cs d := by
  intro s
  induction s with
  | int k => exact fun _ _ h => h
  | bool => exact fun _ _ h => h
  | str => exact fun _ _ h => h
  | nil => exact fun _ _ h => h
  | slice e ih =>
    rintro cs l ⟨a, c, h1, h2, h3, h0, h4⟩
    refine ⟨a, c, h1, h2, h3, h0, fun hne => ?_⟩
    obtain ⟨b, o, rfl, hF, hi⟩ := h4 hne
    refine ⟨b, o, rfl, hst.sub b hF, fun i h => ?_⟩
    obtain ⟨cs', q1, q2, q3⟩ := hi i h
    exact ⟨cs', q1, q2.fix (hst.fix b hF), ih _ _ q3⟩
  | field f r ihf ihr =>
    rintro cs d ⟨c1, c2, h1, h2, h3, h4⟩
    exact ⟨c1, c2, h1, h2, ihf _ _ h3, ihr _ _ h4⟩
theorem MRef.mono {F F' : Nat → Prop} {w w' : World} (hst : Stp F w F' w') {b off len e : Nat} {a : Addr} {cap : Nat} (h : MRef w b off len e a cap) : MRef w' b off len e a cap := by
  obtain ⟨c, T, fz, h1, h2, h3, h4⟩ := h
  obtain ⟨c', fz', h5, h6⟩ := hst.rows b c T fz h1
  exact ⟨c', T, fz', h5, h2, h3, by rw [h6]; exact h4⟩
theorem VRel.mono {F F' : Nat → Prop} {w w' : World} (hst : Stp F w F' w') {x : AV} {v : Value} (h : VRel F w x v) : VRel F' w' x v := by
  induction h with
  | int k n => exact .int k n
  | bool b => exact .bool b
  | str s => exact .str s
  | fsl e l v h => exact .fsl e l v (FReads.mono hst _ _ _ h)
  | zsl a => exact .zsl a
  | esl a c h => exact .esl a c h
  | nils => exact .nils
  | mref b off len e a cap h => exact .mref b off len e a cap (h.mono hst)
  | nilp => exact .nilp
  | ptr b off => exact .ptr b off
  | eptr cs b o f hF h1 hl h ih => exact .eptr cs b o f (hst.sub b hF) (fun i x hx => (cell_fix (hst.fix b hF) _).trans (h1 i x hx)) hl ih
  | agg cs vs hs hl h ih => exact .agg cs vs hs hl ih
  | tup cs vs hs h ih => exact .tup cs vs hs ih
  | iface t a v h ih => exact .iface t a v ih
  | nilif => exact .nilif
  | fn f c1 c2 v1 v2 hs1 hs2 h1 h2 ih1 ih2 => exact .fn f c1 c2 v1 v2 hs1 hs2 ih1 ih2
  | nilfn => exact .nilfn
  | any v => exact .any v
  | via x v hl h ih => exact .via x v hl ih
theorem VRel.unvia {F : Nat → Prop} {w : World} {x : AV} {v : Value} (h : VRel F w x v) : VRel F w (Go.Proofs.Ytiihcgmnmcdcfaa.unvia x) v := by
  cases h with
  | via x v hl h => exact h
  | int k n => exact .int k n
  | bool b => exact .bool b
  | str s => exact .str s
  | fsl e l v h => exact .fsl e l v h
  | zsl a => exact .zsl a
  | esl a c h => exact .esl a c h
  | nils => exact .nils
  | mref b off len e a cap h => exact .mref b off len e a cap h
  | nilp => exact .nilp
  | ptr b off => exact .ptr b off
  | eptr cs b o f hF h1 hl h => exact .eptr cs b o f hF h1 hl h
  | agg cs vs hs hl h => exact .agg cs vs hs hl h
  | tup cs vs hs h => exact .tup cs vs hs h
  | iface t a v h => exact .iface t a v h
  | nilif => exact .nilif
  | fn f c1 c2 v1 v2 hs1 hs2 h1 h2 => exact .fn f c1 c2 v1 v2 hs1 hs2 h1 h2
  | nilfn => exact .nilfn
  | any v => exact .any v
theorem VRels.mono {F F' : Nat → Prop} {w w' : World} (hst : Stp F w F' w') {xs : List AV} {vs : Array Value} (h : VRels F w xs vs) : VRels F' w' xs vs := ⟨h.1, fun i x hx => (h.2 i x hx).mono hst⟩

theorem VRel.one {F : Nat → Prop} {w : World} {x : AV} {v : Value} (h : VRel F w x v) (hl : x.leaf = true) : v.oneCell' = true := by
  induction h with
  | fsl e l v h =>
    obtain ⟨a, c, h1, _⟩ := h
    obtain rfl := List.singleton_inj.1 h1
    rfl
  | agg => cases hl
  | tup => cases hl
  | any => cases hl
  | via x v h1 h ih => exact ih h1
  | _ => rfl
theorem VRel.fslv {F : Nat → Prop} {w : World} {e : Sh} {l : List e.T} {v : Value} (h : VRel F w (.fsl e l) v) : ∃ a c, v = .slice a l.length c ∧ l.length ≤ c ∧ c ≤ maxLen ∧
      (l ≠ [] → ∃ b o, a = some ⟨b, o, none⟩ ∧ F b ∧ ∀ i, (h : i < l.length) → ∃ cs', cs'.length = e.size ∧ Lies w b (o + i * e.size) cs' ∧ FReads F w e cs' l[i]) := by
  cases h with
  | fsl e l v h =>
    obtain ⟨a, c, h1, h2, h3, _, h4⟩ := h
    exact ⟨a, c, List.singleton_inj.1 h1, h2, h3, h4⟩
theorem VRel.fsl0 {F : Nat → Prop} {w : World} {e : Sh} {l : List e.T} {v : Value} (h : VRel F w (.fsl e l) v) {a : Option Addr} {n c : Nat} (hv : v = .slice a n c) : a = none → c = 0 := by
  cases h with
  | fsl e l v h =>
    obtain ⟨a', c', h1, h2, h3, h4, _⟩ := h
    have := List.singleton_inj.1 h1
    rw [hv] at this
    cases this
    exact h4
/-- A datum's cells stand for its values. -/
theorem FReads.cells {F : Nat → Prop} {w : World} : ∀ (s : Sh) (cs : List Value) (d : s.T), FReads F w s cs d → (s.cells d).length = cs.length ∧ ∀ i x, (s.cells d)[i]? = some x → x.leaf = true ∧ VRel F w x (cs.getD i undef) := by
  intro s
  induction s with
  | int k => rintro cs d h; obtain rfl : cs = [.int k d] := h; exact ⟨rfl, fun i x hx => by cases i <;> simp [Sh.cells] at hx; subst hx; exact ⟨rfl, .int _ _⟩⟩
  | bool => rintro cs d h; obtain rfl : cs = [.bool d] := h; exact ⟨rfl, fun i x hx => by cases i <;> simp [Sh.cells] at hx; subst hx; exact ⟨rfl, .bool _⟩⟩
  | str => rintro cs d h; obtain rfl : cs = [.string d] := h; exact ⟨rfl, fun i x hx => by cases i <;> simp [Sh.cells] at hx; subst hx; exact ⟨rfl, .str _⟩⟩
  | nil => rintro cs d h; obtain rfl : cs = [] := h; exact ⟨rfl, fun i x hx => by simp [Sh.cells] at hx⟩
  | slice e ih =>
    rintro cs l h
    have h' := h
    obtain ⟨a, c, rfl, _⟩ := h'
    exact ⟨rfl, fun i x hx => by cases i <;> simp [Sh.cells] at hx; subst hx; exact ⟨rfl, .fsl e l _ h⟩⟩
  | field f r ihf ihr =>
    rintro cs d ⟨c1, c2, rfl, h2, h3, h4⟩
    obtain ⟨a1, a2⟩ := ihf _ _ h3
    obtain ⟨b1, b2⟩ := ihr _ _ h4
    refine ⟨by simp [Sh.cells, a1, b1], fun i x hx => ?_⟩
    simp only [Sh.cells] at hx
    by_cases hi : i < (f.cells d.1).length
    · rw [List.getElem?_append_left hi] at hx
      have := a2 i x hx
      rw [List.getD_eq_getElem?_getD, List.getElem?_append_left (by omega), ← List.getD_eq_getElem?_getD]
      exact this
    · rw [List.getElem?_append_right (by omega)] at hx
      have := b2 _ x hx
      rw [List.getD_eq_getElem?_getD, List.getElem?_append_right (by omega), ← List.getD_eq_getElem?_getD, ← a1]
      exact this
theorem Sh.cells_length (s : Sh) (d : s.T) : (s.cells d).length = s.size := by
  induction s with
  | field f r ihf ihr => simp [Sh.cells, Sh.size, ihf, ihr]
  | _ => rfl
end Go.Proofs.Ytiihcgmnmcdcfaa
