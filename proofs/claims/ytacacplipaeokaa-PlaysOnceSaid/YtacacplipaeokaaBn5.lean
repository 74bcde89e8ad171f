/-
  Ar: what the claim uses of them.
-/
import Derived.ChangeKeysEq
import Derived.Deep.MidRow
import Derived.Laws.Pointers
import Derived.Laws.Small
import Derived.Laws.StructEq
import Derived.Test.YtacacplipaeokaaBn4
namespace Go.Proofs.Ytacacplipaeokaa
open Go.RowKit
def TK.fits : TypeDesc → TK → Bool
  | .int k, .int k' => decide (k = k')
  | .bool, .bool => true
  | .string, .str => true
  | .slice e, .slice e' => decide (e = e')
  | .pointer e, .ptr e' => decide (e = e')
  | .struct fs, .strct l => decide (fs.toList.map (fun f => (f.offset, f.type)) = l)
  | .array n e, .arr n' e' => decide (n = n') && decide (e = e')
  | .interface _, .iface => true
  | .func _ _ _, .func => true
  | .map k e, .map k' e' => decide (k = k') && decide (e = e')
  | .float .f64, .flt => true
  | .complex .f64, .cpx => true
  | _, _ => false
def AV.isVal : AV → Value → Bool
  | .int k n, .int k' n' => decide (k = k') && decide (n = n')
  | .bool b, .bool b' => b == b'
  | .str s, .string s' => decide (s.size = 0) && decide (s'.size = 0)
  | .nilp, .pointer none => true
  | .nils, .slice none 0 0 => true
  | .nilif, .nilIface => true
  | .nilfn, .nilFunc => true
  | .nilm, .map none => true
  | .flt n, .float .f64 b => decide (n = 0) && decide (b = 0)
  | .cpx n m, .complex .f64 a b => decide (n = 0 ∧ m = 0) && decide (a = 0 ∧ b = 0)
  | _, _ => false
def zeroB : List AV → List Value → Bool
  | [], [] => true
  | x :: xs, v :: vs => x.isVal v && zeroB xs vs
  | _, _ => false
def isAggV : Value → Bool
  | .agg _ => true
  | _ => false
def tiOk (P : Program) (t : TypeId) (i : TI) : Bool :=
  match P.info? t, P.underlying t with
  | some j, some d => decide (j.size = i.size) && (decide (j.bytes = i.bytes ∧ i.zero.length = i.size) && (TK.fits d i.k && (match j.zero with | some z => zeroB i.zero z.cells.toList && (i.wide || !isAggV z) | none => false)))
  | _, _ => false
def TTok (P : Program) (TT : TypeId → Option TI) : Prop := ∀ t i, TT t = some i → tiOk P t i = true
def ttAll (P : Program) (TT : TypeId → Option TI) (n : Nat) : Bool := (List.range n).all fun t => match TT t with | some i => tiOk P t i | none => true
theorem ttok_of {P : Program} {TT : TypeId → Option TI} {n : Nat} (h : ttAll P TT n = true) (ho : ∀ t, n ≤ t → TT t = none) : TTok P TT := by
  intro t i hi
  by_cases ht : t < n
  · have := List.all_eq_true.1 h t (List.mem_range.2 ht)
    rw [hi] at this
    exact this
  · rw [ho t (Nat.le_of_not_lt ht)] at hi
    cases hi
theorem tt_fact {P : Program} {TT : TypeId → Option TI} (ok : TTok P TT) {t : TypeId} {i : TI} (h : TT t = some i) :
    ∃ j d z, P.info? t = some j ∧ P.underlying t = some d ∧ j.size = i.size ∧ (j.bytes = i.bytes ∧ i.zero.length = i.size) ∧ TK.fits d i.k = true ∧ j.zero = some z ∧ zeroB i.zero z.cells.toList = true := by
  have h1 := ok t i h
  unfold tiOk at h1
  split at h1
  · rename_i j d hj hd
    simp only [Bool.and_eq_true, decide_eq_true_eq] at h1
    obtain ⟨h2, h3, h4, h5⟩ := h1
    split at h5
    · rename_i z hz
      simp only [Bool.and_eq_true] at h5
      exact ⟨j, d, z, hj, hd, h2, h3, h4, hz, h5.1⟩
    · cases h5
  · cases h1
theorem tt_zero {P : Program} {TT : TypeId → Option TI} (ok : TTok P TT) {t : TypeId} {i : TI} (h : TT t = some i) (hw : i.wide = false) : ∃ j z, P.info? t = some j ∧ j.zero = some z ∧ isAggV z = false := by
  have h1 := ok t i h
  unfold tiOk at h1
  split at h1
  · rename_i j d hj hd
    simp only [Bool.and_eq_true, decide_eq_true_eq] at h1
    obtain ⟨h2, h3, h4, h5⟩ := h1
    split at h5
    · rename_i z hz
      simp only [Bool.and_eq_true, Bool.or_eq_true, hw, Bool.false_eq_true, false_or, Bool.not_eq_true'] at h5
      exact ⟨j, z, hj, hz, h5.2⟩
    · cases h5
  · cases h1
theorem fits_int {d : TypeDesc} {k : IntKind} (h : TK.fits d (.int k) = true) : d = .int k := by cases d <;> simp_all [TK.fits]
theorem fits_bool {d : TypeDesc} (h : TK.fits d .bool = true) : d = .bool := by cases d <;> simp_all [TK.fits]
theorem fits_slice {d : TypeDesc} {e : TypeId} (h : TK.fits d (.slice e) = true) : d = .slice e := by cases d <;> simp_all [TK.fits]
theorem fits_map {d : TypeDesc} {k e : TypeId} (h : TK.fits d (.map k e) = true) : d = .map k e := by cases d <;> simp_all [TK.fits]
theorem fits_ptr {d : TypeDesc} {e : TypeId} (h : TK.fits d (.ptr e) = true) : d = .pointer e := by cases d <;> simp_all [TK.fits]
theorem fits_strct {d : TypeDesc} {l : List (Nat × TypeId)} (h : TK.fits d (.strct l) = true) : ∃ fs, d = .struct fs ∧ fs.toList.map (fun f => (f.offset, f.type)) = l := by cases d <;> simp_all [TK.fits]
theorem fits_arr {d : TypeDesc} {n : Nat} {e : TypeId} (h : TK.fits d (.arr n e) = true) : d = .array n e := by cases d <;> simp_all [TK.fits]
theorem fits_iface {d : TypeDesc} (h : TK.fits d .iface = true) : ∃ m, d = .interface m := by cases d <;> simp_all [TK.fits]
theorem fits_func {d : TypeDesc} (h : TK.fits d .func = true) : ∃ a b c, d = .func a b c := by cases d <;> simp_all [TK.fits]
theorem fits_flt {d : TypeDesc} (h : TK.fits d .flt = true) : d = .float .f64 := by
  unfold TK.fits at h
  split at h <;> simp_all
theorem fits_wide {d : TypeDesc} {i : TI} (h : TK.fits d i.k = true) : d.isRow = i.wide := by
  unfold TI.wide
  cases hk : i.k <;> rw [hk] at h <;> cases d <;> first | rfl | simp [TK.fits] at h
theorem isVal_rel {F : Nat → Prop} {w : World} {x : AV} {v : Value} (h : x.isVal v = true) : VRel F w x v ∧ x.leaf = true := by
  unfold AV.isVal at h
  split at h
  · simp only [Bool.and_eq_true, decide_eq_true_eq] at h; obtain ⟨rfl, rfl⟩ := h; exact ⟨.int _ _, rfl⟩
  · simp only [beq_iff_eq] at h; subst h; exact ⟨.bool _, rfl⟩
  · rename_i s s'
    simp only [Bool.and_eq_true, decide_eq_true_eq] at h
    obtain ⟨h1, h2⟩ := h
    have : s = s' := by
      apply ByteArray.ext
      apply Array.ext
      · exact h1.trans h2.symm
      · intro i hi _; have : i < s.size := hi; omega
    subst this
    exact ⟨.str _, rfl⟩
  · exact ⟨.nilp, rfl⟩
  · exact ⟨.nils, rfl⟩
  · exact ⟨.nilif, rfl⟩
  · exact ⟨.nilfn, rfl⟩
  · exact ⟨.nilm, rfl⟩
  · simp only [Bool.and_eq_true, decide_eq_true_eq] at h; obtain ⟨rfl, rfl⟩ := h; exact ⟨.flt _ _ isF_zero, rfl⟩
  · simp only [Bool.and_eq_true, decide_eq_true_eq] at h; obtain ⟨⟨rfl, rfl⟩, rfl, rfl⟩ := h; exact ⟨.cpx _ _ _ _ isF_zero isF_zero, rfl⟩
  · cases h
theorem zeroB_rel {F : Nat → Prop} {w : World} : ∀ {xs : List AV} {vs : List Value}, zeroB xs vs = true → xs.length = vs.length ∧ ∀ i x, xs[i]? = some x → VRel F w x (vs.getD i undef) ∧ x.leaf = true
  | [], [], _ => ⟨rfl, fun i x h => by simp at h⟩
  | x :: xs, v :: vs, h => by
    simp only [zeroB, Bool.and_eq_true] at h
    obtain ⟨h1, h2⟩ := zeroB_rel (F := F) (w := w) h.2
    refine ⟨by simp [h1], fun i y hi => ?_⟩
    cases i with
    | zero => simp at hi; subst hi; simpa using isVal_rel h.1
    | succ i => simpa using h2 i y (by simpa using hi)
  | [], _ :: _, h => by simp [zeroB] at h
  | _ :: _, [], h => by simp [zeroB] at h
theorem Stp.refl (F : Nat → Prop) (w : World) : Stp F w F w := ⟨rfl, rfl, rfl, Nat.le_refl _, fun _ h => h, fun _ _ => rfl, fun _ c _ fz h => ⟨c, fz, h, rfl⟩, Nat.le_refl _⟩
theorem Stp.trans {F F' F'' : Nat → Prop} {w w' w'' : World} (h : Stp F w F' w') (k : Stp F' w' F'' w'') : Stp F w F'' w'' :=
  ⟨k.os.trans h.os, k.tape.trans h.tape, k.output.trans h.output, Nat.le_trans h.size k.size, fun b hb => k.sub b (h.sub b hb), fun b hb => (k.fix b (h.sub b hb)).trans (h.fix b hb),
    fun b c T fz hb => by
      obtain ⟨c', fz', h1, h2⟩ := h.rows b c T fz hb
      obtain ⟨c'', fz'', h3, h4⟩ := k.rows b c' T fz' h1
      exact ⟨c'', fz'', h3, h4.trans h2⟩, Nat.le_trans h.drawn k.drawn⟩
theorem cell_fix {w w' : World} {b : Nat} (h : w'.heap[b]? = w.heap[b]?) (o : Nat) : w'.cell? ⟨b, o, none⟩ = w.cell? ⟨b, o, none⟩ := World.cell?_of_block (w := w) (a := ⟨b, o, none⟩) h
theorem Lies.fix {w w' : World} {b o : Nat} {cs : List Value} (h : Lies w b o cs) (hb : w'.heap[b]? = w.heap[b]?) : Lies w' b o cs := fun j u hu => (cell_fix hb _).trans (h j u hu)
theorem CellsAt.mono {F F' : Nat → Prop} {w w' : World} (hst : Stp F w F' w') {b : Nat} (h : CellsAt w b) : CellsAt w' b := by
  obtain ⟨c, T, fz, h⟩ := h
  obtain ⟨c', fz', h', _⟩ := hst.rows b c T fz h
  exact ⟨c', T, fz', h'⟩
theorem FC.mono {F F' : Nat → Prop} {w w' : World} (hst : Stp F w F' w') {b : Nat} (h : FC F w b) : FC F' w' b := ⟨hst.sub b h.1, h.2.mono hst⟩
theorem FReads.mono {F F' : Nat → Prop} {w w' : World} (hst : Stp F w F' w') : ∀ (s : Sh) (cs : List Value) (d : s.T), FReads F w s cs d → FReads F' w' s cs d := by
  intro s
  induction s with
  | int k => exact fun _ _ h => h
  | bool => exact fun _ _ h => h
  | str => exact fun _ _ h => h
  | nil => exact fun _ _ h => h
  | slice e ih =>
    rintro cs l ⟨a, c, h1, h2, h3, h0, h4⟩
    refine ⟨a, c, h1, h2, h3, h0, fun hne => ?_⟩
    obtain ⟨b, o, rfl, hF, hi⟩ := h4 hne
    refine ⟨b, o, rfl, hF.mono hst, fun i h => ?_⟩
    obtain ⟨cs', q1, q2, q3⟩ := hi i h
    exact ⟨cs', q1, q2.fix (hst.fix b hF.1), ih _ _ q3⟩
  | field f r ihf ihr =>
    rintro cs d ⟨c1, c2, h1, h2, h3, h4⟩
    exact ⟨c1, c2, h1, h2, ihf _ _ h3, ihr _ _ h4⟩
theorem MRef.mono {F F' : Nat → Prop} {w w' : World} (hst : Stp F w F' w') {b off len e : Nat} {a : Addr} {cap : Nat} (h : MRef w b off len e a cap) : MRef w' b off len e a cap := by
  obtain ⟨c, T, fz, h1, h2, h3, h4⟩ := h
  obtain ⟨c', fz', h5, h6⟩ := hst.rows b c T fz h1
  exact ⟨c', T, fz', h5, h2, h3, by rw [h6]; exact h4⟩
theorem VRel.mono {F F' : Nat → Prop} {w w' : World} (hst : Stp F w F' w') {x : AV} {v : Value} (h : VRel F w x v) : VRel F' w' x v := by
  induction h with
  | int k n => exact .int k n
  | bool b => exact .bool b
  | str s => exact .str s
  | fsl e l v h => exact .fsl e l v (FReads.mono hst _ _ _ h)
  | zsl a => exact .zsl a
  | esl a c h => exact .esl a c h
  | nils => exact .nils
  | mref b off len e a cap h => exact .mref b off len e a cap (h.mono hst)
  | nilp => exact .nilp
  | ptr b off h => exact .ptr b off (h.mono hst)
  | mapr b => exact .mapr b
  | itr b => exact .itr b
  | eptr cs b o f hF h1 hl h ih => exact .eptr cs b o f (hF.mono hst) (fun i x hx => (cell_fix (hst.fix b hF.1) _).trans (h1 i x hx)) hl ih
  | agg cs vs hs hl h ih => exact .agg cs vs hs hl ih
  | tup cs vs hs h ih => exact .tup cs vs hs ih
  | iface t a v h ih => exact .iface t a v ih
  | nilif => exact .nilif
  | fn f c1 c2 v1 v2 hs1 hs2 h1 h2 ih1 ih2 => exact .fn f c1 c2 v1 v2 hs1 hs2 ih1 ih2
  | nilfn => exact .nilfn
  | nilm => exact .nilm
  | flt n b h => exact .flt n b h
  | cpx n m a b h1 h2 => exact .cpx n m a b h1 h2
  | any v => exact .any v
  | via x v hl h ih => exact .via x v hl ih
theorem VRel.unvia {F : Nat → Prop} {w : World} {x : AV} {v : Value} (h : VRel F w x v) : VRel F w (Go.Proofs.Ytacacplipaeokaa.unvia x) v := by
  cases h with
  | via x v hl h => exact h
  | int k n => exact .int k n
  | bool b => exact .bool b
  | str s => exact .str s
  | fsl e l v h => exact .fsl e l v h
  | zsl a => exact .zsl a
  | esl a c h => exact .esl a c h
  | nils => exact .nils
  | mref b off len e a cap h => exact .mref b off len e a cap h
  | nilp => exact .nilp
  | ptr b off h => exact .ptr b off h
  | mapr b => exact .mapr b
  | itr b => exact .itr b
  | eptr cs b o f hF h1 hl h => exact .eptr cs b o f hF h1 hl h
  | agg cs vs hs hl h => exact .agg cs vs hs hl h
  | tup cs vs hs h => exact .tup cs vs hs h
  | iface t a v h => exact .iface t a v h
  | nilif => exact .nilif
  | fn f c1 c2 v1 v2 hs1 hs2 h1 h2 => exact .fn f c1 c2 v1 v2 hs1 hs2 h1 h2
  | nilfn => exact .nilfn
  | nilm => exact .nilm
  | flt n b h => exact .flt n b h
  | cpx n m a b h1 h2 => exact .cpx n m a b h1 h2
  | any v => exact .any v
theorem VRels.mono {F F' : Nat → Prop} {w w' : World} (hst : Stp F w F' w') {xs : List AV} {vs : Array Value} (h : VRels F w xs vs) : VRels F' w' xs vs := ⟨h.1, fun i x hx => (h.2 i x hx).mono hst⟩
theorem VRel.one {F : Nat → Prop} {w : World} {x : AV} {v : Value} (h : VRel F w x v) (hl : x.leaf = true) : v.oneCell' = true := by
  induction h with
  | fsl e l v h =>
    obtain ⟨a, c, h1, _⟩ := h
    obtain rfl := List.singleton_inj.1 h1
    rfl
  | agg => cases hl
  | tup => cases hl
  | any => cases hl
  | via x v h1 h ih => exact ih h1
  | _ => rfl
theorem VRel.fslv {F : Nat → Prop} {w : World} {e : Sh} {l : List e.T} {v : Value} (h : VRel F w (.fsl e l) v) : ∃ a c, v = .slice a l.length c ∧ l.length ≤ c ∧ c ≤ maxLen ∧
      (l ≠ [] → ∃ b o, a = some ⟨b, o, none⟩ ∧ FC F w b ∧ ∀ i, (h : i < l.length) → ∃ cs', cs'.length = e.size ∧ Lies w b (o + i * e.size) cs' ∧ FReads F w e cs' l[i]) := by
  cases h with
  | fsl e l v h =>
    obtain ⟨a, c, h1, h2, h3, _, h4⟩ := h
    exact ⟨a, c, List.singleton_inj.1 h1, h2, h3, h4⟩
theorem VRel.fsl0 {F : Nat → Prop} {w : World} {e : Sh} {l : List e.T} {v : Value} (h : VRel F w (.fsl e l) v) {a : Option Addr} {n c : Nat} (hv : v = .slice a n c) : a = none → c = 0 := by
  cases h with
  | fsl e l v h =>
    obtain ⟨a', c', h1, h2, h3, h4, _⟩ := h
    have := List.singleton_inj.1 h1
    rw [hv] at this
    cases this
    exact h4
/-- A datum's cells stand for its values. -/
theorem FReads.cells {F : Nat → Prop} {w : World} : ∀ (s : Sh) (cs : List Value) (d : s.T), FReads F w s cs d → (s.cells d).length = cs.length ∧ ∀ i x, (s.cells d)[i]? = some x → x.leaf = true ∧ VRel F w x (cs.getD i undef) := by
  intro s
  induction s with
  | int k => rintro cs d h; obtain rfl : cs = [.int k d] := h; exact ⟨rfl, fun i x hx => by cases i <;> simp [Sh.cells] at hx; subst hx; exact ⟨rfl, .int _ _⟩⟩
  | bool => rintro cs d h; obtain rfl : cs = [.bool d] := h; exact ⟨rfl, fun i x hx => by cases i <;> simp [Sh.cells] at hx; subst hx; exact ⟨rfl, .bool _⟩⟩
  | str => rintro cs d h; obtain rfl : cs = [.string d] := h; exact ⟨rfl, fun i x hx => by cases i <;> simp [Sh.cells] at hx; subst hx; exact ⟨rfl, .str _⟩⟩
  | nil => rintro cs d h; obtain rfl : cs = [] := h; exact ⟨rfl, fun i x hx => by simp [Sh.cells] at hx⟩
  | slice e ih =>
    rintro cs l h
    have h' := h
    obtain ⟨a, c, rfl, _⟩ := h'
    exact ⟨rfl, fun i x hx => by cases i <;> simp [Sh.cells] at hx; subst hx; exact ⟨rfl, .fsl e l _ h⟩⟩
  | field f r ihf ihr =>
    rintro cs d ⟨c1, c2, rfl, h2, h3, h4⟩
    obtain ⟨a1, a2⟩ := ihf _ _ h3
    obtain ⟨b1, b2⟩ := ihr _ _ h4
    refine ⟨by simp [Sh.cells, a1, b1], fun i x hx => ?_⟩
    simp only [Sh.cells] at hx
    by_cases hi : i < (f.cells d.1).length
    · rw [List.getElem?_append_left hi] at hx
      have := a2 i x hx
      rw [List.getD_eq_getElem?_getD, List.getElem?_append_left (by omega), ← List.getD_eq_getElem?_getD]
      exact this
    · rw [List.getElem?_append_right (by omega)] at hx
      have := b2 _ x hx
      rw [List.getD_eq_getElem?_getD, List.getElem?_append_right (by omega), ← List.getD_eq_getElem?_getD, ← a1]
      exact this
theorem Sh.cells_length (s : Sh) (d : s.T) : (s.cells d).length = s.size := by
  induction s with
  | field f r ihf ihr => simp [Sh.cells, Sh.size, ihf, ihr]
  | _ => rfl
/-- The cells cs lie in block b from o on. -/
def At (F : Nat → Prop) (w : World) (b o : Nat) (cs : List AV) : Prop := ∀ (i : Nat) (x : AV), cs[i]? = some x → x.leaf = true ∧ ∃ v, w.cell? ⟨b, o + i, none⟩ = some v ∧ VRel F w x v
theorem objM_leaf {x : AV} {o : Obj} (h : objM x = some o) : x.leaf = false := by cases x <;> first | rfl | simp [objM] at h
theorem objM_cells {x : AV} {c : Array Value} {T : TypeId} {fz : Nat × Nat} (h : objM x = some (.cells c T fz)) : False := by cases x <;> simp [objM] at h
theorem Holds.cells {F : Nat → Prop} {w : World} {b : Nat} {cs : List AV} (h : Holds F w b cs) (hc : CellsAt w b) : ¬ F b ∧ HoldsC F w b cs := by
  obtain ⟨hF, h | ⟨x, o, _, h, hx⟩ | ⟨L, t, _, h, _⟩⟩ := h
  · exact ⟨hF, h⟩
  · obtain ⟨c, T, fz, h'⟩ := hc
    rw [h] at h'; cases h'
    cases objM_cells hx
  · obtain ⟨c, T, fz, h'⟩ := hc
    rw [h] at h'; cases h'
theorem Holds.leafs {F : Nat → Prop} {w : World} {b k : Nat} {cs : List AV} {x : AV} (h : Holds F w b cs) (hk : cs[k]? = some x) (hx : x.leaf = true) : ¬ F b ∧ HoldsC F w b cs := by
  obtain ⟨hF, h | ⟨y, o, rfl, h, hy⟩ | ⟨L, t, rfl, h, _⟩⟩ := h
  · exact ⟨hF, h⟩
  · cases k with
    | zero => simp at hk; subst hk; rw [objM_leaf hy] at hx; cases hx
    | succ k => simp at hk
  · cases k with
    | zero => simp at hk; subst hk; cases hx
    | succ k => simp at hk
theorem VRel.ptr_cells {F : Nat → Prop} {w : World} {b o : Nat} {v : Value} (h : VRel F w (.ptr b o) v) : CellsAt w b := by cases h; assumption
theorem Holds.at_ {F : Nat → Prop} {w : World} {b : Nat} {cs : List AV} (h0 : Holds F w b cs) (hc : CellsAt w b) : At F w b 0 cs := by
  obtain ⟨_, c, T, h1, h2, h3⟩ := h0.cells hc
  intro i x hx
  have hi : i < cs.length := (List.getElem?_eq_some_iff.1 hx).1
  obtain ⟨h4, h5⟩ := h3 i x hx
  refine ⟨h4, c.getD i undef, ?_, h5⟩
  rw [Nat.zero_add, cell_at h1]
  have : i < c.size := by omega
  simp [Array.getD, this]
theorem At.drop {F : Nat → Prop} {w : World} {b o : Nat} {cs : List AV} (h : At F w b o cs) (k : Nat) : At F w b (o + k) (cs.drop k) := by
  intro i x hx
  rw [List.getElem?_drop] at hx
  obtain ⟨h1, v, h2, h3⟩ := h (k + i) x hx
  exact ⟨h1, v, by rw [← h2, Nat.add_assoc], h3⟩
theorem At.of_lies {F : Nat → Prop} {w : World} {b o : Nat} (s : Sh) {cs : List Value} {d : s.T} (h : Lies w b o cs) (hr : FReads F w s cs d) : At F w b o (s.cells d) := by
  obtain ⟨h1, h2⟩ := FReads.cells s cs d hr
  intro i x hx
  obtain ⟨h3, h4⟩ := h2 i x hx
  have hi : i < cs.length := by rw [← h1]; exact (List.getElem?_eq_some_iff.1 hx).1
  exact ⟨h3, _, h i _ (by rw [List.getElem?_eq_getElem hi]), by simpa [List.getD, hi] using h4⟩
theorem At.eptr {F : Nat → Prop} {w : World} {b o : Nat} {cs : List AV} (h : At F w b o cs) (hF : FC F w b) : VRel F w (.eptr cs) (.pointer (some ⟨b, o, none⟩)) := by
  refine .eptr cs b o (fun i => (w.cell? ⟨b, o + i, none⟩).getD undef) hF (fun i x hx => ?_) (fun i x hx => (h i x hx).1) (fun i x hx => ?_)
  · obtain ⟨_, v, h2, _⟩ := h i x hx; rw [h2]; rfl
  · obtain ⟨_, v, h2, h3⟩ := h i x hx; rw [h2]; exact h3
theorem VRel.eptr_at {F : Nat → Prop} {w : World} {cs : List AV} {v : Value} (h : VRel F w (.eptr cs) v) : ∃ b o, v = .pointer (some ⟨b, o, none⟩) ∧ FC F w b ∧ At F w b o cs := by
  cases h with
  | eptr cs b o f hF h1 hl h => exact ⟨b, o, rfl, hF, fun i x hx => ⟨hl i x hx, f i, h1 i x hx, h i x hx⟩⟩
section
variable {P : Program} {TT : TypeId → Option TI} {F : Nat → Prop} {w : World}
theorem run_isAgg {t : TypeId} {d : TypeDesc} (h : P.underlying t = some d) (w : World) : (isAgg t).run P w = .ok d.isRow w := by
  unfold isAgg
  rw [Sem.run_bind, run_underlying h w]
  cases d <;> rfl
theorem run_sizeOf {t : TypeId} {j : TypeInfo} (h : P.info? t = some j) (w : World) : (sizeOf t).run P w = .ok j.size w := by simp [sizeOf, typeInfo, h]
theorem read_sound (ok : TTok P TT) {t : TypeId} {i : TI} (ht : TT t = some i) {b o : Nat} {cs : List AV} (h : At F w b o cs) {k : Nat} {v : AV} (hv : readAs i cs k = some v) :
    ∃ v', (loadVar t ⟨b, o + k, none⟩).run P w = .ok v' w ∧ VRel F w v v' := by
  obtain ⟨j, d, z, hj, hd, hs, hb, hf, hz, hzz⟩ := tt_fact ok ht
  have hw := fits_wide hf
  unfold readAs at hv
  split at hv
  · rename_i hwide
    split at hv
    · rename_i hle
      have hle := Nat.le_of_ble_eq_true hle
      simp only [Option.some.injEq] at hv
      subst hv
      have hc : ∀ m, m < i.size → ∃ x, cs[k + m]? = some x ∧ x.leaf = true ∧ ∃ v, w.cell? ⟨b, o + k + m, none⟩ = some v ∧ VRel F w x v := by
        intro m hm
        have hk : k + m < cs.length := by omega
        obtain ⟨h1, v, h2, h3⟩ := h (k + m) cs[k + m] (by simp [hk])
        exact ⟨_, by simp [hk], h1, v, by rw [← h2, Nat.add_assoc], h3⟩
      have hr : w.rangeAt b (o + k) ((List.range i.size).map fun m => (w.cell? ⟨b, o + k + m, none⟩).getD undef) := by
        intro m v hm
        have hmi : m < i.size := by have := (List.getElem?_eq_some_iff.1 hm).1; simpa using this
        obtain ⟨x, _, _, v', h2, _⟩ := hc m hmi
        simp [hmi] at hm
        rw [h2] at hm ⊢
        simpa using hm
      refine ⟨_, run_loadVar_mid (P := P) w b (o + k) t _ d hr hd (by rw [hw, hwide]) (by simp [hj, hs]), ?_⟩
      refine .agg _ _ (by simp; omega) (fun m x hx => ?_) (fun m x hx => ?_)
      · rw [List.getElem?_take] at hx
        split at hx
        · rename_i hm
          obtain ⟨x', h1, h2, _⟩ := hc m hm
          rw [List.getElem?_drop, h1] at hx
          cases hx
          exact h2
        · cases hx
      · rw [List.getElem?_take] at hx
        split at hx
        · rename_i hm
          obtain ⟨x', h1, _, v, h2, h3⟩ := hc m hm
          rw [List.getElem?_drop, h1] at hx
          cases hx
          simpa [hm, h2] using h3
        · cases hx
    · cases hv
  · rename_i hwide
    obtain ⟨_, v', h2, h3⟩ := h k v hv
    refine ⟨v', ?_, h3⟩
    unfold loadVar
    rw [Sem.run_bind, run_isAgg hd]
    simp [hw, hwide, h2]
/-- What an operation says: a value, whatever stands for what it looks at. -/
def Says (P : Program) (op : Op) (ρ : Operand → AV) (σ : Hp) (v : AV) : Prop :=
  ∀ (η : Operand → Value) (F : Nat → Prop) (w : World) (o : Oper), o.op = op → (∀ x ∈ op.operands.toList, VRel F w (ρ x) (η x)) → RelHp F w σ → ∃ v', (execOp η o).run P w = .ok (.value v') w ∧ VRel F w v v'
/-- As Says, of what doesn't look at the memory: in whatever world. -/
def SaysB (P : Program) (op : Op) (ρ : Operand → AV) (v : AV) : Prop :=
  ∀ (η : Operand → Value) (F : Nat → Prop) (w : World) (o : Oper), o.op = op → (∀ x ∈ op.operands.toList, VRel F w (ρ x) (η x)) → ∃ v', (∀ w', (execOp η o).run P w' = .ok (.value v') w') ∧ VRel F w v v'
theorem SaysB.unvia {P : Program} {op : Op} {ρ : Operand → AV} {v : AV} (h : SaysB P op (fun x => Go.Proofs.Ytacacplipaeokaa.unvia (ρ x)) v) : SaysB P op ρ v := fun η F w o ho hx => h η F w o ho (fun x hm => (hx x hm).unvia)
theorem saysB_unvia {P : Program} {op : Op} {ρ : Operand → AV} {K : AV → Prop} (h : ∃ v, K v ∧ SaysB P op (fun x => Go.Proofs.Ytacacplipaeokaa.unvia (ρ x)) v) : ∃ v, K v ∧ SaysB P op ρ v := by
  obtain ⟨v, h1, h2⟩ := h
  exact ⟨v, h1, h2.unvia⟩
theorem SaysB.says {P : Program} {op : Op} {ρ : Operand → AV} {v : AV} (h : SaysB P op ρ v) (σ : Hp) : Says P op ρ σ v := fun η F w o ho hx _ => by
  obtain ⟨v', h1, h2⟩ := h η F w o ho hx
  exact ⟨v', h1 w, h2⟩
theorem RelHp.at_ {F : Nat → Prop} {w : World} {σ : Hp} (h : RelHp F w σ) {j b : Nat} {cs : List AV} (hj : σ[j]? = some (b, cs)) (hc : CellsAt w b) : At F w b 0 cs := (h.holds (b, cs) (List.mem_of_getElem? hj)).at_ hc
theorem says_move {x : Operand} {ρ : Operand → AV} : SaysB P (.move x) ρ (ρ x) := fun η F w o ho hx => ⟨η x, fun _ => by simp [execOp, ho], hx x (by simp [Op.operands])⟩
theorem says_assign {x : Operand} {ρ : Operand → AV} : SaysB P (.assign x) ρ (ρ x) := fun η F w o ho hx => ⟨η x, fun _ => by simp [execOp, ho], hx x (by simp [Op.operands])⟩
theorem VRel.boolv {b : Bool} {v : Value} (h : VRel F w (.bool b) v) : v = .bool b := by cases h; rfl
theorem VRel.intv {k : IntKind} {n : Int} {v : Value} (h : VRel F w (.int k n) v) : v = .int k n := by cases h; rfl
theorem VRel.fltv {n : Int} {v : Value} (h : VRel F w (.flt n) v) : ∃ b, v = .float .f64 b ∧ IsF b n := by cases h with | flt n b h => exact ⟨b, rfl, h⟩
theorem VRel.cpxv {n m : Int} {v : Value} (h : VRel F w (.cpx n m) v) : ∃ a b, v = .complex .f64 a b ∧ IsF a n ∧ IsF b m := by cases h with | cpx n m a b h1 h2 => exact ⟨a, b, rfl, h1, h2⟩
theorem VRel.strv {s : ByteArray} {v : Value} (h : VRel F w (.str s) v) : v = .string s := by cases h; rfl
theorem VRel.ptrv {b o : Nat} {v : Value} (h : VRel F w (.ptr b o) v) : v = .pointer (some ⟨b, o, none⟩) := by cases h; rfl
theorem VRel.mrefv {b off len e : Nat} {v : Value} (h : VRel F w (.mref b off len e) v) : ∃ a cap, v = .slice (some a) len cap ∧ MRef w b off len e a cap := by cases h with | mref _ _ _ _ a cap h => exact ⟨a, cap, rfl, h⟩
theorem VRel.aggv {cs : List AV} {v : Value} (h : VRel F w (.agg cs) v) : ∃ vs, v = .agg vs ∧ cs.length = vs.size ∧ (∀ (i : Nat) (x : AV), cs[i]? = some x → x.leaf = true ∧ VRel F w x (vs.getD i undef)) := by
  cases h with | agg cs vs hs hl h => exact ⟨vs, rfl, hs, fun i x hx => ⟨hl i x hx, h i x hx⟩⟩
theorem says_pick {c a b : Operand} {ρ : Operand → AV} {x : Bool} (h : ρ c = .bool x) : SaysB P (.pick c a b) ρ (if x then ρ a else ρ b) := by
  intro η F w o ho hx
  have hc := hx c (by simp [Op.operands])
  have ha := hx a (by simp [Op.operands])
  have hb := hx b (by simp [Op.operands])
  rw [h] at hc
  have hc := hc.boolv
  cases x
  · exact ⟨η b, fun _ => by simp [execOp, ho, hc, asBool], hb⟩
  · exact ⟨η a, fun _ => by simp [execOp, ho, hc, asBool], ha⟩
theorem load_sound (ok : TTok P TT) {t : TypeId} {a : Operand} {ρ : Operand → AV} {σ : Hp} {K : AV → Prop} {i : TI} (ht : TT t = some i) (h : loadW i (ρ a) σ K) : ∃ v, K v ∧ Says P (.load t a) ρ σ v := by
  unfold loadW at h
  split at h
  · rename_i cs hcs
    split at h
    · rename_i v hv
      refine ⟨v, h, fun η F w o ho hx _ => ?_⟩
      have ha := hx a (by simp [Op.operands])
      rw [hcs] at ha
      obtain ⟨b, o', e, hF, hat⟩ := ha.eptr_at
      obtain ⟨v', h1, h2⟩ := read_sound ok ht hat hv
      rw [Nat.add_zero] at h1
      exact ⟨v', by simp [execOp, ho, e, Instr.loadAt, Instr.sureAddr, h1], h2⟩
    · exact h.elim
  · rename_i b o' hcs
    obtain ⟨j, cs, v, h1, h2, go⟩ := h
    refine ⟨v, go, fun η F w o ho hx hσ => ?_⟩
    have ha := hx a (by simp [Op.operands])
    rw [hcs] at ha
    obtain ⟨v', h3, h4⟩ := read_sound ok ht (hσ.at_ h1 ha.ptr_cells) h2
    rw [Nat.zero_add] at h3
    exact ⟨v', by simp [execOp, ho, ha.ptrv, Instr.loadAt, Instr.sureAddr, h3], h4⟩
  · exact h.elim
end
section
variable {P : Program} {TT : TypeId → Option TI}
theorem saysP {op : Op} {ρ : Operand → AV} {b o : Nat} {u : Value} (h0 : u = .pointer (some ⟨b, o, none⟩)) (h : ∀ (η : Operand → Value) (F : Nat → Prop) (w : World) (o : Oper), o.op = op → (∀ x ∈ op.operands.toList, VRel F w (ρ x) (η x)) → CellsAt w b ∧ ∀ w', (execOp η o).run P w' = .ok (.value u) w') : SaysB P op ρ (.ptr b o) := fun η F w o ho hx => by
  obtain ⟨h1, h2⟩ := h η F w o ho hx
  exact ⟨u, h2, h0 ▸ .ptr _ _ h1⟩
theorem says_of {op : Op} {ρ : Operand → AV} {v : AV} {u : Value} (hu : ∀ F w, VRel F w v u) (h : ∀ (η : Operand → Value) (F : Nat → Prop) (w : World) (o : Oper), o.op = op → (∀ x ∈ op.operands.toList, VRel F w (ρ x) (η x)) → ∀ w', (execOp η o).run P w' = .ok (.value u) w') : SaysB P op ρ v :=
  fun η F w o ho hx => ⟨u, h η F w o ho hx, hu F w⟩
theorem cmpW_get {b : Bool} {K : AV → Prop} (h : cmpW b K) : K (.bool b) := by cases b <;> exact h
/-- What an operation on two integers gives. -/
theorem intW_sound {op : BinOp} {k : IntKind} {a b : Int} {K : AV → Prop} (hop : op ≠ .shl ∧ op ≠ .shr) (h : intW op k a b K) :
    ∃ v u, K v ∧ (∀ F w, VRel F w v u) ∧ ∀ (t : TypeId) (w : World), (binOp op t (.int k a) (.int k b)).run P w = .ok u w := by
  cases op <;> simp only [intW] at h
  case add => exact ⟨_, _, h, fun _ _ => .int _ _, fun t w => by simp [binOp, Op.intArith]⟩
  case sub => exact ⟨_, _, h, fun _ _ => .int _ _, fun t w => by simp [binOp, Op.intArith]⟩
  case mul => exact ⟨_, _, h, fun _ _ => .int _ _, fun t w => by simp [binOp, Op.intArith]⟩
  case quo => exact ⟨_, _, h.go, fun _ _ => .int _ _, fun t w => by simp [binOp, Op.intDiv, h.fact]⟩
  case rem => exact ⟨_, _, h.go, fun _ _ => .int _ _, fun t w => by simp [binOp, Op.intDiv, h.fact]⟩
  case and => exact ⟨_, _, h, fun _ _ => .int _ _, fun t w => by rw [show binOp .and t (.int k a) (.int k b) = Op.intBits .and k a b by simp [binOp]]; rfl⟩
  case or => exact ⟨_, _, h, fun _ _ => .int _ _, fun t w => by rw [show binOp .or t (.int k a) (.int k b) = Op.intBits .or k a b by simp [binOp]]; rfl⟩
  case xor => exact ⟨_, _, h, fun _ _ => .int _ _, fun t w => by rw [show binOp .xor t (.int k a) (.int k b) = Op.intBits .xor k a b by simp [binOp]]; rfl⟩
  case andNot => exact ⟨_, _, h, fun _ _ => .int _ _, fun t w => by rw [show binOp .andNot t (.int k a) (.int k b) = Op.intBits .andNot k a b by simp [binOp]]; rfl⟩
  case eql => exact ⟨_, _, cmpW_get h, fun _ _ => .bool _, fun t w => by simp [binOp, Op.intCmp]; exact Bool.beq_eq_decide_eq _ _⟩
  case neq => exact ⟨_, _, cmpW_get h, fun _ _ => .bool _, fun t w => by simp [binOp, Op.intCmp, bne, Bool.beq_eq_decide_eq]⟩
  case lss => exact ⟨_, _, cmpW_get h, fun _ _ => .bool _, fun t w => by simp [binOp, Op.intCmp]⟩
  case leq => exact ⟨_, _, cmpW_get h, fun _ _ => .bool _, fun t w => by simp [binOp, Op.intCmp]⟩
  case gtr => exact ⟨_, _, cmpW_get h, fun _ _ => .bool _, fun t w => by simp [binOp, Op.intCmp]⟩
  case geq => exact ⟨_, _, cmpW_get h, fun _ _ => .bool _, fun t w => by simp [binOp, Op.intCmp]⟩
theorem shiftW_sound {op : BinOp} {k yk : IntKind} {a b : Int} {K : AV → Prop} (h : shiftW op k a b K) :
    ∃ v u, K v ∧ (∀ F w, VRel F w v u) ∧ ∀ (t : TypeId) (w : World), (binOp op t (.int k a) (.int yk b)).run P w = .ok u w := by
  cases op <;> simp only [shiftW] at h
  case shl => exact ⟨_, _, h.go, fun _ _ => .int _ _, fun t w => by have := h.fact; simp [binOp, Op.shift, show ¬ b < 0 by omega]⟩
  case shr => exact ⟨_, _, h.go, fun _ _ => .int _ _, fun t w => by have := h.fact; simp [binOp, Op.shift, show ¬ b < 0 by omega]⟩
theorem guard_plain {op : BinOp} {t : TypeId} {x y : Operand} {a b : Value} (h : (∀ u, a ≠ .agg u) ∧ (a ≠ .nilIface ∨ b ≠ .nilIface)) (w : World) : (eqGuard op t x y a b).run P w = .ok () w := by
  obtain ⟨h1, h2⟩ := h
  cases op <;> first
    | rfl
    | (cases a <;> first
        | rfl
        | exact absurd rfl (h1 _)
        | (cases b <;> first
            | rfl
            | exact absurd rfl (h2.resolve_left (by simp))))
theorem guard_const {op : BinOp} {t : TypeId} {x : Operand} {v : Value} {a b : Value} (w : World) (h : ∀ u, a ≠ .agg u) : (eqGuard op t x (.const v) a b).run P w = .ok () w := by
  by_cases hn : a = .nilIface ∧ b = .nilIface
  · obtain ⟨rfl, rfl⟩ := hn
    cases op <;> first | rfl | simp [eqGuard]
  · exact guard_plain ⟨h, by by_cases ha : a = .nilIface; exact .inr fun hb => hn ⟨ha, hb⟩; exact .inl ha⟩ w
theorem run_binop {η : Operand → Value} {o : Oper} {op : BinOp} {t yt : TypeId} {x y : Operand} {w : World} {u : Value} (ho : o.op = .binOp op t x y yt) (hg : (eqGuard op t x y (η x) (η y)).run P w = .ok () w) (h : (binOp op t (η x) (η y)).run P w = .ok u w) :
    (execOp η o).run P w = .ok (.value u) w := by
  simp [execOp, ho, hg, h]
theorem run_equal {t : TypeId} (a b : Value) (w : World) :
    (Op.equal t a b).run P w = (Op.equalIn (9999 + 1) t a b).run P w := rfl
theorem nilEq_sound (ok : TTok P TT) {t : TypeId} {i : TI} (ht : TT t = some i) {x y : AV} {want : Bool} {K : AV → Prop} (h : nilEq i.k want x y K) :
    ∃ r : Bool, K (.bool (r == want)) ∧ ∀ (F : Nat → Prop) (w : World) (a b : Value), VRel F w x a → VRel F w y b → (∀ u, a ≠ .agg u) ∧ (∀ w', (Op.equal t a b).run P w' = .ok r w') ∧
      binOp .eql t a b = (do pure (.bool (← Op.equal t a b))) ∧ binOp .neq t a b = (do pure (.bool (!(← Op.equal t a b)))) := by
  obtain ⟨j, d, z, hj, hd, _, _, hf, _, _⟩ := tt_fact ok ht
  unfold nilEq at h
  split at h
  · rename_i e hk
    rw [hk] at hf; have := fits_ptr hf; subst this
    refine ⟨true, by simpa using h, fun F w a b ha hb => ?_⟩
    cases ha; cases hb
    exact ⟨by simp, fun w' => by rw [run_equal, Op.equalIn, Sem.run_bind, run_underlying hd]; rfl, rfl, rfl⟩
  · rename_i e b' o' hk
    rw [hk] at hf; have := fits_ptr hf; subst this
    refine ⟨false, by simpa using h, fun F w a b ha hb => ?_⟩
    cases ha; cases hb
    exact ⟨by simp, fun w' => by rw [run_equal, Op.equalIn, Sem.run_bind, run_underlying hd]; rfl, rfl, rfl⟩
  · rename_i e cs hk
    rw [hk] at hf; have := fits_ptr hf; subst this
    refine ⟨false, by simpa using h, fun F w a b ha hb => ?_⟩
    obtain ⟨_, _, rfl, _⟩ := ha.eptr_at
    cases hb
    exact ⟨by simp, fun w' => by rw [run_equal, Op.equalIn, Sem.run_bind, run_underlying hd]; rfl, rfl, rfl⟩
  · rename_i e hk
    rw [hk] at hf; have := fits_slice hf; subst this
    refine ⟨true, by simpa using h, fun F w a b ha hb => ?_⟩
    cases ha; cases hb
    exact ⟨by simp, fun w' => by rw [run_equal, Op.equalIn, Sem.run_bind, run_underlying hd]; rfl, rfl, rfl⟩
  · rename_i e _ _ _ _ hk
    rw [hk] at hf; have := fits_slice hf; subst this
    refine ⟨false, by simpa using h, fun F w a b ha hb => ?_⟩
    obtain ⟨_, _, rfl, _⟩ := ha.mrefv
    cases hb
    exact ⟨by simp, fun w' => by rw [run_equal, Op.equalIn, Sem.run_bind, run_underlying hd]; rfl, rfl, rfl⟩
  · rename_i e hk
    rw [hk] at hf; have := fits_slice hf; subst this
    refine ⟨false, by simpa using h, fun F w a b ha hb => ?_⟩
    cases ha; cases hb
    exact ⟨by simp, fun w' => by rw [run_equal, Op.equalIn, Sem.run_bind, run_underlying hd]; rfl, rfl, rfl⟩
  · rename_i e s l hk
    rw [hk] at hf; have := fits_slice hf; subst this
    refine ⟨false, by simpa using h.go, fun F w a b ha hb => ?_⟩
    obtain ⟨_, c, rfl, _, _, h4⟩ := ha.fslv
    obtain ⟨b', o, rfl, _⟩ := h4 (List.ne_nil_of_length_pos h.fact)
    cases hb
    exact ⟨by simp, fun w' => by rw [run_equal, Op.equalIn, Sem.run_bind, run_underlying hd]; rfl, rfl, rfl⟩
  · rename_i hk
    rw [hk] at hf; obtain ⟨m, rfl⟩ := fits_iface hf
    refine ⟨true, by simpa using h, fun F w a b ha hb => ?_⟩
    cases ha; cases hb
    exact ⟨by simp, fun w' => by rw [run_equal, Op.equalIn, Sem.run_bind, run_underlying hd]; rfl, rfl, rfl⟩
  · rename_i _ _ hk
    rw [hk] at hf; obtain ⟨m, rfl⟩ := fits_iface hf
    refine ⟨false, by simpa using h, fun F w a b ha hb => ?_⟩
    cases ha; cases hb
    exact ⟨by simp, fun w' => by rw [run_equal, Op.equalIn, Sem.run_bind, run_underlying hd]; rfl, rfl, rfl⟩
  · rename_i hk
    rw [hk] at hf; obtain ⟨_, _, _, rfl⟩ := fits_func hf
    refine ⟨true, by simpa using h, fun F w a b ha hb => ?_⟩
    cases ha; cases hb
    exact ⟨by simp, fun w' => by rw [run_equal, Op.equalIn, Sem.run_bind, run_underlying hd]; rfl, rfl, rfl⟩
  · rename_i _ _ _ hk
    rw [hk] at hf; obtain ⟨_, _, _, rfl⟩ := fits_func hf
    refine ⟨false, by simpa using h, fun F w a b ha hb => ?_⟩
    cases ha; cases hb
    exact ⟨by simp, fun w' => by rw [run_equal, Op.equalIn, Sem.run_bind, run_underlying hd]; rfl, rfl, rfl⟩
  · exact h.elim
theorem bin_sound (ok : TTok P TT) {op : BinOp} {t yt : TypeId} {x y : Operand} {ρ : Operand → AV} {K : AV → Prop} (h : binW TT op t y (ρ x) (ρ y) K) : ∃ v, K v ∧ SaysB P (.binOp op t x y yt) ρ v := by
  unfold binW at h
  split at h
  · rename_i k a k' b hx hy
    have fin : (∃ v u, K v ∧ (∀ F w, VRel F w v u) ∧ ∀ (t : TypeId) (w : World), (binOp op t (.int k a) (.int k' b)).run P w = .ok u w) → ∃ v, K v ∧ SaysB P (.binOp op t x y yt) ρ v := by
      rintro ⟨v, u, hk, hu, hr⟩
      refine ⟨v, hk, says_of hu fun η F w o ho hxy => ?_⟩
      have h1 := hxy x (by simp [Op.operands])
      have h2 := hxy y (by simp [Op.operands])
      rw [hx] at h1; rw [hy] at h2
      have e1 := h1.intv; have e2 := h2.intv
      intro w
      refine run_binop ho ?_ ?_
      · rw [e1, e2]; exact guard_plain ⟨by simp, .inl (by simp)⟩ w
      · rw [e1, e2]; exact hr t w
    split at h
    · exact fin (shiftW_sound h)
    · exact fin (shiftW_sound h)
    · rename_i hn1 hn2
      split at h
      · rename_i hk
        have := of_decide_eq_true hk
        subst this
        exact fin (intW_sound ⟨hn1, hn2⟩ h)
      · exact h.elim
  · rename_i a b hx hy
    split at h
    · rename_i s b' z' ht
      obtain ⟨j, d, z, hj, hd, _, _, hf, _, _⟩ := tt_fact ok ht
      have := fits_bool hf; subst this
      have he : ∀ w, (Op.equal t (.bool a) (.bool b)).run P w = .ok (a == b) w := fun w => by rw [run_equal, Op.equalIn, Sem.run_bind, run_underlying hd]; rfl
      split at h
      · refine ⟨_, cmpW_get h, says_of (fun _ _ => .bool _) fun η F w o ho hxy => ?_⟩
        have h1 := hxy x (by simp [Op.operands])
        have h2 := hxy y (by simp [Op.operands])
        rw [hx] at h1; rw [hy] at h2
        have e1 := h1.boolv; have e2 := h2.boolv
        intro w
        refine run_binop ho ?_ ?_
        · rw [e1, e2]; exact guard_plain ⟨by simp, .inl (by simp)⟩ w
        · rw [e1, e2]; simp [binOp, he]
      · refine ⟨_, cmpW_get h, says_of (fun _ _ => .bool _) fun η F w o ho hxy => ?_⟩
        have h1 := hxy x (by simp [Op.operands])
        have h2 := hxy y (by simp [Op.operands])
        rw [hx] at h1; rw [hy] at h2
        have e1 := h1.boolv; have e2 := h2.boolv
        intro w
        refine run_binop ho ?_ ?_
        · rw [e1, e2]; exact guard_plain ⟨by simp, .inl (by simp)⟩ w
        · rw [e1, e2]; simp [binOp, he]
      · exact h.elim
    · exact h.elim
  · rename_i a b hx hy
    have fin : ∀ r : Bool, K (.bool r) → (∀ w, (binOp op t (.string a) (.string b)).run P w = .ok (.bool r) w) → ∃ v, K v ∧ SaysB P (.binOp op t x y yt) ρ v := by
      intro r hk hr
      refine ⟨_, hk, says_of (fun _ _ => .bool _) fun η F w o ho hxy => ?_⟩
      have h1 := hxy x (by simp [Op.operands])
      have h2 := hxy y (by simp [Op.operands])
      rw [hx] at h1; rw [hy] at h2
      have e1 := h1.strv; have e2 := h2.strv
      intro w
      refine run_binop ho ?_ ?_
      · rw [e1, e2]; exact guard_plain ⟨by simp, .inl (by simp)⟩ w
      · rw [e1, e2]; exact hr w
    split at h
    · exact fin _ (cmpW_get h) fun w => rfl
    · exact fin _ (cmpW_get h) fun w => rfl
    · exact h.elim
  · split at h
    · rename_i i hc ht
      obtain ⟨cv, rfl⟩ : ∃ cv, y = .const cv := by cases y <;> first | exact ⟨_, rfl⟩ | cases hc
      split at h
      · obtain ⟨r, hk, hr⟩ := nilEq_sound ok ht h
        refine ⟨_, hk, says_of (fun _ _ => .bool _) fun η F w o ho hxy => ?_⟩
        obtain ⟨g1, g2, g3, g4⟩ := hr F w _ _ (hxy x (by simp [Op.operands])) (hxy (.const cv) (by simp [Op.operands]))
        exact fun w => run_binop ho (guard_const w g1) (by rw [g3]; simp [g2])
      · obtain ⟨r, hk, hr⟩ := nilEq_sound ok ht h
        refine ⟨_, hk, says_of (fun _ _ => .bool _) fun η F w o ho hxy => ?_⟩
        obtain ⟨g1, g2, g3, g4⟩ := hr F w _ _ (hxy x (by simp [Op.operands])) (hxy (.const cv) (by simp [Op.operands]))
        exact fun w => run_binop ho (guard_const w g1) (by rw [g4]; simp [g2])
      · exact h.elim
    · exact h.elim
end
section
variable {P : Program} {TT : TypeId → Option TI}
theorem cells?_rel {F : Nat → Prop} {w : World} {x : AV} {v : Value} {cs : List AV} (h : VRel F w x v) (hc : x.cells? = some cs) :
    v.cells.size = cs.length ∧ ∀ (i : Nat) (y : AV), cs[i]? = some y → y.leaf = true ∧ VRel F w y (v.cells.getD i undef) := by
  have one : ∀ (hl : x.leaf = true), some [x] = some cs → v.cells.size = cs.length ∧ ∀ (i : Nat) (y : AV), cs[i]? = some y → y.leaf = true ∧ VRel F w y (v.cells.getD i undef) := by
    intro hl e
    have e := Option.some.inj e
    subst e
    have h1 := h.one hl
    have hv : v.cells = #[v] := by cases v <;> first | rfl | cases h1
    rw [hv]
    exact ⟨rfl, fun i y hi => by cases i <;> simp at hi; subst hi; exact ⟨hl, h⟩⟩
  cases x with
  | agg cs' =>
    obtain rfl := Option.some.inj hc
    obtain ⟨vs, rfl, h1, h2⟩ := h.aggv
    exact ⟨h1.symm, h2⟩
  | tup => cases hc
  | any => cases hc
  | mapc => cases hc
  | itrc => cases hc
  | loopc => cases hc
  | _ => exact one rfl hc
/-- Cells as values. -/
def CRel (F : Nat → Prop) (w : World) (cs : List AV) (vs : Array Value) : Prop := cs.length = vs.size ∧ ∀ (i : Nat) (x : AV), cs[i]? = some x → x.leaf = true ∧ VRel F w x (vs.getD i undef)
theorem CRel.set {F : Nat → Prop} {w : World} {cs : List AV} {vs : Array Value} (h : CRel F w cs vs) (k : Nat) {x : AV} {v : Value} (hl : x.leaf = true) (hx : VRel F w x v) : CRel F w (cs.set k x) (vs.setIfInBounds k v) := by
  refine ⟨by simp [h.1], fun i y hi => ?_⟩
  rw [List.getElem?_set] at hi
  by_cases hk : k = i
  · subst hk
    by_cases hlt : k < cs.length
    · simp [hlt] at hi
      subst hi
      have : k < vs.size := by rw [← h.1]; exact hlt
      exact ⟨hl, by simpa [Array.getD, this] using hx⟩
    · simp [hlt] at hi
  · simp [hk] at hi
    obtain ⟨h1, h2⟩ := h.2 i y hi
    refine ⟨h1, ?_⟩
    have hlt : i < vs.size := by rw [← h.1]; exact (List.getElem?_eq_some_iff.1 hi).1
    simpa [Array.getD, hlt, Array.getElem_setIfInBounds, hk] using h2
theorem splice_rel {F : Nat → Prop} {w : World} : ∀ (xs : List AV) (us : List Value) (cs : List AV) (vs : Array Value) (k n : Nat), xs.length = us.length →
    (∀ (i : Nat) (x : AV), xs[i]? = some x → x.leaf = true ∧ VRel F w x (us.getD i undef)) → CRel F w cs vs → CRel F w (splice cs (k + n) xs) ((us.zipIdx n).foldl (fun c p => c.setIfInBounds (k + p.2) p.1) vs)
  | [], [], cs, vs, k, n, _, _, h => h
  | x :: xs, u :: us, cs, vs, k, n, hl, hx, h => by
    have h0 := hx 0 x rfl
    simp only [splice, List.zipIdx_cons, List.foldl_cons]
    exact splice_rel xs us _ _ k (n + 1) (by simpa using hl) (fun i y hi => by simpa using hx (i + 1) y (by simpa using hi)) (h.set _ h0.1 (by simpa using h0.2))
  | [], _ :: _, _, _, _, _, hl, _, _ => by simp at hl
  | _ :: _, [], _, _, _, _, hl, _, _ => by simp at hl
theorem splice_length : ∀ (xs cs : List AV) (k : Nat), (splice cs k xs).length = cs.length
  | [], cs, k => rfl
  | x :: xs, cs, k => by simp [splice, splice_length xs]
theorem fill_rel {F : Nat → Prop} {w : World} {pl : List (Nat × Nat)} {place : Nat → Option (Nat × Nat)} (hp : ∀ (i : Nat) (p : Nat × Nat), pl[i]? = some p → place i = some p) :
    ∀ (parts : List (Nat × AV)) (us : List (Nat × Value)) (cs : List AV) (vs : Array Value) (out : List AV), parts.length = us.length →
      (∀ (i : Nat) (p : Nat × AV) (u : Nat × Value), parts[i]? = some p → us[i]? = some u → p.1 = u.1 ∧ VRel F w p.2 u.2) → CRel F w cs vs → fillA pl cs parts = some out → ∃ vs', Instr.fill place vs us = some vs' ∧ CRel F w out vs'
  | [], [], cs, vs, out, _, _, h, e => ⟨vs, rfl, by simp [fillA] at e; subst e; exact h⟩
  | p :: parts, u :: us, cs, vs, out, hl, hx, h, e => by
    obtain ⟨i, x⟩ := p
    obtain ⟨i', v⟩ := u
    obtain ⟨rfl, hv⟩ := hx 0 _ _ rfl rfl
    simp only [fillA] at e
    split at e
    · rename_i off size xs h1 h2
      split at e
      · rename_i e1 e2
        have e1 := Nat.eq_of_beq_eq_true e1
        have e2 := Nat.le_of_ble_eq_true e2
        obtain ⟨c1, c2⟩ := cells?_rel hv h2
        have hs := splice_rel xs v.cells.toList cs vs off 0 (by simp [c1]) (fun i y hi => by
          have := c2 i y hi
          have hlt : i < v.cells.size := by rw [c1]; exact (List.getElem?_eq_some_iff.1 hi).1
          simpa [Array.getD, List.getD, hlt] using this) h
        obtain ⟨vs', f1, f2⟩ := fill_rel hp parts us _ _ out (by simpa using hl) (fun i p u hi hu => hx (i + 1) p u (by simpa using hi) (by simpa using hu)) hs e
        refine ⟨vs', ?_, f2⟩
        simp only [Instr.fill, hp _ _ h1]
        rw [if_neg (by simp [c1, e1]; rw [← h.1]; omega)]
        rw [← f1]
        congr 1
        rw [← Array.foldl_toList]
        simp
      · cases e
    · cases e
  | [], _ :: _, _, _, _, hl, _, _, _ => by simp at hl
  | _ :: _, [], _, _, _, hl, _, _, _ => by simp at hl
theorem places_sound (ok : TTok P TT) : ∀ (fs : List Field) (ps : List (Nat × Nat)), placesT TT (fs.map fun f => (f.offset, f.type)) = some ps → fs.mapM (fun f => (P.info? f.type).map fun i => (f.offset, i.size)) = some ps
  | [], ps, h => by simp [placesT] at h; subst h; rfl
  | f :: fs, ps, h => by
    simp only [List.map_cons, placesT] at h
    split at h
    · rename_i i ps' h1 h2
      obtain ⟨j, _, _, hj, _, hs, _⟩ := tt_fact ok h1
      have := places_sound ok fs ps' h2
      simp at h
      subst h
      simp [List.mapM_cons, hj, this, hs]
    · cases h
theorem zero_rel {F : Nat → Prop} {w : World} {xs : List AV} {z : Value} (h : zeroB xs z.cells.toList = true) : CRel F w xs z.cells := by
  obtain ⟨h1, h2⟩ := zeroB_rel (F := F) (w := w) h
  refine ⟨by simpa using h1, fun i x hx => ?_⟩
  obtain ⟨h3, h4⟩ := h2 i x hx
  refine ⟨h4, ?_⟩
  have hlt : i < z.cells.size := by have := (List.getElem?_eq_some_iff.1 hx).1; simp at h1; omega
  simpa [Array.getD, List.getD, hlt] using h3
theorem CRel.aggr {F : Nat → Prop} {w : World} {cs : List AV} {vs : Array Value} (h : CRel F w cs vs) : VRel F w (.agg cs) (.agg vs) := .agg _ _ h.1 (fun i x hx => (h.2 i x hx).1) (fun i x hx => (h.2 i x hx).2)
theorem parts_rel {F : Nat → Prop} {w : World} {parts : Array (Nat × Operand)} {ρ : Operand → AV} {η : Operand → Value} (hx : ∀ x ∈ (parts.toList.map (·.2)), VRel F w (ρ x) (η x)) :
    (parts.toList.map fun p => (p.1, ρ p.2)).length = (parts.map fun (i, x) => (i, η x)).toList.length ∧ ∀ (i : Nat) (p : Nat × AV) (u : Nat × Value), (parts.toList.map fun p => (p.1, ρ p.2))[i]? = some p → (parts.map fun (i, x) => (i, η x)).toList[i]? = some u → p.1 = u.1 ∧ VRel F w p.2 u.2 := by
  refine ⟨by simp, fun i p u hp hu => ?_⟩
  simp only [Array.toList_map, List.getElem?_map, Option.map_eq_some_iff] at hp hu
  obtain ⟨a, h1, rfl⟩ := hp
  obtain ⟨a', h2, rfl⟩ := hu
  rw [h1] at h2
  cases h2
  exact ⟨rfl, hx a.2 (List.mem_map.2 ⟨a, List.mem_of_getElem? h1, rfl⟩)⟩
theorem build_sound (ok : TTok P TT) {t : TypeId} {parts : Array (Nat × Operand)} {ρ : Operand → AV} {v : AV} (h : buildA TT t (parts.toList.map fun p => (p.1, ρ p.2)) = some v) : SaysB P (.build t parts) ρ v := by
  intro η F w o ho hx
  obtain ⟨hl, hr⟩ := parts_rel (parts := parts) (ρ := ρ) (η := η) (F := F) (w := w) (by simpa [Op.operands] using hx)
  have fin : ∀ {cells : Array Value} {cs : List AV}, P.built t (parts.map fun (i, x) => (i, η x)).toList = some cells → CRel F w cs cells → ∃ v', (∀ w', (execOp η o).run P w' = .ok (.value v') w') ∧ VRel F w (.agg cs) v' :=
    fun hb hc => ⟨_, fun w' => by simp only [execOp, ho, Sem.run_bind, run_build w' t _ _ hb]; rfl, hc.aggr⟩
  unfold buildA at h
  split at h
  · rename_i fs sz by' z0 ht
    obtain ⟨j, d, z, hj, hd, hs, hb, hf, hz, hzz⟩ := tt_fact ok ht
    obtain ⟨fields, rfl, hfs⟩ := fits_strct hf
    split at h
    · rename_i ps hps
      rw [← hfs] at hps
      have hm := places_sound ok _ _ hps
      obtain ⟨out, e1, rfl⟩ := Option.map_eq_some_iff.1 h
      obtain ⟨vs', f1, f2⟩ := fill_rel (place := (ps.toArray[·]?)) (fun i p hi => by simpa using hi) _ _ _ _ _ hl hr (zero_rel (F := F) (w := w) hzz) e1
      exact fin (by simp only [Program.built, hj, hd, hz, hm]; exact f1) f2
    · cases h
  · rename_i n e sz by' z0 ht
    obtain ⟨j, d, z, hj, hd, hs, hb, hf, hz, hzz⟩ := tt_fact ok ht
    obtain rfl := fits_arr hf
    split at h
    · rename_i i hi
      obtain ⟨j', d', z', hj', hd', hs', _⟩ := tt_fact ok hi
      obtain ⟨out, e1, rfl⟩ := Option.map_eq_some_iff.1 h
      obtain ⟨vs', f1, f2⟩ := fill_rel (place := fun k => some (k * j'.size, j'.size)) (fun k p hk => by
        obtain ⟨a, ha, rfl⟩ := List.getElem?_eq_some_iff.1 hk
        simp [hs']) _ _ _ _ _ hl hr (zero_rel (F := F) (w := w) hzz) e1
      exact fin (by simp only [Program.built, hj, hd, hz, hj']; exact f1) f2
    · cases h
  · cases h
end
section
variable {P : Program} {TT : TypeId → Option TI}
theorem un_sound {op : UnOp} {t : TypeId} {x : Operand} {ρ : Operand → AV} {K : AV → Prop} (h : unW op (ρ x) K) : ∃ v, K v ∧ SaysB P (.unOp op t x) ρ v := by
  unfold unW at h
  split at h
  · rename_i b hx
    refine ⟨_, h, says_of (fun _ _ => .bool _) fun η F w o ho hxy => ?_⟩
    have h1 := hxy x (by simp [Op.operands]); rw [hx] at h1
    simp [execOp, ho, h1.boolv, Op.unary]
  · rename_i k n hx
    refine ⟨_, h, says_of (fun _ _ => .int _ _) fun η F w o ho hxy => ?_⟩
    have h1 := hxy x (by simp [Op.operands]); rw [hx] at h1
    simp [execOp, ho, h1.intv, Op.unary, Op.intArith]
  · rename_i k n hx
    refine ⟨_, h, says_of (fun _ _ => .int _ _) fun η F w o ho hxy => ?_⟩
    have h1 := hxy x (by simp [Op.operands]); rw [hx] at h1
    rw [show execOp η o = (do pure (.value (← Op.intBits .xor k (if k.signed then -1 else k.max) n))) by simp [execOp, ho, h1.intv, Op.unary]]
    exact fun _ => rfl
  · rename_i n hx
    refine ⟨_, h, fun η F w o ho hxy => ?_⟩
    have h1 := hxy x (by simp [Op.operands]); rw [hx] at h1
    obtain ⟨b, e, hb⟩ := h1.fltv
    exact ⟨.float .f64 (Op.negFloat .f64 b), fun w' => by simp [execOp, ho, e, Op.unary], .flt _ _ (isF_neg hb)⟩
  · exact h.elim
theorem conv_sound (ok : TTok P TT) {s d : TypeId} {x : Operand} {ρ : Operand → AV} {K : AV → Prop} (h : convW TT s d (ρ x) K) : ∃ v, K v ∧ SaysB P (.convert s d x) ρ v := by
  unfold convW at h
  split at h
  · rename_i i k sz by' z0 k' n hs hd hx
    obtain ⟨_, ds, _, _, hds, _⟩ := tt_fact ok hs
    obtain ⟨_, dd, _, _, hdd, _, _, hf, _, _⟩ := tt_fact ok hd
    obtain rfl := fits_int hf
    refine ⟨_, h, says_of (fun _ _ => .int _ _) fun η F w o ho hxy => ?_⟩
    have h1 := hxy x (by simp [Op.operands]); rw [hx] at h1
    simp [execOp, ho, h1.intv, convert, run_underlying hds, run_underlying hdd, Conv.intToInt]
  · rename_i i sz by' z0 k' n hs hd hx
    obtain ⟨_, ds, _, _, hds, _⟩ := tt_fact ok hs
    obtain ⟨_, dd, _, _, hdd, _, _, hf, _, _⟩ := tt_fact ok hd
    obtain rfl := fits_flt hf
    refine ⟨_, h.go, fun η F w o ho hxy => ?_⟩
    have h1 := hxy x (by simp [Op.operands]); rw [hx] at h1
    refine ⟨.float .f64 (FloatKind.nearest .f64 n), fun w' => ?_, .flt _ _ (isF_of h.fact)⟩
    have hr := run_convert_int_float (P := P) w' s d k' .f64 n (by rw [hds]; rfl) hdd
    simp only [execOp, ho, h1.intv, Sem.run_bind, hr]
    rfl
  · rename_i i k sz by' z0 n hs hd hx
    obtain ⟨_, ds, _, _, hds, _⟩ := tt_fact ok hs
    obtain ⟨_, dd, _, _, hdd, _, _, hf, _, _⟩ := tt_fact ok hd
    obtain rfl := fits_int hf
    refine ⟨_, h.go, fun η F w o ho hxy => ?_⟩
    have h1 := hxy x (by simp [Op.operands]); rw [hx] at h1
    obtain ⟨b, e, hb⟩ := h1.fltv
    refine ⟨.int k n, fun w' => ?_, .int _ _⟩
    have hr := run_convert_float_int (P := P) w' s d .f64 k b n (by rw [hds]; rfl) hdd (isF_int hb k h.fact)
    simp only [execOp, ho, e, Sem.run_bind, hr]
    rfl
  · exact h.elim
theorem iface_sound (ok : TTok P TT) {t : TypeId} {x : Operand} {ρ : Operand → AV} {i : TI} (ht : TT t = some i) (hn : i.k ≠ .iface) : SaysB P (.makeInterface t x) ρ (.iface t (ρ x)) := by
  intro η F w o ho hx
  obtain ⟨_, d, _, _, hd, _, _, hf, _, _⟩ := tt_fact ok ht
  refine ⟨_, ?_, .iface _ _ _ (hx x (by simp [Op.operands]))⟩
  have : ∀ m, d ≠ .interface m := by rintro m rfl; cases hk : i.k <;> rw [hk] at hf <;> simp_all [TK.fits]
  cases d <;> first | exact absurd rfl (this _) | simp [execOp, ho, Instr.makeInterface, run_underlying hd]
theorem makeFunc_sound {f : Fn} {first cap : Array Operand} {ρ : Operand → AV} : SaysB P (.makeFunc f first cap) ρ (.fn f (first.toList.map ρ) (cap.toList.map ρ)) := by
  intro η F w o ho hx
  have key : ∀ (xs : Array Operand), (∀ x ∈ xs.toList, VRel F w (ρ x) (η x)) → ∀ (i : Nat) (x : AV), (xs.toList.map ρ)[i]? = some x → VRel F w x ((xs.map η).getD i undef) := by
    intro xs h i x hi
    simp only [List.getElem?_map, Option.map_eq_some_iff] at hi
    obtain ⟨a, h1, rfl⟩ := hi
    have hlt : i < xs.size := by have := (List.getElem?_eq_some_iff.1 h1).1; simpa using this
    have : xs[i] = a := by simpa [hlt] using h1
    simpa [Array.getD, hlt, this] using h a (List.mem_of_getElem? h1)
  exact ⟨.func f (first.map η) (cap.map η), by simp [execOp, ho, Instr.makeFunc], .fn _ _ _ _ _ (by simp) (by simp) (key first fun x hx' => hx x (by simp only [Op.operands, Array.toList_append, List.mem_append]; exact .inl hx')) (key cap fun x hx' => hx x (by simp only [Op.operands, Array.toList_append, List.mem_append]; exact .inr hx'))⟩
theorem addr_add (b o n : Nat) : (⟨b, o, none⟩ : Addr).add n = ⟨b, o + n, none⟩ := Addr.add_mid b o n
theorem fieldAddr_sound (ok : TTok P TT) {s : TypeId} {x : Operand} {f : Nat} {ρ : Operand → AV} {K : AV → Prop} (h : fieldAddrW TT s (ρ x) f K) : ∃ v, K v ∧ SaysB P (.fieldAddr s x f) ρ v := by
  unfold fieldAddrW at h
  split at h
  · rename_i fs sz by' z0 ht
    obtain ⟨_, d, _, _, hd, _, _, hf, _, _⟩ := tt_fact ok ht
    obtain ⟨fields, rfl, hfs⟩ := fits_strct hf
    split at h
    · rename_i off t hft
      split at h
      · rename_i i hi
        obtain ⟨j', d', z', hj', hd', hs', _⟩ := tt_fact ok hi
        rw [← hfs, List.getElem?_map, Option.map_eq_some_iff] at hft
        obtain ⟨fd, hfd, e⟩ := hft
        cases e
        have hfd' : fields[f]? = some fd := by simpa using hfd
        split at h
        · rename_i b o' hb hx
          have hb := Nat.le_of_ble_eq_true hb
          have hz : ¬ j'.size = 0 := by omega
          refine ⟨_, h, saysP rfl fun η F w o ho hxy => ?_⟩
          have h1 := hxy x (by simp [Op.operands]); rw [hx] at h1
          exact ⟨h1.ptr_cells, fun _ => by simp [execOp, ho, h1.ptrv, Instr.fieldAt, run_underlying hd, hfd', Instr.sureAddr, fieldPlace, run_sizeOf hj', hz, addr_add]⟩
        · rename_i cs hb hx
          have hb := Nat.le_of_ble_eq_true hb
          have hz : ¬ j'.size = 0 := by omega
          refine ⟨_, h, fun η F w o ho hxy => ?_⟩
          have h1 := hxy x (by simp [Op.operands]); rw [hx] at h1
          obtain ⟨b, o', e, hF, hat⟩ := h1.eptr_at
          exact ⟨_, by simp [execOp, ho, e, Instr.fieldAt, run_underlying hd, hfd', Instr.sureAddr, fieldPlace, run_sizeOf hj', hz, addr_add], (hat.drop _).eptr hF⟩
        · exact h.elim
      · exact h.elim
    · exact h.elim
  · exact h.elim
theorem part_sound (ok : TTok P TT) {t : TypeId} {i : TI} (ht : TT t = some i) {F : Nat → Prop} {w : World} {cs : List AV} {vs : Array Value} (h : CRel F w cs vs) {k : Nat} {v : AV} (hv : readAs i cs k = some v) :
    ∃ v', (∀ w', (part t vs k).run P w' = .ok v' w') ∧ VRel F w v v' := by
  obtain ⟨j, d, z, hj, hd, hs, hb, hf, hz, hzz⟩ := tt_fact ok ht
  have hw := fits_wide hf
  obtain ⟨hl, hr⟩ := h
  unfold readAs at hv
  split at hv
  · rename_i hwide
    split at hv
    · rename_i hle
      have hle := Nat.le_of_ble_eq_true hle
      simp only [Option.some.injEq] at hv
      subst hv
      refine ⟨.agg (vs.extract k (k + j.size)), fun _ => by unfold part; simp [Sem.run_bind, run_isAgg hd, hw, hwide, run_sizeOf hj], CRel.aggr ⟨by simp; omega, fun m x hx => ?_⟩⟩
      rw [List.getElem?_take] at hx
      split at hx
      · rename_i hm
        rw [List.getElem?_drop] at hx
        obtain ⟨h1, h2⟩ := hr _ x hx
        have hlt : k + m < vs.size := by rw [← hl]; exact (List.getElem?_eq_some_iff.1 hx).1
        have hlt2 : m < min (k + j.size) vs.size - k := by omega
        refine ⟨h1, ?_⟩
        simpa [Array.getD, hlt, hlt2] using h2
      · cases hx
    · cases hv
  · rename_i hwide
    obtain ⟨h1, h2⟩ := hr k v hv
    have hlt : k < vs.size := by rw [← hl]; exact (List.getElem?_eq_some_iff.1 hv).1
    refine ⟨vs.getD k undef, fun w' => ?_, h2⟩
    unfold part
    rw [Sem.run_bind, run_isAgg hd]
    simp [hw, hwide, hlt, Array.getD]
theorem eqV_sound (ok : TTok P TT) (D : Nat) : ∀ (d : Nat) (t : TypeId) (x y : AV) (l : List Bool), eqV P TT d t x y = some l → ∀ (F : Nat → Prop) (w : World) (a b : Value), VRel F w x a → VRel F w y b → ∀ w', (Op.equalIn (D + d) t a b).run P w' = .ok (allB l) w' := by
  intro d
  induction d with
  | zero => intro t x y l h; cases h
  | succ d ih =>
    intro t x y l h F w a b ha hb w'
    unfold eqV at h
    split at h
    · rename_i p q hu
      cases h
      rw [ha.boolv, hb.boolv]
      rw [show D + (d + 1) = (D + d) + 1 from rfl, run_equalIn_bool' w' (D + d) t p q hu]
      simp [allB]
    · rename_i k0 k p k' q hu
      split at h
      · rename_i hk
        have := of_decide_eq_true hk
        subst this
        cases h
        rw [ha.intv, hb.intv]
        rw [show D + (d + 1) = (D + d) + 1 from rfl, run_equalIn_int w' (D + d) t k k0 p q hu]
        simp [allB]
        exact Bool.beq_eq_decide_eq _ _
      · cases h
    · rename_i p q hu
      cases h
      rw [ha.strv, hb.strv]
      rw [show D + (d + 1) = (D + d) + 1 from rfl, run_equalIn_string w' (D + d) t p q hu]
      simp [allB]
    · rename_i fs xs ys hu
      split at h
      · cases h
      · rename_i hst
        obtain ⟨vs, rfl, hvs⟩ := ha.aggv
        obtain ⟨us, rfl, hus⟩ := hb.aggv
        have hf : P.fieldsOf t = fs := by simp [Program.fieldsOf, hu]
        rw [show D + (d + 1) = (D + d) + 1 from rfl, run_equalIn_agg w' (D + d) t vs us (by rw [hf]; exact hu) hst, hf]
        have key : ∀ (gs : List Field) (l : List Bool), eqFs TT (eqV P TT d) xs ys gs = some l → (Op.eqFields (D + d) vs us gs).run P w' = .ok (allB l) w' := by
          intro gs
          induction gs with
          | nil => intro l h; cases h; simp [Op.eqFields, allB]
          | cons f gs ihg =>
            intro l h
            unfold eqFs at h
            split at h
            · rename_i i hn hi
              split at h
              · rename_i p q hp hq
                split at h
                · rename_i l1 l2 h1 h2
                  cases h
                  obtain ⟨p', e1, r1⟩ := part_sound ok hi ⟨hvs.1, hvs.2⟩ hp
                  obtain ⟨q', e2, r2⟩ := part_sound ok hi ⟨hus.1, hus.2⟩ hq
                  have e3 := ih f.type p q l1 h1 F w p' q' r1 r2 w'
                  have hn' : f.name ≠ "_" := by intro e; rw [e] at hn; cases hn
                  simp only [Op.eqFields, hn', ne_eq, not_false_eq_true, if_true, Sem.run_bind, e1, e2, e3, Result.andThen_ok]
                  cases hb1 : allB l1
                  · simp only [Bool.not_false, if_true, Sem.run_pure]
                    have : allB (l1 ++ l2) = false := by unfold allB at hb1 ⊢; rw [List.all_append, hb1]; rfl
                    rw [this]
                  · simp only [Bool.not_true, Bool.false_eq_true, if_false]
                    rw [ihg l2 h2]
                    have : allB (l1 ++ l2) = allB l2 := by unfold allB at hb1 ⊢; rw [List.all_append, hb1]; rfl
                    rw [this]
                · cases h
              · cases h
            · cases h
        exact key fs.toList l h
    · rename_i n e xs ys hu
      obtain ⟨vs, rfl, hvs⟩ := ha.aggv
      obtain ⟨us, rfl, hus⟩ := hb.aggv
      have key : ∀ (ks : List Nat) (l : List Bool), eqIs TT (eqV P TT d) e (P.cellsOf e) xs ys ks = some l → (Op.eqItems (D + d) e (P.cellsOf e) vs us ks).run P w' = .ok (allB l) w' := by
        intro ks
        induction ks with
        | nil => intro l h; cases h; simp [Op.eqItems, allB]
        | cons k ks ihk =>
          intro l h
          unfold eqIs at h
          split at h
          · rename_i i hi
            split at h
            · rename_i p q hp hq
              split at h
              · rename_i l1 l2 h1 h2
                cases h
                obtain ⟨p', e1, r1⟩ := part_sound ok hi ⟨hvs.1, hvs.2⟩ hp
                obtain ⟨q', e2, r2⟩ := part_sound ok hi ⟨hus.1, hus.2⟩ hq
                have e3 := ih e p q l1 h1 F w p' q' r1 r2 w'
                simp only [Op.eqItems, Sem.run_bind, e1, e2, e3, Result.andThen_ok]
                cases hb1 : allB l1
                · simp only [Bool.not_false, if_true, Sem.run_pure]
                  have : allB (l1 ++ l2) = false := by unfold allB at hb1 ⊢; rw [List.all_append, hb1]; rfl
                  rw [this]
                · simp only [Bool.not_true, Bool.false_eq_true, if_false]
                  rw [ihk l2 h2]
                  have : allB (l1 ++ l2) = allB l2 := by unfold allB at hb1 ⊢; rw [List.all_append, hb1]; rfl
                  rw [this]
              · cases h
            · cases h
          · cases h
      split at h
      · rename_i i hi
        obtain ⟨j, _, _, hj, _⟩ := tt_fact ok hi
        rw [show D + (d + 1) = (D + d) + 1 from rfl, run_equalIn_array w' (D + d) vs us hu hj]
        exact key _ l h
      · cases h
    · cases h
theorem cpx_sound {op : BinOp} {t yt : TypeId} {x y : Operand} {ρ : Operand → AV} {K : AV → Prop} {a b c d : Int} (hx : ρ x = .cpx a b) (hy : ρ y = .cpx c d) (h : cpxW op a b c d K) : ∃ v, K v ∧ SaysB P (.binOp op t x y yt) ρ v := by
  have both : ∀ {η : Operand → Value} {F : Nat → Prop} {w : World}, (∀ z ∈ (Op.binOp op t x y yt).operands.toList, VRel F w (ρ z) (η z)) → ∃ a' b' c' d', η x = .complex .f64 a' b' ∧ η y = .complex .f64 c' d' ∧ IsF a' a ∧ IsF b' b ∧ IsF c' c ∧ IsF d' d := fun {η F w} hxy => by
    have h1 := hxy x (by simp [Op.operands])
    have h2 := hxy y (by simp [Op.operands])
    rw [hx] at h1; rw [hy] at h2
    obtain ⟨a', b', e1, h3, h4⟩ := h1.cpxv
    obtain ⟨c', d', e2, h5, h6⟩ := h2.cpxv
    exact ⟨a', b', c', d', e1, e2, h3, h4, h5, h6⟩
  cases op <;> simp only [cpxW] at h
  case add =>
    refine ⟨_, h.go, fun η F w o ho hxy => ?_⟩
    obtain ⟨a', b', c', d', e1, e2, h3, h4, h5, h6⟩ := both hxy
    obtain ⟨r, g1, g2⟩ := isF_add h3 h5 h.fact.1
    obtain ⟨q, g3, g4⟩ := isF_add h4 h6 h.fact.2
    refine ⟨.complex .f64 r q, fun w' => run_binop ho (by rw [e1, e2]; exact guard_plain ⟨by simp, .inl (by simp)⟩ w') ?_, .cpx _ _ _ _ g2 g4⟩
    rw [e1, e2]
    exact run_complex_sum w' .add (.inl rfl) t .f64 a' b' c' d' r q (by simp [cSumBits, g1, g3])
  case sub =>
    refine ⟨_, h.go, fun η F w o ho hxy => ?_⟩
    obtain ⟨a', b', c', d', e1, e2, h3, h4, h5, h6⟩ := both hxy
    obtain ⟨r, g1, g2⟩ := isF_sub h3 h5 h.fact.1
    obtain ⟨q, g3, g4⟩ := isF_sub h4 h6 h.fact.2
    refine ⟨.complex .f64 r q, fun w' => run_binop ho (by rw [e1, e2]; exact guard_plain ⟨by simp, .inl (by simp)⟩ w') ?_, .cpx _ _ _ _ g2 g4⟩
    rw [e1, e2]
    exact run_complex_sum w' .sub (.inr rfl) t .f64 a' b' c' d' r q (by simp [cSumBits, g1, g3])
  case mul =>
    refine ⟨_, h.go, fun η F w o ho hxy => ?_⟩
    obtain ⟨a', b', c', d', e1, e2, h3, h4, h5, h6⟩ := both hxy
    obtain ⟨⟨f1, f2, f3⟩, f4, f5, f6⟩ := h.fact
    obtain ⟨r1, p1, q1⟩ := isF_mul h3 h5 f1
    obtain ⟨r2, p2, q2⟩ := isF_mul h4 h6 f2
    obtain ⟨r3, p3, q3⟩ := isF_sub q1 q2 f3
    obtain ⟨r4, p4, q4⟩ := isF_mul h3 h6 f4
    obtain ⟨r5, p5, q5⟩ := isF_mul h4 h5 f5
    obtain ⟨r6, p6, q6⟩ := isF_add q4 q5 f6
    refine ⟨.complex .f64 r3 r6, fun w' => run_binop ho (by rw [e1, e2]; exact guard_plain ⟨by simp, .inl (by simp)⟩ w') ?_, .cpx _ _ _ _ q3 q6⟩
    rw [e1, e2]
    exact run_complex_mul w' t a' b' c' d' r3 r6 (by simp [cMulBits, p1, p2, p3, p4, p5, p6])
theorem binA_sound (ok : TTok P TT) {op : BinOp} {t yt : TypeId} {x y : Operand} {ρ : Operand → AV} {K : AV → Prop} (h : binA P TT op t y (ρ x) (ρ y) K) : ∃ v, K v ∧ SaysB P (.binOp op t x y yt) ρ v := by
  unfold binA at h
  split at h
  · rename_i xs ys hx hy
    have both : ∀ (η : Operand → Value) (F : Nat → Prop) (w : World), (∀ z ∈ (Op.binOp op t x y yt).operands.toList, VRel F w (ρ z) (η z)) → ∃ vs us, η x = .agg vs ∧ η y = .agg us ∧ VRel F w (.agg xs) (.agg vs) ∧ VRel F w (.agg ys) (.agg us) := fun η F w hxy => by
      have h1 := hxy x (by simp [Op.operands])
      have h2 := hxy y (by simp [Op.operands])
      rw [hx] at h1; rw [hy] at h2
      obtain ⟨vs, e1, _⟩ := h1.aggv
      obtain ⟨us, e2, _⟩ := h2.aggv
      rw [e1] at h1; rw [e2] at h2
      exact ⟨vs, us, e1, e2, h1, h2⟩
    split at h
    · obtain ⟨g1, g2, go⟩ := h
      refine ⟨_, cmpW_get go, says_of (fun _ _ => .bool _) fun η F w o ho hxy => ?_⟩
      obtain ⟨vs, us, e1, e2, r1, r2⟩ := both η F w hxy
      intro w'
      refine run_binop ho ?_ ?_
      · rw [e1, e2]; exact run_eqGuard_agg w' _ t x y vs us g1
      · rw [e1, e2, run_eql_struct, show (10000 : Nat) = 9992 + 8 from rfl, eqV_sound ok 9992 8 t _ _ _ g2 F w _ _ r1 r2 w']; rfl
    · obtain ⟨g1, g2, go⟩ := h
      refine ⟨_, cmpW_get go, says_of (fun _ _ => .bool _) fun η F w o ho hxy => ?_⟩
      obtain ⟨vs, us, e1, e2, r1, r2⟩ := both η F w hxy
      intro w'
      refine run_binop ho ?_ ?_
      · rw [e1, e2]; exact run_eqGuard_agg w' _ t x y vs us g1
      · rw [e1, e2, run_neq_struct, show (10000 : Nat) = 9992 + 8 from rfl, eqV_sound ok 9992 8 t _ _ _ g2 F w _ _ r1 r2 w']; rfl
    · exact h.elim
  · rename_i a b c d hx hy
    exact cpx_sound hx hy h
  · exact bin_sound ok h
theorem field_sound (ok : TTok P TT) {s : TypeId} {x : Operand} {f : Nat} {ρ : Operand → AV} {K : AV → Prop} (h : fieldW TT s (ρ x) f K) : ∃ v, K v ∧ SaysB P (.field s x f) ρ v := by
  unfold fieldW at h
  split at h
  · rename_i fs sz by' z0 cs ht hx
    obtain ⟨_, d, _, _, hd, _, _, hf, _, _⟩ := tt_fact ok ht
    obtain ⟨fields, rfl, hfs⟩ := fits_strct hf
    split at h
    · rename_i off t hft
      split at h
      · rename_i i hi
        rw [← hfs, List.getElem?_map, Option.map_eq_some_iff] at hft
        obtain ⟨fd, hfd, e⟩ := hft
        cases e
        have hfd' : fields[f]? = some fd := by simpa using hfd
        split at h
        · rename_i v hv
          refine ⟨v, h, fun η F w o ho hxy => ?_⟩
          have h1 := hxy x (by simp [Op.operands]); rw [hx] at h1
          obtain ⟨vs, e, h2, h3⟩ := h1.aggv
          obtain ⟨v', h4, h5⟩ := part_sound ok hi (w := w) ⟨h2, h3⟩ hv
          exact ⟨v', by simp [execOp, ho, e, Instr.field, run_underlying hd, hfd', asAgg, h4], h5⟩
        · exact h.elim
      · exact h.elim
    · exact h.elim
  · exact h.elim
theorem indexAddr_sound (ok : TTok P TT) {t : TypeId} {x ix : Operand} {ρ : Operand → AV} {K : AV → Prop} (h : indexAddrW TT t (ρ x) (ρ ix) K) : ∃ v, K v ∧ SaysB P (.indexAddr t x ix) ρ v := by
  unfold indexAddrW at h
  split at h
  · rename_i e sz by' z0 k n ht hix
    obtain ⟨_, d, _, _, hd, _, _, hf, _, _⟩ := tt_fact ok ht
    obtain rfl := fits_slice hf
    split at h
    · rename_i i s l hi hx
      obtain ⟨j', _, _, hj', _, hs', _⟩ := tt_fact ok hi
      obtain ⟨hsz, hidx⟩ := h
      obtain ⟨dt, h0, h1, go⟩ := hidx
      refine ⟨_, go, fun η F w o ho hxy => ?_⟩
      have a1 := hxy x (by simp [Op.operands]); rw [hx] at a1
      have a2 := hxy ix (by simp [Op.operands]); rw [hix] at a2
      obtain ⟨a, c, e, hc1, hc2, hc3⟩ := a1.fslv
      have hlt : n.toNat < l.length := (List.getElem?_eq_some_iff.1 h1).1
      obtain ⟨b, o', rfl, hF, hrows⟩ := hc3 (fun e => by subst e; cases hlt)
      obtain ⟨cs', q1, q2, q3⟩ := hrows _ hlt
      have hd' : l[n.toNat] = dt := by rw [List.getElem?_eq_getElem hlt] at h1; exact Option.some.inj h1
      rw [hd'] at q3
      have hn : 0 ≤ n ∧ n < (l.length : Int) := by omega
      refine ⟨_, ?_, (At.of_lies s q2 q3).eptr hF⟩
      simp [execOp, ho, e, a2.intv, Instr.indexAt, asIntOf, run_underlying hd, hn, run_sizeOf hj', addr_add, hs', hsz]
    · rename_i i b off len es hi hx
      obtain ⟨j', _, _, hj', _, hs', _⟩ := tt_fact ok hi
      obtain ⟨⟨hsz, h0, h1⟩, go⟩ := h
      refine ⟨_, go, saysP rfl fun η F w o ho hxy => ?_⟩
      have a1 := hxy x (by simp [Op.operands]); rw [hx] at a1
      have a2 := hxy ix (by simp [Op.operands]); rw [hix] at a2
      obtain ⟨a, cap, e, c, T, fz, m1, m2, m3, m4⟩ := a1.mrefv
      have ha : a = ⟨b, off, none⟩ := by rcases m4 with m4 | m4; exact m4.1; omega
      subst ha
      exact ⟨⟨c, T, fz, m1⟩, fun _ => by simp [execOp, ho, e, a2.intv, Instr.indexAt, asIntOf, run_underlying hd, h0, h1, run_sizeOf hj', addr_add, hs', hsz]⟩
    · exact h.elim
  · rename_i m e sz by' z0 k n ht hix
    obtain ⟨_, d, _, _, hd, _, _, hf, _, _⟩ := tt_fact ok ht
    obtain rfl := fits_arr hf
    split at h
    · rename_i i b o' hi hx
      obtain ⟨j', _, _, hj', _, hs', _⟩ := tt_fact ok hi
      obtain ⟨⟨h0, h1⟩, go⟩ := h
      refine ⟨_, go, saysP rfl fun η F w o ho hxy => ?_⟩
      have a1 := hxy x (by simp [Op.operands]); rw [hx] at a1
      have a2 := hxy ix (by simp [Op.operands]); rw [hix] at a2
      exact ⟨a1.ptr_cells, fun _ => by simp [execOp, ho, a1.ptrv, a2.intv, Instr.indexAt, asIntOf, Instr.sureAddr, run_underlying hd, h0, h1, run_sizeOf hj', addr_add, hs']⟩
    · rename_i i cs hi hx
      obtain ⟨j', _, _, hj', _, hs', _⟩ := tt_fact ok hi
      obtain ⟨⟨h0, h1⟩, go⟩ := h
      refine ⟨_, go, fun η F w o ho hxy => ?_⟩
      have a1 := hxy x (by simp [Op.operands]); rw [hx] at a1
      have a2 := hxy ix (by simp [Op.operands]); rw [hix] at a2
      obtain ⟨b, o', e, hF, hat⟩ := a1.eptr_at
      exact ⟨_, by simp [execOp, ho, e, a2.intv, Instr.indexAt, asIntOf, Instr.sureAddr, run_underlying hd, h0, h1, run_sizeOf hj', addr_add, hs'], (hat.drop _).eptr hF⟩
    · exact h.elim
  · exact h.elim
theorem extract_sound {x : Operand} {i : Nat} {ρ : Operand → AV} {vs : List AV} {v : AV} (hx : ρ x = .tup vs) (hv : vs[i]? = some v) : SaysB P (.extract x i) ρ v := by
  intro η F w o ho hxy
  have a1 := hxy x (by simp [Op.operands]); rw [hx] at a1
  cases he : η x with
  | tuple us =>
    rw [he] at a1
    cases a1 with
    | tup cs vs hs h =>
      have h1 := h i v hv
      have hlt : i < us.size := by rw [← hs]; exact (List.getElem?_eq_some_iff.1 hv).1
      refine ⟨us.getD i undef, ?_, h1⟩
      simp [execOp, ho, he, Instr.extract, hlt, Array.getD]
  | _ => rw [he] at a1; cases a1
theorem assert_sound (ok : TTok P TT) {x : Operand} {tx t e : TypeId} {s b : Nat} {z : List AV} {ρ : Operand → AV} {K : AV → Prop} (ht : TT t = some ⟨.ptr e, s, b, z⟩) (hz0 : z = [.nilp]) (h : (∃ t' v, ρ x = .iface t' v ∧ (match Nat.beq t' t with | true => K (.tup [v, .bool true]) | false => K (.tup [.nilp, .bool false]))) ∨ (ρ x = .nilif ∧ K (.tup [.nilp, .bool false]))) : ∃ v, K v ∧ SaysB P (.typeAssert x tx t true) ρ v := by
  obtain ⟨j, d, zv, hj, hd, hs, ⟨hb, hzl⟩, hf, hz, hzz⟩ := tt_fact ok ht
  obtain rfl := fits_ptr hf
  have tup2 : ∀ {F : Nat → Prop} {w : World} {a c : AV} {u v : Value}, VRel F w a u → VRel F w c v → VRel F w (.tup [a, c]) (.tuple #[u, v]) := fun h1 h2 => .tup _ _ rfl fun i y hy => by
    rcases i with _ | _ | i
    · simp at hy; subst hy; exact h1
    · simp at hy; subst hy; exact h2
    · simp at hy
  have hzp : zv = .pointer none := by
    obtain ⟨j2, z2, k1, k2, k3⟩ := tt_zero ok ht rfl
    rw [hj] at k1; cases k1
    rw [hz] at k2; cases k2
    cases zv with
    | agg cs => cases k3
    | pointer p => cases p with
      | none => rfl
      | some p => subst hz0; exact absurd hzz (by simp [Value.cells, zeroB, AV.isVal])
    | _ => subst hz0; exact absurd hzz (by simp [Value.cells, zeroB, AV.isVal])
  have hzv : ∀ w, (zeroValue t).run P w = .ok (.pointer none) w := fun w => by simp [zeroValue, typeInfo, hj, hz, hzp]
  rcases h with ⟨t', v, hx, h⟩ | ⟨hx, h⟩
  · split at h
    · rename_i hb
      have e := Nat.eq_of_beq_eq_true hb
      subst e
      refine ⟨_, h, fun η F w o ho hxy => ?_⟩
      have a1 := hxy x (by simp [Op.operands]); rw [hx] at a1
      cases hv : η x with
      | iface t2 u =>
        rw [hv] at a1
        cases a1 with
        | iface _ _ _ hu => exact ⟨.tuple #[u, .bool true], fun w' => by simp [execOp, ho, hv, Instr.typeAssert, run_underlying hd], tup2 hu (.bool _)⟩
      | _ => rw [hv] at a1; cases a1
    · rename_i hb
      refine ⟨_, h, fun η F w o ho hxy => ?_⟩
      have a1 := hxy x (by simp [Op.operands]); rw [hx] at a1
      cases hv : η x with
      | iface t2 u =>
        rw [hv] at a1
        cases a1 with
        | iface _ _ _ hu =>
          have hne : ¬ t' = t := fun e => by subst e; rw [Nat.beq_refl] at hb; cases hb
          exact ⟨.tuple #[.pointer none, .bool false], fun w' => by simp [execOp, ho, hv, Instr.typeAssert, run_underlying hd, hne, hzv], tup2 .nilp (.bool _)⟩
      | _ => rw [hv] at a1; cases a1
  · refine ⟨_, h, fun η F w o ho hxy => ?_⟩
    have a1 := hxy x (by simp [Op.operands]); rw [hx] at a1
    have hv : η x = .nilIface := by revert a1; generalize η x = u; intro a1; cases a1; rfl
    exact ⟨.tuple #[.pointer none, .bool false], fun w' => by simp [execOp, ho, hv, Instr.typeAssert, run_underlying hd, hzv], tup2 .nilp (.bool _)⟩
theorem bound_ok {n : Int} {y : Nat} {code : BoundsCode} {k : IntKind} (h0 : 0 ≤ n) (h1 : n ≤ y) (w : World) : (Instr.sliceBound (.int k n) y code).run P w = .ok n.toNat w := by
  simp [Instr.sliceBound, asIntOf, h0, h1]
/-- What the bounds of a slice are. -/
theorem bounds_sound {lo hi : Option AV} {vlo vhi : Option Value} {F : Nat → Prop} {w : World} {len cap : Nat} {l h : Int} (hlo : ∀ x, lo = some x → ∃ v, vlo = some v ∧ VRel F w x v) (hlo0 : lo = none → vlo = none) (hhi : ∀ x, hi = some x → ∃ v, vhi = some v ∧ VRel F w x v) (hhi0 : hi = none → vhi = none)
    (el : loInt lo = some l) (eh : hiInt len hi = some h) (h1 : 0 ≤ l) (h2 : l ≤ h) (h3 : h ≤ len) (h4 : len ≤ cap) (w' : World) : (Instr.sliceBounds true len cap vlo vhi none).run P w' = .ok (l.toNat, h.toNat, cap) w' := by
  have e2 : (vhi = none ∧ h = len) ∨ ∃ k, vhi = some (.int k h) := by
    cases hi with
    | none => exact .inl ⟨hhi0 rfl, by simpa [hiInt] using eh.symm⟩
    | some x =>
      obtain ⟨v, rfl, hv⟩ := hhi x rfl
      cases x <;> simp [hiInt] at eh
      subst eh
      exact .inr ⟨_, by rw [hv.intv]⟩
  have e1 : (vlo = none ∧ l = 0) ∨ ∃ k, vlo = some (.int k l) := by
    cases lo with
    | none => exact .inl ⟨hlo0 rfl, by simpa [loInt] using el.symm⟩
    | some x =>
      obtain ⟨v, rfl, hv⟩ := hlo x rfl
      cases x <;> simp [loInt] at el
      subst el
      exact .inr ⟨_, by rw [hv.intv]⟩
  have hh : (h.toNat : Int) = h := by omega
  rcases e2 with ⟨rfl, rfl⟩ | ⟨k2, rfl⟩ <;> rcases e1 with ⟨rfl, rfl⟩ | ⟨k1, rfl⟩
  · simp [Instr.sliceBounds]
  · simp [Instr.sliceBounds, bound_ok h1 (show l ≤ (len : Nat) from h2)]
  · simp [Instr.sliceBounds, bound_ok (show 0 ≤ h by omega) (show h ≤ (cap : Nat) by omega)]
  · simp [Instr.sliceBounds, bound_ok (show 0 ≤ h by omega) (show h ≤ (cap : Nat) by omega), bound_ok h1 (show l ≤ (h.toNat : Nat) by omega)]
theorem bounds_sound3 {lo : Option AV} {vlo : Option Value} {F : Nat → Prop} {w : World} {len cap : Nat} {l h m : Int} {k1 k2 : IntKind} (hlo : ∀ x, lo = some x → ∃ v, vlo = some v ∧ VRel F w x v) (hlo0 : lo = none → vlo = none)
    (el : loInt lo = some l) (h1 : 0 ≤ l) (h2 : l ≤ h) (h3 : h ≤ m) (h4 : m ≤ len) (h5 : len ≤ cap) (w' : World) : (Instr.sliceBounds true len cap vlo (some (.int k1 h)) (some (.int k2 m))).run P w' = .ok (l.toNat, h.toNat, m.toNat) w' := by
  have e1 : (vlo = none ∧ l = 0) ∨ ∃ k, vlo = some (.int k l) := by
    cases lo with
    | none => exact .inl ⟨hlo0 rfl, by simpa [loInt] using el.symm⟩
    | some x =>
      obtain ⟨v, rfl, hv⟩ := hlo x rfl
      cases x <;> simp [loInt] at el
      subst el
      exact .inr ⟨_, by rw [hv.intv]⟩
  have hh : (h.toNat : Int) = h := by omega
  rcases e1 with ⟨rfl, rfl⟩ | ⟨k1, rfl⟩
  · simp [Instr.sliceBounds, bound_ok (show 0 ≤ m by omega) (show m ≤ (cap : Nat) by omega), bound_ok (show 0 ≤ h by omega) (show h ≤ (m.toNat : Nat) by omega)]
  · simp [Instr.sliceBounds, bound_ok (show 0 ≤ m by omega) (show m ≤ (cap : Nat) by omega), bound_ok (show 0 ≤ h by omega) (show h ≤ (m.toNat : Nat) by omega), bound_ok h1 (show l ≤ (h.toNat : Nat) by omega)]
theorem opt_rel {F : Nat → Prop} {w : World} {ρ : Operand → AV} {η : Operand → Value} {o : Option Operand} (h : ∀ x, o = some x → VRel F w (ρ x) (η x)) : (∀ x, o.map ρ = some x → ∃ v, o.map η = some v ∧ VRel F w x v) ∧ (o.map ρ = none → o.map η = none) := by
  cases o with
  | none => exact ⟨(fun x h => by cases h), fun _ => rfl⟩
  | some y => exact ⟨(fun x hx => by cases hx; exact ⟨_, rfl, h y rfl⟩), (fun h => by cases h)⟩
theorem slice_sound (ok : TTok P TT) {t : TypeId} {x : Operand} {lo hi mx : Option Operand} {ρ : Operand → AV} {K : AV → Prop} (h : sliceW TT t (ρ x) (lo.map ρ) (hi.map ρ) (mx.map ρ) K) : ∃ v, K v ∧ SaysB P (.slice t x lo hi mx) ρ v := by
  unfold sliceW at h
  split at h
  · rename_i e sz by' z0 ht hmx
    have hmx : mx = none := by simpa using hmx
    subst hmx
    obtain ⟨_, d, _, _, hd, _, _, hf, _, _⟩ := tt_fact ok ht
    obtain rfl := fits_slice hf
    have hops : ∀ {η : Operand → Value} {F : Nat → Prop} {w : World}, (∀ y ∈ (Op.slice t x lo hi none).operands.toList, VRel F w (ρ y) (η y)) → VRel F w (ρ x) (η x) ∧ (∀ y, lo = some y → VRel F w (ρ y) (η y)) ∧ (∀ y, hi = some y → VRel F w (ρ y) (η y)) := by
      intro η F w hy
      refine ⟨hy x (by simp [Op.operands]), fun y e => hy y (by subst e; simp [Op.operands]), fun y e => hy y (by subst e; simp [Op.operands])⟩
    split at h
    · rename_i i b off len es hi' hx
      obtain ⟨j', _, _, hj', _, hs', _⟩ := tt_fact ok hi'
      split at h
      · rename_i l hh el eh
        obtain ⟨⟨h1, h2, h3, hsz⟩, go⟩ := h
        refine ⟨_, go, fun η F w o ho hxy => ?_⟩
        obtain ⟨a1, a2, a3⟩ := hops hxy
        rw [hx] at a1
        obtain ⟨a, cap, ea, c, T, fz, m1, m2, m3, m4⟩ := a1.mrefv
        have hb := bounds_sound (P := P) (w := w) (opt_rel a2).1 (opt_rel a2).2 (opt_rel a3).1 (opt_rel a3).2 el eh h1 h2 h3 m2
        refine ⟨.slice (some (if cap = l.toNat then a else a.add (l.toNat * j'.size))) (hh.toNat - l.toNat) (cap - l.toNat), ?_, ?_⟩
        · intro w'
          simp only [execOp, ho, Instr.sliceAt, Sem.run_bind, run_underlying hd, Result.andThen_ok, Option.map_none, ea, Instr.slice, hb, run_sizeOf hj', Sem.run_pure]
          split <;> rfl
        · refine .mref _ _ _ _ _ _ ⟨c, T, fz, m1, by omega, by omega, ?_⟩
          by_cases hcl : cap = l.toNat
          · refine .inr ?_
            rw [if_pos hcl]
            rcases m4 with ⟨rfl, _⟩ | ⟨q1, q2, q3, q4⟩
            · exact ⟨rfl, rfl, by omega, by omega⟩
            · exact ⟨q1, q2, by omega, by omega⟩
          · refine .inl ?_
            rw [if_neg hcl]
            rcases m4 with ⟨rfl, q⟩ | ⟨q1, q2, q3, q4⟩
            · refine ⟨by rw [addr_add, hs', hsz], ?_⟩
              have : off + l.toNat * es + (cap - l.toNat) * es = off + cap * es := by
                rw [Nat.add_assoc, ← Nat.add_mul]; congr 2; omega
              omega
            · omega
      · exact h.elim
    · rename_i i s xs hi' hx
      obtain ⟨j', _, _, hj', _, hs', _⟩ := tt_fact ok hi'
      split at h
      · rename_i l hh el eh
        obtain ⟨⟨h1, h2, h3, hsz⟩, go⟩ := h
        refine ⟨_, go, fun η F w o ho hxy => ?_⟩
        obtain ⟨a1, a2, a3⟩ := hops hxy
        rw [hx] at a1
        obtain ⟨a, cap, ea, c1, c2, c3⟩ := a1.fslv
        have hb := bounds_sound (P := P) (w := w) (opt_rel a2).1 (opt_rel a2).2 (opt_rel a3).1 (opt_rel a3).2 el eh h1 h2 h3 c1
        have hlen : ((xs.drop l.toNat).take (hh.toNat - l.toNat)).length = hh.toNat - l.toNat := by simp; omega
        refine ⟨.slice (if cap = l.toNat then a else a.map (·.add (l.toNat * j'.size))) (hh.toNat - l.toNat) (cap - l.toNat), ?_, ?_⟩
        · intro w'
          simp only [execOp, ho, Instr.sliceAt, Sem.run_bind, run_underlying hd, Result.andThen_ok, Option.map_none, ea, Instr.slice, hb, run_sizeOf hj', Sem.run_pure]
        · refine .fsl _ _ _ ⟨_, _, by rw [hlen], by omega, by omega, (fun he => ?_), fun hne => ?_⟩
          · have h00 := a1.fsl0 ea
            split at he
            · have := h00 he; omega
            · have := h00 (Option.map_eq_none_iff.1 he); omega
          have hpos : 0 < hh.toNat - l.toNat := by
            rcases Nat.eq_zero_or_pos (hh.toNat - l.toNat) with h0 | h0
            · exact absurd (List.length_eq_zero_iff.1 (by rw [hlen, h0])) hne
            · exact h0
          obtain ⟨b, o', rfl, hF, hr⟩ := c3 (fun e => by subst e; simp at h3; omega)
          refine ⟨b, o' + l.toNat * s.size, by rw [if_neg (by omega)]; simp [addr_add, hs', hsz], hF, fun m hm => ?_⟩
          rw [hlen] at hm
          obtain ⟨cs', q1, q2, q3⟩ := hr (l.toNat + m) (by omega)
          refine ⟨cs', q1, ?_, by simpa using q3⟩
          rw [Nat.add_assoc, ← Nat.add_mul]
          exact q2
      · exact h.elim
    · rename_i i hi' hx
      obtain ⟨j', _, _, hj', _, hs', _⟩ := tt_fact ok hi'
      split at h
      · rename_i l hh el eh
        obtain ⟨⟨h1, h2, h3⟩, go⟩ := h
        refine ⟨_, go, fun η F w o ho hxy => ?_⟩
        obtain ⟨a1, a2, a3⟩ := hops hxy
        rw [hx] at a1
        have ea : η x = .slice none 0 0 := by revert a1; generalize η x = u; intro a1; cases a1; rfl
        have hb := bounds_sound (P := P) (w := w) (cap := 0) (opt_rel a2).1 (opt_rel a2).2 (opt_rel a3).1 (opt_rel a3).2 el eh h1 h2 h3 (Nat.le_refl _)
        have hl0 : l.toNat = 0 := by omega
        have hh0 : hh.toNat = 0 := by omega
        refine ⟨.slice none 0 0, ?_, .nils⟩
        intro w'
        simp [execOp, ho, Instr.sliceAt, Sem.run_bind, run_underlying hd, Result.andThen_ok, ea, Instr.slice, hb, run_sizeOf hj', hl0, hh0]
      · exact h.elim
    · exact h.elim
  · rename_i e sz by' z0 k2 m ht hmx
    obtain ⟨mo, rfl, hmo⟩ : ∃ mo, mx = some mo ∧ ρ mo = .int k2 m := by
      cases mx with
      | none => cases hmx
      | some mo => exact ⟨mo, rfl, Option.some.inj hmx⟩
    obtain ⟨_, d, _, _, hd, _, _, hf, _, _⟩ := tt_fact ok ht
    obtain rfl := fits_slice hf
    split at h
    · rename_i i b off len es k1 hh hi' hx hhi
      obtain ⟨ho', rfl, hho⟩ : ∃ ho', hi = some ho' ∧ ρ ho' = .int k1 hh := by
        cases hi with
        | none => cases hhi
        | some ho' => exact ⟨ho', rfl, Option.some.inj hhi⟩
      obtain ⟨j', _, _, hj', _, hs', _⟩ := tt_fact ok hi'
      split at h
      · rename_i l el
        obtain ⟨⟨h1, h2, h3, h4, hsz⟩, go⟩ := h
        refine ⟨_, go, fun η F w o ho hxy => ?_⟩
        have a1 := hxy x (by simp [Op.operands])
        have a2 : ∀ y, lo = some y → VRel F w (ρ y) (η y) := fun y e => hxy y (by subst e; simp [Op.operands])
        have a3 := hxy ho' (by simp [Op.operands])
        have a4 := hxy mo (by simp [Op.operands])
        rw [hx] at a1
        rw [hho] at a3
        rw [hmo] at a4
        have e3 := a3.intv
        have e4 := a4.intv
        obtain ⟨a, cap, ea, c, T, fz, m1, m2, m3, m4⟩ := a1.mrefv
        have hb := bounds_sound3 (P := P) (w := w) (k1 := k1) (k2 := k2) (opt_rel a2).1 (opt_rel a2).2 el h1 h2 h3 h4 m2
        refine ⟨.slice (some (if m.toNat = l.toNat then a else a.add (l.toNat * j'.size))) (hh.toNat - l.toNat) (m.toNat - l.toNat), ?_, ?_⟩
        · intro w'
          simp only [execOp, ho, Instr.sliceAt, Sem.run_bind, run_underlying hd, Result.andThen_ok, Option.map_some, ea, e3, e4, Instr.slice, hb, run_sizeOf hj', Sem.run_pure]
          split <;> rfl
        · refine .mref _ _ _ _ _ _ ⟨c, T, fz, m1, by omega, by omega, ?_⟩
          by_cases hcl : m.toNat = l.toNat
          · refine .inr ?_
            rw [if_pos hcl]
            rcases m4 with ⟨rfl, _⟩ | ⟨q1, q2, q3, q4⟩
            · exact ⟨rfl, rfl, by omega, by omega⟩
            · exact ⟨q1, q2, by omega, by omega⟩
          · refine .inl ?_
            rw [if_neg hcl]
            rcases m4 with ⟨rfl, q⟩ | ⟨q1, q2, q3, q4⟩
            · refine ⟨by rw [addr_add, hs', hsz], ?_⟩
              have h6 : off + l.toNat * es + (m.toNat - l.toNat) * es = off + m.toNat * es := by
                rw [Nat.add_assoc, ← Nat.add_mul]; congr 2; omega
              have h7 : m.toNat * es ≤ cap * es := Nat.mul_le_mul_right _ (by omega)
              omega
            · omega
      · exact h.elim
    · exact h.elim
  · exact h.elim
theorem call_args {η : Operand → Value} (b : Builtin) (args : Array Operand) (tys : Array TypeId) (o : Oper) (ho : o.op = .call ⟨.builtin b, args, tys⟩) : execOp η o = builtin b tys o.type (args.map fun | .const _ => true | _ => false) (args.map η) := by
  simp [execOp, ho, resolve, invoke]
  rfl
theorem len_sound (ok : TTok P TT) {x : Operand} {tys : Array TypeId} {t : TypeId} {i : TI} {ρ : Operand → AV} {K : AV → Prop} (hty : tys.toList = [t]) (ht : TT t = some i) (h : lenW i.k (ρ x) K) : ∃ v, K v ∧ SaysB P (.call ⟨.builtin .len, #[x], tys⟩) ρ v := by
  obtain ⟨_, d, _, _, hd, _, _, hf, _, _⟩ := tt_fact ok ht
  obtain rfl : tys = #[t] := by cases tys; simp_all
  unfold lenW at h
  have fin : ∀ (n : Nat), K (.int .i64 n) → (∀ (F : Nat → Prop) (w : World) (v : Value), VRel F w (ρ x) v → ∀ ty w', (Builtin.len_ #[t] ty #[v]).run P w' = .ok (.int .i64 n) w') → ∃ v, K v ∧ SaysB P (.call ⟨.builtin .len, #[x], #[t]⟩) ρ v := by
    intro n hk hr
    refine ⟨_, hk, says_of (fun _ _ => .int _ _) fun η F w o ho hxy => ?_⟩
    have a1 := hxy x (by simp [Op.operands, Call.operands])
    rw [call_args _ _ _ o ho]
    simp [builtin, hr F w _ a1]
  split at h
  · rename_i e s l hk hx
    rw [hk] at hf; obtain rfl := fits_slice hf
    refine fin _ h fun F w v hv ty w' => ?_
    rw [hx] at hv
    obtain ⟨a, c, rfl, _⟩ := hv.fslv
    simp [Builtin.len_, run_underlying hd, goInt]
  · rename_i e b off len es hk hx
    rw [hk] at hf; obtain rfl := fits_slice hf
    refine fin _ h fun F w v hv ty w' => ?_
    rw [hx] at hv
    obtain ⟨a, c, rfl, _⟩ := hv.mrefv
    simp [Builtin.len_, run_underlying hd, goInt]
  · rename_i e hk hx
    rw [hk] at hf; obtain rfl := fits_slice hf
    refine fin 0 h fun F w v hv ty w' => ?_
    rw [hx] at hv
    cases hv
    simp [Builtin.len_, run_underlying hd, goInt]
  · rename_i e hk hx
    rw [hk] at hf; obtain rfl := fits_slice hf
    refine fin 0 h fun F w v hv ty w' => ?_
    rw [hx] at hv
    cases hv
    simp [Builtin.len_, run_underlying hd, goInt]
  · rename_i e hk hx
    rw [hk] at hf; obtain rfl := fits_slice hf
    refine fin 0 h fun F w v hv ty w' => ?_
    rw [hx] at hv
    cases hv
    simp [Builtin.len_, run_underlying hd, goInt]
  · exact h.elim
theorem cap_sound (ok : TTok P TT) {x : Operand} {tys : Array TypeId} {t : TypeId} {i : TI} {ρ : Operand → AV} {K : AV → Prop} (hty : tys.toList = [t]) (ht : TT t = some i) (h : capW i.k (ρ x) K) : ∃ v, K v ∧ SaysB P (.call ⟨.builtin .cap, #[x], tys⟩) ρ v := by
  obtain ⟨_, d, _, _, hd, _, _, hf, _, _⟩ := tt_fact ok ht
  obtain rfl : tys = #[t] := by cases tys; simp_all
  unfold capW at h
  have fin : K (.int .i64 0) → (∀ (F : Nat → Prop) (w : World) (v : Value), VRel F w (ρ x) v → ∀ ty w', (Builtin.cap_ #[t] ty #[v]).run P w' = .ok (.int .i64 0) w') → ∃ v, K v ∧ SaysB P (.call ⟨.builtin .cap, #[x], #[t]⟩) ρ v := by
    intro hk hr
    refine ⟨_, hk, says_of (fun _ _ => .int _ _) fun η F w o ho hxy => ?_⟩
    have a1 := hxy x (by simp [Op.operands, Call.operands])
    rw [call_args _ _ _ o ho]
    simp [builtin, hr F w _ a1]
  split at h
  · rename_i e hk hx
    rw [hk] at hf; obtain rfl := fits_slice hf
    refine fin h fun F w v hv ty w' => ?_
    rw [hx] at hv
    cases hv
    simp [Builtin.cap_, run_underlying hd, goInt]
  · rename_i e hk hx
    rw [hk] at hf; obtain rfl := fits_slice hf
    refine fin h fun F w v hv ty w' => ?_
    rw [hx] at hv
    cases hv
    simp [Builtin.cap_, run_underlying hd, goInt]
  · exact h.elim
theorem min_sound {x y : Operand} {tys : Array TypeId} {ρ : Operand → AV} {K : AV → Prop} (h : minW [ρ x, ρ y] K) : ∃ v, K v ∧ SaysB P (.call ⟨.builtin .min, #[x, y], tys⟩) ρ v := by
  unfold minW at h
  split at h
  · rename_i k a k' b e
    simp only [List.cons.injEq, and_true] at e
    split at h
    · refine ⟨_, h, says_of (fun _ _ => .int _ _) fun η F w o ho hxy => ?_⟩
      have a1 := hxy x (by simp [Op.operands, Call.operands]); rw [e.1] at a1
      have a2 := hxy y (by simp [Op.operands, Call.operands]); rw [e.2] at a2
      rw [call_args _ _ _ o ho]
      simp [builtin, Builtin.min_, Builtin.min2, a1.intv, a2.intv]
    · exact h.elim
  · exact h.elim
theorem max_sound {x y : Operand} {tys : Array TypeId} {ρ : Operand → AV} {K : AV → Prop} (h : maxW [ρ x, ρ y] K) : ∃ v, K v ∧ SaysB P (.call ⟨.builtin .max, #[x, y], tys⟩) ρ v := by
  unfold maxW at h
  split at h
  · rename_i k a k' b e
    simp only [List.cons.injEq, and_true] at e
    split at h
    · refine ⟨_, h, says_of (fun _ _ => .int _ _) fun η F w o ho hxy => ?_⟩
      have a1 := hxy x (by simp [Op.operands, Call.operands]); rw [e.1] at a1
      have a2 := hxy y (by simp [Op.operands, Call.operands]); rw [e.2] at a2
      rw [call_args _ _ _ o ho]
      simp [builtin, Builtin.max_, Builtin.max2, a1.intv, a2.intv]
    · exact h.elim
  · exact h.elim
theorem cplx_sound {x y : Operand} {tys : Array TypeId} {ρ : Operand → AV} {K : AV → Prop} (h : cplxW (ρ x) (ρ y) K) : ∃ v, K v ∧ SaysB P (.call ⟨.builtin .complex, #[x, y], tys⟩) ρ v := by
  unfold cplxW at h
  split at h
  · rename_i a b hx hy
    refine ⟨_, h, fun η F w o ho hxy => ?_⟩
    have a1 := hxy x (by simp [Op.operands, Call.operands]); rw [hx] at a1
    have a2 := hxy y (by simp [Op.operands, Call.operands]); rw [hy] at a2
    obtain ⟨r, e1, h1⟩ := a1.fltv
    obtain ⟨q, e2, h2⟩ := a2.fltv
    refine ⟨.complex .f64 r q, fun w' => ?_, .cpx _ _ _ _ h1 h2⟩
    rw [call_args _ _ _ o ho]
    rw [show Array.map η #[x, y] = #[η x, η y] by simp, e1, e2]; rfl
  · exact h.elim
theorem real_sound {x : Operand} {tys : Array TypeId} {ρ : Operand → AV} {K : AV → Prop} (h : realW (ρ x) K) : ∃ v, K v ∧ SaysB P (.call ⟨.builtin .real, #[x], tys⟩) ρ v := by
  unfold realW at h
  split at h
  · rename_i a b hx
    refine ⟨_, h, fun η F w o ho hxy => ?_⟩
    have a1 := hxy x (by simp [Op.operands, Call.operands]); rw [hx] at a1
    obtain ⟨r, q, e1, h1, h2⟩ := a1.cpxv
    refine ⟨.float .f64 r, fun w' => ?_, .flt _ _ h1⟩
    rw [call_args _ _ _ o ho]
    rw [show Array.map η #[x] = #[η x] by simp, e1]; rfl
  · exact h.elim
theorem imag_sound {x : Operand} {tys : Array TypeId} {ρ : Operand → AV} {K : AV → Prop} (h : imagW (ρ x) K) : ∃ v, K v ∧ SaysB P (.call ⟨.builtin .imag, #[x], tys⟩) ρ v := by
  unfold imagW at h
  split at h
  · rename_i a b hx
    refine ⟨_, h, fun η F w o ho hxy => ?_⟩
    have a1 := hxy x (by simp [Op.operands, Call.operands]); rw [hx] at a1
    obtain ⟨r, q, e1, h1, h2⟩ := a1.cpxv
    refine ⟨.float .f64 q, fun w' => ?_, .flt _ _ h2⟩
    rw [call_args _ _ _ o ho]
    rw [show Array.map η #[x] = #[η x] by simp, e1]; rfl
  · exact h.elim
theorem Holds.objv {F : Nat → Prop} {w : World} {b : Nat} {x : AV} {o : Obj} (h : Holds F w b [x]) (hx : objM x = some o) : ¬ F b ∧ w.heap[b]? = some o := by
  obtain ⟨hF, ⟨c, T, h1, h2, h3⟩ | ⟨x', o', h1, h2, h3⟩ | ⟨_, _, h1, _⟩⟩ := h
  · have := (h3 0 _ rfl).1; rw [objM_leaf hx] at this; cases this
  · cases h1; rw [hx] at h3; cases h3; exact ⟨hF, h2⟩
  · cases h1; cases hx
theorem Holds.mapv {F : Nat → Prop} {w : World} {b : Nat} {l : List (Int × Int)} (h : Holds F w b [.mapc l]) : ¬ F b ∧ w.heap[b]? = some (.map (mapE 0 l).toArray l.length) := h.objv rfl
theorem Holds.loopv {F : Nat → Prop} {w : World} {b : Nat} {L : Loop} {t : Nat → AV} (h : Holds F w b [.loopc L t]) : ¬ F b ∧ w.heap[b]? = some (.loop L) ∧ ∀ i, VRel F w (t i) (L.tmps.getD i undef) := by
  obtain ⟨hF, ⟨c, T, h1, h2, h3⟩ | ⟨x, o, h1, h2, h3⟩ | ⟨_, _, h1, h2⟩⟩ := h
  · have := (h3 0 _ rfl).1; cases this
  · cases h1; cases h3
  · cases h1; exact ⟨hF, h2⟩
theorem VRel.itrv {F : Nat → Prop} {w : World} {b : Nat} {v : Value} (h : VRel F w (.itr b) v) : v = .pointer (some ⟨b, 0, none⟩) := by cases h; rfl
theorem VRel.maprv {F : Nat → Prop} {w : World} {b : Nat} {v : Value} (h : VRel F w (.mapr b) v) : v = .map (some b) := by cases h; rfl
theorem mapZ_fact (ok : TTok P TT) {t : TypeId} {z : Int} (h : mapZ TT t = some z) : ∃ k e, P.underlying t = some (.map k e) ∧ P.underlying k = some (.int .i64) ∧ ∀ w, (zeroValue e).run P w = .ok (.int .i64 z) w := by
  unfold mapZ at h
  split at h
  · rename_i k e s1 b1 z1 ht
    split at h
    · rename_i s2 b2 z2 s3 b3 zz hk he
      cases h
      obtain ⟨_, d1, _, _, hd1, _, _, hf1, _, _⟩ := tt_fact ok ht
      obtain ⟨_, d2, _, _, hd2, _, _, hf2, _, _⟩ := tt_fact ok hk
      obtain ⟨j3, d3, zv, hj3, hd3, _, _, hf3, hz3, hzz⟩ := tt_fact ok he
      have := fits_map hf1; subst this
      have := fits_int hf2; subst this
      have hzp : zv = .int .i64 z := by
        obtain ⟨j2, z2', k1, k2, k3⟩ := tt_zero ok he rfl
        rw [hj3] at k1; cases k1
        rw [hz3] at k2; cases k2
        cases zv with
        | agg cs => cases k3
        | int q n =>
          simp [Value.cells, zeroB, AV.isVal] at hzz
          obtain ⟨rfl, rfl⟩ := hzz
          rfl
        | _ => exact absurd hzz (by simp [Value.cells, zeroB, AV.isVal])
      exact ⟨k, e, hd1, hd2, fun w => by simp [zeroValue, typeInfo, hj3, hz3, hzp]⟩
    · cases h
  · cases h
theorem lookup_sound (ok : TTok P TT) {t : TypeId} {m k : Operand} {c : Bool} {ρ : Operand → AV} {σ : Hp} {K : AV → Prop} (h : lookupW TT t (unvia (ρ m)) (unvia (ρ k)) c σ K) : ∃ v, K v ∧ Says P (.lookup t m k c) ρ σ v := by
  unfold lookupW at h
  split at h
  · rename_i z n hz hk
    obtain ⟨kt, et, h1, h2, h3⟩ := mapZ_fact ok hz
    obtain ⟨j, b, l, hm, hj, go⟩ := h
    have hs : ∀ (η : Operand → Value) (F : Nat → Prop) (w : World) (o : Oper), o.op = .lookup t m k c → (∀ x ∈ (Op.lookup t m k c).operands.toList, VRel F w (ρ x) (η x)) → RelHp F w σ → (execOp η o).run P w = .ok (.value (if c then .tuple #[.int .i64 ((getM l n).getD z), .bool (getM l n).isSome] else .int .i64 ((getM l n).getD z))) w := fun η F w o ho hx hσ => by
      have a1 := (hx m (by simp [Op.operands])).unvia
      rw [hm] at a1
      have a2 := (hx k (by simp [Op.operands])).unvia
      rw [hk] at a2
      have e1 : η m = .map (some b) := a1.maprv
      have e2 : η k = .int .i64 n := a2.intv
      obtain ⟨_, hb⟩ := (hσ.holds _ (List.mem_of_getElem? hj)).mapv
      simp [execOp, ho, e1, e2, run_lookupM h1 h2 (h3 w) hb n c]
    cases c with
    | true =>
      exact ⟨_, go, fun η F w o ho hx hσ => ⟨_, hs η F w o ho hx hσ, .tup _ _ rfl fun i y hy => by
        rcases i with _ | _ | i
        · simp at hy; subst hy; exact .int _ _
        · simp at hy; subst hy; exact .bool _
        · simp at hy⟩⟩
    | false => exact ⟨_, go, fun η F w o ho hx hσ => ⟨_, hs η F w o ho hx hσ, .int _ _⟩⟩
  · exact h.elim
/-- Does an operation look at no memory? -/
def blindB : Op → Bool
  | .load _ _ | .lookup _ _ _ _ => false
  | _ => true
theorem opD_blind (ok : TTok P TT) {op : Op} {ρ : Operand → AV} {σ : Hp} {K : AV → Prop} (hb : blindB op = true) (h : opD P TT op ρ σ K) : ∃ v, K v ∧ SaysB P op ρ v := by
  unfold opD at h
  split at h
  · rw [strict_eq] at h; exact ⟨_, h, says_move⟩
  · rw [strict_eq] at h; exact ⟨_, h, says_assign⟩
  · split at h
    · rename_i x hx
      rw [strict_eq, strict_eq] at h
      refine ⟨_, ?_, says_pick hx⟩
      cases x <;> exact h
    · exact h.elim
  · split at h
    · rename_i v hv
      exact ⟨v, h, build_sound ok hv⟩
    · exact h.elim
  · split at h
    · cases hb
    · exact h.elim
  · rename_i x
    split at h
    · rename_i b o' hx
      refine ⟨_, h, saysP rfl fun η F w o ho hxy => ?_⟩
      have h1 := hxy x (by simp [Op.operands]); rw [hx] at h1
      exact ⟨h1.ptr_cells, fun _ => by simp [execOp, ho, h1.ptrv]⟩
    · rename_i cs hx
      refine ⟨_, h, fun η F w o ho hxy => ?_⟩
      have h1 := hxy x (by simp [Op.operands]); rw [hx] at h1
      obtain ⟨b, o', e, hF, hat⟩ := h1.eptr_at
      exact ⟨_, by simp [execOp, ho, e], hat.eptr hF⟩
    · rename_i f a c hx
      refine ⟨_, h, fun η F w o ho hxy => ?_⟩
      have h1 := hxy x (by simp [Op.operands]); rw [hx] at h1
      cases hv : η x with
      | func f' v1 v2 =>
        rw [hv] at h1
        have : f' = .func f := by cases h1; rfl
        subst this
        exact ⟨_, by simp [execOp, ho, hv], h1⟩
      | _ => rw [hv] at h1; cases h1
    · rename_i m t b o' c hx
      obtain ⟨ha, h⟩ := h
      refine ⟨_, h, fun η F w o ho hxy => ?_⟩
      have h1 := hxy x (by simp [Op.operands]); rw [hx] at h1
      cases hv : η x with
      | func f' v1 v2 =>
        rw [hv] at h1
        have h2 := h1
        obtain ⟨rfl, hs, hr⟩ : f' = .method m ∧ 1 = v1.size ∧ VRel F w (.iface t (.ptr b o')) (v1.getD 0 undef) := by
          cases h1 with | fn _ _ _ _ _ hs1 hs2 h1 h2 => exact ⟨rfl, hs1, h1 0 _ rfl⟩
        have h0 : v1[0]? = some (.iface t (.pointer (some ⟨b, o', none⟩))) := by
          have hlt : 0 < v1.size := by omega
          have e1 : v1.getD 0 undef = v1[0] := by simp [Array.getD, hlt]
          rw [e1] at hr
          rw [Array.getElem?_eq_getElem hlt]
          revert hr
          generalize v1[0] = u
          intro hr
          cases hr with
          | iface _ _ _ h => cases h; rfl
        refine ⟨.func (.method m) v1 v2, fun w' => ?_, h2⟩
        have hn := ha ⟨b, o', none⟩ w'
        simp only [execOp, ho, hv, h0, Sem.run_bind, run_program, Result.andThen_ok, hn]
        rfl
      | _ => rw [hv] at h1; cases h1
    · rename_i t v hx
      refine ⟨_, h, fun η F w o ho hxy => ?_⟩
      have h1 := hxy x (by simp [Op.operands]); rw [hx] at h1
      cases hv : η x with
      | iface t' v' =>
        rw [hv] at h1
        exact ⟨_, by simp [execOp, ho, hv], h1⟩
      | _ => rw [hv] at h1; cases h1
    · exact h.elim
  · exact saysB_unvia (binA_sound ok (ρ := fun x => unvia (ρ x)) h)
  · exact un_sound h
  · exact conv_sound ok h
  · rename_i t x
    split at h
    · exact h.elim
    · rename_i i hn hi
      exact ⟨_, h, iface_sound ok hi (fun e => hn i.size i.bytes i.zero (by rw [← e]))⟩
    · exact h.elim
  · exact ⟨_, h, makeFunc_sound⟩
  · exact saysB_unvia (slice_sound ok (ρ := fun x => unvia (ρ x)) h)
  · exact fieldAddr_sound ok h
  · exact field_sound ok h
  · exact saysB_unvia (indexAddr_sound ok (ρ := fun x => unvia (ρ x)) h)
  · rename_i x tx t ok2
    split at h
    · rename_i e s b t' v ht hx
      exact assert_sound ok ht rfl (.inl ⟨t', v, hx, h⟩)
    · rename_i e s b ht hx
      exact assert_sound ok ht rfl (.inr ⟨hx, h⟩)
    · exact h.elim
  · cases hb
  · split at h
    · rename_i vs hx
      split at h
      · rename_i v hv; exact ⟨v, h, extract_sound hx hv⟩
      · exact h.elim
    · exact h.elim
  · rename_i args tys
    split at h
    · rename_i x t hx ht
      obtain rfl : args = #[x] := by cases args; simp_all
      split at h
      · rename_i i hi; exact saysB_unvia (len_sound ok ht hi (ρ := fun x => unvia (ρ x)) h)
      · exact h.elim
    · exact h.elim
  · rename_i args tys
    split at h
    · rename_i x y hx
      obtain rfl : args = #[x, y] := by cases args; simp_all
      exact min_sound h
    · exact h.elim
  · rename_i args tys
    split at h
    · rename_i x y hx
      obtain rfl : args = #[x, y] := by cases args; simp_all
      exact max_sound h
    · exact h.elim
  · rename_i args tys
    split at h
    · rename_i x y hx
      obtain rfl : args = #[x, y] := by cases args; simp_all
      exact cplx_sound h
    · exact h.elim
  · rename_i args tys
    split at h
    · rename_i x hx
      obtain rfl : args = #[x] := by cases args; simp_all
      exact real_sound h
    · exact h.elim
  · rename_i args tys
    split at h
    · rename_i x hx
      obtain rfl : args = #[x] := by cases args; simp_all
      exact imag_sound h
    · exact h.elim
  · rename_i args tys
    split at h
    · rename_i x t hx ht
      obtain rfl : args = #[x] := by cases args; simp_all
      split at h
      · rename_i i hi; exact saysB_unvia (cap_sound ok ht hi (ρ := fun x => unvia (ρ x)) h)
      · exact h.elim
    · exact h.elim
  · exact h.elim
theorem opD_sound (ok : TTok P TT) {op : Op} {ρ : Operand → AV} {σ : Hp} {K : AV → Prop} (h : opD P TT op ρ σ K) : ∃ v, K v ∧ Says P op ρ σ v := by
  cases hb : blindB op with
  | true =>
    obtain ⟨v, h1, h2⟩ := opD_blind ok hb h
    exact ⟨v, h1, h2.says σ⟩
  | false =>
    cases op with
    | load t a =>
      have h : (match TT t with | some i => loadW i (ρ a) σ K | none => False) := h
      split at h
      · rename_i i hi; exact load_sound ok hi h
      · exact h.elim
    | lookup t m k c => exact lookup_sound ok h
    | _ => cases hb
end
end Go.Proofs.Ytacacplipaeokaa
