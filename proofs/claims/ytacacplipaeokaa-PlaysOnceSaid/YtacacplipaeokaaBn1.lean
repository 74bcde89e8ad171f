/-
  Reads: what the claim uses of them.
-/
import Derived.Below
import Derived.BigQuiet
import Derived.Carry
import Derived.ChangeOld
import Derived.Deep.OwnRows
import Derived.Deep.QuietTactic
import Derived.Deep.Slices
import Derived.Handy
import Derived.Maps.AppendAt
import Derived.OpenShut
import Derived.ProofKit
import Derived.ShutString
import Derived.Stop.IfaceNil
import Derived.Test.YtacacplipaeokaaRows
import Derived.WalkKit
import Derived.WalkLawsBesides
import Derived.WalkSpells
namespace Go.Proofs.Ytacacplipaeokaa
open Go.RowKit
/-- The slice value v reads, in w, as the numbers zs of kind k. -/
def IntRow (w : World) (k : IntKind) (v : Value) (zs : List Int) : Prop :=
  ∃ a c, v = .slice a zs.length c ∧ zs.length ≤ maxLen ∧ (zs ≠ [] → ∃ b o, a = some ⟨b, o, none⟩ ∧ ∀ i, (h : i < zs.length) → w.cell? ⟨b, o + i, none⟩ = some (.int k zs[i]))
theorem IntRow.below {B : Nat} {w w' : World} {k : IntKind} {v : Value} {zs : List Int} (h : IntRow w k v zs) (hb : Below B w w') (hB : w.heap.size ≤ B) : IntRow w' k v zs := by
  obtain ⟨a, c, rfl, hm, ha⟩ := h
  refine ⟨a, c, rfl, hm, fun hz => ?_⟩
  obtain ⟨b, o, rfl, hc⟩ := ha hz
  refine ⟨b, o, rfl, fun i hi => ?_⟩
  have := hc i hi
  rw [hb.cell (p := ⟨b, o + i, none⟩) (Nat.lt_of_lt_of_le (World.block_lt_of_cell? w _ this) hB)]
  exact this
/-- What was there before is as it was, but for the blocks of S. -/
structure Turn (w w' : World) (S : List Nat) : Prop where
  os : w'.os = w.os
  tape : w'.tape = w.tape
  output : w'.output = w.output
  size : w.heap.size ≤ w'.heap.size
  block : ∀ k, k < w.heap.size → k ∉ S → w'.heap[k]? = w.heap[k]?
theorem Turn.refl (w : World) (S : List Nat) : Turn w w S := ⟨rfl, rfl, rfl, Nat.le_refl _, fun _ _ _ => rfl⟩
theorem Turn.trans {a b c : World} {S T U : List Nat} (h : Turn a b S) (k : Turn b c T) (hS : ∀ x ∈ S, x < a.heap.size → x ∈ U) (hT : ∀ x ∈ T, x < a.heap.size → x ∈ U) : Turn a c U :=
  ⟨k.os.trans h.os, k.tape.trans h.tape, k.output.trans h.output, Nat.le_trans h.size k.size, fun i hi hn =>
    (k.block i (Nat.lt_of_lt_of_le hi h.size) (fun hx => hn (hT i hx hi))).trans (h.block i hi (fun hx => hn (hS i hx hi)))⟩
theorem Turn.mono {a b : World} {S T : List Nat} (h : Turn a b S) (hS : ∀ x ∈ S, x < a.heap.size → x ∈ T) : Turn a b T := ⟨h.os, h.tape, h.output, h.size, fun i hi hn => h.block i hi (fun hx => hn (hS i hx hi))⟩
theorem Turn.alloc {a b : World} {S : List Nat} (h : Turn a b S) (o : Obj) : Turn a (b.alloc o) S :=
  ⟨h.os, h.tape, h.output, Nat.le_trans h.size (by simp), fun i hi hn => (Below.heap_alloc b o i (Nat.lt_of_lt_of_le hi h.size)).trans (h.block i hi hn)⟩
theorem Turn.drew {a b : World} {S : List Nat} (h : Turn a b S) : Turn a b.drew S := ⟨h.os, h.tape, h.output, h.size, h.block⟩
theorem Turn.below {a b : World} {S : List Nat} (h : Turn a b S) {B : Nat} (hB : B ≤ a.heap.size) (hS : ∀ x ∈ S, B ≤ x) : Below B a b := ⟨h.os, h.tape, h.output, h.size, fun i hi => h.block i (by omega) (fun hx => by have := hS i hx; omega)⟩
theorem Turn.at {a b : World} {S : List Nat} (h : Turn a b S) {k : Nat} {o : Obj} (ho : a.heap[k]? = some o) (hk : k ∉ S) : b.heap[k]? = some o :=
  (h.block k (Array.getElem?_eq_some_iff.1 ho).1 hk).trans ho
theorem at_lt {w : World} {k : Nat} {o : Obj} (h : w.heap[k]? = some o) : k < w.heap.size := (Array.getElem?_eq_some_iff.1 h).1
theorem cell_at {w : World} {k i : Nat} {c : Array Value} {t : TypeId} {fz : Nat × Nat} (h : w.heap[k]? = some (.cells c t fz)) : w.cell? ⟨k, i, none⟩ = c[i]? := by simp [World.cell?, h]
theorem alloc_at (w : World) (o : Obj) : (w.alloc o).heap[w.heap.size]? = some o := heap_alloc_new w o
end Go.Proofs.Ytacacplipaeokaa
namespace Go.Proofs.Ytacacplipaeokaa
open Go.RowKit Go.ChangeShapes Go.WideShapes Go.ChangeAt Go.Deep
/-- A shape: a struct is a chain of fields. -/
inductive Sh where
  | int (k : IntKind)
  | bool
  | str
  | slice (e : Sh)
  | nil
  | field (f r : Sh)
def Sh.size : Sh → Nat
  | .int _ => 1
  | .bool => 1
  | .str => 1
  | .slice _ => 1
  | .nil => 0
  | .field f r => f.size + r.size
def Sh.T : Sh → Type
  | .int _ => Int
  | .bool => Bool
  | .str => ByteArray
  | .slice e => List e.T
  | .nil => Unit
  | .field f r => f.T × r.T
def Sh.dflt : (s : Sh) → s.T
  | .int _ => (0 : Int)
  | .bool => false
  | .str => ByteArray.empty
  | .slice _ => []
  | .nil => ()
  | .field f r => (f.dflt, r.dflt)
/-- The cells cs lie in block b from o on. -/
def Lies (w : World) (b o : Nat) (cs : List Value) : Prop := ∀ j u, cs[j]? = some u → w.cell? ⟨b, o + j, none⟩ = some u
/-- The cells cs read, in w, as the datum. -/
def Reads (w : World) : (s : Sh) → List Value → s.T → Prop
  | .int k, cs, (n : Int) => cs = [.int k n] ∧ (Lit.int k n).wf = true
  | .bool, cs, (b : Bool) => cs = [.bool b]
  | .str, cs, (s : ByteArray) => cs = [.string s] ∧ s.size ≤ maxLen
  | .slice e, cs, (l : List e.T) => ∃ (a : Option Addr) (c : Nat), cs = [.slice a l.length c] ∧ l.length ≤ c ∧ c ≤ maxLen ∧ (a = none → c = 0) ∧
      (l ≠ [] → ∃ b o, a = some ⟨b, o, none⟩ ∧ ∀ i, (h : i < l.length) → ∃ cs', cs'.length = e.size ∧ Lies w b (o + i * e.size) cs' ∧ Reads w e cs' l[i])
  | .nil, cs, _ => cs = []
  | .field f r, cs, (d : f.T × r.T) => ∃ c1 c2, cs = c1 ++ c2 ∧ c1.length = f.size ∧ Reads w f c1 d.1 ∧ Reads w r c2 d.2
/-- Does the type fit the shape? (By the kernel, over the loaded program.) -/
def Sh.fit (P : Program) : Sh → Sum TypeId (List Field × Nat) → Bool
  | .int k, .inl t => match P.underlying t with | some (.int k') => decide (k = k') | _ => false
  | .bool, .inl t => match P.underlying t with | some .bool => true | _ => false
  | .str, .inl t => match P.underlying t with | some .string => true | _ => false
  | .slice e, .inl t => match P.underlying t with | some (.slice e') => e.fit P (.inl e') && decide (P.cellsOf e' = e.size) && decide (0 < e.size) | _ => false
  | .nil, .inr ([], _) => true
  | .nil, .inl t => match P.underlying t with | some (.struct fs) => fs.toList.isEmpty && decide (P.cellsOf t = 0) | _ => false
  | .field f r, .inr (f0 :: fs, off) => decide (f0.offset = off) && decide (P.cellsOf f0.type = f.size) && f.fit P (.inl f0.type) && r.fit P (.inr (fs, off + f.size))
  | .field f r, .inl t => match P.underlying t with
    | some (.struct fs) => match fs.toList with
      | f0 :: fs' => decide (P.cellsOf t = f.size + r.size) && (decide (f0.offset = 0) && decide (P.cellsOf f0.type = f.size) && f.fit P (.inl f0.type) && r.fit P (.inr (fs', f.size)))
      | [] => false
    | _ => false
  | _, _ => false
theorem andB {a b : Bool} (h : (a && b) = true) : a = true ∧ b = true := by simpa using h
theorem Lies.spot {w : World} {a : Addr} {n : Nat} {cs : List Value} (hn : 0 < n) (hl : cs.length = n) (h : ∀ i, i < n → w.cell? (a.add i) = cs[i]?) : a.spot = none := by
  have h0 := h 0 hn
  rw [List.getElem?_eq_getElem (by omega)] at h0
  exact World.cell?_spot h0
/-- The fields of a struct, from the i-th on. -/
theorem reads_of {H : Type} {enc : TypeId × Value → H} {P : Program} {w : World} {base : Nat} {spare : Nat → Bool} {held : Bool} (s : Sh) :
    (∀ (t : TypeId) (fuel : Nat) (cs : List Value) (x : DataW H × List MemPlace), s.fit P (.inl t) = true → DataW.trod enc P w base spare held fuel t cs = some x → cs.length = s.size ∧ ∃ d, Reads w s cs d) ∧
    (∀ (fs : List Field) (off n : Nat) (cs : List Value), s.fit P (.inr (fs, off)) = true → cs.length = off + s.size →
      (∀ (i : Nat) (f : Field), fs[i]? = some f → ∃ x, DataW.trod enc P w base spare held n f.type ((cs.drop f.offset).take (P.cellsOf f.type)) = some x) → ∃ d, Reads w s (cs.drop off) d) := by
  induction s with
  | int k =>
    refine ⟨fun t fuel cs x hf h => ?_, fun fs off n cs hf => by simp [Sh.fit] at hf⟩
    unfold Sh.fit at hf
    split at hf
    · rename_i k' hk
      have := of_decide_eq_true hf
      subst this
      obtain ⟨n, rfl, _, hw⟩ := DataW.trod_int hk h
      exact ⟨rfl, n, rfl, hw⟩
    · cases hf
  | bool =>
    refine ⟨fun t fuel cs x hf h => ?_, fun fs off n cs hf => by simp [Sh.fit] at hf⟩
    unfold Sh.fit at hf
    split at hf
    · rename_i hk
      obtain ⟨b, rfl, _⟩ := DataW.trod_bool hk h
      exact ⟨rfl, b, rfl⟩
    · cases hf
  | str =>
    refine ⟨fun t fuel cs x hf h => ?_, fun fs off n cs hf => by simp [Sh.fit] at hf⟩
    unfold Sh.fit at hf
    split at hf
    · rename_i hk
      obtain ⟨b, rfl, _, hb⟩ := DataW.trod_string hk h
      exact ⟨rfl, b, rfl, hb⟩
    · cases hf
  | slice e ih =>
    refine ⟨fun t fuel cs x hf h => ?_, fun fs off n cs hf => by simp [Sh.fit] at hf⟩
    unfold Sh.fit at hf
    split at hf
    · rename_i e' hk
      obtain ⟨hf1, h0⟩ := andB hf
      obtain ⟨hf2, hsz⟩ := andB hf1
      have hsz := of_decide_eq_true hsz
      have h0 := of_decide_eq_true h0
      rcases open_slice hk h with ⟨rfl, _⟩ | ⟨a, len, cap, m, n, D, Pl, rfl, hb, hl, hm, hmm, _, hi⟩
      · exact ⟨rfl, [], none, 0, rfl, Nat.le_refl _, by simp, fun _ => rfl, fun hne => absurd rfl hne⟩
      · have hlm : len ≤ m := by rw [hmm]; split <;> omega
        have hel : ∀ i, i < len → ∃ (y : List Value × e.T), y.1.length = e.size ∧ w.cells? base (a.add (i * e.size)) e.size = some y.1 ∧ Reads w e y.1 y.2 := by
          intro i hil
          obtain ⟨cs', h1, h2⟩ := hi i (by omega)
          obtain ⟨h3, d, h4⟩ := ih.1 e' n cs' _ hf2 h2
          rw [hsz] at h1
          exact ⟨(cs', d), h3, h1, h4⟩
        obtain ⟨V, hV⟩ := @choose_lt _ ⟨([], e.dflt)⟩ _ _ hel
        refine ⟨rfl, (List.range len).map (fun i => (V i).2), some a, cap, by simp, by simpa using hl, hm, (fun e => by cases e), fun hne => ?_⟩
        have hpos : 0 < len := by
          rcases Nat.eq_zero_or_pos len with h | h
          · subst h; exact absurd rfl hne
          · exact h
        obtain ⟨b, o, spot⟩ := a
        have hspot : spot = none := by
          obtain ⟨q1, q2, _⟩ := hV 0 hpos
          obtain ⟨_, q4, q5⟩ := World.cells?_some q2
          have := Lies.spot (a := (⟨b, o, spot⟩ : Addr).add (0 * e.size)) h0 q4 q5
          unfold Addr.add at this
          split at this <;> simp_all
        subst hspot
        refine ⟨b, o, rfl, fun i hi => ?_⟩
        have hi' : i < len := by simpa using hi
        obtain ⟨q1, q2, q3⟩ := hV i hi'
        obtain ⟨_, q4, q5⟩ := World.cells?_some q2
        refine ⟨(V i).1, q1, fun j u hu => ?_, by simpa using q3⟩
        have hj : j < e.size := by have := (List.getElem?_eq_some_iff.1 hu).1; omega
        have := q5 j hj
        rw [Addr.add_lit, Addr.add_lit] at this
        rw [this, hu]
    · cases hf
  | nil =>
    refine ⟨fun t fuel cs x hf h => ?_, fun fs off n cs hf hl _ => ?_⟩
    · unfold Sh.fit at hf
      split at hf
      · rename_i fs hk
        obtain ⟨_, hz⟩ := andB hf
        have hz := of_decide_eq_true hz
        obtain ⟨xs, n, _, _, hlen, _⟩ := DataW.trod_struct hk h
        have : cs = [] := List.length_eq_zero_iff.1 (by omega)
        exact ⟨by simp [this, Sh.size], (), this⟩
      · cases hf
    · exact ⟨(), List.drop_eq_nil_of_le (by simp [Sh.size] at hl; omega)⟩
  | field f r ihf ihr =>
    have key : ∀ (f0 : Field) (fs : List Field) (off n : Nat) (cs : List Value),
        (decide (f0.offset = off) && decide (P.cellsOf f0.type = f.size) && f.fit P (.inl f0.type) && r.fit P (.inr (fs, off + f.size))) = true → cs.length = off + (f.size + r.size) →
        (∀ (i : Nat) (g : Field), (f0 :: fs)[i]? = some g → ∃ x, DataW.trod enc P w base spare held n g.type ((cs.drop g.offset).take (P.cellsOf g.type)) = some x) → ∃ d, Reads w (.field f r) (cs.drop off) d := by
      intro f0 fs off n cs hf hl hx
      obtain ⟨hf1, hr⟩ := andB hf
      obtain ⟨hf2, hff⟩ := andB hf1
      obtain ⟨ho, hc⟩ := andB hf2
      have ho := of_decide_eq_true ho
      have hc := of_decide_eq_true hc
      obtain ⟨x, hx0⟩ := hx 0 f0 rfl
      obtain ⟨hl1, d1, hd1⟩ := ihf.1 _ _ _ _ hff hx0
      obtain ⟨d2, hd2⟩ := ihr.2 fs (off + f.size) n cs hr (by omega) (fun i g hg => hx (i + 1) g (by simpa using hg))
      refine ⟨(d1, d2), (cs.drop f0.offset).take (P.cellsOf f0.type), cs.drop (off + f.size), ?_, hl1, hd1, hd2⟩
      rw [ho, hc, ← List.drop_drop, List.take_append_drop]
    refine ⟨fun t fuel cs x hf h => ?_, fun fs off n cs hf hl hx => ?_⟩
    · unfold Sh.fit at hf
      split at hf
      · rename_i fs hk
        split at hf
        · rename_i f0 fs' hfs
          obtain ⟨hz, hf'⟩ := andB hf
          have hz := of_decide_eq_true hz
          obtain ⟨xs, n, _, _, hlen, hxl, hg⟩ := DataW.trod_struct hk h
          have hl : cs.length = 0 + (f.size + r.size) := by omega
          obtain ⟨d, hd⟩ := key f0 fs' 0 n cs (by simpa using hf') hl (fun i g hig => by
            have hi : fs[i]? = some g := by rw [← Array.getElem?_toList, hfs]; exact hig
            have := hg i g hi
            have hix : i < xs.length := by rw [hxl]; exact (Array.getElem?_eq_some_iff.1 hi).1
            exact ⟨xs[i], by rw [this]; exact List.getElem?_eq_getElem hix⟩)
          exact ⟨by simpa [Sh.size] using hl, d, by simpa using hd⟩
        · cases hf
      · cases hf
    · cases fs with
      | nil => simp [Sh.fit] at hf
      | cons f0 fs' => exact key f0 fs' off n cs (by simpa [Sh.fit] using hf) (by simpa [Sh.size] using hl) hx
theorem Lies.below {B : Nat} {w w' : World} {b o : Nat} {cs : List Value} (h : Lies w b o cs) (hb : Below B w w') (hB : w.heap.size ≤ B) : Lies w' b o cs := fun j u hu => by
  have := h j u hu
  rw [hb.cell (p := ⟨b, o + j, none⟩) (Nat.lt_of_lt_of_le (World.block_lt_of_cell? w _ this) hB)]
  exact this
theorem Reads.below {B : Nat} {w w' : World} (hb : Below B w w') (hB : w.heap.size ≤ B) : ∀ (s : Sh) (cs : List Value) (d : s.T), Reads w s cs d → Reads w' s cs d := by
  intro s
  induction s with
  | int k => exact fun _ _ h => h
  | bool => exact fun _ _ h => h
  | str => exact fun _ _ h => h
  | nil => exact fun _ _ h => h
  | slice e ih =>
    rintro cs l ⟨a, c, h1, h2, h3, h0, h4⟩
    refine ⟨a, c, h1, h2, h3, h0, fun hne => ?_⟩
    obtain ⟨b, o, rfl, hi⟩ := h4 hne
    refine ⟨b, o, rfl, fun i h => ?_⟩
    obtain ⟨cs', q1, q2, q3⟩ := hi i h
    exact ⟨cs', q1, q2.below hb hB, ih _ _ q3⟩
  | field f r ihf ihr =>
    rintro cs d ⟨c1, c2, h1, h2, h3, h4⟩
    exact ⟨c1, c2, h1, h2, ihf _ _ h3, ihr _ _ h4⟩
theorem Reads.turn {w w' : World} (t : Turn w w' []) (s : Sh) (cs : List Value) (d : s.T) (h : Reads w s cs d) : Reads w' s cs d := Reads.below (t.below (B := w.heap.size) (Nat.le_refl _) (by simp)) (Nat.le_refl _) s cs d h
/-- The argument of a row, opened. -/
theorem reads_arg {H : Type} {enc : TypeId × Value → H} {P : Program} {w : World} {base : Nat} {spare : Nat → Bool} {held : Bool} {t : TypeId} {v : Value} {d : DataW H} {p : List MemPlace} (s : Sh) (hs : s.fit P (.inl t) = true)
    (h : DataW.Trod enc P w base spare held t v d p) : ∃ x : s.T, Reads w s v.cells.toList x := by
  obtain ⟨fuel, hf⟩ := h
  exact ((reads_of s).1 t fuel _ _ hs hf).2
end Go.Proofs.Ytacacplipaeokaa
