/-
  Plain helpers, over no program: what a call leaves alone, block by block ('Turn'); a block known whole.
-/
import Derived.Test.YtiihcgmnmcdcfaaBase
import Derived.Deep.OwnRows
import Derived.Stop.IfaceNil
import Derived.WalkLawsBesides
import Derived.WalkSpells
namespace Go.Proofs.Ytiihcgmnmcdcfaa
open Go.RowKit
/-- What was there before is as it was, but for the blocks of S. -/
structure Turn (w w' : World) (S : List Nat) : Prop where
  os : w'.os = w.os
  tape : w'.tape = w.tape
  output : w'.output = w.output
  size : w.heap.size ≤ w'.heap.size
  block : ∀ k, k < w.heap.size → k ∉ S → w'.heap[k]? = w.heap[k]?

theorem Turn.refl (w : World) (S : List Nat) : Turn w w S := ⟨rfl, rfl, rfl, Nat.le_refl _, fun _ _ _ => rfl⟩
theorem Turn.trans {a b c : World} {S T U : List Nat} (h : Turn a b S) (k : Turn b c T) (hS : ∀ x ∈ S, x < a.heap.size → x ∈ U) (hT : ∀ x ∈ T, x < a.heap.size → x ∈ U) : Turn a c U :=
  ⟨k.os.trans h.os, k.tape.trans h.tape, k.output.trans h.output, Nat.le_trans h.size k.size, fun i hi hn =>
    (k.block i (Nat.lt_of_lt_of_le hi h.size) (fun hx => hn (hT i hx hi))).trans (h.block i hi (fun hx => hn (hS i hx hi)))⟩
theorem Turn.then_ {a b c : World} {S : List Nat} (h : Turn a b S) (k : Turn b c S) : Turn a c S := h.trans k (fun _ hx _ => hx) (fun _ hx _ => hx)
theorem Turn.mono {a b : World} {S T : List Nat} (h : Turn a b S) (hS : ∀ x ∈ S, x < a.heap.size → x ∈ T) : Turn a b T := ⟨h.os, h.tape, h.output, h.size, fun i hi hn => h.block i hi (fun hx => hn (hS i hx hi))⟩
theorem Turn.alloc {a b : World} {S : List Nat} (h : Turn a b S) (o : Obj) : Turn a (b.alloc o) S :=
  ⟨h.os, h.tape, h.output, Nat.le_trans h.size (by simp), fun i hi hn => (Below.heap_alloc b o i (Nat.lt_of_lt_of_le hi h.size)).trans (h.block i hi hn)⟩
theorem Turn.drew {a b : World} {S : List Nat} (h : Turn a b S) : Turn a b.drew S := ⟨h.os, h.tape, h.output, h.size, h.block⟩
theorem Turn.drewN {a b : World} {S : List Nat} (h : Turn a b S) (n : Nat) : Turn a (b.drewN n) S := ⟨h.os, h.tape, h.output, h.size, h.block⟩
theorem Turn.setCell {a b : World} {S : List Nat} (h : Turn a b S) {p : Addr} (hp : p.block ∈ S ∨ a.heap.size ≤ p.block) (u : Value) : Turn a (b.setCell p u) S :=
  ⟨h.os, h.tape, h.output, by simpa [World.setCell] using h.size, fun i hi hn => (Below.heap_setCell b p u i (by
    rintro rfl
    rcases hp with hp | hp
    · exact hn hp
    · omega)).trans (h.block i hi hn)⟩
theorem Turn.of_below {a b : World} (h : Below a.heap.size a b) (S : List Nat) : Turn a b S := ⟨h.os, h.tape, h.output, h.size, fun i hi _ => h.block i hi⟩
theorem Turn.below {a b : World} {S : List Nat} (h : Turn a b S) {B : Nat} (hB : B ≤ a.heap.size) (hS : ∀ x ∈ S, B ≤ x) : Below B a b := ⟨h.os, h.tape, h.output, h.size, fun i hi => h.block i (by omega) (fun hx => by have := hS i hx; omega)⟩
theorem Turn.at {a b : World} {S : List Nat} (h : Turn a b S) {k : Nat} {o : Obj} (ho : a.heap[k]? = some o) (hk : k ∉ S) : b.heap[k]? = some o :=
  (h.block k (Array.getElem?_eq_some_iff.1 ho).1 hk).trans ho
theorem at_lt {w : World} {k : Nat} {o : Obj} (h : w.heap[k]? = some o) : k < w.heap.size := (Array.getElem?_eq_some_iff.1 h).1
theorem cell_at {w : World} {k i : Nat} {c : Array Value} {t : TypeId} {fz : Nat × Nat} (h : w.heap[k]? = some (.cells c t fz)) : w.cell? ⟨k, i, none⟩ = c[i]? := by simp [World.cell?, h]
theorem frozen_at {w : World} {k i : Nat} {c : Array Value} {t : TypeId} (h : w.heap[k]? = some (.cells c t (0, 0))) : w.frozen? ⟨k, i, none⟩ = false := by simp [World.frozen?, h]
theorem set_at {w : World} {k i : Nat} {c : Array Value} {t : TypeId} {fz : Nat × Nat} (u : Value) (h : w.heap[k]? = some (.cells c t fz)) : (w.setCell ⟨k, i, none⟩ u).heap[k]? = some (.cells (c.setIfInBounds i u) t fz) := by
  simp [World.setCell, Array.getElem?_modify, h]

theorem alloc_at (w : World) (o : Obj) : (w.alloc o).heap[w.heap.size]? = some o := heap_alloc_new w o
theorem alloc_at' (w : World) (o : Obj) {k : Nat} (h : k = w.heap.size) : (w.alloc o).heap[k]? = some o := by rw [h]; exact heap_alloc_new w o
theorem alloc_old (w : World) (o : Obj) {k : Nat} {x : Obj} (h : w.heap[k]? = some x) : (w.alloc o).heap[k]? = some x := (Below.heap_alloc w o k (at_lt h)).trans h
theorem made_u64 (n : Nat) : madeCells #[Value.int .u64 0] n = ((List.replicate n (0 : Int)).map (Value.int .u64)).toArray := by
  apply Array.ext
  · simp [madeCells]
  · intro i h1 h2
    simp [madeCells, Nat.mod_one]
end Go.Proofs.Ytiihcgmnmcdcfaa
