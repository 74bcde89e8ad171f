/-
  Plain helpers of these proofs, over no program: what hides a fact from the walk; a slice that reads as a list of numbers; what a call leaves alone.
-/
import Derived.Test.YtiihcgmnmcdcfaaRows
import Derived.WalkKit
import Derived.Handy
import Derived.Maps.AppendAt
import Derived.Deep.QuietTactic
import Derived.BigQuiet
import Derived.ProofKit
import Derived.OpenShut
import Derived.ShutString
import Derived.ChangeOld
import Derived.Below
namespace Go.Proofs.Ytiihcgmnmcdcfaa
open Go.RowKit
theorem hid {p : Prop} (h : p) : Hid p := h
/-- The slice value v reads, in w, as the numbers zs of kind k. -/
def IntRow (w : World) (k : IntKind) (v : Value) (zs : List Int) : Prop :=
  ∃ a c, v = .slice a zs.length c ∧ zs.length ≤ maxLen ∧ (zs ≠ [] → ∃ b o, a = some ⟨b, o, none⟩ ∧ ∀ i, (h : i < zs.length) → w.cell? ⟨b, o + i, none⟩ = some (.int k zs[i]))

theorem IntRow.of_owns {w : World} {B e : Nat} {k : IntKind} {v : Value} {n : Nat} {zs : List Int} (h : w.ownsRow B e 1 v n (zs.map (.int k))) : IntRow w k v zs := by
  obtain ⟨h1, h2⟩ := h
  simp at h1
  subst h1
  rcases h2 with ⟨rfl, h0⟩ | ⟨g, cap, cur, rfl, hb, hg, hn, hm, hs, ht⟩
  · have : zs = [] := List.length_eq_zero_iff.1 h0
    subst this
    exact ⟨none, 0, rfl, by simp, fun h => absurd rfl h⟩
  · refine ⟨_, cap, rfl, by omega, fun _ => ⟨g, 0, rfl, fun i hi => ?_⟩⟩
    have hc := (World.ownsRow.cells (w := w) (base := B) (e := e) (size := 1) (v := .slice (some ⟨g, 0, none⟩) zs.length cap) (n := zs.length) (xs := zs.map (.int k)) ⟨by simp, .inr ⟨g, cap, cur, rfl, hb, hg, hn, hm, hs, ht⟩⟩ (g := g) rfl) i (.int k zs[i]) (by simp [hi])
    rw [Addr.add_lit] at hc
    exact hc

theorem IntRow.below {B : Nat} {w w' : World} {k : IntKind} {v : Value} {zs : List Int} (h : IntRow w k v zs) (hb : Below B w w') (hB : w.heap.size ≤ B) : IntRow w' k v zs := by
  obtain ⟨a, c, rfl, hm, ha⟩ := h
  refine ⟨a, c, rfl, hm, fun hz => ?_⟩
  obtain ⟨b, o, rfl, hc⟩ := ha hz
  refine ⟨b, o, rfl, fun i hi => ?_⟩
  have := hc i hi
  rw [hb.cell (p := ⟨b, o + i, none⟩) (Nat.lt_of_lt_of_le (World.block_lt_of_cell? w _ this) hB)]
  exact this

theorem bdrewN {B : Nat} {a w : World} (h : Below B a w) (n : Nat) : Below B a (w.drewN n) := ⟨h.os, h.tape, h.output, h.size, h.block⟩

end Go.Proofs.Ytiihcgmnmcdcfaa
