/-
  Words put together: for each kind of lattice, what is so of them. Plain.
-/
import Derived.Test.YtiihcgmnmcdcfaaCellR
namespace Go.Proofs.Ytiihcgmnmcdcfaa
open Go.RowKit
theorem ofInt_nat (x : BitVec 64) : BitVec.ofInt 64 (x.toNat : Int) = x := by
  rw [BitVec.ofInt_natCast, BitVec.ofNat_toNat, BitVec.setWidth_eq]
theorem ofInt_w {z : Int} (h : W64 z) : ((BitVec.ofInt 64 z).toNat : Int) = z := by
  rw [BitVec.toNat_ofInt]
  unfold W64 at h
  omega
theorem wrap_nat (x : BitVec 64) : IntKind.u64.wrap (x.toNat : Int) = (x.toNat : Int) := by
  have := x.isLt
  rw [IntKind.wrap_u64]
  omega
theorem or_bits (a b : Int) : bits .or .u64 a b = ((BitVec.ofInt 64 a ||| BitVec.ofInt 64 b).toNat : Int) := wrap_nat _
theorem and_bits (a b : Int) : bits .and .u64 a b = ((BitVec.ofInt 64 a &&& BitVec.ofInt 64 b).toNat : Int) := wrap_nat _
/-- The words of a lattice. -/
def LD (what z : Int) : Prop := W64 z ∧ (what = 3 → normW z = z)
abbrev isL (what : Int) : Prop := what = 1 ∨ what = 2 ∨ what = 3
theorem word1 (a b : Int) : wordW 1 a b = ((BitVec.ofInt 64 a ||| BitVec.ofInt 64 b).toNat : Int) := or_bits a b
theorem word2 (a b : Int) : wordW 2 a b = ((BitVec.ofInt 64 a &&& BitVec.ofInt 64 b).toNat : Int) := and_bits a b
theorem word3 (a b : Int) : wordW 3 a b = joinW a b := rfl
theorem join_of {a b : Int} (ha : normW a = a) (hb : normW b = b) : joinW a b = if a = b ∨ b = 0 then a else if a = 0 then b else 1 := by
  unfold joinW
  rw [ha, hb]
theorem norm0 : normW 0 = 0 := rfl
theorem norm1 : normW 1 = 1 := rfl
theorem join_dom {a b : Int} (ha : normW a = a) (hb : normW b = b) : normW (joinW a b) = joinW a b := by
  rw [join_of ha hb]
  repeat' split
  · exact ha
  · exact hb
  · exact norm1
theorem lw_dom {what a b : Int} (ha : LD what a) (hb : LD what b) : LD what (wordW what a b) := by
  refine ⟨word_64 ha.1 hb.1, fun h => ?_⟩
  subst h
  exact join_dom (ha.2 rfl) (hb.2 rfl)
theorem lw_idem {what a : Int} (hw : isL what) (ha : LD what a) : wordW what a a = a := by
  rcases hw with rfl | rfl | rfl
  · rw [word1, BitVec.or_self, ofInt_w ha.1]
  · rw [word2, BitVec.and_self, ofInt_w ha.1]
  · rw [word3, join_of (ha.2 rfl) (ha.2 rfl), if_pos (.inl rfl)]
theorem lw_comm {what a b : Int} (hw : isL what) (ha : LD what a) (hb : LD what b) : wordW what a b = wordW what b a := by
  rcases hw with rfl | rfl | rfl
  · rw [word1, word1, BitVec.or_comm]
  · rw [word2, word2, BitVec.and_comm]
  · rw [word3, word3, join_of (ha.2 rfl) (hb.2 rfl), join_of (hb.2 rfl) (ha.2 rfl)]
    repeat' split
    all_goals
      first
        | rfl
        | omega
theorem lw_assoc {what a b c : Int} (hw : isL what) (ha : LD what a) (hb : LD what b) (hc : LD what c) : wordW what (wordW what a b) c = wordW what a (wordW what b c) := by
  rcases hw with rfl | rfl | rfl
  · simp only [word1, ofInt_nat, BitVec.or_assoc]
  · simp only [word2, ofInt_nat, BitVec.and_assoc]
  · have ha := ha.2 rfl
    have hb := hb.2 rfl
    have hc := hc.2 rfl
    simp only [word3]
    rw [join_of (join_dom ha hb) hc, join_of ha (join_dom hb hc), join_of ha hb, join_of hb hc]
    repeat' split
    all_goals
      first
        | rfl
        | omega
/-- a is below b. -/
def lle (what a b : Int) : Prop := wordW what a b = b
theorem lle_refl {what a : Int} (hw : isL what) (ha : LD what a) : lle what a a := lw_idem hw ha
theorem lle_trans {what a b c : Int} (hw : isL what) (ha : LD what a) (hb : LD what b) (hc : LD what c) (h1 : lle what a b) (h2 : lle what b c) : lle what a c := by
  unfold lle at *
  rw [← h2, ← lw_assoc hw ha hb hc, h1]
theorem lle_anti {what a b : Int} (hw : isL what) (ha : LD what a) (hb : LD what b) (h1 : lle what a b) (h2 : lle what b a) : a = b := by
  unfold lle at *
  rw [← h2, lw_comm hw hb ha, h1]
theorem lle_left {what a b : Int} (hw : isL what) (ha : LD what a) (hb : LD what b) : lle what a (wordW what a b) := by
  unfold lle
  rw [← lw_assoc hw ha ha hb, lw_idem hw ha]
theorem lle_right {what a b : Int} (hw : isL what) (ha : LD what a) (hb : LD what b) : lle what b (wordW what a b) := by
  rw [lw_comm hw ha hb]
  exact lle_left hw hb ha
theorem lle_join {what a b c : Int} (hw : isL what) (ha : LD what a) (hb : LD what b) (hc : LD what c) (h1 : lle what a c) (h2 : lle what b c) : lle what (wordW what a b) c := by
  unfold lle at *
  rw [lw_assoc hw ha hb hc, h2, h1]
end Go.Proofs.Ytiihcgmnmcdcfaa
