/-
  A memory as a list of words, in plain Lean: what it is asked, and tells.
-/
import Derived.Test.YtiihcgmnmcdcfaaAids
namespace Go.Proofs.Ytiihcgmnmcdcfaa
open Go.RowKit
def mHas (ws : List Int) (a : Int) : Bool := decide (0 ≤ a) && decide (a < ws.length)
def mLoad (ws : List Int) (a : Int) : Int := if a < 0 then 0 else ws.getD a.toNat 0
def mStore (ws : List Int) (a x : Int) : List Int := if a < 0 then ws else ws.set a.toNat x
def cutN (n : Int) : Nat := (min (max n 0) 1048576).toNat
theorem cutN_le (n : Int) : cutN n ≤ 1048576 := by unfold cutN; omega
theorem mHas_true {ws : List Int} {a : Int} (h : 0 ≤ a) (h1 : a < ws.length) : mHas ws a = true := by simp [mHas, h, h1]
theorem hasPlain (a n : Int) (h : 0 ≤ a) (h1 : a < n) : (decide (0 ≤ a) && decide (a < n)) = true := by simp [h, h1]
theorem hasPlain' (a n : Int) (h : ¬ (0 ≤ a ∧ a < n)) : (decide (0 ≤ a) && decide (a < n)) = false := by simp; omega
theorem load_hit {ws : List Int} {a : Nat} : mLoad ws (a : Int) = ws.getD a 0 := by
  unfold mLoad; rw [if_neg (by omega)]; rfl
theorem load_miss {ws : List Int} {a : Int} (h : ¬ (0 ≤ a ∧ a < (ws.length : Int))) : mLoad ws a = 0 := by
  unfold mLoad
  split
  · rfl
  · rw [List.getD, List.getElem?_eq_none (by omega)]; rfl
theorem store_hit {ws : List Int} {a : Nat} (x : Int) : mStore ws (a : Int) x = ws.set a x := by
  unfold mStore; rw [if_neg (by omega)]; rfl
theorem store_miss {ws : List Int} {a x : Int} (h : ¬ (0 ≤ a ∧ a < (ws.length : Int))) : mStore ws a x = ws := by
  unfold mStore
  split
  · rfl
  · exact List.set_eq_of_length_le (by omega)
theorem mStore_length (ws : List Int) (a x : Int) : (mStore ws a x).length = ws.length := by unfold mStore; split <;> simp
def mCas (ws : List Int) (a old : Int) : Bool := mHas ws a && (mLoad ws a == old)
def mCasTo (ws : List Int) (a old to : Int) : List Int := if mCas ws a old then mStore ws a to else ws
theorem mCasTo_length (ws : List Int) (a o t : Int) : (mCasTo ws a o t).length = ws.length := by unfold mCasTo; split <;> simp [mStore_length]
def mSum (ws : List Int) (a d : Int) : Int := if mHas ws a then (mLoad ws a + d) % 18446744073709551616 else 0
def mAddTo (ws : List Int) (a d : Int) : List Int := if mHas ws a then mStore ws a ((mLoad ws a + d) % 18446744073709551616) else ws
theorem mAddTo_length (ws : List Int) (a d : Int) : (mAddTo ws a d).length = ws.length := by unfold mAddTo; split <;> simp [mStore_length]
def doV (ws : List Int) (k at_ a : Int) : Int := if k = 1 then mLoad ws at_ else if k = 2 ∨ k = 3 then 0 else mSum ws at_ a
def doIs (ws : List Int) (k at_ a : Int) : Bool := if k = 3 then mCas ws at_ a else false
def doTo (ws : List Int) (k at_ a b : Int) : List Int := if k = 1 then ws else if k = 2 then mStore ws at_ a else if k = 3 then mCasTo ws at_ a b else mAddTo ws at_ a
theorem doTo_length (ws : List Int) (k t a b : Int) : (doTo ws k t a b).length = ws.length := by
  unfold doTo
  split
  · rfl
  · split
    · exact mStore_length _ _ _
    · split
      · exact mCasTo_length _ _ _ _
      · exact mAddTo_length _ _ _
end Go.Proofs.Ytiihcgmnmcdcfaa
