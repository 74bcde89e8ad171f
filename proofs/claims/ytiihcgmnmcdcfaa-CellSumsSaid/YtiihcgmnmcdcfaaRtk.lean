/-
  soughref27's Load and Store, soughref31's machine, by the abstract walk.
-/
import Derived.Test.YtiihcgmnmcdcfaaTk
import Derived.Test.YtiihcgmnmcdcfaaRst
namespace Go.Proofs.Ytiihcgmnmcdcfaa
open Go.RowKit
set_option maxRecDepth 100000
theorem aRLoad (m q : Nat) (ws : List Int) (a : Int) (σ : Hp) : ACalls Try.prog 113 [.ptr m 0, .int .i64 a] (reH m q ws σ) (Ret (.int .u64 (mLoad ws a)) (reH m q ws σ)) := by
  refine okF Try.func113 (by kernel_rfl) ?_
  refine callR [] (aDo m q ws 1 a 0 0 σ) ?_
  exact .done ⟨rfl, rfl⟩
theorem aRStore (m q : Nat) (ws : List Int) (a x : Int) (σ : Hp) : ACalls Try.prog 84 [.ptr m 0, .int .i64 a, .int .u64 x] (reH m q ws σ) (Ret (.tup []) (reH m q (mStore ws a x) σ)) := by
  refine okF Try.func84 (by kernel_rfl) ?_
  refine callR [] (aDo m q ws 2 a x 0 σ) ?_
  exact .done ⟨rfl, rfl⟩

/-- The reference's machine at the board. -/
structure RT where
  kind : Int
  v : Int
  f : Int
  c : Int
  at_ : Int
  new : Bool
  ended : Bool
  is : Bool
  left : Int
def rtC (t : RT) : List AV := [.int .i64 t.kind, .int .i64 t.v, .int .i64 t.f, .int .i64 t.c, .int .i64 t.at_, .bool t.new, .bool t.ended, .bool t.is, .int .i64 t.left]
def rtStep (t : RT) (ws : List Int) : RT × List Int :=
  if t.ended then (t, ws)
  else if t.kind = 1 then
    (if wr (t.at_ + 1) = 2 then ({ t with at_ := wr (t.at_ + 1), ended := true }, mAddTo ws t.c 1)
    else if 0 ≤ t.v then ({ t with at_ := wr (t.at_ + 1), new := mCas ws (wr (t.f + t.v)) 0, ended := !mCas ws (wr (t.f + t.v)) 0 }, mCasTo ws (wr (t.f + t.v)) 0 1)
    else ({ t with at_ := wr (t.at_ + 1), ended := true }, ws))
  else if t.kind = 2 then ({ t with at_ := wr (t.at_ + 1), ended := true }, if 0 ≤ t.v then mStore ws (wr (t.f + t.v)) 0 else ws)
  else if t.kind = 3 then ({ t with at_ := wr (t.at_ + 1), ended := true, left := wr (mSum ws t.c 18446744073709551615) }, mAddTo ws t.c 18446744073709551615)
  else ({ t with at_ := wr (t.at_ + 1), ended := true, is := decide (mLoad ws t.c = 0) }, ws)
def RtPost (r m q : Nat) (t : RT) (ws : List Int) (σ : Hp) : AV → Hp → Prop := Ret (.bool (rtStep t ws).1.ended) ((r, rtC (rtStep t ws).1) :: reH m q (rtStep t ws).2 σ)
theorem rtPost {r m q : Nat} {t t' : RT} {ws ws' : List Int} {σ : Hp} {b : Bool} (h : rtStep t ws = (t', ws')) (hb : t'.ended = b) : RtPost r m q t ws σ (.bool b) ((r, rtC t') :: reH m q ws' σ) := by
  unfold RtPost Ret
  rw [h]
  exact ⟨by rw [hb], rfl⟩
end Go.Proofs.Ytiihcgmnmcdcfaa
