/-
  soughref27's Load and Store, soughref31's machine, by the abstract walk.
-/
import Derived.Test.YtldiocdjgbehcaaTk
import Derived.Test.YtldiocdjgbehcaaRst
namespace Go.Proofs.Ytldiocdjgbehcaa
open Go.RowKit
set_option maxRecDepth 100000
theorem aRLoad (m q : Nat) (ws : List Int) (a : Int) (σ : Hp) : ACalls Try.prog 93 [.ptr m 0, .int .i64 a] (reH m q ws σ) (Ret (.int .u64 (mLoad ws a)) (reH m q ws σ)) := by
  refine okF Try.func93 (by kernel_rfl) ?_
  refine callR [] (aDo m q ws 1 a 0 0 σ) ?_
  exact .done ⟨rfl, rfl⟩
theorem aRStore (m q : Nat) (ws : List Int) (a x : Int) (σ : Hp) : ACalls Try.prog 87 [.ptr m 0, .int .i64 a, .int .u64 x] (reH m q ws σ) (Ret (.tup []) (reH m q (mStore ws a x) σ)) := by
  refine okF Try.func87 (by kernel_rfl) ?_
  refine callR [] (aDo m q ws 2 a x 0 σ) ?_
  exact .done ⟨rfl, rfl⟩

/-- The reference's machine at the board. -/
structure RT where
  kind : Int
  v : Int
  f : Int
  c : Int
  at_ : Int
  new : Bool
  ended : Bool
  is : Bool
  left : Int
def rtC (t : RT) : List AV := [.int .i64 t.kind, .int .i64 t.v, .int .i64 t.f, .int .i64 t.c, .int .i64 t.at_, .bool t.new, .bool t.ended, .bool t.is, .int .i64 t.left]
def rtStep (t : RT) (ws : List Int) : RT × List Int :=
  if t.ended then (t, ws)
  else if t.kind = 1 then
    (if wr (t.at_ + 1) = 2 then ({ t with at_ := wr (t.at_ + 1), ended := true }, mAddTo ws t.c 1)
    else if 0 ≤ t.v then ({ t with at_ := wr (t.at_ + 1), new := mCas ws (wr (t.f + t.v)) 0, ended := !mCas ws (wr (t.f + t.v)) 0 }, mCasTo ws (wr (t.f + t.v)) 0 1)
    else ({ t with at_ := wr (t.at_ + 1), ended := true }, ws))
  else if t.kind = 2 then ({ t with at_ := wr (t.at_ + 1), ended := true }, if 0 ≤ t.v then mStore ws (wr (t.f + t.v)) 0 else ws)
  else if t.kind = 3 then ({ t with at_ := wr (t.at_ + 1), ended := true, left := wr (mSum ws t.c 18446744073709551615) }, mAddTo ws t.c 18446744073709551615)
  else ({ t with at_ := wr (t.at_ + 1), ended := true, is := decide (mLoad ws t.c = 0) }, ws)
def RtPost (r m q : Nat) (t : RT) (ws : List Int) (σ : Hp) : AV → Hp → Prop := Ret (.bool (rtStep t ws).1.ended) ((r, rtC (rtStep t ws).1) :: reH m q (rtStep t ws).2 σ)
theorem rtPost {r m q : Nat} {t t' : RT} {ws ws' : List Int} {σ : Hp} {b : Bool} (h : rtStep t ws = (t', ws')) (hb : t'.ended = b) : RtPost r m q t ws σ (.bool b) ((r, rtC t') :: reH m q ws' σ) := by
  unfold RtPost Ret
  rw [h]
  exact ⟨by rw [hb], rfl⟩
theorem aRtStep (r m q : Nat) (t : RT) (ws : List Int) (σ : Hp) : ACalls Try.prog 136 [.ptr r 0, .ptr m 0] ((r, rtC t) :: reH m q ws σ) (RtPost r m q t ws σ) := by
  refine okF Try.func136 (by kernel_rfl) ?_
  refine LoadAt.mkB 0 _ _ rfl rfl (fun h0 => ?_) (fun h0 => ?_)
  · exact .done (rtPost (t' := t) (by simp [rtStep, h0]) h0)
  refine LoadAt.mk 0 _ _ rfl rfl ?_
  refine StoreAt.mk 0 _ _ rfl rfl ?_
  refine StoreAt.mk 0 _ _ rfl rfl ?_
  refine LoadAt.mk 0 _ _ rfl rfl ?_
  refine bcond_dec (fun h1 => ?_) (fun h1 => ?_)
  · have h1 : t.kind = 1 := h1
    refine LoadAt.mk 0 _ _ rfl rfl ?_
    refine bcond_dec (fun h2 => ?_) (fun h2 => ?_)
    · have h2 : wr (t.at_ + 1) = 2 := h2
      refine LoadAt.mk 0 _ _ rfl rfl ?_
      refine callR [2, 2] (aDo m q ws 4 _ 1 0 _) ?_
      refine LoadAt.mk 2 _ _ rfl rfl ?_
      exact .pull [2] (.done (rtPost (t' := { t with at_ := wr (t.at_ + 1), ended := true }) (by simp [rtStep, h0, h1, h2]; rfl) rfl))
    have h2 : ¬ wr (t.at_ + 1) = 2 := h2
    refine LoadAt.mk 0 _ _ rfl rfl ?_
    refine bcond_dec (fun h3 => ?_) (fun h3 => ?_)
    · have h3 : 0 ≤ t.v := h3
      refine .each (by kernel_rfl) ?_
      have hdo := fun σ => aDo m q ws 3 (wr (t.f + t.v)) 0 1 σ
      rw [show doIs ws 3 (wr (t.f + t.v)) 0 = mCas ws (wr (t.f + t.v)) 0 from rfl, show doTo ws 3 (wr (t.f + t.v)) 0 1 = mCasTo ws (wr (t.f + t.v)) 0 1 from rfl] at hdo
      have fin : rtStep t ws = ({ t with at_ := wr (t.at_ + 1), new := mCas ws (wr (t.f + t.v)) 0, ended := !mCas ws (wr (t.f + t.v)) 0 }, mCasTo ws (wr (t.f + t.v)) 0 1) := by simp [rtStep, h0, h1, h2, h3]
      generalize mCas ws (wr (t.f + t.v)) 0 = is at hdo fin
      cases is
      all_goals
        repeat' first
          | refine And.intro ?_ ?_
          | refine LoadAt.mk 0 _ _ rfl rfl ?_
          | refine callR [2, 2] (hdo _) ?_
        all_goals
          refine StoreAt.mk 2 _ _ rfl rfl ?_
          refine StoreAt.mk 2 _ _ rfl rfl ?_
          refine LoadAt.mk 2 _ _ rfl rfl ?_
          exact .pull [2] (.done (rtPost fin rfl))
    · have h3 : ¬ 0 ≤ t.v := h3
      refine LoadAt.mk 0 _ _ rfl rfl ?_
      exact .done (rtPost (t' := { t with at_ := wr (t.at_ + 1), ended := true }) (by simp [rtStep, h0, h1, h2, h3]) rfl)
  have h1 : ¬ t.kind = 1 := h1
  refine LoadAt.mk 0 _ _ rfl rfl ?_
  refine bcond_dec (fun h2 => ?_) (fun h2 => ?_)
  · have h2 : t.kind = 2 := h2
    refine LoadAt.mk 0 _ _ rfl rfl ?_
    refine bcond_dec (fun h3 => ?_) (fun h3 => ?_)
    · have h3 : 0 ≤ t.v := h3
      refine .each (by kernel_rfl) ?_
      repeat' first
        | refine And.intro ?_ ?_
        | refine LoadAt.mk 0 _ _ rfl rfl ?_
        | refine callR [2, 2] (aRStore m q ws _ 0 _) ?_
      all_goals
        refine LoadAt.mk 2 _ _ rfl rfl ?_
        exact .pull [2] (.done (rtPost (t' := { t with at_ := wr (t.at_ + 1), ended := true }) (by simp [rtStep, h0, h2, h3]) rfl))
    · have h3 : ¬ 0 ≤ t.v := h3
      refine LoadAt.mk 0 _ _ rfl rfl ?_
      exact .done (rtPost (t' := { t with at_ := wr (t.at_ + 1), ended := true }) (by simp [rtStep, h0, h2, h3]) rfl)
  have h2 : ¬ t.kind = 2 := h2
  refine LoadAt.mk 0 _ _ rfl rfl ?_
  refine bcond_dec (fun h3 => ?_) (fun h3 => ?_)
  · have h3 : t.kind = 3 := h3
    refine LoadAt.mk 0 _ _ rfl rfl ?_
    refine callR [2, 2] (aDo m q ws 4 _ 18446744073709551615 0 _) ?_
    refine StoreAt.mk 2 _ _ rfl rfl ?_
    refine LoadAt.mk 2 _ _ rfl rfl ?_
    exact .pull [2] (.done (rtPost (t' := { t with at_ := wr (t.at_ + 1), ended := true, left := wr (mSum ws t.c 18446744073709551615) }) (by simp [rtStep, h0, h3, doTo]) rfl))
  have h3 : ¬ t.kind = 3 := h3
  refine LoadAt.mk 0 _ _ rfl rfl ?_
  refine callR [2, 2] (aRLoad m q ws _ _) ?_
  refine bcond_dec (fun h4 => ?_) (fun h4 => ?_)
  · have h4 : mLoad ws t.c = 0 := h4
    refine StoreAt.mk 2 _ _ rfl rfl ?_
    refine LoadAt.mk 2 _ _ rfl rfl ?_
    exact .pull [2] (.done (rtPost (t' := { t with at_ := wr (t.at_ + 1), ended := true, is := true }) (by simp [rtStep, h0, h1, h2, h3, h4]) rfl))
  · have h4 : ¬ mLoad ws t.c = 0 := h4
    refine StoreAt.mk 2 _ _ rfl rfl ?_
    refine LoadAt.mk 2 _ _ rfl rfl ?_
    exact .pull [2] (.done (rtPost (t' := { t with at_ := wr (t.at_ + 1), ended := true, is := false }) (by simp [rtStep, h0, h1, h2, h3, h4]) rfl))
end Go.Proofs.Ytldiocdjgbehcaa
