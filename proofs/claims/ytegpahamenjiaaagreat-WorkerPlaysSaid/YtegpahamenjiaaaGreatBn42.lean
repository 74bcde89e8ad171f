/-
  Bre22; Ps; Rst; Rtk; CellR: what the claim uses of them.
-/
import Derived.Test.YtegpahamenjiaaaGreatBn34
import Derived.Test.YtegpahamenjiaaaGreatBn35
import Derived.Test.YtegpahamenjiaaaGreatBn11
import Derived.Test.YtegpahamenjiaaaGreatBn37
namespace Go.Proofs.YtegpahamenjiaaaGreat
open Go.RowKit
set_option maxRecDepth 100000
/-- The reference's memory: a block with its row, the row's block. -/
abbrev reH (m q : Nat) (ws : List Int) (σ : Hp) : Hp := (m, [AV.mref q 0 ws.length 1]) :: (q, woC ws) :: σ
theorem aRNew (n : Int) (σ : Hp) : ACalls Tryz.prog 90 [.int .i64 n] σ (fun r σ' => ∃ m q, r = .ptr m 0 ∧ σ' = reH m q (List.replicate (cutN n) 0) σ) := by
  have hc := cutN_le n
  have e : (if (1048576 : Int) < (if n < 0 then 0 else n) then 1048576 else (if n < 0 then 0 else n)) = ((cutN n : Nat) : Int) := by
    unfold cutN
    by_cases h : n < 0
    · simp only [if_pos h]; omega
    · simp only [if_neg h]; split <;> omega
  refine okF Tryz.func90 (by kernel_rfl) ?_
  refine With.mk ⟨by rw [e]; omega, Int.le_refl _, by rw [e]; omega, by decide⟩ ?_
  intro q m
  refine .done ⟨m, q, rfl, ?_⟩
  show (m, [AV.mref q 0 (if (1048576 : Int) < (if n < 0 then 0 else n) then 1048576 else (if n < 0 then 0 else n)).toNat 1]) :: (q, repC [AV.int .u64 0] (if (1048576 : Int) < (if n < 0 then 0 else n) then 1048576 else (if n < 0 then 0 else n)).toNat) :: σ = _
  rw [e, Int.toNat_natCast, rep_woC]
  unfold reH
  rw [List.length_replicate]
theorem aRHas (m q : Nat) (ws : List Int) (a : Int) (σ : Hp) : ACalls Tryz.prog 186 [.ptr m 0, .int .i64 a] (reH m q ws σ) (Ret (.bool (decide (0 ≤ a) && decide (a < ws.length))) (reH m q ws σ)) := by
  refine okF Tryz.func186 (by kernel_rfl) ?_
  refine bcond_dec (fun h => ?_) (fun h => ?_)
  · refine LoadAt.mk 0 _ _ rfl rfl ?_
    refine bcond_dec (fun h2 => ?_) (fun h2 => ?_)
    · have h2 : a < ws.length := h2
      exact .done ⟨av_bool (by simp [h, h2]), rfl⟩
    · have h2 : ¬ a < ws.length := h2
      exact .done ⟨av_bool (by simp [h2]), rfl⟩
  · exact .done ⟨av_bool (by simp [h]), rfl⟩
theorem reSet (m q : Nat) (ws : List Int) (i : Nat) (x : Int) (σ : Hp) : (m, [AV.mref q 0 ws.length 1]) :: (q, woC (ws.set i x)) :: σ = reH m q (ws.set i x) σ := by unfold reH; rw [List.length_set]
theorem aDo (m q : Nat) (ws : List Int) (k t a b : Int) (σ : Hp) : ACalls Tryz.prog 149 [.ptr m 0, .agg [.int .i64 k, .int .i64 t, .int .u64 a, .int .u64 b]] (reH m q ws σ) (Ret (.tup [.int .u64 (doV ws k t a), .bool (doIs ws k t a)]) (reH m q (doTo ws k t a b) σ)) := by
  refine okF Tryz.func149 (by kernel_rfl) ?_
  intro c
  refine LoadAt.mk 0 _ _ rfl rfl ?_
  refine callR [2, 2] (aRHas m q ws t ((c, [.int .i64 k, .int .i64 t, .int .u64 a, .int .u64 b]) :: σ)) ?_
  by_cases hh : 0 ≤ t ∧ t < (ws.length : Int)
  · rw [hasPlain t ws.length hh.1 hh.2]
    have hH := mHas_true hh.1 hh.2
    obtain ⟨i, rfl⟩ := Int.eq_ofNat_of_zero_le hh.1
    have hi : i < ws.length := by omega
    refine LoadAt.mk 2 _ _ rfl rfl ?_
    refine bcond_dec (fun h1 => ?_) (fun h1 => ?_)
    · refine .quiet (by kernel_rfl) ?_
      refine LoadAt.mk 0 _ _ rfl rfl ?_
      refine LoadAt.mk 2 _ _ rfl rfl ?_
      refine With.mk ⟨rfl, hh.1, hh.2⟩ ?_
      refine LoadAt.mk 1 _ _ rfl (woC_get hi) ?_
      refine .drop 2 1 (.done ⟨?_, ?_⟩)
      · show AV.tup [.int .u64 (ws.getD i 0), .bool false] = _
        simp [doV, doIs, h1, load_hit]
      · simp [doTo, h1]
    refine LoadAt.mk 2 _ _ rfl rfl ?_
    refine bcond_dec (fun h2 => ?_) (fun h2 => ?_)
    · refine .each (by kernel_rfl) ?_
      refine LoadAt.mk 0 _ _ rfl rfl ?_
      refine LoadAt.mk 2 _ _ rfl rfl ?_
      refine LoadAt.mk 2 _ _ rfl rfl ?_
      refine With.mk ⟨rfl, hh.1, hh.2⟩ ?_
      refine StoreAt.mk 1 _ _ rfl (woC_put a hi) ?_
      refine .drop 2 1 (.done ⟨?_, ?_⟩)
      · show AV.tup [.int .u64 0, .bool false] = _
        simp [doV, doIs, h2]
      · refine (reSet m q ws i a σ).trans ?_
        simp [doTo, h2, store_hit]
    refine LoadAt.mk 2 _ _ rfl rfl ?_
    refine bcond_dec (fun h3 => ?_) (fun h3 => ?_)
    · refine .quiet (by kernel_rfl) ?_
      refine LoadAt.mk 0 _ _ rfl rfl ?_
      refine LoadAt.mk 2 _ _ rfl rfl ?_
      refine With.mk ⟨rfl, hh.1, hh.2⟩ ?_
      refine LoadAt.mk 1 _ _ rfl (woC_get hi) ?_
      refine LoadAt.mk 2 _ _ rfl rfl ?_
      refine bcond_dec (fun he => ?_) (fun he => ?_)
      · have e1 : mCas ws i a = true := by unfold mCas; rw [hH, load_hit, he]; simp
        refine .each (by kernel_rfl) ?_
        refine LoadAt.mk 0 _ _ rfl rfl ?_
        refine LoadAt.mk 2 _ _ rfl rfl ?_
        refine LoadAt.mk 2 _ _ rfl rfl ?_
        refine With.mk ⟨rfl, hh.1, hh.2⟩ ?_
        refine StoreAt.mk 1 _ _ rfl (woC_put b hi) ?_
        refine .drop 2 1 (.done ⟨?_, ?_⟩)
        · show AV.tup [.int .u64 0, .bool true] = _
          simp [doV, doIs, h3, e1]
        · refine (reSet m q ws i b σ).trans ?_
          simp [doTo, h3, mCasTo, e1, store_hit]
      · have e1 : mCas ws i a = false := by unfold mCas; rw [hH, load_hit]; simpa using he
        refine .drop 2 1 (.done ⟨?_, ?_⟩)
        · show AV.tup [.int .u64 0, .bool false] = _
          simp [doV, doIs, h3, e1]
        · show reH m q ws σ = _
          simp [doTo, h3, mCasTo, e1]
    · have e1 : mSum ws i a = IntKind.u64.wrap (ws.getD i 0 + a) := by rw [IntKind.wrap_u64]; simp only [mSum, hH, if_true, load_hit]
      have e2 : mAddTo ws i a = ws.set i (IntKind.u64.wrap (ws.getD i 0 + a)) := by rw [IntKind.wrap_u64]; simp only [mAddTo, hH, if_true, load_hit, store_hit]
      refine .each (by kernel_rfl) ?_
      refine LoadAt.mk 0 _ _ rfl rfl ?_
      refine LoadAt.mk 2 _ _ rfl rfl ?_
      refine LoadAt.mk 0 _ _ rfl rfl ?_
      refine LoadAt.mk 2 _ _ rfl rfl ?_
      refine With.mk ⟨rfl, hh.1, hh.2⟩ ?_
      refine LoadAt.mk 1 _ _ rfl (woC_get hi) ?_
      refine LoadAt.mk 2 _ _ rfl rfl ?_
      refine With.mk ⟨rfl, hh.1, hh.2⟩ ?_
      refine StoreAt.mk 1 _ _ rfl (woC_put _ hi) ?_
      refine .quiet (by kernel_rfl) ?_
      refine LoadAt.mk 0 _ _ rfl rfl ?_
      refine LoadAt.mk 2 _ _ rfl rfl ?_
      refine With.mk ⟨rfl, hh.1, hh.2⟩ ?_
      refine LoadAt.mk 1 _ _ rfl (woC_get (ws := ws.set i (IntKind.u64.wrap (ws.getD i 0 + a))) (by rw [List.length_set]; exact hi)) ?_
      refine .drop 2 1 (.done ⟨?_, ?_⟩)
      · show AV.tup [.int .u64 ((ws.set i (IntKind.u64.wrap (ws.getD i 0 + a))).getD i 0), .bool false] = _
        simp [doV, doIs, h1, h2, h3, e1, hi]
      · refine (reSet m q ws i _ σ).trans ?_
        simp [doTo, h1, h2, h3, e2]
  · have hb := hasPlain' t ws.length hh
    rw [hb]
    have e1 : mCas ws t a = false := by simp only [mCas, mHas, hb, Bool.false_and]
    have e2 : mLoad ws t = 0 := load_miss hh
    have e3 : mSum ws t a = 0 := by unfold mSum; unfold mHas; rw [hb]; rfl
    have e4 : mAddTo ws t a = ws := by unfold mAddTo mHas; rw [hb]; rfl
    refine .drop 2 1 (.done ⟨?_, ?_⟩)
    · show AV.tup [.int .u64 0, .bool false] = _
      simp [doV, doIs, e1, e2, e3]
    · show reH m q ws σ = _
      simp [doTo, store_miss hh, mCasTo, e1, e4]
end Go.Proofs.YtegpahamenjiaaaGreat
namespace Go.Proofs.YtegpahamenjiaaaGreat
open Go.RowKit
/-- A machine's state: its registers, and where it is. -/
structure PS where
  r0 : Int
  r1 : Int
  r2 : Int
  r3 : Int
  at_ : Int
def PS.set (s : PS) (i x : Int) : PS := if i = 0 then { s with r0 := x } else if i = 1 then { s with r1 := x } else if i = 2 then { s with r2 := x } else { s with r3 := x }
def PS.next (s : PS) : PS := { s with at_ := s.at_ + 1 }
set_option maxRecDepth 100000
end Go.Proofs.YtegpahamenjiaaaGreat
namespace Go.Proofs.YtegpahamenjiaaaGreat
open Go.RowKit
set_option maxRecDepth 100000
/-- soughref10.Same, of a list and an open row. -/
theorem same10m (xs ys : List Int) (q : Nat) (σ : Hp) (h1 : xs.length ≤ 1000000) : ACalls Tryz.prog 28 [.fsl (.int .u64) xs, .mref q 0 ys.length 1] ((q, woC ys) :: σ) (Ret (.bool (decide (xs = ys))) ((q, woC ys) :: σ)) := by
  refine okF Tryz.func28 (by kernel_rfl) ?_
  refine bcond_split (fun hl => ?_) (fun hl => ?_)
  · have : xs ≠ ys := by rintro rfl; simp at hl; exact hl rfl
    exact .done ⟨av_bool (by simp [this]), rfl⟩
  · have hl : (!decide ((xs.length : Int) = (ys.length : Int))) = false := hl
    have hlen : xs.length = ys.length := by simp at hl; omega
    refine loopS (S := Nat) (fun k => [(0, .fsl (.int .u64) xs), (1, .mref q 0 ys.length 1), (12, .int .i64 xs.length), (13, .int .i64 k)]) (fun _ => (q, woC ys) :: σ) (fun k => k ≤ xs.length ∧ xs.take k = ys.take k) (fun k => xs.length - k) 0 ⟨⟨Nat.zero_le _, rfl⟩, ⟨rfl, rfl, rfl, rfl, trivial⟩, rfl⟩ ?_
    rintro k g ⟨hk, htk⟩
    refine bcond_dec (fun hlt => ?_) (fun hge => ?_)
    · have hlt : (k : Int) < xs.length := hlt
      have hk' : k < xs.length := by omega
      have hk'' : k < ys.length := by omega
      refine DrawW.quiet (by kernel_rfl) ?_
      refine With.mk rfl (IdxF.mk xs[k] (by omega) (get_some hk') ?_)
      refine With.mk ⟨rfl, by omega, by omega⟩ ?_
      refine LoadAt.mk 0 _ _ rfl (woC_get hk'') ?_
      have e : ys.getD k 0 = ys[k] := by simp [List.getD, hk'']
      refine bcond_split (fun hx => ?_) (fun hx => ?_)
      · rw [e] at hx
        have : xs ≠ ys := by rintro rfl; exact absurd hx (by simp)
        exact .done ⟨av_bool (by simp [this]), rfl⟩
      · rw [e] at hx
        have hx' : xs[k] = ys[k] := by simpa using hx
        refine next (k + 1) (Nat.sub_lt_sub_left hk' (Nat.lt_succ_self k)) ⟨hk', ?_⟩ ⟨rfl, rfl, rfl, inc64 (by omega), trivial⟩ rfl
        rw [List.take_succ_eq_append_getElem hk', List.take_succ_eq_append_getElem hk'', htk, hx']
    · have hge : ¬ (k : Int) < xs.length := hge
      obtain rfl : k = xs.length := by omega
      have : xs = ys := by
        rw [List.take_length] at htk
        rw [htk, hlen, List.take_length]
      exact .done ⟨av_bool (by simp [this]), rfl⟩
end Go.Proofs.YtegpahamenjiaaaGreat
namespace Go.Proofs.YtegpahamenjiaaaGreat
open Go.RowKit
set_option maxRecDepth 100000
theorem aRLoad (m q : Nat) (ws : List Int) (a : Int) (σ : Hp) : ACalls Tryz.prog 99 [.ptr m 0, .int .i64 a] (reH m q ws σ) (Ret (.int .u64 (mLoad ws a)) (reH m q ws σ)) := by
  refine okF Tryz.func99 (by kernel_rfl) ?_
  refine callR [] (aDo m q ws 1 a 0 0 σ) ?_
  exact .done ⟨rfl, rfl⟩
theorem aRStore (m q : Nat) (ws : List Int) (a x : Int) (σ : Hp) : ACalls Tryz.prog 155 [.ptr m 0, .int .i64 a, .int .u64 x] (reH m q ws σ) (Ret (.tup []) (reH m q (mStore ws a x) σ)) := by
  refine okF Tryz.func155 (by kernel_rfl) ?_
  refine callR [] (aDo m q ws 2 a x 0 σ) ?_
  exact .done ⟨rfl, rfl⟩
/-- The reference's machine at the board. -/
structure RT where
  kind : Int
  v : Int
  f : Int
  c : Int
  at_ : Int
  new : Bool
  ended : Bool
  is : Bool
  left : Int
def rtC (t : RT) : List AV := [.int .i64 t.kind, .int .i64 t.v, .int .i64 t.f, .int .i64 t.c, .int .i64 t.at_, .bool t.new, .bool t.ended, .bool t.is, .int .i64 t.left]
def rtStep (t : RT) (ws : List Int) : RT × List Int :=
  if t.ended then (t, ws)
  else if t.kind = 1 then
    (if wr (t.at_ + 1) = 2 then ({ t with at_ := wr (t.at_ + 1), ended := true }, mAddTo ws t.c 1)
    else if 0 ≤ t.v then ({ t with at_ := wr (t.at_ + 1), new := mCas ws (wr (t.f + t.v)) 0, ended := !mCas ws (wr (t.f + t.v)) 0 }, mCasTo ws (wr (t.f + t.v)) 0 1)
    else ({ t with at_ := wr (t.at_ + 1), ended := true }, ws))
  else if t.kind = 2 then ({ t with at_ := wr (t.at_ + 1), ended := true }, if 0 ≤ t.v then mStore ws (wr (t.f + t.v)) 0 else ws)
  else if t.kind = 3 then ({ t with at_ := wr (t.at_ + 1), ended := true, left := wr (mSum ws t.c 18446744073709551615) }, mAddTo ws t.c 18446744073709551615)
  else ({ t with at_ := wr (t.at_ + 1), ended := true, is := decide (mLoad ws t.c = 0) }, ws)
def RtPost (r m q : Nat) (t : RT) (ws : List Int) (σ : Hp) : AV → Hp → Prop := Ret (.bool (rtStep t ws).1.ended) ((r, rtC (rtStep t ws).1) :: reH m q (rtStep t ws).2 σ)
theorem rtPost {r m q : Nat} {t t' : RT} {ws ws' : List Int} {σ : Hp} {b : Bool} (h : rtStep t ws = (t', ws')) (hb : t'.ended = b) : RtPost r m q t ws σ (.bool b) ((r, rtC t') :: reH m q ws' σ) := by
  unfold RtPost Ret
  rw [h]
  exact ⟨by rw [hb], rfl⟩
theorem aRtStep (r m q : Nat) (t : RT) (ws : List Int) (σ : Hp) : ACalls Tryz.prog 105 [.ptr r 0, .ptr m 0] ((r, rtC t) :: reH m q ws σ) (RtPost r m q t ws σ) := by
  refine okF Tryz.func105 (by kernel_rfl) ?_
  refine LoadAt.mkB 0 _ _ rfl rfl (fun h0 => ?_) (fun h0 => ?_)
  · exact .done (rtPost (t' := t) (by simp [rtStep, h0]) h0)
  refine LoadAt.mk 0 _ _ rfl rfl ?_
  refine StoreAt.mk 0 _ _ rfl rfl ?_
  refine StoreAt.mk 0 _ _ rfl rfl ?_
  refine LoadAt.mk 0 _ _ rfl rfl ?_
  refine bcond_dec (fun h1 => ?_) (fun h1 => ?_)
  · have h1 : t.kind = 1 := h1
    refine LoadAt.mk 0 _ _ rfl rfl ?_
    refine bcond_dec (fun h2 => ?_) (fun h2 => ?_)
    · have h2 : wr (t.at_ + 1) = 2 := h2
      refine LoadAt.mk 0 _ _ rfl rfl ?_
      refine callR [2, 2] (aDo m q ws 4 _ 1 0 _) ?_
      refine LoadAt.mk 2 _ _ rfl rfl ?_
      exact .pull [2] (.done (rtPost (t' := { t with at_ := wr (t.at_ + 1), ended := true }) (by simp [rtStep, h0, h1, h2]; rfl) rfl))
    have h2 : ¬ wr (t.at_ + 1) = 2 := h2
    refine LoadAt.mk 0 _ _ rfl rfl ?_
    refine bcond_dec (fun h3 => ?_) (fun h3 => ?_)
    · have h3 : 0 ≤ t.v := h3
      refine .each (by kernel_rfl) ?_
      have hdo := fun σ => aDo m q ws 3 (wr (t.f + t.v)) 0 1 σ
      rw [show doIs ws 3 (wr (t.f + t.v)) 0 = mCas ws (wr (t.f + t.v)) 0 from rfl, show doTo ws 3 (wr (t.f + t.v)) 0 1 = mCasTo ws (wr (t.f + t.v)) 0 1 from rfl] at hdo
      have fin : rtStep t ws = ({ t with at_ := wr (t.at_ + 1), new := mCas ws (wr (t.f + t.v)) 0, ended := !mCas ws (wr (t.f + t.v)) 0 }, mCasTo ws (wr (t.f + t.v)) 0 1) := by simp [rtStep, h0, h1, h2, h3]
      generalize mCas ws (wr (t.f + t.v)) 0 = is at hdo fin
      cases is
      all_goals
        repeat' first
          | refine And.intro ?_ ?_
          | refine LoadAt.mk 0 _ _ rfl rfl ?_
          | refine callR [2, 2] (hdo _) ?_
        all_goals
          refine StoreAt.mk 2 _ _ rfl rfl ?_
          refine StoreAt.mk 2 _ _ rfl rfl ?_
          refine LoadAt.mk 2 _ _ rfl rfl ?_
          exact .pull [2] (.done (rtPost fin rfl))
    · have h3 : ¬ 0 ≤ t.v := h3
      refine LoadAt.mk 0 _ _ rfl rfl ?_
      exact .done (rtPost (t' := { t with at_ := wr (t.at_ + 1), ended := true }) (by simp [rtStep, h0, h1, h2, h3]) rfl)
  have h1 : ¬ t.kind = 1 := h1
  refine LoadAt.mk 0 _ _ rfl rfl ?_
  refine bcond_dec (fun h2 => ?_) (fun h2 => ?_)
  · have h2 : t.kind = 2 := h2
    refine LoadAt.mk 0 _ _ rfl rfl ?_
    refine bcond_dec (fun h3 => ?_) (fun h3 => ?_)
    · have h3 : 0 ≤ t.v := h3
      refine .each (by kernel_rfl) ?_
      repeat' first
        | refine And.intro ?_ ?_
        | refine LoadAt.mk 0 _ _ rfl rfl ?_
        | refine callR [2, 2] (aRStore m q ws _ 0 _) ?_
      all_goals
        refine LoadAt.mk 2 _ _ rfl rfl ?_
        exact .pull [2] (.done (rtPost (t' := { t with at_ := wr (t.at_ + 1), ended := true }) (by simp [rtStep, h0, h2, h3]) rfl))
    · have h3 : ¬ 0 ≤ t.v := h3
      refine LoadAt.mk 0 _ _ rfl rfl ?_
      exact .done (rtPost (t' := { t with at_ := wr (t.at_ + 1), ended := true }) (by simp [rtStep, h0, h2, h3]) rfl)
  have h2 : ¬ t.kind = 2 := h2
  refine LoadAt.mk 0 _ _ rfl rfl ?_
  refine bcond_dec (fun h3 => ?_) (fun h3 => ?_)
  · have h3 : t.kind = 3 := h3
    refine LoadAt.mk 0 _ _ rfl rfl ?_
    refine callR [2, 2] (aDo m q ws 4 _ 18446744073709551615 0 _) ?_
    refine StoreAt.mk 2 _ _ rfl rfl ?_
    refine LoadAt.mk 2 _ _ rfl rfl ?_
    exact .pull [2] (.done (rtPost (t' := { t with at_ := wr (t.at_ + 1), ended := true, left := wr (mSum ws t.c 18446744073709551615) }) (by simp [rtStep, h0, h3, doTo]) rfl))
  have h3 : ¬ t.kind = 3 := h3
  refine LoadAt.mk 0 _ _ rfl rfl ?_
  refine callR [2, 2] (aRLoad m q ws _ _) ?_
  refine bcond_dec (fun h4 => ?_) (fun h4 => ?_)
  · have h4 : mLoad ws t.c = 0 := h4
    refine StoreAt.mk 2 _ _ rfl rfl ?_
    refine LoadAt.mk 2 _ _ rfl rfl ?_
    exact .pull [2] (.done (rtPost (t' := { t with at_ := wr (t.at_ + 1), ended := true, is := true }) (by simp [rtStep, h0, h1, h2, h3, h4]) rfl))
  · have h4 : ¬ mLoad ws t.c = 0 := h4
    refine StoreAt.mk 2 _ _ rfl rfl ?_
    refine LoadAt.mk 2 _ _ rfl rfl ?_
    exact .pull [2] (.done (rtPost (t' := { t with at_ := wr (t.at_ + 1), ended := true, is := false }) (by simp [rtStep, h0, h1, h2, h3, h4]) rfl))
end Go.Proofs.YtegpahamenjiaaaGreat
namespace Go.Proofs.YtegpahamenjiaaaGreat
open Go.RowKit
set_option maxRecDepth 100000
set_option maxHeartbeats 4000000
theorem aRWords (n : Int) (σ : Hp) : ACalls Tryz.prog 152 [.int .i64 n] σ (Ret (.int .i64 (cw n)) σ) := by
  refine okF Tryz.func152 (by kernel_rfl) ?_
  exact .done ⟨av_int (cw_int n), rfl⟩
theorem aRWd (a : List Int) (i : Nat) (σ : Hp) : ACalls Tryz.prog 154 [.fsl (.int .u64) a, .int .i64 i] σ (Ret (.int .u64 (wd a i)) σ) := by
  refine okF Tryz.func154 (by kernel_rfl) ?_
  refine bcond_dec (fun h => ?_) (fun h => ?_)
  · have h : (i : Int) < a.length := h
    have hi : i < a.length := by omega
    refine With.mk rfl (IdxF.mk a[i] (by omega) (get_some hi) ?_)
    exact .done ⟨av_int (by simp [wd, hi]), rfl⟩
  · have h : ¬ (i : Int) < a.length := h
    exact .done ⟨av_int (by simp [wd, List.getElem?_eq_none (show a.length ≤ i by omega)]), rfl⟩
end Go.Proofs.YtegpahamenjiaaaGreat
