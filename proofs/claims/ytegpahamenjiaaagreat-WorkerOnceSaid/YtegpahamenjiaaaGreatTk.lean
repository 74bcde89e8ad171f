/-
  package ticket over any memory, by the abstract walk: Take, Clear, Retire, Quiet, a Board's Number and Waits; in plain Lean: what they do.
-/
import Derived.Test.YtegpahamenjiaaaGreatMm
namespace Go.Proofs.YtegpahamenjiaaaGreat
open Go.RowKit
set_option maxRecDepth 100000
abbrev wr (n : Int) : Int := IntKind.i64.wrap n
/-- A Take. -/
structure Tk where
  f : Int
  c : Int
  v : Int
  new : Bool
  ended : Bool
  did : Bool
def tkC (t : Tk) : List AV := [.int .i64 t.f, .int .i64 t.c, .int .i64 t.v, .bool t.new, .bool t.ended, .bool t.did]
def tkStep (O : MOps) (t : Tk) (a : O.A) : Tk × O.A × Bool :=
  if t.ended then (t, a, true)
  else if t.did then ({ t with ended := true }, (O.ad a t.c 1).2, true)
  else if 0 ≤ t.v then
    (if (O.cs a (wr (t.f + t.v)) 0 1).1 then ({ t with did := true, new := true }, (O.cs a (wr (t.f + t.v)) 0 1).2, false) else ({ t with did := true, new := false, ended := true }, (O.cs a (wr (t.f + t.v)) 0 1).2, true))
  else ({ t with did := true, new := false, ended := true }, a, true)
/-- A machine's Step, over a memory. -/
def MPost (M : AMem) (σ : Hp) {X : Type} (B : X → List AV) (r : Nat) (res : X × M.O.A × Bool) : AV → Hp → Prop :=
  fun x σ' => ∃ m', M.abs m' = res.2.1 ∧ x = .bool res.2.2 ∧ σ' = (r, B res.1) :: (M.B m' ++ σ)
theorem mPost {M : AMem} {σ : Hp} {X : Type} {B : X → List AV} {r : Nat} {res : X × M.O.A × Bool} {x : X} {a : M.O.A} {b : Bool} {m' : M.S} (h : res = (x, a, b)) (hm : M.abs m' = a) : MPost M σ B r res (.bool b) ((r, B x) :: (M.B m' ++ σ)) := by
  subst h
  exact ⟨m', hm, rfl, rfl⟩

theorem aTake (M : AMem) (r : Nat) (t : Tk) (m : M.S) (d : Int) (σ : Hp) (hf : M.O.free (M.abs m)) : ACalls Tryz.prog 283 [.ptr r 0, M.v, .int .i64 d] ((r, tkC t) :: (M.B m ++ σ)) (MPost M σ tkC r (tkStep M.O t (M.abs m))) := by
  refine okF Tryz.func283 (by kernel_rfl) ?_
  refine LoadAt.mkB 0 _ _ rfl rfl (fun h0 => ?_) (fun h0 => ?_)
  · exact .done (mPost (x := t) (by simp [tkStep, h0]) rfl)
  refine callR [] (aOr _ _ _) ?_
  refine LoadAt.mkB 0 _ _ rfl rfl (fun h1 => ?_) (fun h1 => ?_)
  · refine .each (by kernel_rfl) ?_
    refine LoadAt.mk 0 _ _ rfl rfl ?_
    refine AheadAt.mk M.hA ?_
    refine M.aAdd [_] hf fun m' hm => ?_
    refine .fwd 1 ?_
    refine StoreAt.mk 0 _ _ rfl rfl ?_
    exact .done (mPost (x := { t with ended := true }) (by simp [tkStep, h0, h1]) hm)
  refine StoreAt.mk 0 _ _ rfl rfl ?_
  refine .each (by kernel_rfl) ?_
  by_cases h2 : 0 ≤ t.v
  · repeat' first
      | refine And.intro ?_ ?_
      | refine LoadAt.mk 0 _ _ rfl rfl ?_
      | refine bcond_dec (fun _ => ?_) (fun h => absurd h2 h)
      | refine AheadAt.mk M.hC ?_
    all_goals
      refine M.aCasB [_] hf (fun m' hm hb => ?_) (fun m' hm hb => ?_)
      · refine StoreAt.mk 0 _ _ rfl rfl ?_
        refine LoadAt.mk 0 _ _ rfl rfl ?_
        exact .done (mPost (x := { t with did := true, new := true }) (by simp [tkStep, h0, h1, h2, hb]) hm)
      · refine StoreAt.mk 0 _ _ rfl rfl ?_
        refine LoadAt.mk 0 _ _ rfl rfl ?_
        refine StoreAt.mk 0 _ _ rfl rfl ?_
        exact .done (mPost (x := { t with did := true, new := false, ended := true }) (by simp [tkStep, h0, h1, h2, hb]) hm)
  · repeat' first
      | refine And.intro ?_ ?_
      | refine LoadAt.mk 0 _ _ rfl rfl ?_
      | refine bcond_dec (fun h => absurd h h2) (fun _ => ?_)
      | refine StoreAt.mk 0 _ _ rfl rfl ?_
    all_goals
      exact .done (mPost (x := { t with did := true, new := false, ended := true }) (by simp [tkStep, h0, h1, h2]) rfl)

/-- A Clear. -/
structure Ck where
  f : Int
  c : Int
  v : Int
  ended : Bool
def ckC (t : Ck) : List AV := [.int .i64 t.f, .int .i64 t.c, .int .i64 t.v, .bool t.ended]
def ckStep (O : MOps) (t : Ck) (a : O.A) : Ck × O.A × Bool :=
  if t.ended then (t, a, true) else ({ t with ended := true }, if 0 ≤ t.v then O.st a (wr (t.f + t.v)) 0 else a, true)
theorem aClear (M : AMem) (r : Nat) (t : Ck) (m : M.S) (d : Int) (σ : Hp) (hf : M.O.free (M.abs m)) : ACalls Tryz.prog 278 [.ptr r 0, M.v, .int .i64 d] ((r, ckC t) :: (M.B m ++ σ)) (MPost M σ ckC r (ckStep M.O t (M.abs m))) := by
  refine okF Tryz.func278 (by kernel_rfl) ?_
  refine LoadAt.mkB 0 _ _ rfl rfl (fun h0 => ?_) (fun h0 => ?_)
  · exact .done (mPost (x := t) (by simp [ckStep, h0]) rfl)
  refine StoreAt.mk 0 _ _ rfl rfl ?_
  refine LoadAt.mk 0 _ _ rfl rfl ?_
  refine bcond_dec (fun h2 => ?_) (fun h2 => ?_)
  · have h2 : 0 ≤ t.v := h2
    refine .each (by kernel_rfl) ?_
    repeat' first
      | refine And.intro ?_ ?_
      | refine LoadAt.mk 0 _ _ rfl rfl ?_
      | refine callR [] (aOr _ _ _) ?_
      | refine AheadAt.mk M.hS ?_
    all_goals
      refine M.aStore [_] hf fun m' hm => ?_
      exact .done (mPost (x := { t with ended := true }) (by simp [ckStep, h0, h2]) hm)
  · have h2 : ¬ 0 ≤ t.v := h2
    exact .done (mPost (x := { t with ended := true }) (by simp [ckStep, h0, h2]) rfl)

/-- A Retire. -/
structure Rk where
  f : Int
  c : Int
  left : Int
  ended : Bool
def rkC (t : Rk) : List AV := [.int .i64 t.f, .int .i64 t.c, .int .i64 t.left, .bool t.ended]
def rkStep (O : MOps) (t : Rk) (a : O.A) : Rk × O.A × Bool :=
  if t.ended then (t, a, true) else ({ t with ended := true, left := wr (O.ad a t.c 18446744073709551615).1 }, (O.ad a t.c 18446744073709551615).2, true)
theorem aRetire (M : AMem) (r : Nat) (t : Rk) (m : M.S) (d : Int) (σ : Hp) (hf : M.O.free (M.abs m)) : ACalls Tryz.prog 285 [.ptr r 0, M.v, .int .i64 d] ((r, rkC t) :: (M.B m ++ σ)) (MPost M σ rkC r (rkStep M.O t (M.abs m))) := by
  refine okF Tryz.func285 (by kernel_rfl) ?_
  refine LoadAt.mkB 0 _ _ rfl rfl (fun h0 => ?_) (fun h0 => ?_)
  · exact .done (mPost (x := t) (by simp [rkStep, h0]) rfl)
  refine StoreAt.mk 0 _ _ rfl rfl ?_
  refine .each (by kernel_rfl) ?_
  repeat' first
    | refine And.intro ?_ ?_
    | refine LoadAt.mk 0 _ _ rfl rfl ?_
    | refine callR [] (aOr _ _ _) ?_
    | refine AheadAt.mk M.hA ?_
  all_goals
    refine M.aAdd [_] hf fun m' hm => ?_
    refine StoreAt.mk 0 _ _ rfl rfl ?_
    exact .done (mPost (x := { t with ended := true, left := wr (M.O.ad (M.abs m) t.c 18446744073709551615).1 }) (by simp [rkStep, h0]) hm)

/-- A Quiet. -/
structure Qk where
  f : Int
  c : Int
  is : Bool
  ended : Bool
def qkC (t : Qk) : List AV := [.int .i64 t.f, .int .i64 t.c, .bool t.is, .bool t.ended]
def qkStep (O : MOps) (t : Qk) (a : O.A) : Qk × O.A × Bool :=
  if t.ended then (t, a, true) else ({ t with ended := true, is := decide ((O.ld a t.c).1 = 0) }, (O.ld a t.c).2, true)
theorem aQuiet (M : AMem) (r : Nat) (t : Qk) (m : M.S) (d : Int) (σ : Hp) (hf : M.O.free (M.abs m)) : ACalls Tryz.prog 277 [.ptr r 0, M.v, .int .i64 d] ((r, qkC t) :: (M.B m ++ σ)) (MPost M σ qkC r (qkStep M.O t (M.abs m))) := by
  refine okF Tryz.func277 (by kernel_rfl) ?_
  refine LoadAt.mkB 0 _ _ rfl rfl (fun h0 => ?_) (fun h0 => ?_)
  · exact .done (mPost (x := t) (by simp [qkStep, h0]) rfl)
  refine StoreAt.mk 0 _ _ rfl rfl ?_
  refine .each (by kernel_rfl) ?_
  repeat' first
    | refine And.intro ?_ ?_
    | refine LoadAt.mk 0 _ _ rfl rfl ?_
    | refine callR [] (aOr _ _ _) ?_
    | refine AheadAt.mk M.hL ?_
  all_goals
    refine M.aLoad [_] hf fun m' hm => ?_
    refine bcond_dec (fun h2 => ?_) (fun h2 => ?_)
    · have h2 : (M.O.ld (M.abs m) t.c).1 = 0 := h2
      refine StoreAt.mk 0 _ _ rfl rfl ?_
      exact .done (mPost (x := { t with ended := true, is := true }) (by simp [qkStep, h0, h2]) hm)
    · have h2 : ¬ (M.O.ld (M.abs m) t.c).1 = 0 := h2
      refine StoreAt.mk 0 _ _ rfl rfl ?_
      exact .done (mPost (x := { t with ended := true, is := false }) (by simp [qkStep, h0, h2]) hm)

end Go.Proofs.YtegpahamenjiaaaGreat
