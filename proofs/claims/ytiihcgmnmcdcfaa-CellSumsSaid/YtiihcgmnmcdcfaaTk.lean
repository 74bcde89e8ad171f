/-
  package ticket over any memory, by the abstract walk: Take, Clear, Retire, Quiet, a Board's Number and Waits; in plain Lean: what they do.
-/
import Derived.Test.YtiihcgmnmcdcfaaMm
namespace Go.Proofs.Ytiihcgmnmcdcfaa
open Go.RowKit
set_option maxRecDepth 100000
abbrev wr (n : Int) : Int := IntKind.i64.wrap n
/-- A Take. -/
structure Tk where
  f : Int
  c : Int
  v : Int
  new : Bool
  ended : Bool
  did : Bool
def tkC (t : Tk) : List AV := [.int .i64 t.f, .int .i64 t.c, .int .i64 t.v, .bool t.new, .bool t.ended, .bool t.did]
def tkStep (O : MOps) (t : Tk) (a : O.A) : Tk × O.A × Bool :=
  if t.ended then (t, a, true)
  else if t.did then ({ t with ended := true }, (O.ad a t.c 1).2, true)
  else if 0 ≤ t.v then
    (if (O.cs a (wr (t.f + t.v)) 0 1).1 then ({ t with did := true, new := true }, (O.cs a (wr (t.f + t.v)) 0 1).2, false) else ({ t with did := true, new := false, ended := true }, (O.cs a (wr (t.f + t.v)) 0 1).2, true))
  else ({ t with did := true, new := false, ended := true }, a, true)
/-- A machine's Step, over a memory. -/
def MPost (M : AMem) (σ : Hp) {X : Type} (B : X → List AV) (r : Nat) (res : X × M.O.A × Bool) : AV → Hp → Prop :=
  fun x σ' => ∃ m', M.abs m' = res.2.1 ∧ x = .bool res.2.2 ∧ σ' = (r, B res.1) :: (M.B m' ++ σ)
theorem mPost {M : AMem} {σ : Hp} {X : Type} {B : X → List AV} {r : Nat} {res : X × M.O.A × Bool} {x : X} {a : M.O.A} {b : Bool} {m' : M.S} (h : res = (x, a, b)) (hm : M.abs m' = a) : MPost M σ B r res (.bool b) ((r, B x) :: (M.B m' ++ σ)) := by
  subst h
  exact ⟨m', hm, rfl, rfl⟩

theorem aTake (M : AMem) (r : Nat) (t : Tk) (m : M.S) (d : Int) (σ : Hp) (hf : M.O.free (M.abs m)) : ACalls Try.prog 53 [.ptr r 0, M.v, .int .i64 d] ((r, tkC t) :: (M.B m ++ σ)) (MPost M σ tkC r (tkStep M.O t (M.abs m))) := by
  refine okF Try.func53 (by kernel_rfl) ?_
  refine LoadAt.mkB 0 _ _ rfl rfl (fun h0 => ?_) (fun h0 => ?_)
  · exact .done (mPost (x := t) (by simp [tkStep, h0]) rfl)
  refine callR [] (aOr _ _ _) ?_
  refine LoadAt.mkB 0 _ _ rfl rfl (fun h1 => ?_) (fun h1 => ?_)
  · refine .each (by kernel_rfl) ?_
    refine LoadAt.mk 0 _ _ rfl rfl ?_
    refine AheadAt.mk M.hA ?_
    refine M.aAdd [_] hf fun m' hm => ?_
    refine .fwd 1 ?_
    refine StoreAt.mk 0 _ _ rfl rfl ?_
    exact .done (mPost (x := { t with ended := true }) (by simp [tkStep, h0, h1]) hm)
  refine StoreAt.mk 0 _ _ rfl rfl ?_
  refine .each (by kernel_rfl) ?_
  by_cases h2 : 0 ≤ t.v
  · repeat' first
      | refine And.intro ?_ ?_
      | refine LoadAt.mk 0 _ _ rfl rfl ?_
      | refine bcond_dec (fun _ => ?_) (fun h => absurd h2 h)
      | refine AheadAt.mk M.hC ?_
    all_goals
      refine M.aCasB [_] hf (fun m' hm hb => ?_) (fun m' hm hb => ?_)
      · refine StoreAt.mk 0 _ _ rfl rfl ?_
        refine LoadAt.mk 0 _ _ rfl rfl ?_
        exact .done (mPost (x := { t with did := true, new := true }) (by simp [tkStep, h0, h1, h2, hb]) hm)
      · refine StoreAt.mk 0 _ _ rfl rfl ?_
        refine LoadAt.mk 0 _ _ rfl rfl ?_
        refine StoreAt.mk 0 _ _ rfl rfl ?_
        exact .done (mPost (x := { t with did := true, new := false, ended := true }) (by simp [tkStep, h0, h1, h2, hb]) hm)
  · repeat' first
      | refine And.intro ?_ ?_
      | refine LoadAt.mk 0 _ _ rfl rfl ?_
      | refine bcond_dec (fun h => absurd h h2) (fun _ => ?_)
      | refine StoreAt.mk 0 _ _ rfl rfl ?_
    all_goals
      exact .done (mPost (x := { t with did := true, new := false, ended := true }) (by simp [tkStep, h0, h1, h2]) rfl)

/-- A Clear. -/
structure Ck where
  f : Int
  c : Int
  v : Int
  ended : Bool
def ckC (t : Ck) : List AV := [.int .i64 t.f, .int .i64 t.c, .int .i64 t.v, .bool t.ended]
def ckStep (O : MOps) (t : Ck) (a : O.A) : Ck × O.A × Bool :=
  if t.ended then (t, a, true) else ({ t with ended := true }, if 0 ≤ t.v then O.st a (wr (t.f + t.v)) 0 else a, true)
/-- A Retire. -/
structure Rk where
  f : Int
  c : Int
  left : Int
  ended : Bool
def rkC (t : Rk) : List AV := [.int .i64 t.f, .int .i64 t.c, .int .i64 t.left, .bool t.ended]
def rkStep (O : MOps) (t : Rk) (a : O.A) : Rk × O.A × Bool :=
  if t.ended then (t, a, true) else ({ t with ended := true, left := wr (O.ad a t.c 18446744073709551615).1 }, (O.ad a t.c 18446744073709551615).2, true)
/-- A Quiet. -/
structure Qk where
  f : Int
  c : Int
  is : Bool
  ended : Bool
def qkC (t : Qk) : List AV := [.int .i64 t.f, .int .i64 t.c, .bool t.is, .bool t.ended]
def qkStep (O : MOps) (t : Qk) (a : O.A) : Qk × O.A × Bool :=
  if t.ended then (t, a, true) else ({ t with ended := true, is := decide ((O.ld a t.c).1 = 0) }, (O.ld a t.c).2, true)
theorem aNumber (M : AMem) (f c : Int) (m : M.S) (σ : Hp) (hf : M.O.free (M.abs m)) : ACalls Try.prog 52 [.agg [.int .i64 f, .int .i64 c], M.v] (M.B m ++ σ) (fun x σ' => ∃ m', M.abs m' = (M.O.ld (M.abs m) c).2 ∧ x = .int .i64 (wr (M.O.ld (M.abs m) c).1) ∧ σ' = M.B m' ++ σ) := by
  refine okF Try.func52 (by kernel_rfl) ?_
  intro b
  refine .each (by kernel_rfl) ?_
  repeat' first
    | refine And.intro ?_ ?_
    | refine LoadAt.mk 0 _ _ rfl rfl ?_
    | refine callR [] (aOr _ _ _) ?_
  all_goals
    refine M.aLoad [_] hf fun m' hm => ?_
    exact .drop 0 1 (.done ⟨m', hm, rfl, rfl⟩)
theorem aWaits (M : AMem) (f c v : Int) (m : M.S) (σ : Hp) (hf : M.O.free (M.abs m)) : ACalls Try.prog 51 [.agg [.int .i64 f, .int .i64 c], M.v, .int .i64 v] (M.B m ++ σ) (fun x σ' => ∃ m', M.abs m' = (if 0 ≤ v then (M.O.ld (M.abs m) (wr (f + v))).2 else M.abs m) ∧ x = .bool (decide (0 ≤ v) && decide ((M.O.ld (M.abs m) (wr (f + v))).1 = 1)) ∧ σ' = M.B m' ++ σ) := by
  refine okF Try.func51 (by kernel_rfl) ?_
  intro b
  refine .each (by kernel_rfl) ?_
  by_cases h : 0 ≤ v
  · repeat' first
      | refine And.intro ?_ ?_
      | refine bcond_dec (fun _ => ?_) (fun h2 => absurd h h2)
      | refine LoadAt.mk 0 _ _ rfl rfl ?_
      | refine callR [] (aOr _ _ _) ?_
    all_goals
      refine M.aLoad [_] hf fun m' hm => ?_
      refine bcond_dec (fun h2 => ?_) (fun h2 => ?_)
      · have h2 : (M.O.ld (M.abs m) (wr (f + v))).1 = 1 := h2
        exact .drop 0 1 (.done ⟨m', by rw [if_pos h]; exact hm, av_bool (by simp [h, h2]), rfl⟩)
      · have h2 : ¬ (M.O.ld (M.abs m) (wr (f + v))).1 = 1 := h2
        exact .drop 0 1 (.done ⟨m', by rw [if_pos h]; exact hm, av_bool (by simp [h2]), rfl⟩)
  · repeat' first
      | refine And.intro ?_ ?_
      | refine bcond_dec (fun h2 => absurd h2 h) (fun _ => ?_)
    all_goals
      exact .drop 0 1 (.done ⟨m, by rw [if_neg h], av_bool (by simp [h]), rfl⟩)
theorem aNumberP (f c : Int) (p q : Nat) (ws : List Int) (σ : Hp) : ACalls Try.prog 52 [.agg [.int .i64 f, .int .i64 c], plI p] (plH p q ws σ) (Ret (.int .i64 (wr (mLoad ws c))) (plH p q ws σ)) :=
  (aNumber (plainM p q) f c ws σ trivial).mono fun _ _ ⟨m', h1, h2, h3⟩ => by
    have h1 : m' = ws := h1
    subst h1
    exact ⟨h2, h3⟩
theorem aWaitsP (f c v : Int) (p q : Nat) (ws : List Int) (σ : Hp) : ACalls Try.prog 51 [.agg [.int .i64 f, .int .i64 c], plI p, .int .i64 v] (plH p q ws σ) (Ret (.bool (decide (0 ≤ v) && decide (mLoad ws (wr (f + v)) = 1))) (plH p q ws σ)) :=
  (aWaits (plainM p q) f c v ws σ trivial).mono fun _ _ ⟨m', h1, h2, h3⟩ => by
    have h1 : m' = ws := by
      refine h1.trans ?_
      show (if 0 ≤ v then ws else ws) = ws
      split <;> rfl
    subst h1
    exact ⟨h2, h3⟩
end Go.Proofs.Ytiihcgmnmcdcfaa
