/-
  Mm; Tk: what the claim uses of them.
-/
import Derived.Test.YtegpahamenjiaaaGreatBn34
namespace Go.Proofs.YtegpahamenjiaaaGreat
open Go.RowKit
/-- What a memory tells, and knows then. -/
structure MOps where
  A : Type
  ld : A → Int → Int × A
  st : A → Int → Int → A
  cs : A → Int → Int → Int → Bool × A
  ad : A → Int → Int → Int × A
  ln : A → Int
  /-- May it be asked once more? -/
  free : A → Prop
/-- A list of words. -/
abbrev listOps : MOps where
  A := List Int
  ld ws a := (mLoad ws a, ws)
  st ws a x := mStore ws a x
  cs ws a x y := (mCas ws a x, mCasTo ws a x y)
  ad ws a d := (mSum ws a d, mAddTo ws a d)
  ln ws := ws.length
  free _ := True
/-- Such a memory, behind an interface: a pointer p of type t; what it knows is told by a state s, whose blocks are B s. -/
structure AMem where
  O : MOps
  S : Type
  abs : S → O.A
  B : S → Hp
  t : TypeId
  p : Nat
  load : ∃ g, Meth Tryz.prog t "Load" g ∧ ∀ (s : S) (a : Int) (σ : Hp), O.free (abs s) → ACalls Tryz.prog g [.ptr p 0, .int .i64 a] (B s ++ σ) (fun r σ' => ∃ s', abs s' = (O.ld (abs s) a).2 ∧ r = .int .u64 (O.ld (abs s) a).1 ∧ σ' = B s' ++ σ)
  store : ∃ g, Meth Tryz.prog t "Store" g ∧ ∀ (s : S) (a x : Int) (σ : Hp), O.free (abs s) → ACalls Tryz.prog g [.ptr p 0, .int .i64 a, .int .u64 x] (B s ++ σ) (fun r σ' => ∃ s', abs s' = O.st (abs s) a x ∧ r = .tup [] ∧ σ' = B s' ++ σ)
  cas : ∃ g, Meth Tryz.prog t "CAS" g ∧ ∀ (s : S) (a x y : Int) (σ : Hp), O.free (abs s) → ACalls Tryz.prog g [.ptr p 0, .int .i64 a, .int .u64 x, .int .u64 y] (B s ++ σ) (fun r σ' => ∃ s', abs s' = (O.cs (abs s) a x y).2 ∧ r = .bool (O.cs (abs s) a x y).1 ∧ σ' = B s' ++ σ)
  add : ∃ g, Meth Tryz.prog t "Add" g ∧ ∀ (s : S) (a d : Int) (σ : Hp), O.free (abs s) → ACalls Tryz.prog g [.ptr p 0, .int .i64 a, .int .u64 d] (B s ++ σ) (fun r σ' => ∃ s', abs s' = (O.ad (abs s) a d).2 ∧ r = .int .u64 (O.ad (abs s) a d).1 ∧ σ' = B s' ++ σ)
  hL : AheadOk Tryz.prog t "Load"
  hS : AheadOk Tryz.prog t "Store"
  hC : AheadOk Tryz.prog t "CAS"
  hA : AheadOk Tryz.prog t "Add"
  len : ∃ g, Meth Tryz.prog t "Len" g ∧ ∀ (s : S) (σ : Hp), ACalls Tryz.prog g [.ptr p 0] (B s ++ σ) (fun r σ' => ∃ s', abs s' = abs s ∧ r = .int .i64 (O.ln (abs s)) ∧ σ' = B s' ++ σ)
/-- The interface's value. -/
abbrev AMem.v (M : AMem) : AV := .iface M.t (.ptr M.p 0)
theorem front_perm (fr b σ : Hp) : (b ++ (fr ++ σ)).Perm (fr ++ (b ++ σ)) := by
  rw [← List.append_assoc, ← List.append_assoc]
  exact List.Perm.append_right _ List.perm_append_comm
section
variable (M : AMem) (fr : Hp) {s : M.S} {σ : Hp} {K : AV → Hp → Prop}
theorem AMem.aLoad {a : Int} (hf : M.O.free (M.abs s)) (k : ∀ s', M.abs s' = (M.O.ld (M.abs s) a).2 → K (.int .u64 (M.O.ld (M.abs s) a).1) (fr ++ (M.B s' ++ σ))) : InvAt Tryz.prog M.t "Load" fun g => CallAt Tryz.prog g K [.ptr M.p 0, .int .i64 a] (fr ++ (M.B s ++ σ)) := by
  obtain ⟨g, h1, h2⟩ := M.load
  refine ⟨g, h1, .perm _ (front_perm fr (M.B s) σ) (h2 s a (fr ++ σ) hf) ?_⟩
  rintro r σ' ⟨s', h3, rfl, rfl⟩
  exact ⟨_, (front_perm fr (M.B s') σ).symm, k s' h3⟩
theorem AMem.aStore {a x : Int} (hf : M.O.free (M.abs s)) (k : ∀ s', M.abs s' = M.O.st (M.abs s) a x → K (.tup []) (fr ++ (M.B s' ++ σ))) : InvAt Tryz.prog M.t "Store" fun g => CallAt Tryz.prog g K [.ptr M.p 0, .int .i64 a, .int .u64 x] (fr ++ (M.B s ++ σ)) := by
  obtain ⟨g, h1, h2⟩ := M.store
  refine ⟨g, h1, .perm _ (front_perm fr (M.B s) σ) (h2 s a x (fr ++ σ) hf) ?_⟩
  rintro r σ' ⟨s', h3, rfl, rfl⟩
  exact ⟨_, (front_perm fr (M.B s') σ).symm, k s' h3⟩
theorem AMem.aCas {a x y : Int} (hf : M.O.free (M.abs s)) (k : ∀ s', M.abs s' = (M.O.cs (M.abs s) a x y).2 → K (.bool (M.O.cs (M.abs s) a x y).1) (fr ++ (M.B s' ++ σ))) : InvAt Tryz.prog M.t "CAS" fun g => CallAt Tryz.prog g K [.ptr M.p 0, .int .i64 a, .int .u64 x, .int .u64 y] (fr ++ (M.B s ++ σ)) := by
  obtain ⟨g, h1, h2⟩ := M.cas
  refine ⟨g, h1, .perm _ (front_perm fr (M.B s) σ) (h2 s a x y (fr ++ σ) hf) ?_⟩
  rintro r σ' ⟨s', h3, rfl, rfl⟩
  exact ⟨_, (front_perm fr (M.B s') σ).symm, k s' h3⟩
theorem AMem.aCasB {a x y : Int} (hf : M.O.free (M.abs s)) (k1 : ∀ s', M.abs s' = (M.O.cs (M.abs s) a x y).2 → (M.O.cs (M.abs s) a x y).1 = true → K (.bool true) (fr ++ (M.B s' ++ σ))) (k2 : ∀ s', M.abs s' = (M.O.cs (M.abs s) a x y).2 → (M.O.cs (M.abs s) a x y).1 = false → K (.bool false) (fr ++ (M.B s' ++ σ))) : InvAt Tryz.prog M.t "CAS" fun g => CallAt Tryz.prog g K [.ptr M.p 0, .int .i64 a, .int .u64 x, .int .u64 y] (fr ++ (M.B s ++ σ)) :=
  M.aCas fr hf fun s' h => by
    cases hb : (M.O.cs (M.abs s) a x y).1 with
    | true => exact k1 s' h hb
    | false => exact k2 s' h hb
theorem AMem.aAdd {a d : Int} (hf : M.O.free (M.abs s)) (k : ∀ s', M.abs s' = (M.O.ad (M.abs s) a d).2 → K (.int .u64 (M.O.ad (M.abs s) a d).1) (fr ++ (M.B s' ++ σ))) : InvAt Tryz.prog M.t "Add" fun g => CallAt Tryz.prog g K [.ptr M.p 0, .int .i64 a, .int .u64 d] (fr ++ (M.B s ++ σ)) := by
  obtain ⟨g, h1, h2⟩ := M.add
  refine ⟨g, h1, .perm _ (front_perm fr (M.B s) σ) (h2 s a d (fr ++ σ) hf) ?_⟩
  rintro r σ' ⟨s', h3, rfl, rfl⟩
  exact ⟨_, (front_perm fr (M.B s') σ).symm, k s' h3⟩
theorem AMem.aLen (k : ∀ s', M.abs s' = M.abs s → K (.int .i64 (M.O.ln (M.abs s))) (fr ++ (M.B s' ++ σ))) : InvAt Tryz.prog M.t "Len" fun g => CallAt Tryz.prog g K [.ptr M.p 0] (fr ++ (M.B s ++ σ)) := by
  obtain ⟨g, h1, h2⟩ := M.len
  refine ⟨g, h1, .perm _ (front_perm fr (M.B s) σ) (h2 s (fr ++ σ)) ?_⟩
  rintro r σ' ⟨s', h3, rfl, rfl⟩
  exact ⟨_, (front_perm fr (M.B s') σ).symm, k s' h3⟩
end
/-- A Plain. -/
def plainM (p q : Nat) : AMem where
  O := listOps
  S := List Int
  abs ws := ws
  B ws := [(p, plC q ws.length), (q, woC ws)]
  t := 53
  p := p
  load := ⟨_, mLoad_, fun ws a σ _ => (Go.Proofs.YtegpahamenjiaaaGreat.aLoad p q ws a σ).mono fun _ _ h => ⟨ws, rfl, h.1, h.2⟩⟩
  store := ⟨_, mStore_, fun ws a x σ _ => (Go.Proofs.YtegpahamenjiaaaGreat.aStore p q ws a x σ).mono fun _ _ h => ⟨_, rfl, h.1, h.2⟩⟩
  cas := ⟨_, mCAS_, fun ws a x y σ _ => (Go.Proofs.YtegpahamenjiaaaGreat.aCas p q ws a x y σ).mono fun _ _ h => ⟨_, rfl, h.1, h.2⟩⟩
  add := ⟨_, mAdd_, fun ws a d σ _ => (Go.Proofs.YtegpahamenjiaaaGreat.aAdd p q ws a d σ).mono fun _ _ h => ⟨_, rfl, h.1, h.2⟩⟩
  hL := hLoad_
  hS := hStore_
  hC := hCAS_
  hA := hAdd_
  len := ⟨_, mLen_, fun ws σ => (Go.Proofs.YtegpahamenjiaaaGreat.aLen p q ws σ).mono fun _ _ h => ⟨ws, rfl, h.1, h.2⟩⟩
end Go.Proofs.YtegpahamenjiaaaGreat
namespace Go.Proofs.YtegpahamenjiaaaGreat
open Go.RowKit
set_option maxRecDepth 100000
abbrev wr (n : Int) : Int := IntKind.i64.wrap n
/-- A Take. -/
structure Tk where
  f : Int
  c : Int
  v : Int
  new : Bool
  ended : Bool
  did : Bool
def tkC (t : Tk) : List AV := [.int .i64 t.f, .int .i64 t.c, .int .i64 t.v, .bool t.new, .bool t.ended, .bool t.did]
def tkStep (O : MOps) (t : Tk) (a : O.A) : Tk × O.A × Bool :=
  if t.ended then (t, a, true)
  else if t.did then ({ t with ended := true }, (O.ad a t.c 1).2, true)
  else if 0 ≤ t.v then
    (if (O.cs a (wr (t.f + t.v)) 0 1).1 then ({ t with did := true, new := true }, (O.cs a (wr (t.f + t.v)) 0 1).2, false) else ({ t with did := true, new := false, ended := true }, (O.cs a (wr (t.f + t.v)) 0 1).2, true))
  else ({ t with did := true, new := false, ended := true }, a, true)
/-- A machine's Step, over a memory. -/
def MPost (M : AMem) (σ : Hp) {X : Type} (B : X → List AV) (r : Nat) (res : X × M.O.A × Bool) : AV → Hp → Prop :=
  fun x σ' => ∃ m', M.abs m' = res.2.1 ∧ x = .bool res.2.2 ∧ σ' = (r, B res.1) :: (M.B m' ++ σ)
theorem mPost {M : AMem} {σ : Hp} {X : Type} {B : X → List AV} {r : Nat} {res : X × M.O.A × Bool} {x : X} {a : M.O.A} {b : Bool} {m' : M.S} (h : res = (x, a, b)) (hm : M.abs m' = a) : MPost M σ B r res (.bool b) ((r, B x) :: (M.B m' ++ σ)) := by
  subst h
  exact ⟨m', hm, rfl, rfl⟩
theorem aTake (M : AMem) (r : Nat) (t : Tk) (m : M.S) (d : Int) (σ : Hp) (hf : M.O.free (M.abs m)) : ACalls Tryz.prog 283 [.ptr r 0, M.v, .int .i64 d] ((r, tkC t) :: (M.B m ++ σ)) (MPost M σ tkC r (tkStep M.O t (M.abs m))) := by
  refine okF Tryz.func283 (by kernel_rfl) ?_
  refine LoadAt.mkB 0 _ _ rfl rfl (fun h0 => ?_) (fun h0 => ?_)
  · exact .done (mPost (x := t) (by simp [tkStep, h0]) rfl)
  refine callR [] (aOr _ _ _) ?_
  refine LoadAt.mkB 0 _ _ rfl rfl (fun h1 => ?_) (fun h1 => ?_)
  · refine .each (by kernel_rfl) ?_
    refine LoadAt.mk 0 _ _ rfl rfl ?_
    refine AheadAt.mk M.hA ?_
    refine M.aAdd [_] hf fun m' hm => ?_
    refine .fwd 1 ?_
    refine StoreAt.mk 0 _ _ rfl rfl ?_
    exact .done (mPost (x := { t with ended := true }) (by simp [tkStep, h0, h1]) hm)
  refine StoreAt.mk 0 _ _ rfl rfl ?_
  refine .each (by kernel_rfl) ?_
  by_cases h2 : 0 ≤ t.v
  · repeat' first
      | refine And.intro ?_ ?_
      | refine LoadAt.mk 0 _ _ rfl rfl ?_
      | refine bcond_dec (fun _ => ?_) (fun h => absurd h2 h)
      | refine AheadAt.mk M.hC ?_
    all_goals
      refine M.aCasB [_] hf (fun m' hm hb => ?_) (fun m' hm hb => ?_)
      · refine StoreAt.mk 0 _ _ rfl rfl ?_
        refine LoadAt.mk 0 _ _ rfl rfl ?_
        exact .done (mPost (x := { t with did := true, new := true }) (by simp [tkStep, h0, h1, h2, hb]) hm)
      · refine StoreAt.mk 0 _ _ rfl rfl ?_
        refine LoadAt.mk 0 _ _ rfl rfl ?_
        refine StoreAt.mk 0 _ _ rfl rfl ?_
        exact .done (mPost (x := { t with did := true, new := false, ended := true }) (by simp [tkStep, h0, h1, h2, hb]) hm)
  · repeat' first
      | refine And.intro ?_ ?_
      | refine LoadAt.mk 0 _ _ rfl rfl ?_
      | refine bcond_dec (fun h => absurd h h2) (fun _ => ?_)
      | refine StoreAt.mk 0 _ _ rfl rfl ?_
    all_goals
      exact .done (mPost (x := { t with did := true, new := false, ended := true }) (by simp [tkStep, h0, h1, h2]) rfl)
/-- A Clear. -/
structure Ck where
  f : Int
  c : Int
  v : Int
  ended : Bool
def ckC (t : Ck) : List AV := [.int .i64 t.f, .int .i64 t.c, .int .i64 t.v, .bool t.ended]
def ckStep (O : MOps) (t : Ck) (a : O.A) : Ck × O.A × Bool :=
  if t.ended then (t, a, true) else ({ t with ended := true }, if 0 ≤ t.v then O.st a (wr (t.f + t.v)) 0 else a, true)
theorem aClear (M : AMem) (r : Nat) (t : Ck) (m : M.S) (d : Int) (σ : Hp) (hf : M.O.free (M.abs m)) : ACalls Tryz.prog 278 [.ptr r 0, M.v, .int .i64 d] ((r, ckC t) :: (M.B m ++ σ)) (MPost M σ ckC r (ckStep M.O t (M.abs m))) := by
  refine okF Tryz.func278 (by kernel_rfl) ?_
  refine LoadAt.mkB 0 _ _ rfl rfl (fun h0 => ?_) (fun h0 => ?_)
  · exact .done (mPost (x := t) (by simp [ckStep, h0]) rfl)
  refine StoreAt.mk 0 _ _ rfl rfl ?_
  refine LoadAt.mk 0 _ _ rfl rfl ?_
  refine bcond_dec (fun h2 => ?_) (fun h2 => ?_)
  · have h2 : 0 ≤ t.v := h2
    refine .each (by kernel_rfl) ?_
    repeat' first
      | refine And.intro ?_ ?_
      | refine LoadAt.mk 0 _ _ rfl rfl ?_
      | refine callR [] (aOr _ _ _) ?_
      | refine AheadAt.mk M.hS ?_
    all_goals
      refine M.aStore [_] hf fun m' hm => ?_
      exact .done (mPost (x := { t with ended := true }) (by simp [ckStep, h0, h2]) hm)
  · have h2 : ¬ 0 ≤ t.v := h2
    exact .done (mPost (x := { t with ended := true }) (by simp [ckStep, h0, h2]) rfl)
/-- A Retire. -/
structure Rk where
  f : Int
  c : Int
  left : Int
  ended : Bool
def rkC (t : Rk) : List AV := [.int .i64 t.f, .int .i64 t.c, .int .i64 t.left, .bool t.ended]
def rkStep (O : MOps) (t : Rk) (a : O.A) : Rk × O.A × Bool :=
  if t.ended then (t, a, true) else ({ t with ended := true, left := wr (O.ad a t.c 18446744073709551615).1 }, (O.ad a t.c 18446744073709551615).2, true)
theorem aRetire (M : AMem) (r : Nat) (t : Rk) (m : M.S) (d : Int) (σ : Hp) (hf : M.O.free (M.abs m)) : ACalls Tryz.prog 285 [.ptr r 0, M.v, .int .i64 d] ((r, rkC t) :: (M.B m ++ σ)) (MPost M σ rkC r (rkStep M.O t (M.abs m))) := by
  refine okF Tryz.func285 (by kernel_rfl) ?_
  refine LoadAt.mkB 0 _ _ rfl rfl (fun h0 => ?_) (fun h0 => ?_)
  · exact .done (mPost (x := t) (by simp [rkStep, h0]) rfl)
  refine StoreAt.mk 0 _ _ rfl rfl ?_
  refine .each (by kernel_rfl) ?_
  repeat' first
    | refine And.intro ?_ ?_
    | refine LoadAt.mk 0 _ _ rfl rfl ?_
    | refine callR [] (aOr _ _ _) ?_
    | refine AheadAt.mk M.hA ?_
  all_goals
    refine M.aAdd [_] hf fun m' hm => ?_
    refine StoreAt.mk 0 _ _ rfl rfl ?_
    exact .done (mPost (x := { t with ended := true, left := wr (M.O.ad (M.abs m) t.c 18446744073709551615).1 }) (by simp [rkStep, h0]) hm)
/-- A Quiet. -/
structure Qk where
  f : Int
  c : Int
  is : Bool
  ended : Bool
def qkC (t : Qk) : List AV := [.int .i64 t.f, .int .i64 t.c, .bool t.is, .bool t.ended]
def qkStep (O : MOps) (t : Qk) (a : O.A) : Qk × O.A × Bool :=
  if t.ended then (t, a, true) else ({ t with ended := true, is := decide ((O.ld a t.c).1 = 0) }, (O.ld a t.c).2, true)
theorem aQuiet (M : AMem) (r : Nat) (t : Qk) (m : M.S) (d : Int) (σ : Hp) (hf : M.O.free (M.abs m)) : ACalls Tryz.prog 277 [.ptr r 0, M.v, .int .i64 d] ((r, qkC t) :: (M.B m ++ σ)) (MPost M σ qkC r (qkStep M.O t (M.abs m))) := by
  refine okF Tryz.func277 (by kernel_rfl) ?_
  refine LoadAt.mkB 0 _ _ rfl rfl (fun h0 => ?_) (fun h0 => ?_)
  · exact .done (mPost (x := t) (by simp [qkStep, h0]) rfl)
  refine StoreAt.mk 0 _ _ rfl rfl ?_
  refine .each (by kernel_rfl) ?_
  repeat' first
    | refine And.intro ?_ ?_
    | refine LoadAt.mk 0 _ _ rfl rfl ?_
    | refine callR [] (aOr _ _ _) ?_
    | refine AheadAt.mk M.hL ?_
  all_goals
    refine M.aLoad [_] hf fun m' hm => ?_
    refine bcond_dec (fun h2 => ?_) (fun h2 => ?_)
    · have h2 : (M.O.ld (M.abs m) t.c).1 = 0 := h2
      refine StoreAt.mk 0 _ _ rfl rfl ?_
      exact .done (mPost (x := { t with ended := true, is := true }) (by simp [qkStep, h0, h2]) hm)
    · have h2 : ¬ (M.O.ld (M.abs m) t.c).1 = 0 := h2
      refine StoreAt.mk 0 _ _ rfl rfl ?_
      exact .done (mPost (x := { t with ended := true, is := false }) (by simp [qkStep, h0, h2]) hm)
end Go.Proofs.YtegpahamenjiaaaGreat
