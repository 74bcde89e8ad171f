/-
  Mm: what the claim uses of them.
-/
import Derived.Test.YtacacplipaeokaaBn15
namespace Go.Proofs.Ytacacplipaeokaa
open Go.RowKit
/-- What a memory tells, and knows then. -/
structure MOps where
  A : Type
  ld : A → Int → Int × A
  st : A → Int → Int → A
  cs : A → Int → Int → Int → Bool × A
  ad : A → Int → Int → Int × A
  ln : A → Int
  /-- May it be asked once more? -/
  free : A → Prop
/-- A list of words. -/
abbrev listOps : MOps where
  A := List Int
  ld ws a := (mLoad ws a, ws)
  st ws a x := mStore ws a x
  cs ws a x y := (mCas ws a x, mCasTo ws a x y)
  ad ws a d := (mSum ws a d, mAddTo ws a d)
  ln ws := ws.length
  free _ := True
/-- Such a memory, behind an interface: a pointer p of type t; what it knows is told by a state s, whose blocks are B s. -/
structure AMem where
  O : MOps
  S : Type
  abs : S → O.A
  B : S → Hp
  t : TypeId
  p : Nat
  load : ∃ g, Meth Try.prog t "Load" g ∧ ∀ (s : S) (a : Int) (σ : Hp), O.free (abs s) → ACalls Try.prog g [.ptr p 0, .int .i64 a] (B s ++ σ) (fun r σ' => ∃ s', abs s' = (O.ld (abs s) a).2 ∧ r = .int .u64 (O.ld (abs s) a).1 ∧ σ' = B s' ++ σ)
  store : ∃ g, Meth Try.prog t "Store" g ∧ ∀ (s : S) (a x : Int) (σ : Hp), O.free (abs s) → ACalls Try.prog g [.ptr p 0, .int .i64 a, .int .u64 x] (B s ++ σ) (fun r σ' => ∃ s', abs s' = O.st (abs s) a x ∧ r = .tup [] ∧ σ' = B s' ++ σ)
  cas : ∃ g, Meth Try.prog t "CAS" g ∧ ∀ (s : S) (a x y : Int) (σ : Hp), O.free (abs s) → ACalls Try.prog g [.ptr p 0, .int .i64 a, .int .u64 x, .int .u64 y] (B s ++ σ) (fun r σ' => ∃ s', abs s' = (O.cs (abs s) a x y).2 ∧ r = .bool (O.cs (abs s) a x y).1 ∧ σ' = B s' ++ σ)
  add : ∃ g, Meth Try.prog t "Add" g ∧ ∀ (s : S) (a d : Int) (σ : Hp), O.free (abs s) → ACalls Try.prog g [.ptr p 0, .int .i64 a, .int .u64 d] (B s ++ σ) (fun r σ' => ∃ s', abs s' = (O.ad (abs s) a d).2 ∧ r = .int .u64 (O.ad (abs s) a d).1 ∧ σ' = B s' ++ σ)
  hL : AheadOk Try.prog t "Load"
  hS : AheadOk Try.prog t "Store"
  hC : AheadOk Try.prog t "CAS"
  hA : AheadOk Try.prog t "Add"
  len : ∃ g, Meth Try.prog t "Len" g ∧ ∀ (s : S) (σ : Hp), ACalls Try.prog g [.ptr p 0] (B s ++ σ) (fun r σ' => ∃ s', abs s' = abs s ∧ r = .int .i64 (O.ln (abs s)) ∧ σ' = B s' ++ σ)
/-- The interface's value. -/
abbrev AMem.v (M : AMem) : AV := .iface M.t (.ptr M.p 0)
theorem front_perm (fr b σ : Hp) : (b ++ (fr ++ σ)).Perm (fr ++ (b ++ σ)) := by
  rw [← List.append_assoc, ← List.append_assoc]
  exact List.Perm.append_right _ List.perm_append_comm
section
variable (M : AMem) (fr : Hp) {s : M.S} {σ : Hp} {K : AV → Hp → Prop}
theorem AMem.aLoad {a : Int} (hf : M.O.free (M.abs s)) (k : ∀ s', M.abs s' = (M.O.ld (M.abs s) a).2 → K (.int .u64 (M.O.ld (M.abs s) a).1) (fr ++ (M.B s' ++ σ))) : InvAt Try.prog M.t "Load" fun g => CallAt Try.prog g K [.ptr M.p 0, .int .i64 a] (fr ++ (M.B s ++ σ)) := by
  obtain ⟨g, h1, h2⟩ := M.load
  refine ⟨g, h1, .perm _ (front_perm fr (M.B s) σ) (h2 s a (fr ++ σ) hf) ?_⟩
  rintro r σ' ⟨s', h3, rfl, rfl⟩
  exact ⟨_, (front_perm fr (M.B s') σ).symm, k s' h3⟩
theorem AMem.aStore {a x : Int} (hf : M.O.free (M.abs s)) (k : ∀ s', M.abs s' = M.O.st (M.abs s) a x → K (.tup []) (fr ++ (M.B s' ++ σ))) : InvAt Try.prog M.t "Store" fun g => CallAt Try.prog g K [.ptr M.p 0, .int .i64 a, .int .u64 x] (fr ++ (M.B s ++ σ)) := by
  obtain ⟨g, h1, h2⟩ := M.store
  refine ⟨g, h1, .perm _ (front_perm fr (M.B s) σ) (h2 s a x (fr ++ σ) hf) ?_⟩
  rintro r σ' ⟨s', h3, rfl, rfl⟩
  exact ⟨_, (front_perm fr (M.B s') σ).symm, k s' h3⟩
theorem AMem.aCas {a x y : Int} (hf : M.O.free (M.abs s)) (k : ∀ s', M.abs s' = (M.O.cs (M.abs s) a x y).2 → K (.bool (M.O.cs (M.abs s) a x y).1) (fr ++ (M.B s' ++ σ))) : InvAt Try.prog M.t "CAS" fun g => CallAt Try.prog g K [.ptr M.p 0, .int .i64 a, .int .u64 x, .int .u64 y] (fr ++ (M.B s ++ σ)) := by
  obtain ⟨g, h1, h2⟩ := M.cas
  refine ⟨g, h1, .perm _ (front_perm fr (M.B s) σ) (h2 s a x y (fr ++ σ) hf) ?_⟩
  rintro r σ' ⟨s', h3, rfl, rfl⟩
  exact ⟨_, (front_perm fr (M.B s') σ).symm, k s' h3⟩
theorem AMem.aCasB {a x y : Int} (hf : M.O.free (M.abs s)) (k1 : ∀ s', M.abs s' = (M.O.cs (M.abs s) a x y).2 → (M.O.cs (M.abs s) a x y).1 = true → K (.bool true) (fr ++ (M.B s' ++ σ))) (k2 : ∀ s', M.abs s' = (M.O.cs (M.abs s) a x y).2 → (M.O.cs (M.abs s) a x y).1 = false → K (.bool false) (fr ++ (M.B s' ++ σ))) : InvAt Try.prog M.t "CAS" fun g => CallAt Try.prog g K [.ptr M.p 0, .int .i64 a, .int .u64 x, .int .u64 y] (fr ++ (M.B s ++ σ)) :=
  M.aCas fr hf fun s' h => by
    cases hb : (M.O.cs (M.abs s) a x y).1 with
    | true => exact k1 s' h hb
    | false => exact k2 s' h hb
theorem AMem.aAdd {a d : Int} (hf : M.O.free (M.abs s)) (k : ∀ s', M.abs s' = (M.O.ad (M.abs s) a d).2 → K (.int .u64 (M.O.ad (M.abs s) a d).1) (fr ++ (M.B s' ++ σ))) : InvAt Try.prog M.t "Add" fun g => CallAt Try.prog g K [.ptr M.p 0, .int .i64 a, .int .u64 d] (fr ++ (M.B s ++ σ)) := by
  obtain ⟨g, h1, h2⟩ := M.add
  refine ⟨g, h1, .perm _ (front_perm fr (M.B s) σ) (h2 s a d (fr ++ σ) hf) ?_⟩
  rintro r σ' ⟨s', h3, rfl, rfl⟩
  exact ⟨_, (front_perm fr (M.B s') σ).symm, k s' h3⟩
theorem AMem.aLen (k : ∀ s', M.abs s' = M.abs s → K (.int .i64 (M.O.ln (M.abs s))) (fr ++ (M.B s' ++ σ))) : InvAt Try.prog M.t "Len" fun g => CallAt Try.prog g K [.ptr M.p 0] (fr ++ (M.B s ++ σ)) := by
  obtain ⟨g, h1, h2⟩ := M.len
  refine ⟨g, h1, .perm _ (front_perm fr (M.B s) σ) (h2 s (fr ++ σ)) ?_⟩
  rintro r σ' ⟨s', h3, rfl, rfl⟩
  exact ⟨_, (front_perm fr (M.B s') σ).symm, k s' h3⟩
end
/-- A Plain. -/
def plainM (p q : Nat) : AMem where
  O := listOps
  S := List Int
  abs ws := ws
  B ws := [(p, plC q ws.length), (q, woC ws)]
  t := 24
  p := p
  load := ⟨_, mLoad_, fun ws a σ _ => (Go.Proofs.Ytacacplipaeokaa.aLoad p q ws a σ).mono fun _ _ h => ⟨ws, rfl, h.1, h.2⟩⟩
  store := ⟨_, mStore_, fun ws a x σ _ => (Go.Proofs.Ytacacplipaeokaa.aStore p q ws a x σ).mono fun _ _ h => ⟨_, rfl, h.1, h.2⟩⟩
  cas := ⟨_, mCAS_, fun ws a x y σ _ => (Go.Proofs.Ytacacplipaeokaa.aCas p q ws a x y σ).mono fun _ _ h => ⟨_, rfl, h.1, h.2⟩⟩
  add := ⟨_, mAdd_, fun ws a d σ _ => (Go.Proofs.Ytacacplipaeokaa.aAdd p q ws a d σ).mono fun _ _ h => ⟨_, rfl, h.1, h.2⟩⟩
  hL := hLoad_
  hS := hStore_
  hC := hCAS_
  hA := hAdd_
  len := ⟨_, mLen_, fun ws σ => (Go.Proofs.Ytacacplipaeokaa.aLen p q ws σ).mono fun _ _ h => ⟨ws, rfl, h.1, h.2⟩⟩
end Go.Proofs.Ytacacplipaeokaa
