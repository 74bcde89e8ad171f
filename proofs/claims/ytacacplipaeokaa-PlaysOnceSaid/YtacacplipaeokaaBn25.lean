/-
  Sch: what the claim uses of them.
-/
import Derived.Test.YtacacplipaeokaaBn24
namespace Go.Proofs.Ytacacplipaeokaa
open Go.RowKit
set_option maxRecDepth 100000
set_option maxHeartbeats 4000000
/-- Whose pick it is. -/
def whoS (p : Int) (n : Nat) : Nat := if n < 1 then 0 else (p % (n : Int)).toNat
theorem whoS_lt {p : Int} {n : Nat} (h : 0 < n) : whoS p n < n := by
  unfold whoS
  rw [if_neg (by omega)]
  have h1 := Int.emod_nonneg p (show (n : Int) ≠ 0 by omega)
  have h2 := Int.emod_lt_of_pos p (show (0 : Int) < n by omega)
  omega
theorem who_neg {p : Int} {n : Nat} (h0 : 0 < n) (hn : n ≤ 1000000) (h : p.tmod n < 0) : IntKind.i64.wrap (p.tmod n + n) = ((whoS p n : Nat) : Int) := by
  have h1 := Int.emod_nonneg p (show (n : Int) ≠ 0 by omega)
  have h2 := Int.emod_lt_of_pos p (show (0 : Int) < n by omega)
  have e := @Int.tmod_eq_emod p n
  unfold whoS
  rw [if_neg (by omega), IntKind.wrap_i64]
  split at e <;> omega
theorem who_pos {p : Int} {n : Nat} (h0 : 0 < n) (h : ¬ p.tmod n < 0) : p.tmod n = ((whoS p n : Nat) : Int) := by
  have h1 := Int.emod_nonneg p (show (n : Int) ≠ 0 by omega)
  have h2 := Int.emod_lt_of_pos p (show (0 : Int) < n by omega)
  have e := @Int.tmod_eq_emod p n
  unfold whoS
  rw [if_neg (by omega)]
  split at e <;> omega
theorem who_none {p : Int} {n : Nat} (h : (n : Int) < 1) : (0 : Int) = ((whoS p n : Nat) : Int) := by
  unfold whoS
  rw [if_pos (by omega)]; rfl
theorem aWhoS (p d : Int) (n : Nat) (σ : Hp) (hn : n ≤ 1000000) : ACalls Try.prog 61 [.agg [.int .i64 p, .int .i64 d], .int .i64 n] σ (Ret (.int .i64 (whoS p n)) σ) := by
  refine okF Try.func61 (by kernel_rfl) ?_
  intro bl1
  refine bcond_dec (fun c2 => ?_) (fun c2 => ?_)
  · have c2 : (↑n : Int) < 1 := c2
    exact .drop 0 1 (.done ⟨av_int (who_none (by assumption)), rfl⟩)
  · have c2 : ¬ ((↑n : Int) < 1) := c2
    refine LoadAt.mk 0 _ _ rfl rfl ?_
    refine With.mk (by omega) ?_
    refine bcond_dec (fun c3 => ?_) (fun c3 => ?_)
    · have c3 : p.tmod (↑n : Int) < 0 := c3
      exact .drop 0 1 (.done ⟨av_int (who_neg (by omega) hn (by assumption)), rfl⟩)
    · have c3 : ¬ (p.tmod (↑n : Int) < 0) := c3
      exact .drop 0 1 (.done ⟨av_int (who_pos (by omega) (by assumption)), rfl⟩)
/-- Bools as cells. -/
def boC (l : List Bool) : List AV := l.map AV.bool
theorem boC_get {dn : List Bool} {k : Nat} (h : k < dn.length) {b : Bool} (hb : dn[k] = b) : (boC dn)[0 + ((k : Int)).toNat * 1]? = some (.bool b) := by
  simp [boC, h, hb]
theorem all_no {dn : List Bool} {k : Nat} (h : k < dn.length) (hd : dn[k] = false) : dn.all id = false := by
  cases ha : dn.all id with
  | false => rfl
  | true =>
    have := List.all_eq_true.1 ha _ (List.getElem_mem h)
    rw [hd] at this
    cases this
theorem aFinS (sv : AV) (u : Int) (b : Nat) (dn : List Bool) (σ : Hp) (hn : dn.length ≤ 1000000) : ACalls Try.prog 60 [.agg [sv, .mref b 0 dn.length 1, .int .i64 u]] ((b, boC dn) :: σ) (Ret (.bool (dn.all id)) ((b, boC dn) :: σ)) := by
  refine okF Try.func60 (by kernel_rfl) ?_
  intro bl1
  refine LoadAt.mk 0 _ _ rfl rfl ?_
  refine loopS (S := Nat) (fun s => [(6, .mref b 0 dn.length 1), (7, .int .i64 dn.length), (8, .int .i64 s)]) (fun _ => (bl1, [sv, .mref b 0 dn.length 1, .int .i64 u]) :: (b, boC dn) :: σ) (fun s => s ≤ dn.length ∧ (dn.take s).all id = true) (fun s => dn.length - s) 0 ⟨⟨Nat.zero_le _, rfl⟩, ⟨rfl, rfl, rfl, trivial⟩, rfl⟩ ?_
  rintro k g ⟨hk, hall⟩
  refine bcond_dec (fun h => ?_) (fun h => ?_)
  · have h : (k : Int) < dn.length := h
    have hkl : k < dn.length := by omega
    refine With.mk ⟨rfl, by omega, by omega⟩ ?_
    cases hd : dn[k] with
    | true =>
      refine LoadAt.mk 1 _ _ rfl (boC_get hkl hd) ?_
      refine nextS (k + 1) ?_ ⟨hkl, ?_⟩ ⟨rfl, rfl, inc64 (by omega), trivial⟩ (shed_eq rfl)
      · show dn.length - (k + 1) < dn.length - k; omega
      · rw [List.take_succ_eq_append_getElem hkl, List.all_append, hall, hd]; rfl
    | false =>
      refine LoadAt.mk 1 _ _ rfl (boC_get hkl hd) ?_
      exact .drop 0 1 (.done ⟨congrArg AV.bool (all_no hkl hd).symm, rfl⟩)
  · have h : ¬ (k : Int) < dn.length := h
    exact .drop 0 1 (.done ⟨congrArg AV.bool (by rw [← List.take_of_length_le (show dn.length ≤ k by omega)]; exact hall.symm), rfl⟩)
/-- Ints as cells. -/
def stC (l : List Int) : List AV := l.map (AV.int .i64)
def isNil : AV → Bool
  | .nilif => true
  | _ => false
theorem rep_boC (n : Nat) : repC [.bool false] n = boC (List.replicate n false) := by
  unfold boC
  induction n with
  | zero => rfl
  | succ n ih => simp [repC, ih, List.replicate_succ]
theorem rep_stC (n : Nat) : repC [.int .i64 0] n = stC (List.replicate n 0) := by
  unfold stC
  induction n with
  | zero => rfl
  | succ n ih => simp [repC, ih, List.replicate_succ]
def dnK (L : List AV) (k : Nat) : List Bool := (L.take k).map isNil ++ List.replicate (L.length - k) false
theorem dnK_zero (L : List AV) : dnK L 0 = List.replicate L.length false := by simp [dnK]
theorem dnK_length (L : List AV) (k : Nat) (h : k ≤ L.length) : (dnK L k).length = L.length := by simp [dnK]; omega
theorem dnK_all (L : List AV) : dnK L L.length = L.map isNil := by simp [dnK]
theorem dnK_set (L : List AV) (k : Nat) (h : k < L.length) : (dnK L k).set k (isNil L[k]) = dnK L (k + 1) := by
  unfold dnK
  rw [show L.length - k = (L.length - (k + 1)) + 1 by omega, List.replicate_succ, List.take_succ_eq_append_getElem h, List.map_append]
  have hl : ((L.take k).map isNil).length = k := by simp; omega
  rw [List.set_append_right _ _ (by omega), hl, Nat.sub_self]
  simp
theorem l_get {L : List AV} {k : Nat} (h : k < L.length) {x : AV} (hx : L[k] = x) : L[0 + ((k : Int)).toNat * 1]? = some x := by
  rw [show 0 + ((k : Int)).toNat * 1 = k by omega, List.getElem?_eq_getElem h, hx]
theorem boC_put {dn : List Bool} {k : Nat} (b : Bool) (h : k < dn.length) : writeAs ⟨.bool, 1, 1, [.bool false]⟩ (boC dn) (0 + ((k : Int)).toNat * 1) (.bool b) = some (boC (dn.set k b)) := by
  have e : 0 + ((k : Int)).toNat * 1 = k := by omega
  have h2 : Nat.ble (k + 1) (boC dn).length = true := Nat.ble_eq_true_of_le (by simp [boC]; omega)
  rw [e]
  show (match Nat.beq 1 1, Nat.ble (k + 1) (boC dn).length with | true, true => some (splice (boC dn) k [.bool b]) | _, _ => none) = _
  rw [h2]
  show some ((boC dn).set k (.bool b)) = _
  rw [show (boC dn).set k (.bool b) = boC (dn.set k b) by simp [boC, List.map_set]]
theorem stC_get {l : List Int} {k : Nat} (h : k < l.length) : (stC l)[0 + ((k : Int)).toNat * 1]? = some (.int .i64 (l.getD k 0)) := by
  simp [stC, h, List.getD]
theorem stC_put {l : List Int} {k : Nat} (x : Int) (h : k < l.length) : writeAs ⟨.int .i64, 1, 8, [.int .i64 0]⟩ (stC l) (0 + ((k : Int)).toNat * 1) (.int .i64 x) = some (stC (l.set k x)) := by
  have e : 0 + ((k : Int)).toNat * 1 = k := by omega
  have h2 : Nat.ble (k + 1) (stC l).length = true := Nat.ble_eq_true_of_le (by simp [stC]; omega)
  rw [e]
  show (match Nat.beq 1 1, Nat.ble (k + 1) (stC l).length with | true, true => some (splice (stC l) k [.int .i64 x]) | _, _ => none) = _
  rw [h2]
  show some ((stC l).set k (.int .i64 x)) = _
  rw [show (stC l).set k (.int .i64 x) = stC (l.set k x) by simp [stC, List.map_set]]
/-- A run's state: what there is; each machine's Steps; who is done; the picks used. -/
structure SSt (A : Type) where
  a : A
  st : List Int
  dn : List Bool
  us : Nat
/-- One pick. -/
def pickS {A : Type} (step : A → Nat → Int → A × Bool) (tell : A → Nat → A) (n : Nat) (x : SSt A) (p : Int × Int × Unit) : SSt A :=
  if x.dn.getD (whoS p.1 n) true then ⟨tell x.a (x.us + 1), x.st, x.dn, x.us + 1⟩
  else ⟨tell (step x.a (whoS p.1 n) p.2.1).1 (x.us + 1), x.st.set (whoS p.1 n) (wr (x.st.getD (whoS p.1 n) 0 + 1)), x.dn.set (whoS p.1 n) (step x.a (whoS p.1 n) p.2.1).2, x.us + 1⟩
def goS {A : Type} (step : A → Nat → Int → A × Bool) (tell : A → Nat → A) (n : Nat) : List (Int × Int × Unit) → SSt A → SSt A
  | [], x => x
  | p :: ps, x => if x.dn.all id then x else goS step tell n ps (pickS step tell n x p)
/-- Machines behind interfaces, and the memory that they are handed. -/
structure AWorld where
  A : Type
  S : Type
  abs : S → A
  B : S → Hp
  L : List AV
  mt : TypeId
  mp : Nat
  step : A → Nat → Int → A × Bool
  tell : A → Nat → A
  free : A → Prop
  keeps : ∀ a i d, free a → i < L.length → free (step a i d).1
  told : ∀ a k, free a → free (tell a k)
  mach : ∀ i (h : i < L.length), L[i] = .nilif ∨ ∃ t r, L[i] = .iface t (.ptr r 0) ∧ ∃ g, Meth Try.prog t "Step" g ∧
    ∀ (s : S) (d : Int) (σ : Hp), free (abs s) → ACalls Try.prog g [.ptr r 0, .iface mt (.ptr mp 0), .int .i64 d] (B s ++ σ) (fun x σ' => ∃ s', abs s' = (step (abs s) i d).1 ∧ x = .bool (step (abs s) i d).2 ∧ σ' = B s' ++ σ)
abbrev AWorld.mv (W : AWorld) : AV := .iface W.mt (.ptr W.mp 0)
def AWorld.init (W : AWorld) (a : W.A) : SSt W.A := ⟨a, List.replicate W.L.length 0, W.L.map isNil, 0⟩
theorem AWorld.aStep (W : AWorld) (fr : Hp) {s : W.S} {σ : Hp} {K : AV → Hp → Prop} {i r : Nat} {t : TypeId} {g : FuncId} {d : Int} (hMe : Meth Try.prog t "Step" g)
    (hcall : ∀ (s : W.S) (d : Int) (σ : Hp), W.free (W.abs s) → ACalls Try.prog g [.ptr r 0, .iface W.mt (.ptr W.mp 0), .int .i64 d] (W.B s ++ σ) (fun x σ' => ∃ s', W.abs s' = (W.step (W.abs s) i d).1 ∧ x = .bool (W.step (W.abs s) i d).2 ∧ σ' = W.B s' ++ σ))
    (hf : W.free (W.abs s)) (k : ∀ s', W.abs s' = (W.step (W.abs s) i d).1 → K (.bool (W.step (W.abs s) i d).2) (fr ++ (W.B s' ++ σ))) : InvAt Try.prog t "Step" fun g => CallAt Try.prog g K [.ptr r 0, W.mv, .int .i64 d] (fr ++ (W.B s ++ σ)) := by
  refine ⟨g, hMe, .perm _ (front_perm fr (W.B s) σ) (hcall s d (fr ++ σ) hf) ?_⟩
  rintro r σ' ⟨s', h3, rfl, rfl⟩
  exact ⟨_, (front_perm fr (W.B s') σ).symm, k s' h3⟩
/-- What a run comes to. -/
def AWorld.run (W : AWorld) (scr : List (Int × Int × Unit)) (a : W.A) : SSt W.A := goS W.step W.tell W.L.length scr (W.init a)
def EachPost (W : AWorld) (scr : List (Int × Int × Unit)) (a : W.A) (fr σ : Hp) : AV → Hp → Prop := fun x σ' => ∃ s', W.abs s' = (W.run scr a).a ∧ x = .agg [.fsl (.int .i64) (W.run scr a).st, .fsl .bool (W.run scr a).dn, .int .i64 (W.run scr a).us] ∧ σ' = fr ++ (W.B s' ++ σ)
theorem frzA3 {b off len es : Nat} {e : Sh} {l : List e.T} {x1 x2 x3 y1 y2 y3 : AV} (h1 : FrzRel b off len es e l x1 y1) (h2 : FrzRel b off len es e l x2 y2) (h3 : FrzRel b off len es e l x3 y3) (l1 : y1.leaf = true) (l2 : y2.leaf = true) (l3 : y3.leaf = true) : FrzRel b off len es e l (.agg [x1, x2, x3]) (.agg [y1, y2, y3]) := by
  refine .agg _ _ rfl (fun i y hy => ?_) (fun i x y hx hy => ?_)
  · match i, hy with
    | 0, hy => cases hy; exact l1
    | 1, hy => cases hy; exact l2
    | 2, hy => cases hy; exact l3
    | i + 3, hy => cases hy
  · match i, hx, hy with
    | 0, hx, hy => cases hx; cases hy; exact h1
    | 1, hx, hy => cases hx; cases hy; exact h2
    | 2, hx, hy => cases hx; cases hy; exact h3
    | i + 3, hx, hy => cases hx
theorem stC_flat : ∀ (ws : List Int), stC ws = ws.flatMap (Sh.cells (.int .i64))
  | [] => rfl
  | z :: ws => congrArg (AV.int .i64 z :: ·) (stC_flat ws)
theorem boC_flat : ∀ (ws : List Bool), boC ws = ws.flatMap (Sh.cells .bool)
  | [] => rfl
  | z :: ws => congrArg (AV.bool z :: ·) (boC_flat ws)
theorem stC_frz {l : List Int} {n : Nat} (h : l.length = n) : ((stC l).drop 0).take (n * 1) = l.flatMap (Sh.cells (.int .i64)) := by
  rw [List.drop_zero, ← stC_flat]
  exact List.take_of_length_le (by simp [stC, h])
theorem boC_frz {l : List Bool} {n : Nat} (h : l.length = n) : ((boC l).drop 0).take (n * 1) = l.flatMap (Sh.cells .bool) := by
  rw [List.drop_zero, ← boC_flat]
  exact List.take_of_length_le (by simp [boC, h])
def SInv (W : AWorld) (scr : List (Int × Int × Unit)) (a0 : W.A) (x : W.S × List Int × List Bool × Nat) : Prop :=
  x.2.2.2 ≤ scr.length ∧ x.2.1.length = W.L.length ∧ x.2.2.1.length = W.L.length ∧ (∀ i (h : i < W.L.length), W.L[i] = .nilif → x.2.2.1[i]? = some true) ∧ W.free (W.abs x.1) ∧ goS W.step W.tell W.L.length (scr.drop x.2.2.2) ⟨W.abs x.1, x.2.1, x.2.2.1, x.2.2.2⟩ = W.run scr a0
theorem goS_all {A : Type} {step : A → Nat → Int → A × Bool} {tell : A → Nat → A} {n : Nat} (l : List (Int × Int × Unit)) {x : SSt A} (h : x.dn.all id = true) : goS step tell n l x = x := by
  cases l with
  | nil => rfl
  | cons p ps => rw [goS, if_pos h]
theorem goS_next {A : Type} {step : A → Nat → Int → A × Bool} {tell : A → Nat → A} {n : Nat} (p : Int × Int × Unit) (ps : List (Int × Int × Unit)) {x : SSt A} (h : x.dn.all id = false) : goS step tell n (p :: ps) x = goS step tell n ps (pickS step tell n x p) := by
  rw [goS, if_neg (by rw [h]; decide)]
theorem inv_end {W : AWorld} {scr : List (Int × Int × Unit)} {a0 : W.A} {s : W.S} {st : List Int} {dn : List Bool} {us : Nat} (h : SInv W scr a0 (s, st, dn, us)) (he : us = scr.length ∨ dn.all id = true) : W.run scr a0 = ⟨W.abs s, st, dn, us⟩ := by
  obtain ⟨_, _, _, _, _, hg⟩ := h
  rw [← hg]
  rcases he with he | he
  · show goS _ _ _ (scr.drop us) _ = _
    rw [he, List.drop_length]; rfl
  · exact goS_all _ he
theorem getD_at {dn : List Bool} {i : Nat} {b d : Bool} (h : i < dn.length) (hd : dn[i] = b) : dn.getD i d = b := by
  rw [List.getD_eq_getElem?_getD, List.getElem?_eq_getElem h, hd]; rfl
end Go.Proofs.Ytacacplipaeokaa
