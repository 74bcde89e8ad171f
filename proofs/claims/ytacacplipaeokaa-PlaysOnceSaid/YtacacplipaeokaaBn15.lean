/-
  Bref: what the claim uses of them.
-/
import Derived.Test.YtacacplipaeokaaBn14
namespace Go.Proofs.Ytacacplipaeokaa
open Go.RowKit
def mHas (ws : List Int) (a : Int) : Bool := decide (0 ≤ a) && decide (a < ws.length)
def mLoad (ws : List Int) (a : Int) : Int := if a < 0 then 0 else ws.getD a.toNat 0
def mStore (ws : List Int) (a x : Int) : List Int := if a < 0 then ws else ws.set a.toNat x
def cutN (n : Int) : Nat := (min (max n 0) 1048576).toNat
theorem cutN_le (n : Int) : cutN n ≤ 1048576 := by unfold cutN; omega
theorem mHas_true {ws : List Int} {a : Int} (h : 0 ≤ a) (h1 : a < ws.length) : mHas ws a = true := by simp [mHas, h, h1]
theorem hasPlain (a n : Int) (h : 0 ≤ a) (h1 : a < n) : (decide (0 ≤ a) && decide (a < n)) = true := by simp [h, h1]
theorem hasPlain' (a n : Int) (h : ¬ (0 ≤ a ∧ a < n)) : (decide (0 ≤ a) && decide (a < n)) = false := by simp; omega
theorem load_hit {ws : List Int} {a : Nat} : mLoad ws (a : Int) = ws.getD a 0 := by
  unfold mLoad; rw [if_neg (by omega)]; rfl
theorem load_miss {ws : List Int} {a : Int} (h : ¬ (0 ≤ a ∧ a < (ws.length : Int))) : mLoad ws a = 0 := by
  unfold mLoad
  split
  · rfl
  · rw [List.getD, List.getElem?_eq_none (by omega)]; rfl
theorem store_hit {ws : List Int} {a : Nat} (x : Int) : mStore ws (a : Int) x = ws.set a x := by
  unfold mStore; rw [if_neg (by omega)]; rfl
theorem store_miss {ws : List Int} {a x : Int} (h : ¬ (0 ≤ a ∧ a < (ws.length : Int))) : mStore ws a x = ws := by
  unfold mStore
  split
  · rfl
  · exact List.set_eq_of_length_le (by omega)
theorem mStore_length (ws : List Int) (a x : Int) : (mStore ws a x).length = ws.length := by unfold mStore; split <;> simp
def mCas (ws : List Int) (a old : Int) : Bool := mHas ws a && (mLoad ws a == old)
def mCasTo (ws : List Int) (a old to : Int) : List Int := if mCas ws a old then mStore ws a to else ws
theorem mCasTo_length (ws : List Int) (a o t : Int) : (mCasTo ws a o t).length = ws.length := by unfold mCasTo; split <;> simp [mStore_length]
def mSum (ws : List Int) (a d : Int) : Int := if mHas ws a then (mLoad ws a + d) % 18446744073709551616 else 0
def mAddTo (ws : List Int) (a d : Int) : List Int := if mHas ws a then mStore ws a ((mLoad ws a + d) % 18446744073709551616) else ws
/-- A Plain's block; a block of words. -/
def plC (q n : Nat) : List AV := [.int .i64 n, .mref q 0 n 1]
theorem woC_get {ws : List Int} {k : Nat} (h : k < ws.length) : (woC ws)[0 + ((k : Int)).toNat * 1]? = some (.int .u64 (ws.getD k 0)) := by
  simp [woC, h, List.getD]
theorem woC_set {ws : List Int} {k : Nat} (x : Int) : (woC ws).set k (.int .u64 x) = woC (ws.set k x) := by simp [woC, List.map_set]
theorem woC_put {ws : List Int} {k : Nat} (x : Int) (h : k < ws.length) : writeAs ⟨.int .u64, 1, 8, [.int .u64 0]⟩ (woC ws) (0 + ((k : Int)).toNat * 1) (.int .u64 x) = some (woC (ws.set k x)) := by
  have e : 0 + ((k : Int)).toNat * 1 = k := by omega
  have h2 : Nat.ble (k + 1) (woC ws).length = true := Nat.ble_eq_true_of_le (by simp [woC]; omega)
  rw [e]
  show (match Nat.beq 1 1, Nat.ble (k + 1) (woC ws).length with | true, true => some (splice (woC ws) k [.int .u64 x]) | _, _ => none) = _
  rw [h2]
  show some ((woC ws).set k (.int .u64 x)) = _
  rw [woC_set]
set_option maxRecDepth 100000
theorem aHas (n a : Int) (σ : Hp) : ACalls Try.prog 55 [.agg [.int .i64 n], .int .i64 a] σ (Ret (.bool (decide (0 ≤ a) && decide (a < n))) σ) := by
  refine okF Try.func55 (by kernel_rfl) ?_
  intro b
  refine bcond_dec (fun h => ?_) (fun h => ?_)
  · refine LoadAt.mk 0 _ _ rfl rfl ?_
    refine bcond_dec (fun h2 => ?_) (fun h2 => ?_)
    · exact .drop 0 1 (.done ⟨av_bool (by simp [h, h2]), rfl⟩)
    · exact .drop 0 1 (.done ⟨av_bool (by simp [h2]), rfl⟩)
  · exact .drop 0 1 (.done ⟨av_bool (by simp [h]), rfl⟩)
theorem aCut (n : Int) (σ : Hp) : ACalls Try.prog 32 [.int .i64 n] σ (Ret (.agg [.int .i64 (cutN n)]) σ) := by
  refine okF Try.func32 (by kernel_rfl) ?_
  intro b
  refine StoreAt.mk 0 _ _ rfl rfl ?_
  refine LoadAt.mk 0 _ _ rfl rfl ?_
  refine .drop 0 1 (.done ⟨?_, rfl⟩)
  show AV.agg [.int .i64 (if (1048576 : Int) < (if n < 0 then 0 else n) then 1048576 else (if n < 0 then 0 else n))] = _
  have e : (if (1048576 : Int) < (if n < 0 then 0 else n) then 1048576 else (if n < 0 then 0 else n)) = ((cutN n : Nat) : Int) := by
    unfold cutN
    by_cases h : n < 0
    · simp only [if_pos h]; omega
    · simp only [if_neg h]; split <;> omega
  rw [e]
theorem aNew (n : Int) (σ : Hp) : ACalls Try.prog 8 [.int .i64 n] σ (fun r σ' => ∃ p q, r = .ptr p 0 ∧ σ' = (p, plC q (cutN n)) :: (q, woC (List.replicate (cutN n) 0)) :: σ) := by
  have hc := cutN_le n
  refine okF Try.func8 (by kernel_rfl) ?_
  refine callR [] (aCut n σ) ?_
  refine callR [] (aCut n σ) ?_
  refine With.mk ⟨by omega, Int.le_refl _, by omega, by decide⟩ ?_
  intro q p
  refine .done ⟨p, q, rfl, ?_⟩
  show (p, _) :: (q, _) :: σ = _
  rw [show ((cutN n : Int)).toNat = cutN n by omega, show (repC [AV.int .u64 0] (cutN n)) = _ from rep_woC _]
  rfl
theorem aLoad (p q : Nat) (ws : List Int) (a : Int) (σ : Hp) : ACalls Try.prog 33 [.ptr p 0, .int .i64 a] ((p, plC q ws.length) :: (q, woC ws) :: σ) (Ret (.int .u64 (mLoad ws a)) ((p, plC q ws.length) :: (q, woC ws) :: σ)) := by
  refine okF Try.func33 (by kernel_rfl) ?_
  refine LoadAt.mk 0 _ _ rfl rfl ?_
  refine callR [] (aHas ws.length a _) ?_
  by_cases hh : 0 ≤ a ∧ a < (ws.length : Int)
  · rw [hasPlain a ws.length hh.1 hh.2]
    obtain ⟨k, rfl⟩ := Int.eq_ofNat_of_zero_le hh.1
    have hk : k < ws.length := by omega
    refine LoadAt.mk 0 _ _ rfl rfl ?_
    refine With.mk ⟨rfl, hh.1, hh.2⟩ ?_
    refine LoadAt.mk 1 _ _ rfl (woC_get hk) ?_
    exact .done ⟨av_int load_hit.symm, rfl⟩
  · rw [hasPlain' a ws.length hh]
    exact .done ⟨av_int (load_miss hh).symm, rfl⟩
/-- A Plain and its words, ahead of the rest. -/
abbrev plH (p q : Nat) (ws : List Int) (σ : Hp) : Hp := (p, plC q ws.length) :: (q, woC ws) :: σ
theorem aStore (p q : Nat) (ws : List Int) (a x : Int) (σ : Hp) : ACalls Try.prog 34 [.ptr p 0, .int .i64 a, .int .u64 x] (plH p q ws σ) (Ret (.tup []) (plH p q (mStore ws a x) σ)) := by
  refine okF Try.func34 (by kernel_rfl) ?_
  refine LoadAt.mk 0 _ _ rfl rfl ?_
  refine callR [] (aHas ws.length a _) ?_
  by_cases hh : 0 ≤ a ∧ a < (ws.length : Int)
  · rw [hasPlain a ws.length hh.1 hh.2]
    obtain ⟨k, rfl⟩ := Int.eq_ofNat_of_zero_le hh.1
    have hk : k < ws.length := by omega
    refine LoadAt.mk 0 _ _ rfl rfl ?_
    refine With.mk ⟨rfl, hh.1, hh.2⟩ ?_
    refine StoreAt.mk 1 _ _ rfl (woC_put x hk) ?_
    refine .done ⟨rfl, ?_⟩
    show (p, plC q ws.length) :: (q, woC (ws.set k x)) :: σ = _
    rw [store_hit]; unfold plH; rw [List.length_set]
  · rw [hasPlain' a ws.length hh]
    refine .done ⟨rfl, ?_⟩
    rw [store_miss hh]; rfl
theorem aCas (p q : Nat) (ws : List Int) (a x y : Int) (σ : Hp) : ACalls Try.prog 35 [.ptr p 0, .int .i64 a, .int .u64 x, .int .u64 y] (plH p q ws σ) (Ret (.bool (mCas ws a x)) (plH p q (mCasTo ws a x y) σ)) := by
  refine okF Try.func35 (by kernel_rfl) ?_
  refine LoadAt.mk 0 _ _ rfl rfl ?_
  refine callR [] (aHas ws.length a _) ?_
  by_cases hh : 0 ≤ a ∧ a < (ws.length : Int)
  · rw [hasPlain a ws.length hh.1 hh.2]
    have hH := mHas_true hh.1 hh.2
    obtain ⟨k, rfl⟩ := Int.eq_ofNat_of_zero_le hh.1
    have hk : k < ws.length := by omega
    refine LoadAt.mk 0 _ _ rfl rfl ?_
    refine With.mk ⟨rfl, hh.1, hh.2⟩ ?_
    refine LoadAt.mk 1 _ _ rfl (woC_get hk) ?_
    refine bcond_split (fun he => ?_) (fun he => ?_)
    · have he : ¬ ws.getD k 0 = x := by simpa using he
      have e1 : mCas ws k x = false := by unfold mCas; rw [hH, load_hit]; simpa using he
      refine .done ⟨by rw [e1]; rfl, ?_⟩
      rw [show mCasTo ws k x y = ws by simp [mCasTo, e1]]; rfl
    · have he : ws.getD k 0 = x := by simpa using he
      have e1 : mCas ws k x = true := by unfold mCas; rw [hH, load_hit, he]; simp
      refine LoadAt.mk 0 _ _ rfl rfl ?_
      refine With.mk ⟨rfl, hh.1, hh.2⟩ ?_
      refine StoreAt.mk 1 _ _ rfl (woC_put y hk) ?_
      refine .done ⟨by rw [e1]; rfl, ?_⟩
      show (p, plC q ws.length) :: (q, woC (ws.set k y)) :: σ = _
      rw [show mCasTo ws k x y = ws.set k y by simp [mCasTo, e1, store_hit]]; unfold plH; rw [List.length_set]
  · have hb := hasPlain' a ws.length hh
    rw [hb]
    have e1 : mCas ws a x = false := by simp only [mCas, mHas, hb, Bool.false_and]
    refine .done ⟨by rw [e1]; rfl, ?_⟩
    rw [show mCasTo ws a x y = ws by simp [mCasTo, e1]]; rfl
theorem aAdd (p q : Nat) (ws : List Int) (a d : Int) (σ : Hp) : ACalls Try.prog 36 [.ptr p 0, .int .i64 a, .int .u64 d] (plH p q ws σ) (Ret (.int .u64 (mSum ws a d)) (plH p q (mAddTo ws a d) σ)) := by
  refine okF Try.func36 (by kernel_rfl) ?_
  refine LoadAt.mk 0 _ _ rfl rfl ?_
  refine callR [] (aHas ws.length a _) ?_
  by_cases hh : 0 ≤ a ∧ a < (ws.length : Int)
  · rw [hasPlain a ws.length hh.1 hh.2]
    have hH := mHas_true hh.1 hh.2
    obtain ⟨k, rfl⟩ := Int.eq_ofNat_of_zero_le hh.1
    have hk : k < ws.length := by omega
    have e1 : mSum ws k d = IntKind.u64.wrap (ws.getD k 0 + d) := by rw [IntKind.wrap_u64]; simp only [mSum, hH, if_true, load_hit]
    have e2 : mAddTo ws k d = ws.set k (IntKind.u64.wrap (ws.getD k 0 + d)) := by rw [IntKind.wrap_u64]; simp only [mAddTo, hH, if_true, load_hit, store_hit]
    refine LoadAt.mk 0 _ _ rfl rfl ?_
    refine With.mk ⟨rfl, hh.1, hh.2⟩ ?_
    refine LoadAt.mk 1 _ _ rfl (woC_get hk) ?_
    refine With.mk ⟨rfl, hh.1, hh.2⟩ ?_
    refine StoreAt.mk 1 _ _ rfl (woC_put _ hk) ?_
    refine LoadAt.mk 0 _ _ rfl rfl ?_
    refine With.mk ⟨rfl, hh.1, hh.2⟩ ?_
    refine LoadAt.mk 1 _ _ rfl (woC_get (ws := ws.set k (IntKind.u64.wrap (ws.getD k 0 + d))) (by rw [List.length_set]; exact hk)) ?_
    refine .done ⟨av_int (by rw [e1]; simp [List.getD, hk]), ?_⟩
    rw [e2]; unfold plH; rw [List.length_set]; rfl
  · have hb := hasPlain' a ws.length hh
    rw [hb]
    refine .done ⟨av_int (by unfold mSum; unfold mHas; rw [hb]; rfl), ?_⟩
    rw [show mAddTo ws a d = ws by unfold mAddTo mHas; rw [hb]; rfl]; rfl
theorem aLen (p q : Nat) (ws : List Int) (σ : Hp) : ACalls Try.prog 13 [.ptr p 0] (plH p q ws σ) (Ret (.int .i64 ws.length) (plH p q ws σ)) := by
  refine okF Try.func13 (by kernel_rfl) ?_
  refine LoadAt.mk 0 _ _ rfl rfl ?_
  exact .done ⟨rfl, rfl⟩
set_option maxRecDepth 100000
theorem mLen_ : Meth Try.prog 24 "Len" 13 := fun a w => by kernel_rfl
theorem mLoad_ : Meth Try.prog 24 "Load" 33 := fun a w => by kernel_rfl
theorem mStore_ : Meth Try.prog 24 "Store" 34 := fun a w => by kernel_rfl
theorem mCAS_ : Meth Try.prog 24 "CAS" 35 := fun a w => by kernel_rfl
theorem mAdd_ : Meth Try.prog 24 "Add" 36 := fun a w => by kernel_rfl
theorem hStore_ : AheadOk Try.prog 24 "Store" := fun a w => by kernel_rfl
theorem hCAS_ : AheadOk Try.prog 24 "CAS" := fun a w => by kernel_rfl
theorem hAdd_ : AheadOk Try.prog 24 "Add" := fun a w => by kernel_rfl
theorem hLoad_ : AheadOk Try.prog 24 "Load" := fun a w => by kernel_rfl
/-- The interface's value over a Plain. -/
abbrev plI (p : Nat) : AV := .iface 24 (.ptr p 0)
theorem aOr (t : Nat) (x : AV) (σ : Hp) : ACalls Try.prog 38 [.iface t x] σ (Ret (.iface t x) σ) := by
  refine okF Try.func38 (by kernel_rfl) ?_
  exact .done ⟨rfl, rfl⟩
end Go.Proofs.Ytacacplipaeokaa
