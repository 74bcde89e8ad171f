/-
  Lpb: what the claim uses of them.
-/
import Derived.Test.YtljbnigceammdaaGreatDoorBn29
import Derived.Test.YtljbnigceammdaaGreatDoorBn40
import Derived.Test.YtljbnigceammdaaGreatDoorBn35
namespace Go.Proofs.YtljbnigceammdaaGreatDoor
open Go.RowKit
set_option maxRecDepth 100000
theorem acalls_permR {P : Program} {f : FuncId} {xs : List AV} {σ σ2 σ3 σ4 : Hp} {x : AV} (h : ACalls P f xs σ2 (Ret x σ3)) (hp : σ2.Perm σ) (hq : σ4.Perm σ3) : ACalls P f xs σ (Ret x σ4) :=
  callAt_get (.perm _ hp h fun _ _ h' => ⟨σ4, h'.2 ▸ hq, h'.1, rfl⟩)
/-- A list's slice, and what stands behind it: none, an empty one, or one that is not empty. -/
theorem acalls_fslR {P : Program} {f : FuncId} {e : Sh} {l : List e.T} {ys : List AV} {σ : Hp} {R : AV → Hp → Prop} (h0 : l = [] → ACalls P f (.nils :: ys) σ R ∧ ACalls P f (.esl :: ys) σ R) (h1 : l ≠ [] → ACalls P f (.fsl e l :: ys) σ R) : ACalls P f (.fsl e l :: ys) σ R := by
  by_cases hl : l = []
  · obtain ⟨k0, k1⟩ := h0 hl
    refine ⟨k0.1, fun F w vs hvs hσ => ?_⟩
    have hv := hvs.2 0 _ rfl
    have hone : ∀ y, VRel F w y (vs.getD 0 undef) → VRels F w (y :: ys) vs := fun y hy => ⟨hvs.1, fun i x hx => by
      cases i with
      | zero => simp at hx; subst hx; exact hy
      | succ i => exact hvs.2 (i + 1) x hx⟩
    subst hl
    generalize hu : vs.getD 0 undef = u at hv hone
    cases hv with
    | fsl _ _ _ hr =>
      obtain ⟨a, c, e1, _, e3, e0, _⟩ := hr
      obtain rfl := List.singleton_inj.1 e1
      cases a with
      | none =>
        obtain rfl := e0 rfl
        exact k0.2 F w vs (hone _ .nils) hσ
      | some a => exact k1.2 F w vs (hone _ (.esl a c e3)) hσ
  · exact h1 hl
abbrev cellI (z : Int) : List AV := [.int .i64 z]
abbrev cellE (x : EdgeT) : List AV := [.int .i64 x.1, .int .i64 x.2.1]
theorem cellI_len (z : Int) : (cellI z).length = 1 := rfl
theorem cellE_len (x : EdgeT) : (cellE x).length = 2 := rfl
theorem flatI (L : List Int) : L.flatMap cellI = L.map (AV.int .i64) := by
  induction L with
  | nil => rfl
  | cons a L ih => rw [List.flatMap_cons, ih]; rfl
theorem rdI {L : List Int} {k : Nat} (h : k < L.length) : readAs ⟨.int .i64, 1, 8, [.int .i64 0]⟩ (L.flatMap cellI) (0 + ((k : Nat) : Int).toNat * 1) = some (.int .i64 L[k]) := by
  refine read1 rfl ?_
  rw [flatI, Nat.zero_add, Nat.mul_one, Int.toNat_natCast, List.getElem?_map, List.getElem?_eq_getElem h]; rfl
theorem wrI {i : TI} (hs : i.size = 1) {L : List Int} {k : Nat} (h : k < L.length) (x : Int) : writeAs i (L.flatMap cellI) (0 + ((k : Nat) : Int).toNat * 1) (.int .i64 x) = some ((L.set k x).flatMap cellI) := by
  rw [flatI, flatI, write1 hs rfl (by rw [List.length_map]; omega), Nat.zero_add, Nat.mul_one, Int.toNat_natCast, List.map_set]
theorem aIdxKI (f : FuncId) (caps : List AV) (b : Nat) (L : List Int) (q : Int → Bool) (σ : Hp) (hl : L.length ≤ 1000000) (hq : ∀ x ∈ L, ∀ A : Hp, ACalls Tryz.prog f (.int .i64 x :: caps) (A ++ σ) (Ret (.bool (!q x)) (A ++ σ))) : ACalls Tryz.prog 45 [.mref b 0 L.length 1, .fn (.func f) [] caps] ((b, L.flatMap cellI) :: σ)
    (fun x σ' => σ' = (b, L.flatMap cellI) :: σ ∧ ((x = .int .i64 (-1) ∧ L.filter q = L) ∨ ∃ (k : Nat) (h : k < L.length), x = .int .i64 k ∧ (L.take k).filter q = L.take k ∧ q L[k] = false)) := by
  refine okF Tryz.func45 (by kernel_rfl) ?_
  refine loopS (S := Nat) (fun s => [(0, .mref b 0 L.length 1), (1, .fn (.func f) [] caps), (7, .int .i64 L.length), (8, .int .i64 s)]) (fun _ => (b, L.flatMap cellI) :: σ) (fun s => s ≤ L.length ∧ (L.take s).filter q = L.take s) (fun s => L.length - s) 0 ⟨⟨Nat.zero_le _, rfl⟩, ⟨rfl, rfl, rfl, rfl, trivial⟩, rfl⟩ ?_
  rintro k g ⟨hk, ha⟩
  have hk : k ≤ L.length := hk
  refine bcond_dec (fun h => ?_) (fun h => ?_)
  · have h : k < L.length := by have h : (k : Int) < L.length := h; omega
    refine With.mk ⟨rfl, by omega, by omega⟩ ?_
    refine LoadAt.mk 0 _ (.int .i64 L[k]) rfl (rdI h) ?_
    refine callB [] (hq L[k] (List.getElem_mem h) [(b, L.flatMap cellI)]) (fun hB => ?_) (fun hB => ?_)
    · exact .done ⟨rfl, .inr ⟨k, h, rfl, ha, by simpa using hB⟩⟩
    · refine nextS (k + 1) (by show L.length - (k + 1) < L.length - k; omega) ⟨h, ?_⟩ ⟨rfl, rfl, rfl, inc64 (by omega), trivial⟩ (shed_eq rfl)
      have hB : q L[k] = true := by simpa using hB
      have ha : (L.take k).filter q = L.take k := ha
      rw [List.take_succ_eq_append_getElem h, List.filter_append, ha]
      simp [hB]
  · have h : ¬ (k : Int) < L.length := h
    refine .done ⟨rfl, .inl ⟨rfl, ?_⟩⟩
    rw [← List.take_of_length_le (show L.length ≤ k by omega)]; exact ha
theorem aDelKI (f : FuncId) (caps : List AV) (b : Nat) (L : List Int) (q : Int → Bool) (σ : Hp) (hl : L.length ≤ 1000000) (hq : ∀ x ∈ L, ∀ A : Hp, ACalls Tryz.prog f (.int .i64 x :: caps) (A ++ σ) (Ret (.bool (!q x)) (A ++ σ))) : ACalls Tryz.prog 118 [.mref b 0 L.length 1, .fn (.func f) [] caps] ((b, L.flatMap cellI) :: σ)
    (fun x σ' => ∃ (k : Nat) (cs : List AV), k = (L.filter q).length ∧ cs.take (k * 1) = (L.filter q).flatMap cellI ∧ x = .mref b 0 k 1 ∧ σ' = (b, cs) :: σ) := by
  refine okF Tryz.func118 (by kernel_rfl) ?_
  refine .mk [] _ (aIdxKI f caps b L q σ hl hq) ?_
  rintro _ _ ⟨rfl, ⟨rfl, hL⟩ | ⟨i0, hi0, rfl, hT, hK⟩⟩
  · refine .done ⟨L.length, L.flatMap cellI, by rw [hL], ?_, rfl, rfl⟩
    rw [hL]
    exact List.take_of_length_le (Nat.le_of_eq (row_length cellI_len L))
  · refine loopS (S := Nat × Nat × List Int) (fun s => [(0, .mref b 0 L.length 1), (1, .fn (.func f) [] caps), (5, .int .i64 s.1), (6, .int .i64 s.2.1)]) (fun s => (b, s.2.2.flatMap cellI) :: σ) (fun s => s.1 < s.2.1 ∧ s.2.1 ≤ L.length ∧ s.2.2.length = L.length ∧ s.2.2.take s.1 = (L.take s.2.1).filter q ∧ s.2.2.drop s.2.1 = L.drop s.2.1) (fun s => L.length - s.2.1) (i0, i0 + 1, L) ⟨⟨Nat.lt_succ_self _, hi0, rfl, ?_, rfl⟩, ⟨rfl, rfl, rfl, inc64 (by omega), trivial⟩, rfl⟩ ?_
    · show L.take i0 = (L.take (i0 + 1)).filter q
      rw [List.take_succ_eq_append_getElem hi0, List.filter_append, hT]
      simp [hK]
    rintro ⟨i, j, M⟩ g ⟨hij0, hj0, hM0, hF0, hD0⟩
    have hij : i < j := hij0
    have hj : j ≤ L.length := hj0
    have hM : M.length = L.length := hM0
    have hF : M.take i = (L.take j).filter q := hF0
    have hD : M.drop j = L.drop j := hD0
    clear hij0 hj0 hM0 hF0 hD0
    refine bcond_dec (fun h => ?_) (fun h => ?_)
    · have h : j < L.length := by have h : (j : Int) < L.length := h; omega
      have hjM : j < M.length := by omega
      have hjE : M[j] = L[j] := by
        have := congrArg (fun x => x[0]?) hD
        simpa [h, hjM] using this
      have hqj := hq M[j] (by rw [hjE]; exact List.getElem_mem h)
      refine With.mk ⟨rfl, by omega, by omega⟩ ?_
      refine LoadAt.mk 0 _ (.int .i64 M[j]) rfl (rdI hjM) ?_
      refine callB [] (hqj [(b, M.flatMap cellI)]) (fun hB => ?_) (fun hB => ?_)
      · have hB : q L[j] = false := by rw [← hjE]; simpa using hB
        refine nextS (i, j + 1, M) (by show L.length - (j + 1) < L.length - j; omega) ⟨by show i < j + 1; omega, h, hM, ?_, ?_⟩ ⟨rfl, rfl, rfl, inc64 (by omega), trivial⟩ (shed_eq rfl)
        · show M.take i = (L.take (j + 1)).filter q
          rw [List.take_succ_eq_append_getElem h, List.filter_append, ← hF]
          simp [hB]
        · show M.drop (j + 1) = L.drop (j + 1)
          rw [← List.drop_drop, ← List.drop_drop, hD]
      · skip
        refine With.mk ⟨rfl, by omega, by omega⟩ ?_
        have hiM : i < M.length := by omega
        refine StoreAt.mk 0 _ _ rfl (wrI rfl hiM M[j]) ?_
        have hB : q L[j] = true := by rw [← hjE]; simpa using hB
        refine nextS (i + 1, j + 1, M.set i M[j]) (by show L.length - (j + 1) < L.length - j; omega) ⟨by show i + 1 < j + 1; omega, h, (List.length_set ..).trans hM, ?_, ?_⟩ ⟨rfl, rfl, inc64 (by omega), inc64 (by omega), trivial⟩ (shed_eq rfl)
        · show (M.set i M[j]).take (i + 1) = (L.take (j + 1)).filter q
          rw [List.take_succ_eq_append_getElem (by rw [List.length_set]; exact hiM), List.take_set_of_le (Nat.le_refl _), List.getElem_set_self, List.take_succ_eq_append_getElem h, List.filter_append, ← hF, hjE]
          simp [hB]
        · show (M.set i M[j]).drop (j + 1) = L.drop (j + 1)
          rw [List.drop_set_of_lt (by omega), ← List.drop_drop, ← List.drop_drop, hD]
    · have h : j = L.length := by have h : ¬ (j : Int) < L.length := h; omega
      refine With.mk ⟨by omega, by omega, by omega, rfl⟩ ?_
      refine ClearAt.mref 0 b _ _ _ rfl rfl (by show 0 + (i : Int).toNat * 1 + ((L.length : Int).toNat - (i : Int).toNat) * 1 ≤ (M.flatMap cellI).length; rw [row_length cellI_len]; omega) ?_
      refine With.mk ⟨by omega, by omega, by omega, rfl⟩ ?_
      have hF2 : M.take i = L.filter q := by rw [hF, h, List.take_length]
      refine .done ⟨i, _, ?_, ?_, rfl, rfl⟩
      · rw [← hF2, List.length_take]; omega
      · rw [splice_take _ _ _ _ (by omega), row_take cellI_len M (by omega), hF2]
theorem aKept1I (f : FuncId) (caps : List AV) (b3 : Nat) (p : Int → Bool) (x : Int) (σ : Hp) (hc : ∀ A : Hp, ACalls Tryz.prog f (.int .i64 x :: caps) (A ++ σ) (Ret (.bool (p x)) (A ++ σ))) (A : Hp) : ACalls Tryz.prog 120 [.int .i64 x, .ptr b3 0] (A ++ (b3, [.fn (.func f) [] caps]) :: σ) (Ret (.bool (!p x)) (A ++ (b3, [.fn (.func f) [] caps]) :: σ)) := by
  have key : ACalls Tryz.prog 120 [.int .i64 x, .ptr b3 0] ((b3, [.fn (.func f) [] caps]) :: (A ++ σ)) (Ret (.bool (!p x)) ((b3, [.fn (.func f) [] caps]) :: (A ++ σ))) := by
    refine okF Tryz.func120 (by kernel_rfl) ?_
    refine LoadAt.mk 0 _ _ rfl rfl ?_
    refine callB [] (hc ((b3, [.fn (.func f) [] caps]) :: A)) (fun hB => ?_) (fun hB => ?_)
    · exact .done ⟨av_bool (by rw [hB]), rfl⟩
    · exact .done ⟨av_bool (by rw [hB]), rfl⟩
  exact acalls_permR key List.perm_middle.symm List.perm_middle
theorem aKeptI (f : FuncId) (caps : List AV) (L : List Int) (p : Int → Bool) (σ : Hp) (hl : L.length ≤ 1000000) (hc : ∀ x ∈ L, ∀ A : Hp, ACalls Tryz.prog f (.int .i64 x :: caps) (A ++ σ) (Ret (.bool (p x)) (A ++ σ))) : ACalls Tryz.prog 89 [.fsl (.int .i64) L, .fn (.func f) [] caps] σ (Ret (.fsl (.int .i64) (L.filter p)) σ) := by
  have hk : ∀ b3, ∀ x ∈ L, ∀ A : Hp, ACalls Tryz.prog 120 (.int .i64 x :: [.ptr b3 0]) (A ++ ((b3, [.fn (.func f) [] caps]) :: σ)) (Ret (.bool (!p x)) (A ++ ((b3, [.fn (.func f) [] caps]) :: σ))) := fun b3 x hx A => aKept1I f caps b3 p x σ (hc x hx) A
  have hfin : ∀ (b b3 k : Nat) (cs : List AV), k = (L.filter p).length → cs.take (k * 1) = (L.filter p).flatMap cellI → Fin (Ret (.fsl (.int .i64) (L.filter p)) σ) (.mref b 0 k 1) ((b, cs) :: (b3, [.fn (.func f) [] caps]) :: σ) := fun b b3 k cs hk hcs => by
    subst hk
    exact .frz 0 b 0 _ 1 cs (.int .i64) (L.filter p) rfl (by rw [List.drop_zero]; exact hcs) ⟨rfl, rfl, by decide⟩ .here (.drop 0 1 (.done ⟨rfl, rfl⟩))
  refine acalls_fslR (fun h => ?_) (fun h => ?_)
  · subst h
    refine ⟨?_, ?_⟩
    · refine okF Tryz.func89 (by kernel_rfl) ?_
      intro b3
      have hCn : ∀ σ, ACalls Tryz.prog 119 [.nils] σ (Ret .nils σ) := fun σ => by
        refine okF Tryz.func119 (by kernel_rfl) ?_
        exact .done ⟨rfl, rfl⟩
      have hI : ∀ σ, ACalls Tryz.prog 45 [.nils, .fn (.func 120) [] [.ptr b3 0]] σ (Ret (.int .i64 (-1)) σ) := fun σ => by
        refine okF Tryz.func45 (by kernel_rfl) ?_
        refine loopS (S := Unit) (fun s => [(7, .int .i64 0), (8, .int .i64 0)]) (fun _ => σ) (fun s => True) (fun s => 0) () ⟨trivial, ⟨rfl, rfl, trivial⟩, rfl⟩ ?_
        intro _ g _
        exact .done ⟨rfl, rfl⟩
      have hDn : ∀ σ, ACalls Tryz.prog 118 [.nils, .fn (.func 120) [] [.ptr b3 0]] σ (Ret .nils σ) := fun σ => by
        refine okF Tryz.func118 (by kernel_rfl) ?_
        refine callR [] (hI _) ?_
        exact .done ⟨rfl, rfl⟩
      refine callR [] (hCn _) ?_
      refine callR [] (hDn _) ?_
      exact .nil (.nil _) (.drop 0 1 (.done ⟨rfl, rfl⟩))
    · refine okF Tryz.func89 (by kernel_rfl) ?_
      intro b3
      have hCz : ∀ σ, ACalls Tryz.prog 119 [.esl] σ (fun x σ' => ∃ b, x = .mref b 0 0 1 ∧ σ' = (b, []) :: σ) := fun σ => by
        refine okF Tryz.func119 (by kernel_rfl) ?_
        intro b2
        refine AppendAt.more 0 b2 0 0 [] [] rfl rfl (Nat.le_of_ble_eq_true rfl) .esl (by omega) (by decide) (by decide) (fun b' => ?_)
        exact .done ⟨b', rfl, rfl⟩
      refine .mk [] _ (hCz _) ?_
      rintro _ _ ⟨b, rfl, rfl⟩
      refine .mk [] _ (aDelKI 120 [.ptr b3 0] b [] p _ (by decide) (hk b3)) ?_
      rintro _ _ ⟨k, cs, h1, h2, rfl, rfl⟩
      exact hfin b b3 k cs h1 h2
  · refine okF Tryz.func89 (by kernel_rfl) ?_
    intro b3
    have hC : ∀ σ, ACalls Tryz.prog 119 [.fsl (.int .i64) L] σ (fun x σ' => ∃ b, x = .mref b 0 L.length 1 ∧ σ' = (b, L.flatMap cellI) :: σ) := fun σ => by
      refine okF Tryz.func119 (by kernel_rfl) ?_
      refine With.mk (List.length_pos_iff.2 h) ?_
      intro b2
      refine AppendAt.more 0 b2 0 L.length [] (L.flatMap cellI) rfl rfl (Nat.le_of_ble_eq_true rfl) (.fsl _ _ rfl) (by omega) (by decide) (by decide) (fun b' => ?_)
      refine .done ⟨b', ?_, ?_⟩
      · rw [Nat.zero_add]; rfl
      · rfl
    refine .mk [] _ (hC _) ?_
    rintro _ _ ⟨b, rfl, rfl⟩
    refine .mk [] _ (aDelKI 120 [.ptr b3 0] b L p _ hl (hk b3)) ?_
    rintro _ _ ⟨k, cs, h1, h2, rfl, rfl⟩
    exact hfin b b3 k cs h1 h2
theorem aIdxKE (f : FuncId) (caps : List AV) (b : Nat) (L : List EdgeT) (q : EdgeT → Bool) (σ : Hp) (hl : L.length ≤ 1000000) (hq : ∀ x ∈ L, ∀ A : Hp, ACalls Tryz.prog f (.agg (cellE x) :: caps) (A ++ σ) (Ret (.bool (!q x)) (A ++ σ))) : ACalls Tryz.prog 96 [.mref b 0 L.length 2, .fn (.func f) [] caps] ((b, L.flatMap cellE) :: σ)
    (fun x σ' => σ' = (b, L.flatMap cellE) :: σ ∧ ((x = .int .i64 (-1) ∧ L.filter q = L) ∨ ∃ (k : Nat) (h : k < L.length), x = .int .i64 k ∧ (L.take k).filter q = L.take k ∧ q L[k] = false)) := by
  refine okF Tryz.func96 (by kernel_rfl) ?_
  refine loopS (S := Nat) (fun s => [(0, .mref b 0 L.length 2), (1, .fn (.func f) [] caps), (7, .int .i64 L.length), (8, .int .i64 s)]) (fun _ => (b, L.flatMap cellE) :: σ) (fun s => s ≤ L.length ∧ (L.take s).filter q = L.take s) (fun s => L.length - s) 0 ⟨⟨Nat.zero_le _, rfl⟩, ⟨rfl, rfl, rfl, rfl, trivial⟩, rfl⟩ ?_
  rintro k g ⟨hk, ha⟩
  have hk : k ≤ L.length := hk
  refine bcond_dec (fun h => ?_) (fun h => ?_)
  · have h : k < L.length := by have h : (k : Int) < L.length := h; omega
    refine With.mk ⟨rfl, by omega, by omega⟩ ?_
    refine LoadAt.mk 0 _ (.agg (cellE L[k])) rfl (row_read rfl rfl cellE_len h rfl) ?_
    refine callB [] (hq L[k] (List.getElem_mem h) [(b, L.flatMap cellE)]) (fun hB => ?_) (fun hB => ?_)
    · exact .done ⟨rfl, .inr ⟨k, h, rfl, ha, by simpa using hB⟩⟩
    · refine nextS (k + 1) (by show L.length - (k + 1) < L.length - k; omega) ⟨h, ?_⟩ ⟨rfl, rfl, rfl, inc64 (by omega), trivial⟩ (shed_eq rfl)
      have hB : q L[k] = true := by simpa using hB
      have ha : (L.take k).filter q = L.take k := ha
      rw [List.take_succ_eq_append_getElem h, List.filter_append, ha]
      simp [hB]
  · have h : ¬ (k : Int) < L.length := h
    refine .done ⟨rfl, .inl ⟨rfl, ?_⟩⟩
    rw [← List.take_of_length_le (show L.length ≤ k by omega)]; exact ha
theorem aDelKE (f : FuncId) (caps : List AV) (b : Nat) (L : List EdgeT) (q : EdgeT → Bool) (σ : Hp) (hl : L.length ≤ 1000000) (hq : ∀ x ∈ L, ∀ A : Hp, ACalls Tryz.prog f (.agg (cellE x) :: caps) (A ++ σ) (Ret (.bool (!q x)) (A ++ σ))) : ACalls Tryz.prog 87 [.mref b 0 L.length 2, .fn (.func f) [] caps] ((b, L.flatMap cellE) :: σ)
    (fun x σ' => ∃ (k : Nat) (cs : List AV), k = (L.filter q).length ∧ cs.take (k * 2) = (L.filter q).flatMap cellE ∧ x = .mref b 0 k 2 ∧ σ' = (b, cs) :: σ) := by
  refine okF Tryz.func87 (by kernel_rfl) ?_
  refine .mk [] _ (aIdxKE f caps b L q σ hl hq) ?_
  rintro _ _ ⟨rfl, ⟨rfl, hL⟩ | ⟨i0, hi0, rfl, hT, hK⟩⟩
  · refine .done ⟨L.length, L.flatMap cellE, by rw [hL], ?_, rfl, rfl⟩
    rw [hL]
    exact List.take_of_length_le (Nat.le_of_eq (row_length cellE_len L))
  · refine loopS (S := Nat × Nat × List EdgeT) (fun s => [(0, .mref b 0 L.length 2), (1, .fn (.func f) [] caps), (5, .int .i64 s.1), (6, .int .i64 s.2.1)]) (fun s => (b, s.2.2.flatMap cellE) :: σ) (fun s => s.1 < s.2.1 ∧ s.2.1 ≤ L.length ∧ s.2.2.length = L.length ∧ s.2.2.take s.1 = (L.take s.2.1).filter q ∧ s.2.2.drop s.2.1 = L.drop s.2.1) (fun s => L.length - s.2.1) (i0, i0 + 1, L) ⟨⟨Nat.lt_succ_self _, hi0, rfl, ?_, rfl⟩, ⟨rfl, rfl, rfl, inc64 (by omega), trivial⟩, rfl⟩ ?_
    · show L.take i0 = (L.take (i0 + 1)).filter q
      rw [List.take_succ_eq_append_getElem hi0, List.filter_append, hT]
      simp [hK]
    rintro ⟨i, j, M⟩ g ⟨hij0, hj0, hM0, hF0, hD0⟩
    have hij : i < j := hij0
    have hj : j ≤ L.length := hj0
    have hM : M.length = L.length := hM0
    have hF : M.take i = (L.take j).filter q := hF0
    have hD : M.drop j = L.drop j := hD0
    clear hij0 hj0 hM0 hF0 hD0
    refine bcond_dec (fun h => ?_) (fun h => ?_)
    · have h : j < L.length := by have h : (j : Int) < L.length := h; omega
      have hjM : j < M.length := by omega
      have hjE : M[j] = L[j] := by
        have := congrArg (fun x => x[0]?) hD
        simpa [h, hjM] using this
      have hqj := hq M[j] (by rw [hjE]; exact List.getElem_mem h)
      refine With.mk ⟨rfl, by omega, by omega⟩ ?_
      refine LoadAt.mk 0 _ (.agg (cellE M[j])) rfl (row_read rfl rfl cellE_len hjM rfl) ?_
      intro bl1
      refine StoreAt.mk 0 _ _ rfl rfl ?_
      refine LoadAt.mk 0 _ _ rfl rfl ?_
      refine callB [] (hqj [(bl1, cellE M[j]), (b, M.flatMap cellE)]) (fun hB => ?_) (fun hB => ?_)
      · have hB : q L[j] = false := by rw [← hjE]; simpa using hB
        refine nextS (i, j + 1, M) (by show L.length - (j + 1) < L.length - j; omega) ⟨by show i < j + 1; omega, h, hM, ?_, ?_⟩ ⟨rfl, rfl, rfl, inc64 (by omega), trivial⟩ (.drop 0 1 (shed_eq rfl))
        · show M.take i = (L.take (j + 1)).filter q
          rw [List.take_succ_eq_append_getElem h, List.filter_append, ← hF]
          simp [hB]
        · show M.drop (j + 1) = L.drop (j + 1)
          rw [← List.drop_drop, ← List.drop_drop, hD]
      · refine LoadAt.mk 0 _ _ rfl rfl ?_
        refine With.mk ⟨rfl, by omega, by omega⟩ ?_
        have hiM : i < M.length := by omega
        refine StoreAt.mk 1 _ _ rfl (row_write rfl cellE_len hiM M[j] rfl) ?_
        have hB : q L[j] = true := by rw [← hjE]; simpa using hB
        refine nextS (i + 1, j + 1, M.set i M[j]) (by show L.length - (j + 1) < L.length - j; omega) ⟨by show i + 1 < j + 1; omega, h, (List.length_set ..).trans hM, ?_, ?_⟩ ⟨rfl, rfl, inc64 (by omega), inc64 (by omega), trivial⟩ (.drop 0 1 (shed_eq rfl))
        · show (M.set i M[j]).take (i + 1) = (L.take (j + 1)).filter q
          rw [List.take_succ_eq_append_getElem (by rw [List.length_set]; exact hiM), List.take_set_of_le (Nat.le_refl _), List.getElem_set_self, List.take_succ_eq_append_getElem h, List.filter_append, ← hF, hjE]
          simp [hB]
        · show (M.set i M[j]).drop (j + 1) = L.drop (j + 1)
          rw [List.drop_set_of_lt (by omega), ← List.drop_drop, ← List.drop_drop, hD]
    · have h : j = L.length := by have h : ¬ (j : Int) < L.length := h; omega
      refine With.mk ⟨by omega, by omega, by omega, rfl⟩ ?_
      refine ClearAt.mref 0 b _ _ _ rfl rfl (by show 0 + (i : Int).toNat * 2 + ((L.length : Int).toNat - (i : Int).toNat) * 2 ≤ (M.flatMap cellE).length; rw [row_length cellE_len]; omega) ?_
      refine With.mk ⟨by omega, by omega, by omega, rfl⟩ ?_
      have hF2 : M.take i = L.filter q := by rw [hF, h, List.take_length]
      refine .done ⟨i, _, ?_, ?_, rfl, rfl⟩
      · rw [← hF2, List.length_take]; omega
      · rw [splice_take _ _ _ _ (by omega), row_take cellE_len M (by omega), hF2]
theorem aKept1E (f : FuncId) (caps : List AV) (b3 : Nat) (p : EdgeT → Bool) (x : EdgeT) (σ : Hp) (hc : ∀ A : Hp, ACalls Tryz.prog f (.agg (cellE x) :: caps) (A ++ σ) (Ret (.bool (p x)) (A ++ σ))) (A : Hp) : ACalls Tryz.prog 88 [.agg (cellE x), .ptr b3 0] (A ++ (b3, [.fn (.func f) [] caps]) :: σ) (Ret (.bool (!p x)) (A ++ (b3, [.fn (.func f) [] caps]) :: σ)) := by
  have key : ACalls Tryz.prog 88 [.agg (cellE x), .ptr b3 0] ((b3, [.fn (.func f) [] caps]) :: (A ++ σ)) (Ret (.bool (!p x)) ((b3, [.fn (.func f) [] caps]) :: (A ++ σ))) := by
    refine okF Tryz.func88 (by kernel_rfl) ?_
    intro bx
    refine LoadAt.mk 1 _ _ rfl rfl ?_
    refine LoadAt.mk 0 _ _ rfl rfl ?_
    refine callB [] (hc ((bx, cellE x) :: (b3, [.fn (.func f) [] caps]) :: A)) (fun hB => ?_) (fun hB => ?_)
    · exact .drop 0 1 (.done ⟨av_bool (by rw [hB]), rfl⟩)
    · exact .drop 0 1 (.done ⟨av_bool (by rw [hB]), rfl⟩)
  exact acalls_permR key List.perm_middle.symm List.perm_middle
theorem aKeptE (f : FuncId) (caps : List AV) (L : List EdgeT) (p : EdgeT → Bool) (σ : Hp) (hl : L.length ≤ 1000000) (hc : ∀ x ∈ L, ∀ A : Hp, ACalls Tryz.prog f (.agg (cellE x) :: caps) (A ++ σ) (Ret (.bool (p x)) (A ++ σ))) : ACalls Tryz.prog 56 [.fsl edgeSh L, .fn (.func f) [] caps] σ (Ret (.fsl edgeSh (L.filter p)) σ) := by
  have hk : ∀ b3, ∀ x ∈ L, ∀ A : Hp, ACalls Tryz.prog 88 (.agg (cellE x) :: [.ptr b3 0]) (A ++ ((b3, [.fn (.func f) [] caps]) :: σ)) (Ret (.bool (!p x)) (A ++ ((b3, [.fn (.func f) [] caps]) :: σ))) := fun b3 x hx A => aKept1E f caps b3 p x σ (hc x hx) A
  have hfin : ∀ (b b3 k : Nat) (cs : List AV), k = (L.filter p).length → cs.take (k * 2) = (L.filter p).flatMap cellE → Fin (Ret (.fsl edgeSh (L.filter p)) σ) (.mref b 0 k 2) ((b, cs) :: (b3, [.fn (.func f) [] caps]) :: σ) := fun b b3 k cs hk hcs => by
    subst hk
    exact .frz 0 b 0 _ 2 cs edgeSh (L.filter p) rfl (by rw [List.drop_zero]; exact hcs) ⟨rfl, rfl, by decide⟩ .here (.drop 0 1 (.done ⟨rfl, rfl⟩))
  refine acalls_fslR (fun h => ?_) (fun h => ?_)
  · subst h
    refine ⟨?_, ?_⟩
    · refine okF Tryz.func56 (by kernel_rfl) ?_
      intro b3
      have hCn : ∀ σ, ACalls Tryz.prog 66 [.nils] σ (Ret .nils σ) := fun σ => by
        refine okF Tryz.func66 (by kernel_rfl) ?_
        exact .done ⟨rfl, rfl⟩
      have hI : ∀ σ, ACalls Tryz.prog 96 [.nils, .fn (.func 88) [] [.ptr b3 0]] σ (Ret (.int .i64 (-1)) σ) := fun σ => by
        refine okF Tryz.func96 (by kernel_rfl) ?_
        refine loopS (S := Unit) (fun s => [(7, .int .i64 0), (8, .int .i64 0)]) (fun _ => σ) (fun s => True) (fun s => 0) () ⟨trivial, ⟨rfl, rfl, trivial⟩, rfl⟩ ?_
        intro _ g _
        exact .done ⟨rfl, rfl⟩
      have hDn : ∀ σ, ACalls Tryz.prog 87 [.nils, .fn (.func 88) [] [.ptr b3 0]] σ (Ret .nils σ) := fun σ => by
        refine okF Tryz.func87 (by kernel_rfl) ?_
        refine callR [] (hI _) ?_
        exact .done ⟨rfl, rfl⟩
      refine callR [] (hCn _) ?_
      refine callR [] (hDn _) ?_
      exact .nil (.nil _) (.drop 0 1 (.done ⟨rfl, rfl⟩))
    · refine okF Tryz.func56 (by kernel_rfl) ?_
      intro b3
      have hCz : ∀ σ, ACalls Tryz.prog 66 [.esl] σ (fun x σ' => ∃ b, x = .mref b 0 0 2 ∧ σ' = (b, []) :: σ) := fun σ => by
        refine okF Tryz.func66 (by kernel_rfl) ?_
        intro b2
        refine AppendAt.more 0 b2 0 0 [] [] rfl rfl (Nat.le_of_ble_eq_true rfl) .esl (by omega) (by decide) (by decide) (fun b' => ?_)
        exact .done ⟨b', rfl, rfl⟩
      refine .mk [] _ (hCz _) ?_
      rintro _ _ ⟨b, rfl, rfl⟩
      refine .mk [] _ (aDelKE 88 [.ptr b3 0] b [] p _ (by decide) (hk b3)) ?_
      rintro _ _ ⟨k, cs, h1, h2, rfl, rfl⟩
      exact hfin b b3 k cs h1 h2
  · refine okF Tryz.func56 (by kernel_rfl) ?_
    intro b3
    have hC : ∀ σ, ACalls Tryz.prog 66 [.fsl edgeSh L] σ (fun x σ' => ∃ b, x = .mref b 0 L.length 2 ∧ σ' = (b, L.flatMap cellE) :: σ) := fun σ => by
      refine okF Tryz.func66 (by kernel_rfl) ?_
      refine With.mk (List.length_pos_iff.2 h) ?_
      intro b2
      refine AppendAt.more 0 b2 0 L.length [] (L.flatMap cellE) rfl rfl (Nat.le_of_ble_eq_true rfl) (.fsl _ _ rfl) (by omega) (by decide) (by decide) (fun b' => ?_)
      refine .done ⟨b', ?_, ?_⟩
      · rw [Nat.zero_add]; rfl
      · rfl
    refine .mk [] _ (hC _) ?_
    rintro _ _ ⟨b, rfl, rfl⟩
    refine .mk [] _ (aDelKE 88 [.ptr b3 0] b L p _ hl (hk b3)) ?_
    rintro _ _ ⟨k, cs, h1, h2, rfl, rfl⟩
    exact hfin b b3 k cs h1 h2
end Go.Proofs.YtljbnigceammdaaGreatDoor
