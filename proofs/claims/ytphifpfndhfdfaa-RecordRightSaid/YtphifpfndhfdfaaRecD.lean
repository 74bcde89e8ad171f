/-
  record.Writes: the events that may change something.
-/
import Derived.Test.YtphifpfndhfdfaaRecW
import Derived.Test.YtphifpfndhfdfaaRow
namespace Go.Proofs.Ytphifpfndhfdfaa
open Go.RowKit
set_option maxRecDepth 100000
abbrev evF (d : EvT) : List AV := evSh.cells d
theorem evF_len (d : EvT) : (evF d).length = 6 := rfl
/-- An event that may change something. -/
def keepE (d : EvT) : Bool := decide (d.1 = 2) || decide (d.1 = 4) || (decide (d.1 = 3) && d.2.2.2.2.2.1)
theorem aDelE (d : EvT) (σ : Hp) : ACalls Try.prog 39 [.agg (evF d)] σ (Ret (.bool (!keepE d)) σ) := by
  obtain ⟨k, a, x, y, g, o, u⟩ := d
  refine okF Try.func39 (by kernel_rfl) ?_
  intro bl1
  refine LoadAt.mk 0 _ _ rfl rfl ?_
  refine bcond_split (fun c2 => ?_) (fun c2 => ?_)
  · have c2 : ¬ (k = 2) := by simpa using c2
    refine LoadAt.mk 0 _ _ rfl rfl ?_
    refine bcond_split (fun c3 => ?_) (fun c3 => ?_)
    · have c3 : ¬ (k = 4) := by simpa using c3
      refine LoadAt.mk 0 _ _ rfl rfl ?_
      refine bcond_split (fun c4 => ?_) (fun c4 => ?_)
      · have c4 : ¬ (k = 3) := by simpa using c4
        exact .drop 0 1 (.done ⟨av_bool (by simp_all [keepE]), rfl⟩)
      · have c4 : k = 3 := by simpa using c4
        refine LoadAt.mkB 0 _ _ rfl rfl (fun c5 => ?_) (fun c5 => ?_)
        · exact .drop 0 1 (.done ⟨av_bool (by simp_all [keepE]), rfl⟩)
        · exact .drop 0 1 (.done ⟨av_bool (by simp_all [keepE]), rfl⟩)
    · have c3 : k = 4 := by simpa using c3
      exact .drop 0 1 (.done ⟨av_bool (by simp_all [keepE]), rfl⟩)
  · have c2 : k = 2 := by simpa using c2
    exact .drop 0 1 (.done ⟨av_bool (by simp_all [keepE]), rfl⟩)
theorem aIndexF (b : Nat) (L : List EvT) (σ : Hp) (hl : L.length ≤ 1000000) : ACalls Try.prog 44 [.mref b 0 L.length 6, .fn (.func 39) [] []] ((b, L.flatMap evF) :: σ)
    (fun x σ' => σ' = (b, L.flatMap evF) :: σ ∧ ((x = .int .i64 (-1) ∧ L.filter keepE = L) ∨ ∃ (k : Nat) (h : k < L.length), x = .int .i64 k ∧ (L.take k).filter keepE = L.take k ∧ keepE L[k] = false)) := by
  refine okF Try.func44 (by kernel_rfl) ?_
  refine loopS (S := Nat) (fun s => [(0, .mref b 0 L.length 6), (1, .fn (.func 39) [] []), (7, .int .i64 L.length), (8, .int .i64 s)]) (fun _ => (b, L.flatMap evF) :: σ) (fun s => s ≤ L.length ∧ (L.take s).filter keepE = L.take s) (fun s => L.length - s) 0 ⟨⟨Nat.zero_le _, rfl⟩, ⟨rfl, rfl, rfl, rfl, trivial⟩, rfl⟩ ?_
  rintro k g ⟨hk, ha⟩
  have hk : k ≤ L.length := hk
  refine bcond_dec (fun h => ?_) (fun h => ?_)
  · have h : k < L.length := by have h : (k : Int) < L.length := h; omega
    refine With.mk ⟨rfl, by omega, by omega⟩ ?_
    refine LoadAt.mk 0 _ (.agg (evF L[k])) rfl (row_read rfl rfl evF_len h rfl) ?_
    refine callB [] (aDelE L[k] _) (fun hB => ?_) (fun hB => ?_)
    · exact .done ⟨rfl, .inr ⟨k, h, rfl, ha, by simpa using hB⟩⟩
    · refine nextS (k + 1) (by show L.length - (k + 1) < L.length - k; omega) ⟨h, ?_⟩ ⟨rfl, rfl, rfl, inc64 (by omega), trivial⟩ (shed_eq rfl)
      have hB : keepE L[k] = true := by simpa using hB
      have ha : (L.take k).filter keepE = L.take k := ha
      rw [List.take_succ_eq_append_getElem h, List.filter_append, ha]
      simp [hB]
  · have h : ¬ (k : Int) < L.length := h
    refine .done ⟨rfl, .inl ⟨rfl, ?_⟩⟩
    rw [← List.take_of_length_le (show L.length ≤ k by omega)]; exact ha
/-- slices.DeleteFunc of an open row. -/
theorem aDeleteF (b : Nat) (L : List EvT) (σ : Hp) (hl : L.length ≤ 1000000) : ACalls Try.prog 38 [.mref b 0 L.length 6, .fn (.func 39) [] []] ((b, L.flatMap evF) :: σ)
    (fun x σ' => ∃ (k : Nat) (cs : List AV), k = (L.filter keepE).length ∧ cs.take (k * 6) = (L.filter keepE).flatMap evF ∧ x = .mref b 0 k 6 ∧ σ' = (b, cs) :: σ) := by
  refine okF Try.func38 (by kernel_rfl) ?_
  refine .mk [] _ (aIndexF b L σ hl) ?_
  rintro _ _ ⟨rfl, ⟨rfl, hL⟩ | ⟨i0, hi0, rfl, hT, hK⟩⟩
  · refine .done ⟨L.length, L.flatMap evF, by rw [hL], ?_, rfl, rfl⟩
    rw [hL]
    exact List.take_of_length_le (Nat.le_of_eq (row_length evF_len L))
  · refine loopS (S := Nat × Nat × List EvT) (fun s => [(0, .mref b 0 L.length 6), (1, .fn (.func 39) [] []), (5, .int .i64 s.1), (6, .int .i64 s.2.1)]) (fun s => (b, s.2.2.flatMap evF) :: σ) (fun s => s.1 < s.2.1 ∧ s.2.1 ≤ L.length ∧ s.2.2.length = L.length ∧ s.2.2.take s.1 = (L.take s.2.1).filter keepE ∧ s.2.2.drop s.2.1 = L.drop s.2.1) (fun s => L.length - s.2.1) (i0, i0 + 1, L) ⟨⟨Nat.lt_succ_self _, hi0, rfl, ?_, rfl⟩, ⟨rfl, rfl, rfl, inc64 (by omega), trivial⟩, rfl⟩ ?_
    · show L.take i0 = (L.take (i0 + 1)).filter keepE
      rw [List.take_succ_eq_append_getElem hi0, List.filter_append, hT]
      simp [hK]
    rintro ⟨i, j, M⟩ g ⟨hij0, hj0, hM0, hF0, hD0⟩
    have hij : i < j := hij0
    have hj : j ≤ L.length := hj0
    have hM : M.length = L.length := hM0
    have hF : M.take i = (L.take j).filter keepE := hF0
    have hD : M.drop j = L.drop j := hD0
    clear hij0 hj0 hM0 hF0 hD0
    refine bcond_dec (fun h => ?_) (fun h => ?_)
    · have h : j < L.length := by have h : (j : Int) < L.length := h; omega
      have hjM : j < M.length := by omega
      have hjE : M[j] = L[j] := by
        have := congrArg (fun x => x[0]?) hD
        simpa [h, hjM] using this
      refine With.mk ⟨rfl, by omega, by omega⟩ ?_
      refine LoadAt.mk 0 _ (.agg (evF M[j])) rfl (row_read rfl rfl evF_len hjM rfl) ?_
      intro bl1
      refine StoreAt.mk 0 _ _ rfl rfl ?_
      refine LoadAt.mk 0 _ _ rfl rfl ?_
      refine callB [] (aDelE M[j] _) (fun hB => ?_) (fun hB => ?_)
      · have hB : keepE L[j] = false := by rw [← hjE]; simpa using hB
        refine nextS (i, j + 1, M) (by show L.length - (j + 1) < L.length - j; omega) ⟨by show i < j + 1; omega, h, hM, ?_, ?_⟩ ⟨rfl, rfl, rfl, inc64 (by omega), trivial⟩ (.drop 0 1 (shed_eq rfl))
        · show M.take i = (L.take (j + 1)).filter keepE
          rw [List.take_succ_eq_append_getElem h, List.filter_append, ← hF]
          simp [hB]
        · show M.drop (j + 1) = L.drop (j + 1)
          rw [← List.drop_drop, ← List.drop_drop, hD]
      · refine LoadAt.mk 0 _ _ rfl rfl ?_
        refine With.mk ⟨rfl, by omega, by omega⟩ ?_
        have hiM : i < M.length := by omega
        refine StoreAt.mk 1 _ _ rfl (row_write rfl evF_len hiM M[j] rfl) ?_
        have hB : keepE L[j] = true := by rw [← hjE]; simpa using hB
        refine nextS (i + 1, j + 1, M.set i M[j]) (by show L.length - (j + 1) < L.length - j; omega) ⟨by show i + 1 < j + 1; omega, h, (List.length_set ..).trans hM, ?_, ?_⟩ ⟨rfl, rfl, inc64 (by omega), inc64 (by omega), trivial⟩ (.drop 0 1 (shed_eq rfl))
        · show (M.set i M[j]).take (i + 1) = (L.take (j + 1)).filter keepE
          rw [List.take_succ_eq_append_getElem (by rw [List.length_set]; exact hiM), List.take_set_of_le (Nat.le_refl _), List.getElem_set_self, List.take_succ_eq_append_getElem h, List.filter_append, ← hF, hjE]
          simp [hB]
        · show (M.set i M[j]).drop (j + 1) = L.drop (j + 1)
          rw [List.drop_set_of_lt (by omega), ← List.drop_drop, ← List.drop_drop, hD]
    · have h : j = L.length := by have h : ¬ (j : Int) < L.length := h; omega
      refine With.mk ⟨by omega, by omega, by omega, rfl⟩ ?_
      refine ClearAt.mref 0 b _ _ _ rfl rfl (by show 0 + (i : Int).toNat * 6 + ((L.length : Int).toNat - (i : Int).toNat) * 6 ≤ (M.flatMap evF).length; rw [row_length evF_len]; omega) ?_
      refine With.mk ⟨by omega, by omega, by omega, rfl⟩ ?_
      have hF2 : M.take i = L.filter keepE := by rw [hF, h, List.take_length]
      refine .done ⟨i, _, ?_, ?_, rfl, rfl⟩
      · rw [← hF2, List.length_take]; omega
      · rw [splice_take _ _ _ _ (by omega), row_take evF_len M (by omega), hF2]
/-- slices.Clone of a list of events: an open row. -/
theorem aCloneF (L : List EvT) (σ : Hp) (hl : L.length ≤ 1000000) (h0 : L ≠ []) : ACalls Try.prog 32 [.fsl evSh L] σ (fun x σ' => ∃ b, x = .mref b 0 L.length 6 ∧ σ' = (b, L.flatMap evF) :: σ) := by
  refine okF Try.func32 (by kernel_rfl) ?_
  refine With.mk (List.length_pos_iff.2 h0) ?_
  intro b2
  refine AppendAt.more 0 b2 0 L.length [] (L.flatMap evF) rfl rfl (Nat.le_of_ble_eq_true rfl) (.fsl _ _ rfl) (by omega) (by decide) (by decide) (fun b' => ?_)
  refine .done ⟨b', ?_, ?_⟩
  · rw [Nat.zero_add]; rfl
  · rfl
theorem aCloneN (σ : Hp) : ACalls Try.prog 32 [.nils] σ (Ret .nils σ) := by
  refine okF Try.func32 (by kernel_rfl) ?_
  exact .done ⟨rfl, rfl⟩
theorem aCloneZ (σ : Hp) : ACalls Try.prog 32 [.esl] σ (fun x σ' => ∃ b, x = .mref b 0 0 6 ∧ σ' = (b, []) :: σ) := by
  refine okF Try.func32 (by kernel_rfl) ?_
  intro b2
  refine AppendAt.more 0 b2 0 0 [] [] rfl rfl (Nat.le_of_ble_eq_true rfl) .esl (by omega) (by decide) (by decide) (fun b' => ?_)
  exact .done ⟨b', rfl, rfl⟩
theorem aDeleteN (σ : Hp) : ACalls Try.prog 38 [.nils, .fn (.func 39) [] []] σ (Ret .nils σ) := by
  have hI : ACalls Try.prog 44 [.nils, .fn (.func 39) [] []] σ (Ret (.int .i64 (-1)) σ) := by
    refine okF Try.func44 (by kernel_rfl) ?_
    refine loopS (S := Unit) (fun s => [(7, .int .i64 0), (8, .int .i64 0)]) (fun _ => σ) (fun s => True) (fun s => 0) () ⟨trivial, ⟨rfl, rfl, trivial⟩, rfl⟩ ?_
    intro _ g _
    exact .done ⟨rfl, rfl⟩
  refine okF Try.func38 (by kernel_rfl) ?_
  refine callR [] hI ?_
  exact .done ⟨rfl, rfl⟩
/-- record.Writes. -/
theorem aWritesE (L : List EvT) (σ : Hp) (hl : L.length ≤ 1000000) : ACalls Try.prog 24 [.fsl evSh L] σ (Ret (.fsl evSh (L.filter keepE)) σ) := by
  refine acalls_fsl (fun h => ?_) (fun h => ?_)
  · subst h
    refine ⟨?_, ?_⟩
    · refine okF Try.func24 (by kernel_rfl) ?_
      refine callR [] (aCloneN σ) ?_
      refine callR [] (aDeleteN σ) ?_
      exact .nil (.nil _) (.done ⟨rfl, rfl⟩)
    · refine okF Try.func24 (by kernel_rfl) ?_
      refine .mk [] _ (aCloneZ σ) ?_
      rintro _ _ ⟨b, rfl, rfl⟩
      refine .mk [] _ (aDeleteF b [] σ (by decide)) ?_
      rintro _ _ ⟨k, cs, hk, hcs, rfl, rfl⟩
      subst hk
      exact .frz 0 b 0 _ 6 cs evSh ([].filter keepE) rfl hcs ⟨rfl, rfl, by decide⟩ .here (.done ⟨rfl, rfl⟩)
  · refine okF Try.func24 (by kernel_rfl) ?_
    refine .mk [] _ (aCloneF L σ hl h) ?_
    rintro _ _ ⟨b, rfl, rfl⟩
    refine .mk [] _ (aDeleteF b L σ hl) ?_
    rintro _ _ ⟨k, cs, hk, hcs, rfl, rfl⟩
    subst hk
    exact .frz 0 b 0 _ 6 cs evSh (L.filter keepE) rfl hcs ⟨rfl, rfl, by decide⟩ .here (.done ⟨rfl, rfl⟩)
end Go.Proofs.Ytphifpfndhfdfaa
