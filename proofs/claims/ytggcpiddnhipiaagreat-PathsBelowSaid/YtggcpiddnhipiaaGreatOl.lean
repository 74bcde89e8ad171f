/-
  constant.Op by the walk.
-/
import Derived.Test.YtggcpiddnhipiaaGreatOk
namespace Go.Proofs.YtggcpiddnhipiaaGreat
open Go.RowKit
set_option maxRecDepth 100000
theorem resP_04 {op : Int} (h : op = 0 ∨ op = 4) (a b c : Int) : resP op a b = resP op a c := by
  unfold resP
  rw [opP_04 h (numRe a) (numIm a) (numRe b) (numIm b) (numRe c) (numIm c)]
theorem norm_two : normW 2 = 2 := by decide
theorem opK_least1 {op : Int} (a b : Int) (h : op = 0 ∨ op = 4) : opK op a b = if leastW [a] = 2 then resP op a b else leastW [a] := by
  unfold opK opW2 leastW
  rw [if_pos h, norm_two, resP_04 h a b 2]
  by_cases h0 : normW a = 0
  · simp [h0]
  · by_cases h1 : normW a = 1
    · simp [h1]
    · simp [h0, h1]
theorem opK_least2 {op : Int} (a b : Int) (h : ¬ (op = 0 ∨ op = 4)) : opK op a b = if leastW [a, b] = 2 then resP op a b else leastW [a, b] := by
  unfold opK opW2 leastW
  rw [if_neg h]
  by_cases h0 : normW a = 0
  · simp [h0]
  · by_cases h1 : normW a = 1
    · by_cases g0 : normW b = 0
      · simp [g0]
      · simp [h1, g0]
    · by_cases g0 : normW b = 0
      · simp [g0]
      · by_cases g1 : normW b = 1
        · simp [h0, g1]
        · simp [h0, h1, g0, g1]
theorem aCOp (op a b : Int) (σ : Hp) (ha : W64 a) (hb : W64 b) : ACalls Tryz.prog 153 [.int .i64 op, .int .u64 a, .int .u64 b] σ (Ret (.int .u64 (opK op a b)) σ) := by
  refine okF Tryz.func153 (by kernel_rfl) ?_
  intro bl1
  refine .frz (args' := [.fsl (.int .u64) [a, b]]) 0 bl1 0 2 1 _ (.int .u64) [a, b] rfl rfl ⟨rfl, rfl, by decide⟩ (frz_cons .here frz_nil) (callR [] (aLeast [a, b] _ (by show 2 ≤ 100000; omega)) ?_)
  refine bcond_dec (fun c1 => ?_) (fun c1 => ?_)
  · have c1 : op = 0 := c1
    intro bl2
    refine .frz (args' := [.fsl (.int .u64) [a]]) 0 bl2 0 1 1 _ (.int .u64) [a] rfl rfl ⟨rfl, rfl, by decide⟩ (frz_cons .here frz_nil) (callR [] (aLeast [a] _ (by show 1 ≤ 100000; omega)) ?_)
    generalize hL : leastW [a] = L
    refine bcond_split (fun c5 => ?_) (fun c5 => ?_)
    · have c5 : ¬ (L = 2) := by simpa using c5
      rw [opK_least1 a b (.inl c1), if_neg (by rw [hL]; exact c5), hL]
      exact .done ⟨rfl, rfl⟩
    · have c5 : L = 2 := by simpa using c5
      rw [opK_least1 a b (.inl c1), if_pos (by rw [hL]; exact c5)]
      refine callR [] (gNumX a _ ha) ?_
      intro p1
      refine StoreAt.mk 0 _ _ rfl rfl ?_
      refine callR [] (gNumX b _ hb) ?_
      intro p2
      refine StoreAt.mk 0 _ _ rfl rfl ?_
      refine LoadAt.mk 1 _ _ rfl rfl ?_
      refine LoadAt.mk 0 _ _ rfl rfl ?_
      refine callR [] (gOpX op _ _ _ _ _) ?_
      unfold resP
      cases hr : opP op (numRe a) (numIm a) (numRe b) (numIm b) with
      | none =>
        intro p3
        refine StoreAt.mk 0 _ _ rfl rfl ?_
        exact .drop 0 3 (.done ⟨rfl, rfl⟩)
      | some xy =>
        obtain ⟨x, y⟩ := xy
        intro p3
        refine StoreAt.mk 0 _ _ rfl rfl ?_
        refine LoadAt.mk 0 _ _ rfl rfl ?_
        refine callR [] (gCOfX x y _) ?_
        exact .drop 0 3 (.done ⟨rfl, rfl⟩)
  · have c1 : ¬ (op = 0) := c1
    refine bcond_dec (fun c3 => ?_) (fun c3 => ?_)
    · have c3 : op = 4 := c3
      intro bl4
      refine .frz (args' := [.fsl (.int .u64) [a]]) 0 bl4 0 1 1 _ (.int .u64) [a] rfl rfl ⟨rfl, rfl, by decide⟩ (frz_cons .here frz_nil) (callR [] (aLeast [a] _ (by show 1 ≤ 100000; omega)) ?_)
      generalize hL : leastW [a] = L
      refine bcond_split (fun c5 => ?_) (fun c5 => ?_)
      · have c5 : ¬ (L = 2) := by simpa using c5
        rw [opK_least1 a b (.inr c3), if_neg (by rw [hL]; exact c5), hL]
        exact .done ⟨rfl, rfl⟩
      · have c5 : L = 2 := by simpa using c5
        rw [opK_least1 a b (.inr c3), if_pos (by rw [hL]; exact c5)]
        refine callR [] (gNumX a _ ha) ?_
        intro p1
        refine StoreAt.mk 0 _ _ rfl rfl ?_
        refine callR [] (gNumX b _ hb) ?_
        intro p2
        refine StoreAt.mk 0 _ _ rfl rfl ?_
        refine LoadAt.mk 1 _ _ rfl rfl ?_
        refine LoadAt.mk 0 _ _ rfl rfl ?_
        refine callR [] (gOpX op _ _ _ _ _) ?_
        unfold resP
        cases hr : opP op (numRe a) (numIm a) (numRe b) (numIm b) with
        | none =>
          intro p3
          refine StoreAt.mk 0 _ _ rfl rfl ?_
          exact .drop 0 3 (.done ⟨rfl, rfl⟩)
        | some xy =>
          obtain ⟨x, y⟩ := xy
          intro p3
          refine StoreAt.mk 0 _ _ rfl rfl ?_
          refine LoadAt.mk 0 _ _ rfl rfl ?_
          refine callR [] (gCOfX x y _) ?_
          exact .drop 0 3 (.done ⟨rfl, rfl⟩)
    · have c3 : ¬ (op = 4) := c3
      generalize hL : leastW [a, b] = L
      refine bcond_split (fun c5 => ?_) (fun c5 => ?_)
      · have c5 : ¬ (L = 2) := by simpa using c5
        rw [opK_least2 a b (fun h => h.elim c1 c3), if_neg (by rw [hL]; exact c5), hL]
        exact .done ⟨rfl, rfl⟩
      · have c5 : L = 2 := by simpa using c5
        rw [opK_least2 a b (fun h => h.elim c1 c3), if_pos (by rw [hL]; exact c5)]
        refine callR [] (gNumX a _ ha) ?_
        intro p1
        refine StoreAt.mk 0 _ _ rfl rfl ?_
        refine callR [] (gNumX b _ hb) ?_
        intro p2
        refine StoreAt.mk 0 _ _ rfl rfl ?_
        refine LoadAt.mk 1 _ _ rfl rfl ?_
        refine LoadAt.mk 0 _ _ rfl rfl ?_
        refine callR [] (gOpX op _ _ _ _ _) ?_
        unfold resP
        cases hr : opP op (numRe a) (numIm a) (numRe b) (numIm b) with
        | none =>
          intro p3
          refine StoreAt.mk 0 _ _ rfl rfl ?_
          exact .drop 0 3 (.done ⟨rfl, rfl⟩)
        | some xy =>
          obtain ⟨x, y⟩ := xy
          intro p3
          refine StoreAt.mk 0 _ _ rfl rfl ?_
          refine LoadAt.mk 0 _ _ rfl rfl ?_
          refine callR [] (gCOfX x y _) ?_
          exact .drop 0 3 (.done ⟨rfl, rfl⟩)
theorem norm_norm (w : Int) : normW (normW w) = normW w := by
  by_cases h0 : normW w = 0
  · rw [h0]; rfl
  · by_cases h1 : normW w = 1
    · rw [h1]; rfl
    · rw [(numOk_of h0 h1).2]; exact (numOk_of h0 h1).2
theorem opW2_norm (op a b : Int) : opW2 op (normW a) (normW b) = opW2 op a b := by
  unfold opW2
  rw [norm_norm, norm_norm]
  by_cases h0 : normW a = 0 ∨ normW b = 0
  · rw [if_pos h0, if_pos h0]
  · by_cases h1 : normW a = 1 ∨ normW b = 1
    · rw [if_neg h0, if_pos h1, if_neg h0, if_pos h1]
    · rw [if_neg h0, if_neg h1, if_neg h0, if_neg h1]
      have ha := (numOk_of (w := a) (fun h => h0 (.inl h)) (fun h => h1 (.inl h))).2
      have hb := (numOk_of (w := b) (fun h => h0 (.inr h)) (fun h => h1 (.inr h))).2
      rw [ha, hb]
theorem ofP_zero : ofP 0 0 = 2 := by decide
theorem aROp11 (op a b : Int) (σ : Hp) (ha : W64 a) (hb : W64 b) : ACalls Tryz.prog 134 [.int .i64 op, .int .u64 a, .int .u64 b] σ (Ret (.int .u64 (opK op a b)) σ) := by
  have na := norm_64 ha
  have nb := norm_64 hb
  obtain ⟨B, hB⟩ : ∃ B : Int, B = 2 := ⟨_, rfl⟩
  have wB : W64 B := by rw [hB]; unfold W64; omega
  have nB : normW B = B := by rw [hB]; exact norm_two
  have hOf : ∀ σ, ACalls Tryz.prog 173 [.agg (nC 0 0)] σ (Ret (.int .u64 B) σ) := fun σ => by rw [hB, ← ofP_zero]; exact rCOfX 0 0 σ
  have e04 : (op = 0 ∨ op = 4) → opK op a b = opW2 op (normW a) B := fun h => by unfold opK; rw [if_pos h, ← opW2_norm, norm_two, hB]
  clear hB
  refine okF Tryz.func134 (by kernel_rfl) ?_
  refine callR [] (aRNorm a _ ha.1 ha.2) ?_
  refine callR [] (aRNorm b _ hb.1 hb.2) ?_
  refine bcond_dec (fun d1 => ?_) (fun d1 => ?_)
  · have d1 : op = 0 := d1
    rw [e04 (.inl d1)]
    refine callR [] (hOf _) ?_
    refine bcond_dec (fun c1 => ?_) (fun c1 => ?_)
    · have c1 : normW a = 0 := c1
      unfold opW2
      rw [norm_norm, if_pos (.inl c1)]
      exact .done ⟨rfl, rfl⟩
    · have c1 : ¬ normW a = 0 := c1
      refine bcond_dec (fun c2 => ?_) (fun c2 => ?_)
      · have c2 : B = 0 := c2
        unfold opW2
        rw [norm_norm, if_pos (.inr (nB.trans c2))]
        exact .done ⟨rfl, rfl⟩
      · have c2 : ¬ B = 0 := c2
        refine bcond_dec (fun c3 => ?_) (fun c3 => ?_)
        · have c3 : normW a = 1 := c3
          unfold opW2
          rw [norm_norm, if_neg (fun h => h.elim c1 fun h => c2 (nB.symm.trans h)), if_pos (.inl c3)]
          exact .done ⟨rfl, rfl⟩
        · have c3 : ¬ normW a = 1 := c3
          refine bcond_dec (fun c4 => ?_) (fun c4 => ?_)
          · have c4 : B = 1 := c4
            unfold opW2
            rw [norm_norm, if_neg (fun h => h.elim c1 fun h => c2 (nB.symm.trans h)), if_pos (.inr (nB.trans c4))]
            exact .done ⟨rfl, rfl⟩
          · have c4 : ¬ B = 1 := c4
            unfold opW2
            rw [norm_norm, if_neg (fun h => h.elim c1 fun h => c2 (nB.symm.trans h)), if_neg (fun h => h.elim c3 fun h => c4 (nB.symm.trans h))]
            unfold resP
            refine callR [] (rNumX (normW a) _ na) ?_
            intro p1
            refine StoreAt.mk 0 _ _ rfl rfl ?_
            refine callR [] (rNumX (B) _ wB) ?_
            intro p2
            refine StoreAt.mk 0 _ _ rfl rfl ?_
            refine LoadAt.mk 1 _ _ rfl rfl ?_
            refine LoadAt.mk 0 _ _ rfl rfl ?_
            refine callR [] (rOpX op _ _ _ _ _) ?_
            cases hr : opP op (numRe (normW a)) (numIm (normW a)) (numRe (B)) (numIm (B)) with
            | none =>
              intro p3
              refine StoreAt.mk 0 _ _ rfl rfl ?_
              exact .drop 0 3 (.done ⟨rfl, rfl⟩)
            | some xy =>
              obtain ⟨x, y⟩ := xy
              intro p3
              refine StoreAt.mk 0 _ _ rfl rfl ?_
              refine LoadAt.mk 0 _ _ rfl rfl ?_
              refine callR [] (rCOfX x y _) ?_
              exact .drop 0 3 (.done ⟨rfl, rfl⟩)
  · have d1 : ¬ op = 0 := d1
    refine bcond_dec (fun d2 => ?_) (fun d2 => ?_)
    · have d2 : op = 4 := d2
      rw [e04 (.inr d2)]
      refine callR [] (hOf _) ?_
      refine bcond_dec (fun c1 => ?_) (fun c1 => ?_)
      · have c1 : normW a = 0 := c1
        unfold opW2
        rw [norm_norm, if_pos (.inl c1)]
        exact .done ⟨rfl, rfl⟩
      · have c1 : ¬ normW a = 0 := c1
        refine bcond_dec (fun c2 => ?_) (fun c2 => ?_)
        · have c2 : B = 0 := c2
          unfold opW2
          rw [norm_norm, if_pos (.inr (nB.trans c2))]
          exact .done ⟨rfl, rfl⟩
        · have c2 : ¬ B = 0 := c2
          refine bcond_dec (fun c3 => ?_) (fun c3 => ?_)
          · have c3 : normW a = 1 := c3
            unfold opW2
            rw [norm_norm, if_neg (fun h => h.elim c1 fun h => c2 (nB.symm.trans h)), if_pos (.inl c3)]
            exact .done ⟨rfl, rfl⟩
          · have c3 : ¬ normW a = 1 := c3
            refine bcond_dec (fun c4 => ?_) (fun c4 => ?_)
            · have c4 : B = 1 := c4
              unfold opW2
              rw [norm_norm, if_neg (fun h => h.elim c1 fun h => c2 (nB.symm.trans h)), if_pos (.inr (nB.trans c4))]
              exact .done ⟨rfl, rfl⟩
            · have c4 : ¬ B = 1 := c4
              unfold opW2
              rw [norm_norm, if_neg (fun h => h.elim c1 fun h => c2 (nB.symm.trans h)), if_neg (fun h => h.elim c3 fun h => c4 (nB.symm.trans h))]
              unfold resP
              refine callR [] (rNumX (normW a) _ na) ?_
              intro p1
              refine StoreAt.mk 0 _ _ rfl rfl ?_
              refine callR [] (rNumX (B) _ wB) ?_
              intro p2
              refine StoreAt.mk 0 _ _ rfl rfl ?_
              refine LoadAt.mk 1 _ _ rfl rfl ?_
              refine LoadAt.mk 0 _ _ rfl rfl ?_
              refine callR [] (rOpX op _ _ _ _ _) ?_
              cases hr : opP op (numRe (normW a)) (numIm (normW a)) (numRe (B)) (numIm (B)) with
              | none =>
                intro p3
                refine StoreAt.mk 0 _ _ rfl rfl ?_
                exact .drop 0 3 (.done ⟨rfl, rfl⟩)
              | some xy =>
                obtain ⟨x, y⟩ := xy
                intro p3
                refine StoreAt.mk 0 _ _ rfl rfl ?_
                refine LoadAt.mk 0 _ _ rfl rfl ?_
                refine callR [] (rCOfX x y _) ?_
                exact .drop 0 3 (.done ⟨rfl, rfl⟩)
    · have d2 : ¬ op = 4 := d2
      rw [show opK op a b = opW2 op (normW a) (normW b) by unfold opK; rw [if_neg (fun h => h.elim d1 d2), opW2_norm]]
      refine bcond_dec (fun c1 => ?_) (fun c1 => ?_)
      · have c1 : normW a = 0 := c1
        unfold opW2
        rw [norm_norm, if_pos (.inl c1)]
        exact .done ⟨rfl, rfl⟩
      · have c1 : ¬ normW a = 0 := c1
        refine bcond_dec (fun c2 => ?_) (fun c2 => ?_)
        · have c2 : (normW b) = 0 := c2
          unfold opW2
          rw [norm_norm, if_pos (.inr ((norm_norm b).trans c2))]
          exact .done ⟨rfl, rfl⟩
        · have c2 : ¬ (normW b) = 0 := c2
          refine bcond_dec (fun c3 => ?_) (fun c3 => ?_)
          · have c3 : normW a = 1 := c3
            unfold opW2
            rw [norm_norm, if_neg (fun h => h.elim c1 fun h => c2 ((norm_norm b).symm.trans h)), if_pos (.inl c3)]
            exact .done ⟨rfl, rfl⟩
          · have c3 : ¬ normW a = 1 := c3
            refine bcond_dec (fun c4 => ?_) (fun c4 => ?_)
            · have c4 : (normW b) = 1 := c4
              unfold opW2
              rw [norm_norm, if_neg (fun h => h.elim c1 fun h => c2 ((norm_norm b).symm.trans h)), if_pos (.inr ((norm_norm b).trans c4))]
              exact .done ⟨rfl, rfl⟩
            · have c4 : ¬ (normW b) = 1 := c4
              unfold opW2
              rw [norm_norm, if_neg (fun h => h.elim c1 fun h => c2 ((norm_norm b).symm.trans h)), if_neg (fun h => h.elim c3 fun h => c4 ((norm_norm b).symm.trans h))]
              unfold resP
              refine callR [] (rNumX (normW a) _ na) ?_
              intro p1
              refine StoreAt.mk 0 _ _ rfl rfl ?_
              refine callR [] (rNumX ((normW b)) _ nb) ?_
              intro p2
              refine StoreAt.mk 0 _ _ rfl rfl ?_
              refine LoadAt.mk 1 _ _ rfl rfl ?_
              refine LoadAt.mk 0 _ _ rfl rfl ?_
              refine callR [] (rOpX op _ _ _ _ _) ?_
              cases hr : opP op (numRe (normW a)) (numIm (normW a)) (numRe ((normW b))) (numIm ((normW b))) with
              | none =>
                intro p3
                refine StoreAt.mk 0 _ _ rfl rfl ?_
                exact .drop 0 3 (.done ⟨rfl, rfl⟩)
              | some xy =>
                obtain ⟨x, y⟩ := xy
                intro p3
                refine StoreAt.mk 0 _ _ rfl rfl ?_
                refine LoadAt.mk 0 _ _ rfl rfl ?_
                refine callR [] (rCOfX x y _) ?_
                exact .drop 0 3 (.done ⟨rfl, rfl⟩)
end Go.Proofs.YtggcpiddnhipiaaGreat
