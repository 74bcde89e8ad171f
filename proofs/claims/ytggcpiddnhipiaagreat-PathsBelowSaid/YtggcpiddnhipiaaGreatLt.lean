/-
  package lattice and soughref12: values, put together, of any kind.
-/
import Derived.Test.YtggcpiddnhipiaaGreatSl
import Derived.Test.YtggcpiddnhipiaaGreatL12
namespace Go.Proofs.YtggcpiddnhipiaaGreat
open Go.RowKit
set_option maxRecDepth 100000
theorem aLis (what width : Int) (σ : Hp) : ACalls Tryz.prog 97 [.int .i64 what, .int .i64 width] σ (Ret (.bool (is12 what width)) σ) := by
  refine okF Tryz.func97 (by kernel_rfl) ?_
  have hk : ∀ w : Int, (1 ≤ w ∧ w ≤ 3) ↔ (w = 1 ∨ w = 2 ∨ w = 3) := fun w => by omega
  have hI : is12 what width = (decide (what = 1 ∨ what = 2 ∨ what = 3) && decide (0 ≤ width) && decide (width ≤ 1024)) := by
    unfold is12
    rw [← Bool.decide_and, decide_eq_decide.2 (hk what)]
  rw [hI]
  refine bcond_dec (fun c1 => ?_) (fun c1 => ?_)
  · have c1 : what = 1 := c1
    have hw : (what = 1 ∨ what = 2 ∨ what = 3) := .inl c1
    refine bcond_dec (fun d1 => ?_) (fun d1 => ?_)
    · have d1 : 0 ≤ width := d1
      refine bcond_dec (fun d2 => ?_) (fun d2 => ?_)
      · have d2 : width ≤ 1024 := d2
        rw [decide_eq_true hw, decide_eq_true d1, decide_eq_true d2]
        exact .done ⟨rfl, rfl⟩
      · have d2 : ¬ width ≤ 1024 := d2
        rw [decide_eq_true hw, decide_eq_true d1, decide_eq_false d2]
        exact .done ⟨rfl, rfl⟩
    · have d1 : ¬ 0 ≤ width := d1
      rw [decide_eq_true hw, decide_eq_false d1]
      exact .done ⟨rfl, rfl⟩
  · have c1 : ¬ what = 1 := c1
    refine bcond_dec (fun c2 => ?_) (fun c2 => ?_)
    · have c2 : what = 2 := c2
      have hw : (what = 1 ∨ what = 2 ∨ what = 3) := .inr (.inl c2)
      refine bcond_dec (fun d1 => ?_) (fun d1 => ?_)
      · have d1 : 0 ≤ width := d1
        refine bcond_dec (fun d2 => ?_) (fun d2 => ?_)
        · have d2 : width ≤ 1024 := d2
          rw [decide_eq_true hw, decide_eq_true d1, decide_eq_true d2]
          exact .done ⟨rfl, rfl⟩
        · have d2 : ¬ width ≤ 1024 := d2
          rw [decide_eq_true hw, decide_eq_true d1, decide_eq_false d2]
          exact .done ⟨rfl, rfl⟩
      · have d1 : ¬ 0 ≤ width := d1
        rw [decide_eq_true hw, decide_eq_false d1]
        exact .done ⟨rfl, rfl⟩
    · have c2 : ¬ what = 2 := c2
      refine bcond_dec (fun c3 => ?_) (fun c3 => ?_)
      · have c3 : what = 3 := c3
        have hw : (what = 1 ∨ what = 2 ∨ what = 3) := .inr (.inr c3)
        refine bcond_dec (fun d1 => ?_) (fun d1 => ?_)
        · have d1 : 0 ≤ width := d1
          refine bcond_dec (fun d2 => ?_) (fun d2 => ?_)
          · have d2 : width ≤ 1024 := d2
            rw [decide_eq_true hw, decide_eq_true d1, decide_eq_true d2]
            exact .done ⟨rfl, rfl⟩
          · have d2 : ¬ width ≤ 1024 := d2
            rw [decide_eq_true hw, decide_eq_true d1, decide_eq_false d2]
            exact .done ⟨rfl, rfl⟩
        · have d1 : ¬ 0 ≤ width := d1
          rw [decide_eq_true hw, decide_eq_false d1]
          exact .done ⟨rfl, rfl⟩
      · have c3 : ¬ what = 3 := c3
        rw [decide_eq_false (p := what = 1 ∨ what = 2 ∨ what = 3) (fun h => h.elim c1 fun h => h.elim c2 c3)]
        exact .done ⟨rfl, rfl⟩
/-- How many words a value has. -/
def wordsL (what width : Int) : Int := if is12 what width = true then (if what = 3 then width else (sizeW width : Int)) else 0
theorem aLWords (what width : Int) (σ : Hp) : ACalls Tryz.prog 108 [.int .i64 what, .int .i64 width] σ (Ret (.int .i64 (wordsL what width)) σ) := by
  refine okF Tryz.func108 (by kernel_rfl) ?_
  unfold wordsL
  refine callB [] (aLis what width _) (fun hi => ?_) (fun hi => ?_)
  · rw [if_pos hi]
    have h3 : (what = 1 ∨ what = 2 ∨ what = 3) := by unfold is12 at hi; simp at hi; omega
    refine bcond_dec (fun c1 => ?_) (fun c1 => ?_)
    · have c1 : what = 1 := c1
      rw [if_neg (by omega)]
      refine callR [] (aSize10 width _) ?_
      exact .done ⟨rfl, rfl⟩
    · have c1 : ¬ what = 1 := c1
      refine bcond_dec (fun c2 => ?_) (fun c2 => ?_)
      · have c2 : what = 2 := c2
        rw [if_neg (by omega)]
        refine callR [] (aSize10 width _) ?_
        exact .done ⟨rfl, rfl⟩
      · have c2 : ¬ what = 2 := c2
        rw [if_pos (by omega)]
        exact .done ⟨rfl, rfl⟩
  · rw [if_neg (by rw [hi]; decide)]
    exact .done ⟨rfl, rfl⟩
theorem aRWords12 (what width : Int) (σ : Hp) : ACalls Tryz.prog 77 [.int .i64 what, .int .i64 width] σ (Ret (.int .i64 (wordsL what width)) σ) := by
  refine okF Tryz.func77 (by kernel_rfl) ?_
  unfold wordsL
  refine callB [] (aRIs what width _) (fun hi => ?_) (fun hi => ?_)
  · rw [if_pos hi]
    refine bcond_dec (fun c1 => ?_) (fun c1 => ?_)
    · have c1 : what = 3 := c1
      rw [if_pos c1]
      exact .done ⟨rfl, rfl⟩
    · have c1 : ¬ what = 3 := c1
      rw [if_neg c1]
      refine callR [] (aSizeR width _) ?_
      exact .done ⟨rfl, rfl⟩
  · rw [if_neg (by rw [hi]; decide)]
    exact .done ⟨rfl, rfl⟩
theorem wordsL_le (what width : Int) : 0 ≤ wordsL what width ∧ wordsL what width ≤ 1024 := by
  unfold wordsL
  by_cases h : is12 what width = true
  · rw [if_pos h]
    have := sizeW_le width
    unfold is12 at h; simp at h
    split <;> omega
  · rw [if_neg h]; omega
/-- Is it a value? -/
def okW (a : List Int) : Bool := a.all fun z => decide (normW z = z)
def valL (what w : Int) (a : List Int) : Bool := is12 what w && decide ((a.length : Int) = wordsL what w) && (if what = 3 then okW a else fitsW a w)
theorem is_norm (w : Int) : (numOk w || decide (w = 0) || decide (w = 1)) = decide (normW w = w) := by
  unfold normW
  by_cases h0 : w = 0
  · simp [h0]
  · by_cases h1 : w = 1
    · simp [h1]
    · cases h2 : numOk w with
      | true => simp [h0, h1]
      | false => simp [h0, h1]; exact fun h => h1 h.symm
theorem aIs1 (z : Int) (σ : Hp) : ACalls Tryz.prog 119 [.int .u64 z] σ (Ret (.bool (!decide (normW z = z))) σ) := by
  refine okF Tryz.func119 (by kernel_rfl) ?_
  refine callR [] (aIs z _) ?_
  rw [is_norm]
  exact .done ⟨rfl, rfl⟩
theorem okW_any (a : List Int) : (!a.any fun z => !decide (normW z = z)) = okW a := by
  unfold okW
  rw [List.all_eq_not_any_not]
theorem aLIs (what w : Int) (a : List Int) (σ : Hp) (ha : A64 a) (hl : a.length ≤ 1000000) : ACalls Tryz.prog 73 [.int .i64 what, .int .i64 w, .fsl (.int .u64) a] σ (Ret (.bool (valL what w a)) σ) := by
  refine okF Tryz.func73 (by kernel_rfl) ?_
  have hwl := wordsL_le what w
  unfold valL
  refine callB [] (aLis what w _) (fun hi => ?_) (fun hi => ?_)
  · refine callR [] (aLWords what w _) ?_
    refine bcond_split (fun c => ?_) (fun c => ?_)
    · have c : (!decide ((a.length : Int) = wordsL what w)) = true := c
      have c : ¬ ((a.length : Int) = wordsL what w) := by simpa using c
      rw [hi, decide_eq_false c]
      exact .done ⟨rfl, rfl⟩
    · have c : (!decide ((a.length : Int) = wordsL what w)) = false := c
      have c : (a.length : Int) = wordsL what w := by simpa using c
      rw [hi, decide_eq_true c]
      refine bcond_split (fun c3 => ?_) (fun c3 => ?_)
      · have c3 : ¬ (what = 3) := by simpa using c3
        rw [if_neg c3]
        refine callR [] (aFits10 a w _ ha (by omega)) ?_
        exact .done ⟨rfl, rfl⟩
      · have c3 : what = 3 := by simpa using c3
        rw [if_pos c3, ← okW_any]
        refine callR [] (aContainsU 119 [] a (fun z : Int => !decide (normW z = z)) _ hl (fun i hi => aIs1 _ _)) ?_
        exact .done ⟨rfl, rfl⟩
  · rw [hi]
    exact .done ⟨rfl, rfl⟩
theorem aRValueL (what w : Int) (a : List Int) (σ : Hp) (ha : A64 a) : ACalls Tryz.prog 45 [.int .i64 what, .int .i64 w, .fsl (.int .u64) a] σ (Ret (.bool (valL what w a)) σ) := by
  refine okF Tryz.func45 (by kernel_rfl) ?_
  have hwl := wordsL_le what w
  unfold valL
  refine callB [] (aRIs what w _) (fun hi => ?_) (fun hi => ?_)
  · refine callR [] (aRWords12 what w _) ?_
    refine bcond_split (fun c => ?_) (fun c => ?_)
    · have c : (!decide ((a.length : Int) = wordsL what w)) = true := c
      have c : ¬ ((a.length : Int) = wordsL what w) := by simpa using c
      rw [hi, decide_eq_false c]
      exact .done ⟨rfl, rfl⟩
    · have c : (!decide ((a.length : Int) = wordsL what w)) = false := c
      have c : (a.length : Int) = wordsL what w := by simpa using c
      rw [hi, decide_eq_true c]
      refine bcond_split (fun c3 => ?_) (fun c3 => ?_)
      · have c3 : ¬ (what = 3) := by simpa using c3
        rw [if_neg c3]
        refine callR [] (aFitsR a w _ ha) ?_
        exact .done ⟨rfl, rfl⟩
      · have c3 : what = 3 := by simpa using c3
        rw [if_pos c3]
        unfold okW
        refine loopS (S := Nat) (fun k => [(26, .fsl (.int .u64) a), (27, .int .i64 a.length), (28, .int .i64 k)]) (fun _ => σ) (fun k => k ≤ a.length ∧ ((a.take k).all fun z => decide (normW z = z)) = true) (fun k => a.length - k) 0 ⟨⟨Nat.zero_le _, rfl⟩, ⟨rfl, rfl, rfl, trivial⟩, rfl⟩ ?_
        rintro k g ⟨hk0, hall0⟩
        have hk : k ≤ a.length := hk0
        have hall : ((a.take k).all fun z => decide (normW z = z)) = true := hall0
        clear hk0 hall0
        refine bcond_dec (fun hlt => ?_) (fun hge => ?_)
        · have hlt : k < a.length := by have hlt : (k : Int) < a.length := hlt; omega
          have hz := ha _ (List.getElem_mem hlt)
          refine With.mk rfl (IdxF.mk a[k] (by omega) (get_some hlt) ?_)
          refine callR [] (aRNorm _ _ hz.1 hz.2) ?_
          refine bcond_split (fun c1 => ?_) (fun c1 => ?_)
          · have c1 : ¬ (normW a[k] = a[k]) := by simpa using c1
            have : (a.all fun z => decide (normW z = z)) = false := by
              rw [List.all_eq_false]
              exact ⟨a[k], List.getElem_mem hlt, by simpa using c1⟩
            rw [this]
            exact .done ⟨rfl, rfl⟩
          · have c1 : normW a[k] = a[k] := by simpa using c1
            refine nextS (k + 1) (by show a.length - (k + 1) < a.length - k; omega) ⟨hlt, ?_⟩ ⟨rfl, rfl, inc64 (by omega), trivial⟩ (shed_eq rfl)
            rw [List.take_succ_eq_append_getElem hlt, List.all_append, hall]
            simp [c1]
        · have hge : k = a.length := by have hge : ¬ (k : Int) < a.length := hge; omega
          rw [hge, List.take_length] at hall
          rw [hall]
          exact .done ⟨rfl, rfl⟩
  · rw [hi]
    exact .done ⟨rfl, rfl⟩
end Go.Proofs.YtggcpiddnhipiaaGreat
