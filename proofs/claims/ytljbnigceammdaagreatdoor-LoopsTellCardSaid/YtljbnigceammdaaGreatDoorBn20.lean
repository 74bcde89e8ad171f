/-
  L12; Lj: what the claim uses of them.
-/
import Derived.Test.YtljbnigceammdaaGreatDoorBn12
import Derived.Test.YtljbnigceammdaaGreatDoorBn16
import Derived.Test.YtljbnigceammdaaGreatDoorBn19
namespace Go.Proofs.YtljbnigceammdaaGreatDoor
open Go.RowKit
set_option maxRecDepth 100000
def is12 (what width : Int) : Bool := decide (1 ≤ what) && decide (what ≤ 3) && decide (0 ≤ width) && decide (width ≤ 1024)
/-- Values put together. -/
def join12 (what : Int) (xs ys : List Int) : List Int := List.zipWith (wordW what) xs ys
theorem join12_length (what : Int) (xs ys : List Int) (h : xs.length = ys.length) : (join12 what xs ys).length = xs.length := by simp [join12, h]
end Go.Proofs.YtljbnigceammdaaGreatDoor
namespace Go.Proofs.YtljbnigceammdaaGreatDoor
open Go.RowKit
set_option maxRecDepth 100000
theorem aLis (what width : Int) (σ : Hp) : ACalls Tryz.prog 140 [.int .i64 what, .int .i64 width] σ (Ret (.bool (is12 what width)) σ) := by
  refine okF Tryz.func140 (by kernel_rfl) ?_
  have hk : ∀ w : Int, (1 ≤ w ∧ w ≤ 3) ↔ (w = 1 ∨ w = 2 ∨ w = 3) := fun w => by omega
  have hI : is12 what width = (decide (what = 1 ∨ what = 2 ∨ what = 3) && decide (0 ≤ width) && decide (width ≤ 1024)) := by
    unfold is12
    rw [← Bool.decide_and, decide_eq_decide.2 (hk what)]
  rw [hI]
  refine bcond_dec (fun c1 => ?_) (fun c1 => ?_)
  · have c1 : what = 1 := c1
    have hw : (what = 1 ∨ what = 2 ∨ what = 3) := .inl c1
    refine bcond_dec (fun d1 => ?_) (fun d1 => ?_)
    · have d1 : 0 ≤ width := d1
      refine bcond_dec (fun d2 => ?_) (fun d2 => ?_)
      · have d2 : width ≤ 1024 := d2
        rw [decide_eq_true hw, decide_eq_true d1, decide_eq_true d2]
        exact .done ⟨rfl, rfl⟩
      · have d2 : ¬ width ≤ 1024 := d2
        rw [decide_eq_true hw, decide_eq_true d1, decide_eq_false d2]
        exact .done ⟨rfl, rfl⟩
    · have d1 : ¬ 0 ≤ width := d1
      rw [decide_eq_true hw, decide_eq_false d1]
      exact .done ⟨rfl, rfl⟩
  · have c1 : ¬ what = 1 := c1
    refine bcond_dec (fun c2 => ?_) (fun c2 => ?_)
    · have c2 : what = 2 := c2
      have hw : (what = 1 ∨ what = 2 ∨ what = 3) := .inr (.inl c2)
      refine bcond_dec (fun d1 => ?_) (fun d1 => ?_)
      · have d1 : 0 ≤ width := d1
        refine bcond_dec (fun d2 => ?_) (fun d2 => ?_)
        · have d2 : width ≤ 1024 := d2
          rw [decide_eq_true hw, decide_eq_true d1, decide_eq_true d2]
          exact .done ⟨rfl, rfl⟩
        · have d2 : ¬ width ≤ 1024 := d2
          rw [decide_eq_true hw, decide_eq_true d1, decide_eq_false d2]
          exact .done ⟨rfl, rfl⟩
      · have d1 : ¬ 0 ≤ width := d1
        rw [decide_eq_true hw, decide_eq_false d1]
        exact .done ⟨rfl, rfl⟩
    · have c2 : ¬ what = 2 := c2
      refine bcond_dec (fun c3 => ?_) (fun c3 => ?_)
      · have c3 : what = 3 := c3
        have hw : (what = 1 ∨ what = 2 ∨ what = 3) := .inr (.inr c3)
        refine bcond_dec (fun d1 => ?_) (fun d1 => ?_)
        · have d1 : 0 ≤ width := d1
          refine bcond_dec (fun d2 => ?_) (fun d2 => ?_)
          · have d2 : width ≤ 1024 := d2
            rw [decide_eq_true hw, decide_eq_true d1, decide_eq_true d2]
            exact .done ⟨rfl, rfl⟩
          · have d2 : ¬ width ≤ 1024 := d2
            rw [decide_eq_true hw, decide_eq_true d1, decide_eq_false d2]
            exact .done ⟨rfl, rfl⟩
        · have d1 : ¬ 0 ≤ width := d1
          rw [decide_eq_true hw, decide_eq_false d1]
          exact .done ⟨rfl, rfl⟩
      · have c3 : ¬ what = 3 := c3
        rw [decide_eq_false (p := what = 1 ∨ what = 2 ∨ what = 3) (fun h => h.elim c1 fun h => h.elim c2 c3)]
        exact .done ⟨rfl, rfl⟩
/-- How many words a value has. -/
def wordsL (what width : Int) : Int := if is12 what width = true then (if what = 3 then width else (sizeW width : Int)) else 0
theorem aLWords (what width : Int) (σ : Hp) : ACalls Tryz.prog 156 [.int .i64 what, .int .i64 width] σ (Ret (.int .i64 (wordsL what width)) σ) := by
  refine okF Tryz.func156 (by kernel_rfl) ?_
  unfold wordsL
  refine callB [] (aLis what width _) (fun hi => ?_) (fun hi => ?_)
  · rw [if_pos hi]
    have h3 : (what = 1 ∨ what = 2 ∨ what = 3) := by unfold is12 at hi; simp at hi; omega
    refine bcond_dec (fun c1 => ?_) (fun c1 => ?_)
    · have c1 : what = 1 := c1
      rw [if_neg (by omega)]
      refine callR [] (aSize10 width _) ?_
      exact .done ⟨rfl, rfl⟩
    · have c1 : ¬ what = 1 := c1
      refine bcond_dec (fun c2 => ?_) (fun c2 => ?_)
      · have c2 : what = 2 := c2
        rw [if_neg (by omega)]
        refine callR [] (aSize10 width _) ?_
        exact .done ⟨rfl, rfl⟩
      · have c2 : ¬ what = 2 := c2
        rw [if_pos (by omega)]
        exact .done ⟨rfl, rfl⟩
  · rw [if_neg (by rw [hi]; decide)]
    exact .done ⟨rfl, rfl⟩
theorem wordsL_le (what width : Int) : 0 ≤ wordsL what width ∧ wordsL what width ≤ 1024 := by
  unfold wordsL
  by_cases h : is12 what width = true
  · rw [if_pos h]
    have := sizeW_le width
    unfold is12 at h; simp at h
    split <;> omega
  · rw [if_neg h]; omega
/-- Is it a value? -/
def okW (a : List Int) : Bool := a.all fun z => decide (normW z = z)
def valL (what w : Int) (a : List Int) : Bool := is12 what w && decide ((a.length : Int) = wordsL what w) && (if what = 3 then okW a else fitsW a w)
theorem is_norm (w : Int) : (numOk w || decide (w = 0) || decide (w = 1)) = decide (normW w = w) := by
  unfold normW
  by_cases h0 : w = 0
  · simp [h0]
  · by_cases h1 : w = 1
    · simp [h1]
    · cases h2 : numOk w with
      | true => simp [h0, h1]
      | false => simp [h0, h1]; exact fun h => h1 h.symm
theorem aIs1 (z : Int) (σ : Hp) : ACalls Tryz.prog 169 [.int .u64 z] σ (Ret (.bool (!decide (normW z = z))) σ) := by
  refine okF Tryz.func169 (by kernel_rfl) ?_
  refine callR [] (aIs z _) ?_
  rw [is_norm]
  exact .done ⟨rfl, rfl⟩
theorem okW_any (a : List Int) : (!a.any fun z => !decide (normW z = z)) = okW a := by
  unfold okW
  rw [List.all_eq_not_any_not]
theorem aLIs (what w : Int) (a : List Int) (σ : Hp) (ha : A64 a) (hl : a.length ≤ 1000000) : ACalls Tryz.prog 153 [.int .i64 what, .int .i64 w, .fsl (.int .u64) a] σ (Ret (.bool (valL what w a)) σ) := by
  refine okF Tryz.func153 (by kernel_rfl) ?_
  have hwl := wordsL_le what w
  unfold valL
  refine callB [] (aLis what w _) (fun hi => ?_) (fun hi => ?_)
  · refine callR [] (aLWords what w _) ?_
    refine bcond_split (fun c => ?_) (fun c => ?_)
    · have c : (!decide ((a.length : Int) = wordsL what w)) = true := c
      have c : ¬ ((a.length : Int) = wordsL what w) := by simpa using c
      rw [hi, decide_eq_false c]
      exact .done ⟨rfl, rfl⟩
    · have c : (!decide ((a.length : Int) = wordsL what w)) = false := c
      have c : (a.length : Int) = wordsL what w := by simpa using c
      rw [hi, decide_eq_true c]
      refine bcond_split (fun c3 => ?_) (fun c3 => ?_)
      · have c3 : ¬ (what = 3) := by simpa using c3
        rw [if_neg c3]
        refine callR [] (aFits10 a w _ ha (by omega)) ?_
        exact .done ⟨rfl, rfl⟩
      · have c3 : what = 3 := by simpa using c3
        rw [if_pos c3, ← okW_any]
        refine callR [] (aContainsU 169 [] a (fun z : Int => !decide (normW z = z)) _ hl (fun i hi => aIs1 _ _)) ?_
        exact .done ⟨rfl, rfl⟩
  · rw [hi]
    exact .done ⟨rfl, rfl⟩
set_option maxRecDepth 100000
theorem aCheck1 (what w : Int) (a : List Int) (q1 q2 : Nat) (σ : Hp) (ha : A64 a) (hl : a.length ≤ 1000000) : ACalls Tryz.prog 180 [.fsl (.int .u64) a, .ptr q1 0, .ptr q2 0] ((q2, [.int .i64 w]) :: (q1, [.int .i64 what]) :: σ) (Ret (.bool (!valL what w a)) ((q2, [.int .i64 w]) :: (q1, [.int .i64 what]) :: σ)) := by
  refine okF Tryz.func180 (by kernel_rfl) ?_
  refine LoadAt.mk 1 _ _ rfl rfl ?_
  refine LoadAt.mk 0 _ _ rfl rfl ?_
  refine callR [] (aLIs what w a _ ha hl) ?_
  exact .done ⟨rfl, rfl⟩
def checkL (what w : Int) (l : List (List Int)) : Int := if is12 what w then (if (l.any fun a => !valL what w a) then 2 else 0) else 10
theorem aLCheck (what w : Int) (l : List (List Int)) (σ : Hp) (hl : l.length ≤ 1000000) (ha : ∀ a ∈ l, A64 a ∧ a.length ≤ 1000000) : ACalls Tryz.prog 163 [.int .i64 what, .int .i64 w, .fsl (.slice (.int .u64)) l] σ (Ret (.int .i64 (checkL what w l)) σ) := by
  refine okF Tryz.func163 (by kernel_rfl) ?_
  unfold checkL
  intro q1
  intro q2
  refine LoadAt.mk 1 _ _ rfl rfl ?_
  refine LoadAt.mk 0 _ _ rfl rfl ?_
  refine callB [] (aLis what w _) (fun hi => ?_) (fun hi => ?_)
  · refine callB [] (aContainsUU 180 [.ptr q1 0, .ptr q2 0] l (fun a : List Int => !valL what w a) _ hl (fun i hi => aCheck1 what w l[i] q1 q2 _ (ha _ (List.getElem_mem hi)).1 (ha _ (List.getElem_mem hi)).2)) (fun hc => ?_) (fun hc => ?_)
    · exact .drop 0 2 (.done ⟨av_int (by rw [if_pos hi]; exact (if_pos hc).symm), rfl⟩)
    · exact .drop 0 2 (.done ⟨av_int (by rw [if_pos hi]; exact (if_neg (fun h => Bool.noConfusion (hc.symm.trans h))).symm), rfl⟩)
  · exact .drop 0 2 (.done ⟨av_int (if_neg (by rw [hi]; decide)).symm, rfl⟩)
theorem check_two {what w : Int} {a b : List Int} (h : checkL what w [a, b] = 0) : valL what w a = true ∧ valL what w b = true := by
  unfold checkL at h
  cases hi : is12 what w with
  | false => rw [hi] at h; exact absurd h (by simp)
  | true =>
    rw [hi, if_pos rfl] at h
    cases ha : valL what w a with
    | false => simp [ha] at h
    | true =>
      cases hb : valL what w b with
      | false => simp [ha, hb] at h
      | true => exact ⟨rfl, rfl⟩
theorem val_len {what w : Int} {a : List Int} (h : valL what w a = true) : (a.length : Int) = wordsL what w := by
  unfold valL at h; simp at h; exact h.1.2
/-- A list, if there is no error. -/
def okL (e : Int) (l : List Int) : List Int := if e = 0 then l else []
theorem okL_pos {e : Int} {l : List Int} (h : e = 0) : okL e l = l := if_pos h
theorem okL_neg {e : Int} {l : List Int} (h : ¬ e = 0) : okL e l = [] := if_neg h
/-- Such a list is handed back, with an errno. -/
theorem fin_acc2 {R : AV → Hp → Prop} (fr : Hp) {acc σ : Hp} {s : Sh} {k : Nat} {v y : AV} {cs : List AV} {l : List s.T} (h : Acc s.size k v acc cs) (hl : k = l.length) (hc : cs = l.flatMap s.cells) (hp : 0 < s.size) (go : Fin R (.tup [.fsl s l, y]) (fr ++ σ)) : Fin R (.tup [v, y]) (fr ++ (acc ++ σ)) := by
  subst hl
  have hlen := h.length
  refine .perm (front_perm' fr acc σ) ?_
  generalize hk : l.length = k at h
  cases h with
  | nil =>
    obtain rfl := List.length_eq_zero_iff.1 hk
    exact .nil (frz_cons (.nil _) (.refl _)) go
  | mref b k cs h =>
    subst hk
    exact .frz 0 b 0 l.length s.size cs s l rfl (by rw [List.drop_zero, List.take_of_length_le (by omega)]; exact hc) ⟨rfl, rfl, hp⟩ (frz_cons .here (.refl _)) go
theorem aLJoin (what w : Int) (xs ys : List Int) (σ : Hp) (hx : A64 xs) (hy : A64 ys) (lx : xs.length ≤ 1000000) (ly : ys.length ≤ 1000000) : ACalls Tryz.prog 137 [.int .i64 what, .int .i64 w, .fsl (.int .u64) xs, .fsl (.int .u64) ys] σ (Ret (.tup [.fsl (.int .u64) (okL (checkL what w [xs, ys]) (join12 what xs ys)), .int .i64 (checkL what w [xs, ys])]) σ) := by
  refine okF Tryz.func137 (by kernel_rfl) ?_
  intro b1
  have hl2 : ∀ a ∈ [xs, ys], A64 a ∧ a.length ≤ 1000000 := by
    intro a ha
    rcases List.mem_cons.1 ha with rfl | ha
    · exact ⟨hx, lx⟩
    · rw [List.mem_singleton.1 ha]; exact ⟨hy, ly⟩
  refine .frz (args' := [.int .i64 what, .int .i64 w, .fsl (.slice (.int .u64)) [xs, ys]]) 0 b1 0 2 1 _ (.slice (.int .u64)) [xs, ys] rfl rfl ⟨rfl, rfl, by decide⟩ (frz_cons (.refl _) (frz_cons (.refl _) (frz_cons .here frz_nil))) (callR [] (aLCheck what w [xs, ys] _ (by show 2 ≤ 1000000; omega) hl2) ?_)
  have hL := fun (h : checkL what w [xs, ys] = 0) => check_two h
  generalize checkL what w [xs, ys] = e at hL ⊢
  refine bcond_split (fun c => ?_) (fun c => ?_)
  · have c : ¬ (e = 0) := by simpa using c
    exact .nil (frz_cons (.nil _) (.refl _)) (.done ⟨by rw [okL_neg c]; rfl, rfl⟩)
  · have c : e = 0 := by simpa using c
    obtain ⟨v1, v2⟩ := hL c
    have h : xs.length = ys.length := by have h1 := val_len v1; have h2 := val_len v2; omega
    refine .wrap 11 _ rfl rfl ?_
    refine loopS (S := Nat × AV × Hp) (fun s => [(0, .int .i64 what), (2, .fsl (.int .u64) xs), (3, .fsl (.int .u64) ys), (11, .via s.2.1), (23, .int .i64 xs.length), (24, .int .i64 s.1)]) (fun s => s.2.2 ++ σ) (fun s => s.1 ≤ xs.length ∧ Acc 1 s.1 s.2.1 s.2.2 (woC ((join12 what xs ys).take s.1))) (fun s => xs.length - s.1) (0, .nils, []) ⟨⟨Nat.zero_le _, .nil⟩, ⟨rfl, rfl, rfl, rfl, rfl, rfl, trivial⟩, rfl⟩ ?_
    rintro ⟨k, v, acc⟩ g ⟨hk0, hacc0⟩
    have hk : k ≤ xs.length := hk0
    have hacc : Acc 1 k v acc (woC ((join12 what xs ys).take k)) := hacc0
    clear hk0 hacc0
    have hjl := join12_length what xs ys h
    refine bcond_dec (fun hlt => ?_) (fun hge => ?_)
    · have hlt : k < xs.length := by have hlt : (k : Int) < xs.length := hlt; omega
      have hlt2 : k < ys.length := by omega
      have hje : (join12 what xs ys)[k]'(by omega) = wordW what xs[k] ys[k] := by simp [join12]
      refine .sched [10] (upto [10] 14 0) (by kernel_rfl) ?_
      refine With.mk rfl ?_
      refine IdxF.mk xs[k] (by omega) (get_some hlt) ?_
      refine With.mk rfl ?_
      refine IdxF.mk ys[k] (by omega) (get_some hlt2) ?_
      refine callQ [] (aWord what xs[k] ys[k] _) ?_
      intro bl1
      refine append_acc [_] hacc (.mref 0 bl1 0 1 _ rfl (Nat.le_of_ble_eq_true rfl)) rfl (by omega) (by decide) (by decide) (fun v' acc' h' => ?_)
      refine nextS (k + 1, v', acc') (by show xs.length - (k + 1) < xs.length - k; omega) ⟨hlt, ?_⟩ ⟨rfl, rfl, rfl, rfl, rfl, inc64 (by omega), trivial⟩ (.drop 0 1 (shed_eq rfl))
      show Acc 1 (k + 1) v' acc' (woC ((join12 what xs ys).take (k + 1)))
      rw [List.take_succ_eq_append_getElem (by omega), hje, woC, List.map_append]
      exact h'
    · have hge : k = xs.length := by have hge : ¬ (k : Int) < xs.length := hge; omega
      subst hge
      rw [List.take_of_length_le (Nat.le_of_eq hjl)] at hacc
      exact fin_acc2 (s := .int .u64) (l := join12 what xs ys) [] hacc hjl.symm (by rw [woC_flat]) (by decide) (.done ⟨by rw [okL_pos c, c]; rfl, rfl⟩)
theorem join_64 {what : Int} : ∀ {xs ys : List Int}, A64 xs → A64 ys → A64 (join12 what xs ys)
  | [], _, _, _ => fun z hz => by simp [join12] at hz
  | _ :: _, [], _, _ => fun z hz => by simp [join12] at hz
  | x :: xs, y :: ys, hx, hy => fun z hz => by
    rcases List.mem_cons.1 (show z ∈ wordW what x y :: join12 what xs ys from hz) with rfl | hz
    · exact word_64 (hx _ (List.mem_cons_self ..)) (hy _ (List.mem_cons_self ..))
    · exact join_64 (fun a ha => hx a (List.mem_cons_of_mem _ ha)) (fun a ha => hy a (List.mem_cons_of_mem _ ha)) z hz
def belowL (what w : Int) (xs ys : List Int) : Bool := decide (checkL what w [xs, ys] = 0) && decide (join12 what xs ys = ys)
/-- The least value. -/
def botL (what w : Int) : List Int := if what = 2 ∧ is12 what w = true then fullW w else List.replicate (wordsL what w).toNat 0
theorem aLBottom (what w : Int) (σ : Hp) : ACalls Tryz.prog 133 [.int .i64 what, .int .i64 w] σ (Ret (.fsl (.int .u64) (botL what w)) σ) := by
  refine okF Tryz.func133 (by kernel_rfl) ?_
  have hw := wordsL_le what w
  have hz : botL what w = List.replicate (wordsL what w).toNat 0 → ∀ q, Fin (Ret (.fsl (.int .u64) (botL what w)) σ) (.mref q 0 (wordsL what w).toNat 1) ((q, repC [.int .u64 0] (wordsL what w).toNat) :: σ) := fun hb q => by
    rw [rep_woC, ← hb]
    have hl : (botL what w).length = (wordsL what w).toNat := by rw [hb, List.length_replicate]
    generalize botL what w = Z at hl
    refine .frz 0 q 0 _ 1 _ (.int .u64) Z rfl ?_ ⟨hl, rfl, by decide⟩ .here (.done ⟨rfl, rfl⟩)
    rw [List.drop_zero, ← woC_flat]
    exact List.take_of_length_le (by rw [woC, List.length_map, hl]; omega)
  refine bcond_dec (fun c => ?_) (fun c => ?_)
  · have c : what = 2 := c
    refine callB [] (aLis what w _) (fun hi => ?_) (fun hi => ?_)
    · refine callR [] (aFull w _) ?_
      have hb : botL what w = fullW w := if_pos ⟨c, hi⟩
      rw [hb]
      exact .done ⟨rfl, rfl⟩
    · refine callR [] (aLWords what w _) ?_
      refine With.mk ⟨by omega, by omega, by omega, by decide⟩ ?_
      intro q
      exact hz (if_neg fun h => Bool.noConfusion (hi.symm.trans h.2)) q
  · have c : ¬ what = 2 := c
    refine callR [] (aLWords what w _) ?_
    refine With.mk ⟨by omega, by omega, by omega, by decide⟩ ?_
    intro q
    exact hz (if_neg fun h => c h.1) q
end Go.Proofs.YtljbnigceammdaaGreatDoor
