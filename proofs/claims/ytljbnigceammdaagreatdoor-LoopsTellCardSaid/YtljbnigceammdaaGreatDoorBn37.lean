/-
  Zg: what the claim uses of them.
-/
import Derived.Test.YtljbnigceammdaaGreatDoorBn35
import Derived.Test.YtljbnigceammdaaGreatDoorBn36
namespace Go.Proofs.YtljbnigceammdaaGreatDoor
open Go.RowKit
set_option maxRecDepth 100000
abbrev prSh : Sh := .field (.int .i64) (.field (.int .i64) .nil)
theorem aCloneP (L : List PrT) (σ : Hp) (hl : L.length ≤ 1000000) (h0 : L ≠ []) : ACalls Tryz.prog 66 [.fsl prSh L] σ (fun x σ' => ∃ b, x = .mref b 0 L.length 2 ∧ σ' = (b, prC L) :: σ) := by
  refine okF Tryz.func66 (by kernel_rfl) ?_
  refine With.mk (List.length_pos_iff.2 h0) ?_
  intro b2
  refine AppendAt.more 0 b2 0 L.length [] (prC L) rfl rfl (Nat.le_of_ble_eq_true rfl) (.fsl _ _ rfl) (by omega) (by decide) (by decide) (fun b' => ?_)
  refine .done ⟨b', ?_, ?_⟩
  · rw [Nat.zero_add]; rfl
  · rfl
theorem aClonePN (σ : Hp) : ACalls Tryz.prog 66 [.nils] σ (Ret .nils σ) := by
  refine okF Tryz.func66 (by kernel_rfl) ?_
  exact .done ⟨rfl, rfl⟩
theorem aClonePZ (σ : Hp) : ACalls Tryz.prog 66 [.esl] σ (fun x σ' => ∃ b, x = .mref b 0 0 2 ∧ σ' = (b, []) :: σ) := by
  refine okF Tryz.func66 (by kernel_rfl) ?_
  intro b2
  refine AppendAt.more 0 b2 0 0 [] [] rfl rfl (Nat.le_of_ble_eq_true rfl) .esl (by omega) (by decide) (by decide) (fun b' => ?_)
  exact .done ⟨b', rfl, rfl⟩
theorem aSortPN (σ : Hp) : ACalls Tryz.prog 67 [.nils, .fn (.func 68) [] []] σ (Ret (.tup []) σ) := by
  refine ⟨enters_sortP, fun F w vs hvs hσ => ?_⟩
  obtain ⟨v, u, rfl⟩ := two_args hvs.1
  have hv : VRel F w .nils v := hvs.2 0 _ rfl
  cases hv
  have h : Calls Tryz.prog 67 #[.slice none 0 0, u] w fun e w' => e = .returned (.tuple #[]) ∧ w' = w := AnyF.slices_SortFunc_none laysF6 none 0 u w
  refine h.mono ?_
  rintro e w' ⟨rfl, rfl⟩
  exact ⟨.tup [], .tuple #[], _, F, rfl, .refl _ _, hσ, .tup [] #[] rfl fun i x h => by simp at h, rfl, rfl⟩
theorem aCompactPN (σ : Hp) : ACalls Tryz.prog 71 [.nils, .fn (.func 72) [] []] σ (Ret .nils σ) := by
  refine okF Tryz.func71 (by kernel_rfl) ?_
  exact .done ⟨rfl, rfl⟩
/-- Edges in order, each once. -/
def sortedE (L : List PrT) : List PrT := compP (sortP L)
theorem aFlowSorted (L : List PrT) (σ : Hp) (hl : L.length ≤ 1000000) : ACalls Tryz.prog 39 [.fsl prSh L] σ (Ret (.fsl prSh (sortedE L)) σ) := by
  have hn : sortP [] = [] := List.length_eq_zero_iff.1 (sortP_length [])
  have hn2 : sortedE [] = [] := by unfold sortedE; rw [hn]; rfl
  refine acalls_fsl (fun h => ?_) (fun h => ?_)
  · subst h
    refine ⟨?_, ?_⟩
    · refine okF Tryz.func39 (by kernel_rfl) ?_
      refine callR [] (aClonePN σ) ?_
      refine callR [] (aSortPN _) ?_
      refine callR [] (aCompactPN _) ?_
      exact .nil (.nil prSh) (.done ⟨congrArg (AV.fsl prSh) hn2.symm, rfl⟩)
    · refine okF Tryz.func39 (by kernel_rfl) ?_
      refine .mk [] _ (aClonePZ σ) ?_
      rintro _ _ ⟨b, rfl, rfl⟩
      have hs := aSortP b [] 0 σ rfl (by decide)
      rw [hn] at hs
      refine callR [] hs ?_
      refine .mk [] _ (aCompactP b [] σ (by decide)) ?_
      rintro _ _ ⟨k, cs, hk, hcs, rfl, rfl⟩
      subst hk
      exact .frz 0 b 0 _ 2 cs prSh ([] : List PrT) rfl hcs ⟨rfl, rfl, by decide⟩ .here (.done ⟨congrArg (AV.fsl prSh) hn2.symm, rfl⟩)
  · refine okF Tryz.func39 (by kernel_rfl) ?_
    refine .mk [] _ (aCloneP L σ hl h) ?_
    rintro _ _ ⟨b, rfl, rfl⟩
    refine callR [] (aSortP b L L.length σ rfl hl) ?_
    have hsl : (sortP L).length = L.length := sortP_length L
    have hc := aCompactP b (sortP L) σ (by rw [hsl]; exact hl)
    rw [hsl] at hc
    refine .mk [] _ hc ?_
    rintro _ _ ⟨k, cs, hk, hcs, rfl, rfl⟩
    subst hk
    exact .frz 0 b 0 _ 2 cs prSh (sortedE L) rfl hcs ⟨rfl, rfl, by decide⟩ .here (.done ⟨rfl, rfl⟩)
set_option maxRecDepth 100000
def ltP (x y : PrT) : Prop := x.1 < y.1 ∨ (x.1 = y.1 ∧ x.2.1 < y.2.1)
def leP (x y : PrT) : Prop := x.1 < y.1 ∨ (x.1 = y.1 ∧ x.2.1 ≤ y.2.1)
theorem pr_ext {x y : PrT} (h1 : x.1 = y.1) (h2 : x.2.1 = y.2.1) : x = y := by
  obtain ⟨a, b, _⟩ := x
  obtain ⟨c, d, _⟩ := y
  simp only at h1 h2
  rw [h1, h2]
theorem incP_ext : ∀ {l m : List PrT}, l.Pairwise ltP → m.Pairwise ltP → (∀ x, x ∈ l ↔ x ∈ m) → l = m
  | [], [], _, _, _ => rfl
  | [], y :: m, _, _, h => absurd ((h y).2 (List.mem_cons_self ..)) List.not_mem_nil
  | x :: l, [], _, _, h => absurd ((h x).1 (List.mem_cons_self ..)) List.not_mem_nil
  | x :: l, y :: m, hl, hm, h => by
    have h1 := List.pairwise_cons.1 hl
    have h2 := List.pairwise_cons.1 hm
    have hxy : x = y := by
      have a := (h x).1 (List.mem_cons_self ..)
      have b := (h y).2 (List.mem_cons_self ..)
      rcases List.mem_cons.1 a with a | a
      · exact a
      · rcases List.mem_cons.1 b with b | b
        · exact b.symm
        · have p := h1.1 y b
          have q := h2.1 x a
          unfold ltP at p q
          omega
    subst hxy
    refine congrArg (x :: ·) (incP_ext h1.2 h2.2 fun z => ⟨fun hz => ?_, fun hz => ?_⟩)
    · rcases List.mem_cons.1 ((h z).1 (List.mem_cons_of_mem _ hz)) with e | e
      · subst e
        have p := h1.1 z hz
        unfold ltP at p
        omega
      · exact e
    · rcases List.mem_cons.1 ((h z).2 (List.mem_cons_of_mem _ hz)) with e | e
      · subst e
        have p := h2.1 z hz
        unfold ltP at p
        omega
      · exact e
theorem sortP_sorted (l : List PrT) : (sortP l).Pairwise leP := by
  have := List.pairwise_mergeSort (le := fun x y : PrT => !(ltOf cmpP) y x) (fun a b c h1 h2 => by
    rw [lt_cmpP] at *
    simp only [Bool.not_eq_true', decide_eq_false_iff_not] at *
    omega) (fun a b => by
    rw [lt_cmpP, lt_cmpP, Bool.or_eq_true]
    simp only [Bool.not_eq_true', decide_eq_false_iff_not]
    omega) l
  refine this.imp fun {x y} h => ?_
  rw [lt_cmpP] at h
  simp only [Bool.not_eq_true', decide_eq_false_iff_not] at h
  unfold leP
  omega
theorem sortP_mem (l : List PrT) (x : PrT) : x ∈ sortP l ↔ x ∈ l := List.mem_mergeSort
theorem leP_get {l : List PrT} (h : l.Pairwise leP) {i j : Nat} (hij : i ≤ j) (hj : j < l.length) : leP (l[i]'(by omega)) l[j] := by
  by_cases e : i = j
  · subst e; exact .inr ⟨rfl, Int.le_refl _⟩
  · exact List.pairwise_iff_getElem.1 h i j (by omega) hj (by omega)
theorem compP_inc {l : List PrT} (h : l.Pairwise leP) : (compP l).Pairwise ltP := by
  unfold compP compU
  rw [List.pairwise_map]
  have hr : ((List.range l.length).filter (keepJ l)).Pairwise fun i j => i < j ∧ j < l.length ∧ keepJ l j = true := by
    have h1 : (List.range l.length).Pairwise fun i j => i < j ∧ j < l.length := by
      rw [List.pairwise_iff_getElem]
      intro i j hi hj hij
      simp only [List.getElem_range]
      exact ⟨hij, by simpa using hj⟩
    rw [List.pairwise_filter]
    exact h1.imp fun hij _ hk => ⟨hij.1, hij.2, hk⟩
  refine hr.imp fun {i j} ⟨h1, h2, h3⟩ => ?_
  have hk : l[j] ≠ l[j - 1]'(by omega) := by
    unfold keepJ at h3
    rw [getDE h2, getDE (show j - 1 < l.length by omega)] at h3
    simp only [Bool.or_eq_true, decide_eq_true_eq, Bool.not_eq_true', decide_eq_false_iff_not] at h3
    rcases h3 with h3 | h3
    · omega
    · exact h3
  rw [getDE h2, getDE (show i < l.length by omega)]
  have q1 := leP_get h (i := i) (j := j - 1) (by omega) (by omega)
  have q2 := leP_get h (i := j - 1) (j := j) (by omega) h2
  have hne : ¬ ((l[j]).1 = (l[j - 1]'(by omega)).1 ∧ (l[j]).2.1 = (l[j - 1]'(by omega)).2.1) := fun e => hk (pr_ext e.1 e.2)
  unfold leP at q1 q2
  unfold ltP
  omega
theorem compP_mem {l : List PrT} (x : PrT) : x ∈ compP l ↔ x ∈ l := by
  unfold compP compU
  constructor
  · intro hx
    obtain ⟨j, hj, rfl⟩ := List.mem_map.1 hx
    have hj := List.mem_range.1 (List.mem_filter.1 hj).1
    rw [getDE hj]; exact List.getElem_mem hj
  · intro hx
    obtain ⟨j, ⟨hj, e⟩, hmin⟩ : ∃ j, (∃ h : j < l.length, l[j] = x) ∧ ∀ k, k < j → ¬ ∃ h : k < l.length, l[k] = x := by
      obtain ⟨j, hj, e⟩ := List.mem_iff_getElem.1 hx
      have hj : ∃ h : j < l.length, l[j] = x := ⟨hj, e⟩
      clear e
      induction j using Nat.strongRecOn with
      | ind j ih =>
        by_cases hk : ∃ k, k < j ∧ ∃ h : k < l.length, l[k] = x
        · obtain ⟨k, h1, h2⟩ := hk
          exact ih k h1 h2.1 h2
        · exact ⟨j, hj, fun k h1 h2 => hk ⟨k, h1, h2⟩⟩
    refine List.mem_map.2 ⟨j, List.mem_filter.2 ⟨List.mem_range.2 hj, ?_⟩, by rw [getDE hj]; exact e⟩
    unfold keepJ
    by_cases h0 : j = 0
    · rw [decide_eq_true h0]; rfl
    · rw [decide_eq_false h0, Bool.false_or, getDE hj, getDE (show j - 1 < l.length by omega)]
      rw [Bool.not_eq_true', decide_eq_false_iff_not]
      exact fun h => hmin (j - 1) (by omega) ⟨by omega, h.symm.trans e⟩
theorem sortedE_inc (l : List PrT) : (sortedE l).Pairwise ltP := compP_inc (sortP_sorted l)
theorem sortedE_mem (l : List PrT) (x : PrT) : x ∈ sortedE l ↔ x ∈ l := by unfold sortedE; rw [compP_mem, sortP_mem]
/-- The reference's way: put in where it belongs, unless it is there. -/
def insE (x : PrT) : List PrT → List PrT
  | [] => [x]
  | y :: r => if x.1 < y.1 ∨ (x.1 = y.1 ∧ x.2.1 ≤ y.2.1) then (if x = y then y :: r else x :: y :: r) else y :: insE x r
theorem insE_mem (x : PrT) : ∀ (l : List PrT) (z : PrT), z ∈ insE x l ↔ z = x ∨ z ∈ l
  | [], z => by unfold insE; rw [List.mem_singleton]; simp
  | y :: r, z => by
    unfold insE
    split
    · split
      · rename_i h; subst h; rw [List.mem_cons]
        exact ⟨fun h => .inr h, fun h => h.elim .inl id⟩
      · rw [List.mem_cons]
    · rw [List.mem_cons, insE_mem x r z, List.mem_cons]
      exact ⟨fun h => h.elim (fun h => .inr (.inl h)) fun h => h.elim .inl fun h => .inr (.inr h), fun h => h.elim (fun h => .inr (.inl h)) fun h => h.elim .inl fun h => .inr (.inr h)⟩
theorem insE_inc (x : PrT) : ∀ {l : List PrT}, l.Pairwise ltP → (insE x l).Pairwise ltP
  | [], _ => List.pairwise_singleton ..
  | y :: r, h => by
    have h1 := List.pairwise_cons.1 h
    unfold insE
    split
    · rename_i hle
      split
      · exact h
      · rename_i hne
        have hlt : ltP x y := by
          have : ¬ (x.1 = y.1 ∧ x.2.1 = y.2.1) := fun e => hne (pr_ext e.1 e.2)
          unfold ltP
          omega
        refine List.pairwise_cons.2 ⟨fun z hz => ?_, h⟩
        rcases List.mem_cons.1 hz with e | e
        · rw [e]; exact hlt
        · have := h1.1 z e
          unfold ltP at this hlt ⊢
          omega
    · rename_i hgt
      refine List.pairwise_cons.2 ⟨fun z hz => ?_, insE_inc x h1.2⟩
      rcases (insE_mem x r z).1 hz with e | e
      · rw [e]; unfold ltP; omega
      · exact h1.1 z e
theorem fold_ins (l : List PrT) : l.foldl (fun o x => insE x o) [] = sortedE l := by
  have key : ∀ (l o : List PrT), o.Pairwise ltP → (l.foldl (fun o x => insE x o) o).Pairwise ltP ∧ ∀ z, z ∈ l.foldl (fun o x => insE x o) o ↔ z ∈ o ∨ z ∈ l := by
    intro l
    induction l with
    | nil => intro o ho; exact ⟨ho, fun z => by simp⟩
    | cons x l ih =>
      intro o ho
      obtain ⟨k1, k2⟩ := ih (insE x o) (insE_inc x ho)
      refine ⟨k1, fun z => ?_⟩
      rw [List.foldl_cons, k2, insE_mem, List.mem_cons]
      exact ⟨fun h => h.elim (fun h => h.elim (fun h => .inr (.inl h)) .inl) fun h => .inr (.inr h), fun h => h.elim (fun h => .inl (.inr h)) fun h => h.elim (fun h => .inl (.inl h)) .inr⟩
  obtain ⟨k1, k2⟩ := key l [] List.Pairwise.nil
  refine incP_ext k1 (sortedE_inc l) fun z => ?_
  rw [k2, sortedE_mem]; simp
set_option maxRecDepth 100000
def insK (B : List PrT) (k : Nat) : List PrT := (B.take k).foldl (fun o x => insE x o) []
theorem insK_succ {B : List PrT} {k : Nat} (h : k < B.length) : insK B (k + 1) = insE B[k] (insK B k) := by
  unfold insK; rw [List.take_succ_eq_append_getElem h, List.foldl_append]; rfl
theorem insE_len (x : PrT) : ∀ l, (insE x l).length ≤ l.length + 1
  | [] => Nat.le_refl _
  | y :: r => by
    unfold insE
    split
    · split
      · simp only [List.length_cons]; omega
      · simp only [List.length_cons]; omega
    · have := insE_len x r
      simp only [List.length_cons]; omega
theorem insK_len (B : List PrT) : ∀ k, k ≤ B.length → (insK B k).length ≤ k
  | 0, _ => Nat.le_refl _
  | k + 1, h => by
    have h1 := insK_len B k (by omega)
    rw [insK_succ (by omega)]
    exact Nat.le_trans (insE_len _ _) (by omega)
def rest (x : PrT) (d : Bool) (l : List PrT) : List PrT := match d with | true => l | false => insE x l
def dn : Bool → Nat
  | true => 1
  | false => 0
theorem insE_hit1 {x y : PrT} {r : List PrT} (h : x.1 < y.1 ∨ (x.1 = y.1 ∧ x.2.1 ≤ y.2.1)) (e : x = y) : insE x (y :: r) = y :: r := by rw [insE, if_pos h, if_pos e]
theorem insE_hit2 {x y : PrT} {r : List PrT} (h : x.1 < y.1 ∨ (x.1 = y.1 ∧ x.2.1 ≤ y.2.1)) (e : ¬ x = y) : insE x (y :: r) = x :: y :: r := by rw [insE, if_pos h, if_neg e]
theorem insE_miss {x y : PrT} {r : List PrT} (h : ¬ (x.1 < y.1 ∨ (x.1 = y.1 ∧ x.2.1 ≤ y.2.1))) : insE x (y :: r) = y :: insE x r := by rw [insE, if_neg h]
theorem prC_app (N M : List PrT) : prC (N ++ M) = prC N ++ prC M := List.flatMap_append
theorem aRSorted (B : List PrT) (σ : Hp) (hl : B.length ≤ 100000) : ACalls Tryz.prog 49 [.fsl prSh B] σ (Ret (.fsl prSh (insK B B.length)) σ) := by
  refine okF Tryz.func49 (by kernel_rfl) ?_
  refine .wrap 3 _ rfl rfl ?_
  refine loopS (S := Nat × AV × Hp) (fun s => [(3, .via s.2.1), (10, .fsl prSh B), (11, .int .i64 B.length), (12, .int .i64 s.1)]) (fun s => s.2.2 ++ σ) (fun s => s.1 ≤ B.length ∧ Acc 2 (insK B s.1).length s.2.1 s.2.2 (prC (insK B s.1))) (fun s => B.length - s.1) (0, .nils, []) ⟨⟨Nat.zero_le _, .nil⟩, ⟨rfl, rfl, rfl, rfl, trivial⟩, rfl⟩ ?_
  rintro ⟨k, v, acc⟩ g ⟨hk0, hacc0⟩
  have hk : k ≤ B.length := hk0
  have hacc : Acc 2 (insK B k).length v acc (prC (insK B k)) := hacc0
  clear hk0 hacc0
  have hol := insK_len B k hk
  refine bcond_dec (fun hlt => ?_) (fun hge => ?_)
  · have hlt : k < B.length := by have hlt : (k : Int) < B.length := hlt; omega
    have hs := insK_succ hlt
    obtain ⟨x, hx⟩ : ∃ x : PrT, B[k] = x := ⟨_, rfl⟩
    rw [hx] at hs
    obtain ⟨x1, x2, xu⟩ := x
    refine With.mk rfl (IdxF.mk (x1, x2, xu) (by omega) ((get_some hlt).trans (congrArg some hx)) ?_)
    intro bl1
    refine StoreAt.mk 0 _ _ rfl rfl ?_
    generalize hO : insK B k = O at hacc hs hol
    generalize hm : O.length = m at hacc hol
    generalize hC : prC O = C at hacc
    cases hacc with
    | nil =>
      have hO0 : O = [] := List.length_eq_zero_iff.1 hm
      subst hO0
      refine loopS (S := Unit) (fun _ => [(5, .ptr bl1 0), (6, .nils), (7, .bool false), (10, .fsl prSh B), (11, .int .i64 B.length), (12, .int .i64 k), (17, .int .i64 0), (18, .int .i64 0)]) (fun _ => (bl1, PrF (x1, x2, xu)) :: ([] ++ σ)) (fun _ => True) (fun _ => 0) () ⟨trivial, ⟨rfl, rfl, rfl, rfl, rfl, rfl, rfl, rfl, trivial⟩, rfl⟩ ?_
      intro _ g _
      refine LoadAt.mk 0 _ _ rfl rfl ?_
      intro bl2
      refine append_acc (acc := []) (σ := σ) (k := 0) (v := .nils) (cs := []) [_, _] .nil (.mref 0 bl2 0 1 _ rfl (Nat.le_of_ble_eq_true rfl)) rfl (by omega) (by decide) (by decide) (fun v' acc' h' => ?_)
      refine nextS (k + 1, v', acc') (by show B.length - (k + 1) < B.length - k; omega) ⟨(show k + 1 ≤ B.length by omega), ?_⟩ ⟨rfl, rfl, rfl, inc64 (by omega), trivial⟩ (.drop 0 2 (shed_eq rfl))
      show Acc 2 (insK B (k + 1)).length v' acc' (prC (insK B (k + 1)))
      rw [hs]
      exact h'
    | mref b m cs h =>
      subst hC
      subst hm
      refine .wrap 6 _ rfl rfl ?_
      refine loopS (S := Nat × Bool × AV × Hp × List PrT) (fun s => [(5, .ptr bl1 0), (6, .via s.2.2.1), (7, .bool s.2.1), (10, .fsl prSh B), (11, .int .i64 B.length), (12, .int .i64 k), (16, .via (.mref b 0 O.length 2)), (17, .int .i64 O.length), (18, .int .i64 s.1)]) (fun s => (bl1, PrF (x1, x2, xu)) :: (b, prC O) :: (s.2.2.2.1 ++ σ)) (fun s => s.1 ≤ O.length ∧ Acc 2 s.2.2.2.2.length s.2.2.1 s.2.2.2.1 (prC s.2.2.2.2) ∧ s.2.2.2.2.length ≤ s.1 + dn s.2.1 ∧ s.2.2.2.2 ++ rest (x1, x2, xu) s.2.1 (O.drop s.1) = insE (x1, x2, xu) O) (fun s => O.length - s.1) (0, false, .nils, [], []) ⟨⟨Nat.zero_le _, .nil, Nat.zero_le _, rfl⟩, ⟨rfl, rfl, rfl, rfl, rfl, rfl, rfl, rfl, rfl, trivial⟩, rfl⟩ ?_
      rintro ⟨j, d, v2, acc2, N⟩ g ⟨hj0, ha0, hn0, hr0⟩
      have hj : j ≤ O.length := hj0
      have ha2 : Acc 2 N.length v2 acc2 (prC N) := ha0
      have hn : N.length ≤ j + dn d := hn0
      have hr : N ++ rest (x1, x2, xu) d (O.drop j) = insE (x1, x2, xu) O := hr0
      clear hj0 ha0 hn0 hr0
      refine bcond_dec (fun h1 => ?_) (fun h1 => ?_)
      · have h1 : j < O.length := by have h1 : (j : Int) < O.length := h1; omega
        have hy : O[j]? = some O[j] := List.getElem?_eq_getElem h1
        have hdr : O.drop j = O[j] :: O.drop (j + 1) := List.drop_eq_getElem_cons h1
        refine With.mk ⟨rfl, (show (0 : Int) ≤ (j : Int) by omega), (show (j : Int) < (O.length : Int) by omega)⟩ ?_
        refine LoadAt.mk 1 _ (.agg (PrF O[j])) rfl (row_read rfl rfl prF_len h1 rfl) ?_
        generalize O[j] = y at hy hdr
        rw [hdr] at hr
        obtain ⟨y1, y2, yu⟩ := y
        intro bl3
        refine StoreAt.mk 0 _ _ rfl rfl ?_
        cases d with
        | true =>
          have hn : N.length ≤ j + 1 := hn
          have hL : (N).length + 1 ≤ j + 1 + dn true := by exact Nat.succ_le_succ hn
          have hL1 : dn true ≤ 1 := by decide
          refine LoadAt.mk 0 _ _ rfl rfl ?_
          intro bl4
          refine append_acc [_, _, _, _] ha2 (.mref 0 bl4 0 1 _ rfl (Nat.le_of_ble_eq_true rfl)) rfl (by omega) (by decide) (by decide) (fun v3 acc3 h3 => ?_)
          refine nextS (j + 1, true, v3, acc3, N ++ [(y1, y2, yu)]) (by show O.length - (j + 1) < O.length - j; omega) ⟨(show j + 1 ≤ O.length by omega), ?_, ?_, ?_⟩ ⟨rfl, rfl, rfl, rfl, rfl, rfl, rfl, rfl, inc64 (k := j) (by omega), trivial⟩ (.drop 0 2 (shed_eq rfl))
          · show Acc 2 (N ++ [(y1, y2, yu)]).length v3 acc3 (prC (N ++ [(y1, y2, yu)]))
            rw [List.length_append, prC_app]; exact h3
          · show (N ++ [(y1, y2, yu)]).length ≤ j + 1 + dn true
            rw [List.length_append]; exact hL
          · show (N ++ [(y1, y2, yu)]) ++ rest (x1, x2, xu) true (O.drop (j + 1)) = insE (x1, x2, xu) O
            rw [List.append_assoc]; exact hr
        | false =>
          have hn : N.length ≤ j := hn
          have hr : N ++ insE (x1, x2, xu) ((y1, y2, yu) :: O.drop (j + 1)) = insE (x1, x2, xu) O := hr
          refine LoadAt.mk 1 _ _ rfl rfl ?_
          refine LoadAt.mk 0 _ _ rfl rfl ?_
          refine bcond_dec (p := x1 < y1) (fun c1 => ?_) (fun c1 => ?_)
          · have hh : x1 < y1 ∨ (x1 = y1 ∧ x2 ≤ y2) := .inl c1
            refine LoadAt.mk 1 _ _ rfl rfl ?_
            refine LoadAt.mk 0 _ _ rfl rfl ?_
            refine .mk (by kernel_rfl) (by kernel_rfl) ?_
            refine bcond_split (fun c => ?_) (fun c => ?_)
            · have c : (!allB [decide (x1 = y1), decide (x2 = y2)]) = true := c
              have c5 : ¬ (x1 = y1 ∧ x2 = y2) := fun e => by rw [decide_eq_true e.1, decide_eq_true e.2] at c; cases c
              have hne : ¬ (((x1, x2, xu) : PrT) = (y1, y2, yu)) := fun e => c5 ⟨congrArg (fun z : PrT => z.1) e, congrArg (fun z : PrT => z.2.1) e⟩
              rw [insE_hit2 hh hne] at hr
              refine LoadAt.mk 1 _ _ rfl rfl ?_
              intro bl5
              refine append_acc [_, _, _, _] ha2 (.mref 0 bl5 0 1 _ rfl (Nat.le_of_ble_eq_true rfl)) rfl (by omega) (by decide) (by decide) (fun v4 acc4 h4 => ?_)
              have ha4 : Acc 2 (N ++ [(x1, x2, xu)]).length v4 acc4 (prC (N ++ [(x1, x2, xu)])) := by rw [List.length_append, prC_app]; exact h4
              have hL : ((N ++ [(x1, x2, xu)])).length + 1 ≤ j + 1 + dn true := by rw [List.length_append]; exact Nat.succ_le_succ (Nat.succ_le_succ hn)
              have hL1 : dn true ≤ 1 := by decide
              refine LoadAt.mk 1 _ _ rfl rfl ?_
              intro bl4
              refine append_acc [_, _, _, _, _] ha4 (.mref 0 bl4 0 1 _ rfl (Nat.le_of_ble_eq_true rfl)) rfl (by omega) (by decide) (by decide) (fun v3 acc3 h3 => ?_)
              refine nextS (j + 1, true, v3, acc3, (N ++ [(x1, x2, xu)]) ++ [(y1, y2, yu)]) (by show O.length - (j + 1) < O.length - j; omega) ⟨(show j + 1 ≤ O.length by omega), ?_, ?_, ?_⟩ ⟨rfl, rfl, rfl, rfl, rfl, rfl, rfl, rfl, inc64 (k := j) (by omega), trivial⟩ (.drop 0 3 (shed_eq rfl))
              · show Acc 2 ((N ++ [(x1, x2, xu)]) ++ [(y1, y2, yu)]).length v3 acc3 (prC ((N ++ [(x1, x2, xu)]) ++ [(y1, y2, yu)]))
                rw [List.length_append, prC_app]; exact h3
              · show ((N ++ [(x1, x2, xu)]) ++ [(y1, y2, yu)]).length ≤ j + 1 + dn true
                rw [List.length_append]; exact hL
              · show ((N ++ [(x1, x2, xu)]) ++ [(y1, y2, yu)]) ++ rest (x1, x2, xu) true (O.drop (j + 1)) = insE (x1, x2, xu) O
                rw [List.append_assoc, List.append_assoc]; exact hr
            · have c : (!allB [decide (x1 = y1), decide (x2 = y2)]) = false := c
              have he : ((x1, x2, xu) : PrT) = (y1, y2, yu) := by
                have c6 : allB [decide (x1 = y1), decide (x2 = y2)] = true := by simpa using c
                exact pr_ext (by simp [allB] at c6; exact c6.1) (by simp [allB] at c6; exact c6.2)
              rw [insE_hit1 hh he] at hr
              have hL : (N).length + 1 ≤ j + 1 + dn true := by exact Nat.le_succ_of_le (Nat.succ_le_succ hn)
              have hL1 : dn true ≤ 1 := by decide
              refine LoadAt.mk 0 _ _ rfl rfl ?_
              intro bl4
              refine append_acc [_, _, _, _] ha2 (.mref 0 bl4 0 1 _ rfl (Nat.le_of_ble_eq_true rfl)) rfl (by omega) (by decide) (by decide) (fun v3 acc3 h3 => ?_)
              refine nextS (j + 1, true, v3, acc3, N ++ [(y1, y2, yu)]) (by show O.length - (j + 1) < O.length - j; omega) ⟨(show j + 1 ≤ O.length by omega), ?_, ?_, ?_⟩ ⟨rfl, rfl, rfl, rfl, rfl, rfl, rfl, rfl, inc64 (k := j) (by omega), trivial⟩ (.drop 0 2 (shed_eq rfl))
              · show Acc 2 (N ++ [(y1, y2, yu)]).length v3 acc3 (prC (N ++ [(y1, y2, yu)]))
                rw [List.length_append, prC_app]; exact h3
              · show (N ++ [(y1, y2, yu)]).length ≤ j + 1 + dn true
                rw [List.length_append]; exact hL
              · show (N ++ [(y1, y2, yu)]) ++ rest (x1, x2, xu) true (O.drop (j + 1)) = insE (x1, x2, xu) O
                rw [List.append_assoc]; exact hr
          refine LoadAt.mk 1 _ _ rfl rfl ?_
          refine LoadAt.mk 0 _ _ rfl rfl ?_
          refine bcond_dec (p := x1 = y1) (fun c2 => ?_) (fun c2 => ?_)
          rotate_left
          · rw [insE_miss (show ¬ (x1 < y1 ∨ (x1 = y1 ∧ x2 ≤ y2)) by omega)] at hr
            have hL : (N).length + 1 ≤ j + 1 + dn false := by exact Nat.succ_le_succ hn
            have hL1 : dn false ≤ 1 := by decide
            refine LoadAt.mk 0 _ _ rfl rfl ?_
            intro bl4
            refine append_acc [_, _, _, _] ha2 (.mref 0 bl4 0 1 _ rfl (Nat.le_of_ble_eq_true rfl)) rfl (by omega) (by decide) (by decide) (fun v3 acc3 h3 => ?_)
            refine nextS (j + 1, false, v3, acc3, N ++ [(y1, y2, yu)]) (by show O.length - (j + 1) < O.length - j; omega) ⟨(show j + 1 ≤ O.length by omega), ?_, ?_, ?_⟩ ⟨rfl, rfl, rfl, rfl, rfl, rfl, rfl, rfl, inc64 (k := j) (by omega), trivial⟩ (.drop 0 2 (shed_eq rfl))
            · show Acc 2 (N ++ [(y1, y2, yu)]).length v3 acc3 (prC (N ++ [(y1, y2, yu)]))
              rw [List.length_append, prC_app]; exact h3
            · show (N ++ [(y1, y2, yu)]).length ≤ j + 1 + dn false
              rw [List.length_append]; exact hL
            · show (N ++ [(y1, y2, yu)]) ++ rest (x1, x2, xu) false (O.drop (j + 1)) = insE (x1, x2, xu) O
              rw [List.append_assoc]; exact hr
          refine LoadAt.mk 1 _ _ rfl rfl ?_
          refine LoadAt.mk 0 _ _ rfl rfl ?_
          refine bcond_dec (p := x2 ≤ y2) (fun c3 => ?_) (fun c3 => ?_)
          rotate_left
          · rw [insE_miss (show ¬ (x1 < y1 ∨ (x1 = y1 ∧ x2 ≤ y2)) by omega)] at hr
            have hL : (N).length + 1 ≤ j + 1 + dn false := by exact Nat.succ_le_succ hn
            have hL1 : dn false ≤ 1 := by decide
            refine LoadAt.mk 0 _ _ rfl rfl ?_
            intro bl4
            refine append_acc [_, _, _, _] ha2 (.mref 0 bl4 0 1 _ rfl (Nat.le_of_ble_eq_true rfl)) rfl (by omega) (by decide) (by decide) (fun v3 acc3 h3 => ?_)
            refine nextS (j + 1, false, v3, acc3, N ++ [(y1, y2, yu)]) (by show O.length - (j + 1) < O.length - j; omega) ⟨(show j + 1 ≤ O.length by omega), ?_, ?_, ?_⟩ ⟨rfl, rfl, rfl, rfl, rfl, rfl, rfl, rfl, inc64 (k := j) (by omega), trivial⟩ (.drop 0 2 (shed_eq rfl))
            · show Acc 2 (N ++ [(y1, y2, yu)]).length v3 acc3 (prC (N ++ [(y1, y2, yu)]))
              rw [List.length_append, prC_app]; exact h3
            · show (N ++ [(y1, y2, yu)]).length ≤ j + 1 + dn false
              rw [List.length_append]; exact hL
            · show (N ++ [(y1, y2, yu)]) ++ rest (x1, x2, xu) false (O.drop (j + 1)) = insE (x1, x2, xu) O
              rw [List.append_assoc]; exact hr
          · have hh : x1 < y1 ∨ (x1 = y1 ∧ x2 ≤ y2) := .inr ⟨c2, c3⟩
            refine LoadAt.mk 1 _ _ rfl rfl ?_
            refine LoadAt.mk 0 _ _ rfl rfl ?_
            refine .mk (by kernel_rfl) (by kernel_rfl) ?_
            refine bcond_split (fun c => ?_) (fun c => ?_)
            · have c : (!allB [decide (x1 = y1), decide (x2 = y2)]) = true := c
              have c5 : ¬ (x1 = y1 ∧ x2 = y2) := fun e => by rw [decide_eq_true e.1, decide_eq_true e.2] at c; cases c
              have hne : ¬ (((x1, x2, xu) : PrT) = (y1, y2, yu)) := fun e => c5 ⟨congrArg (fun z : PrT => z.1) e, congrArg (fun z : PrT => z.2.1) e⟩
              rw [insE_hit2 hh hne] at hr
              refine LoadAt.mk 1 _ _ rfl rfl ?_
              intro bl5
              refine append_acc [_, _, _, _] ha2 (.mref 0 bl5 0 1 _ rfl (Nat.le_of_ble_eq_true rfl)) rfl (by omega) (by decide) (by decide) (fun v4 acc4 h4 => ?_)
              have ha4 : Acc 2 (N ++ [(x1, x2, xu)]).length v4 acc4 (prC (N ++ [(x1, x2, xu)])) := by rw [List.length_append, prC_app]; exact h4
              have hL : ((N ++ [(x1, x2, xu)])).length + 1 ≤ j + 1 + dn true := by rw [List.length_append]; exact Nat.succ_le_succ (Nat.succ_le_succ hn)
              have hL1 : dn true ≤ 1 := by decide
              refine LoadAt.mk 1 _ _ rfl rfl ?_
              intro bl4
              refine append_acc [_, _, _, _, _] ha4 (.mref 0 bl4 0 1 _ rfl (Nat.le_of_ble_eq_true rfl)) rfl (by omega) (by decide) (by decide) (fun v3 acc3 h3 => ?_)
              refine nextS (j + 1, true, v3, acc3, (N ++ [(x1, x2, xu)]) ++ [(y1, y2, yu)]) (by show O.length - (j + 1) < O.length - j; omega) ⟨(show j + 1 ≤ O.length by omega), ?_, ?_, ?_⟩ ⟨rfl, rfl, rfl, rfl, rfl, rfl, rfl, rfl, inc64 (k := j) (by omega), trivial⟩ (.drop 0 3 (shed_eq rfl))
              · show Acc 2 ((N ++ [(x1, x2, xu)]) ++ [(y1, y2, yu)]).length v3 acc3 (prC ((N ++ [(x1, x2, xu)]) ++ [(y1, y2, yu)]))
                rw [List.length_append, prC_app]; exact h3
              · show ((N ++ [(x1, x2, xu)]) ++ [(y1, y2, yu)]).length ≤ j + 1 + dn true
                rw [List.length_append]; exact hL
              · show ((N ++ [(x1, x2, xu)]) ++ [(y1, y2, yu)]) ++ rest (x1, x2, xu) true (O.drop (j + 1)) = insE (x1, x2, xu) O
                rw [List.append_assoc, List.append_assoc]; exact hr
            · have c : (!allB [decide (x1 = y1), decide (x2 = y2)]) = false := c
              have he : ((x1, x2, xu) : PrT) = (y1, y2, yu) := by
                have c6 : allB [decide (x1 = y1), decide (x2 = y2)] = true := by simpa using c
                exact pr_ext (by simp [allB] at c6; exact c6.1) (by simp [allB] at c6; exact c6.2)
              rw [insE_hit1 hh he] at hr
              have hL : (N).length + 1 ≤ j + 1 + dn true := by exact Nat.le_succ_of_le (Nat.succ_le_succ hn)
              have hL1 : dn true ≤ 1 := by decide
              refine LoadAt.mk 0 _ _ rfl rfl ?_
              intro bl4
              refine append_acc [_, _, _, _] ha2 (.mref 0 bl4 0 1 _ rfl (Nat.le_of_ble_eq_true rfl)) rfl (by omega) (by decide) (by decide) (fun v3 acc3 h3 => ?_)
              refine nextS (j + 1, true, v3, acc3, N ++ [(y1, y2, yu)]) (by show O.length - (j + 1) < O.length - j; omega) ⟨(show j + 1 ≤ O.length by omega), ?_, ?_, ?_⟩ ⟨rfl, rfl, rfl, rfl, rfl, rfl, rfl, rfl, inc64 (k := j) (by omega), trivial⟩ (.drop 0 2 (shed_eq rfl))
              · show Acc 2 (N ++ [(y1, y2, yu)]).length v3 acc3 (prC (N ++ [(y1, y2, yu)]))
                rw [List.length_append, prC_app]; exact h3
              · show (N ++ [(y1, y2, yu)]).length ≤ j + 1 + dn true
                rw [List.length_append]; exact hL
              · show (N ++ [(y1, y2, yu)]) ++ rest (x1, x2, xu) true (O.drop (j + 1)) = insE (x1, x2, xu) O
                rw [List.append_assoc]; exact hr
      · have h1 : j = O.length := by have h1 : ¬ (j : Int) < O.length := h1; omega
        subst h1
        rw [List.drop_length] at hr
        cases d with
        | true =>
          have hr : N ++ [] = insE (x1, x2, xu) O := hr
          rw [List.append_nil] at hr
          refine nextS (k + 1, v2, acc2) (by show B.length - (k + 1) < B.length - k; omega) ⟨(show k + 1 ≤ B.length by omega), ?_⟩ ⟨rfl, rfl, rfl, inc64 (k := k) (by omega), trivial⟩ (.drop 0 2 (shed_eq rfl))
          show Acc 2 (insK B (k + 1)).length v2 acc2 (prC (insK B (k + 1)))
          rw [hs, ← hr]; exact ha2
        | false =>
          have hr : N ++ [((x1, x2, xu) : PrT)] = insE (x1, x2, xu) O := hr
          refine LoadAt.mk 0 _ _ rfl rfl ?_
          intro bl4
          refine append_acc [_, _, _] ha2 (.mref 0 bl4 0 1 _ rfl (Nat.le_of_ble_eq_true rfl)) rfl (by simp only [dn] at hn; omega) (by decide) (by decide) (fun v3 acc3 h3 => ?_)
          refine nextS (k + 1, v3, acc3) (by show B.length - (k + 1) < B.length - k; omega) ⟨(show k + 1 ≤ B.length by omega), ?_⟩ ⟨rfl, rfl, rfl, inc64 (k := k) (by omega), trivial⟩ (.drop 0 3 (shed_eq rfl))
          show Acc 2 (insK B (k + 1)).length v3 acc3 (prC (insK B (k + 1)))
          rw [hs, ← hr, List.length_append, prC_app]; exact h3
  · have hge : k = B.length := by have hge : ¬ (k : Int) < B.length := hge; omega
    subst hge
    exact fin_acc (s := prSh) (l := insK B B.length) [] hacc rfl rfl (by decide) (.done ⟨rfl, rfl⟩)
theorem insK_all (B : List PrT) : insK B B.length = sortedE B := by unfold insK; rw [List.take_length]; exact fold_ins B
theorem aRSortedE (B : List PrT) (σ : Hp) (hl : B.length ≤ 100000) : ACalls Tryz.prog 49 [.fsl prSh B] σ (Ret (.fsl prSh (sortedE B)) σ) := acalls_eq (aRSorted B σ hl) (congrArg (AV.fsl prSh) (insK_all B))
end Go.Proofs.YtljbnigceammdaaGreatDoor
