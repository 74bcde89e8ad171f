/-
  Sb: what the claim uses of them.
-/
import Derived.Test.YtljbnigceammdaaGreatDoorBn31
import Derived.Test.YtljbnigceammdaaGreatDoorBn27
import Derived.Test.YtljbnigceammdaaGreatDoorBn14
namespace Go.Proofs.YtljbnigceammdaaGreatDoor
open Go.RowKit
set_option maxRecDepth 100000
theorem flat_uniq {a : Int} : ∀ {P : List (List Int)}, P.flatten.Nodup → ∀ {i j : Nat} {p q : List Int}, P[i]? = some p → P[j]? = some q → a ∈ p → a ∈ q → i = j
  | [], _, i, _, _, _, h, _, _, _ => by simp at h
  | r :: P, hd, i, j, p, q, hi, hj, hp, hq => by
    rw [List.flatten_cons] at hd
    obtain ⟨_, h2, h3⟩ := List.nodup_append.1 hd
    cases i with
    | zero =>
      cases j with
      | zero => rfl
      | succ j =>
        obtain rfl : r = p := by simpa using hi
        have hj : P[j]? = some q := by simpa using hj
        exact absurd rfl (h3 a hp a (List.mem_flatten.2 ⟨q, List.mem_of_getElem? hj, hq⟩))
    | succ i =>
      have hi : P[i]? = some p := by simpa using hi
      cases j with
      | zero =>
        obtain rfl : r = q := by simpa using hj
        exact absurd rfl (h3 a hq a (List.mem_flatten.2 ⟨p, List.mem_of_getElem? hi, hp⟩))
      | succ j =>
        have hj : P[j]? = some q := by simpa using hj
        exact congrArg (· + 1) (flat_uniq h2 hi hj hp hq)
/-- What is reached from a part is in it, or in an earlier one. -/
theorem POk.le {n : Nat} {nx : Int → List Int} {P : List (List Int)} (h : POk n nx P) {x y : Int} (hr : Rx nx x y) {i : Nat} {p : List Int} (hi : P[i]? = some p) (hx : x ∈ p) : ∃ (j : Nat) (q : List Int), j ≤ i ∧ P[j]? = some q ∧ y ∈ q := by
  induction hr with
  | refl => exact ⟨i, p, Nat.le_refl _, hi, hx⟩
  | step _ hc ih =>
    obtain ⟨j, q, h1, h2, h3⟩ := ih
    obtain ⟨k, r, k1, k2, k3⟩ := h.clo j q h2 _ h3 _ hc
    exact ⟨k, r, Nat.le_trans k1 h1, k2, k3⟩
theorem rch_rx {n : Int} {l : List EdgeT} {a b : Int} : Rch n l [a] b ↔ (0 ≤ a ∧ a < n) ∧ Rx (toS n l) a b := by
  constructor
  · intro h
    induction h with
    | root hm h1 => rw [List.mem_singleton.1 hm] at h1 ⊢; exact ⟨h1, .refl _⟩
    | step _ hb ih => exact ⟨ih.1, .step ih.2 hb⟩
  · rintro ⟨ha, h⟩
    induction h with
    | refl => exact .root (List.mem_singleton.2 rfl) ha
    | step _ hc ih => exact .step ih hc
theorem toB_iff {n : Nat} {l : List EdgeT} {a b : Int} : toB n l a b = true ↔ (0 ≤ a ∧ a < n) ∧ Rx (toS n l) a b := by
  unfold toB
  rw [inB_iff, mem_reachR, rch_rx]
theorem partB_inc (n : Nat) (l : List EdgeT) (a : Int) : (partB n l a).Pairwise (· < ·) := by
  unfold partB partUp
  rw [List.pairwise_map]
  refine List.Pairwise.filter _ ?_
  exact List.pairwise_lt_range.imp fun h => by omega
/-- A node's part is the one that was told. -/
theorem part_is {n : Nat} {l : List EdgeT} {P : List (List Int)} (h : POk n (toS n l) P) {p : List Int} {a : Int} (hp : p ∈ P) (ha : a ∈ p) : partB n l a = p := by
  obtain ⟨i, hi⟩ := List.getElem?_of_mem hp
  have han := h.node p hp a ha
  refine inc_ext (partB_inc ..) (h.srt p hp) fun z => ?_
  rw [mem_partB]
  constructor
  · rintro ⟨k, hk, hb, rfl⟩
    rw [Bool.and_eq_true, toB_iff, toB_iff] at hb
    obtain ⟨j, q, j1, j2, j3⟩ := h.le hb.1.2 hi ha
    obtain ⟨k2, r, k3, k4, k5⟩ := h.le hb.2.2 j2 j3
    have := flat_uniq h.nd hi k4 ha k5
    have : i = j := by omega
    subst this
    rw [hi] at j2
    rw [Option.some.inj j2]; exact j3
  · intro hz
    have hzn := h.node p hp z hz
    refine ⟨z.toNat, by omega, ?_, by omega⟩
    rw [Int.toNat_of_nonneg hzn.1, Bool.and_eq_true, toB_iff, toB_iff]
    exact ⟨⟨han, h.con p hp a ha z hz⟩, hzn, h.con p hp z hz a ha⟩
def whI (i : Int) (p : List Int) (w : List Int) : List Int := p.foldl (fun w a => w.set a.toNat i) w
def whN (P : List (List Int)) : Nat → List Int → List Int
  | 0, w => w
  | k + 1, w => whI k (P.getD k []) (whN P k w)
/-- In which part each node is. -/
def whP (n : Nat) (P : List (List Int)) : List Int := whN P P.length (List.replicate n 0)
theorem whI_length (i : Int) : ∀ (p w : List Int), (whI i p w).length = w.length
  | [], _ => rfl
  | a :: p, w => by
    show (whI i p (w.set a.toNat i)).length = _
    rw [whI_length i p, List.length_set]
theorem whN_length (P : List (List Int)) : ∀ (k : Nat) (w : List Int), (whN P k w).length = w.length
  | 0, _ => rfl
  | k + 1, w => by
    show (whI k (P.getD k []) (whN P k w)).length = _
    rw [whI_length, whN_length P k]
theorem whP_length (n : Nat) (P : List (List Int)) : (whP n P).length = n := by unfold whP; rw [whN_length, List.length_replicate]
theorem whI_get (i : Int) {a : Int} (ha : 0 ≤ a) : ∀ (p w : List Int), (∀ z ∈ p, 0 ≤ z) → a.toNat < w.length → (whI i p w).getD a.toNat 0 = if a ∈ p then i else w.getD a.toNat 0
  | [], w, _, _ => by simp [whI]
  | z :: p, w, hp, hw => by
    show (whI i p (w.set z.toNat i)).getD a.toNat 0 = _
    have hz := hp z (List.mem_cons_self ..)
    rw [whI_get i ha p _ (fun y hy => hp y (List.mem_cons_of_mem _ hy)) (by rw [List.length_set]; exact hw), getD_setI]
    by_cases h1 : a ∈ p
    · rw [if_pos h1, if_pos (List.mem_cons_of_mem _ h1)]
    · rw [if_neg h1]
      by_cases h2 : a = z
      · rw [if_pos ⟨by omega, hw⟩, if_pos (by rw [h2]; exact List.mem_cons_self ..)]
      · rw [if_neg (by omega), if_neg (by rw [List.mem_cons]; exact fun h => h.elim h2 h1)]
theorem getD_of {P : List (List Int)} {i : Nat} {p : List Int} (h : P[i]? = some p) : P.getD i [] = p := by rw [List.getD_eq_getElem?_getD, h]; rfl
theorem whN_get {n : Nat} {nx : Int → List Int} {P : List (List Int)} (h : POk n nx P) {i : Nat} {p : List Int} (hi : P[i]? = some p) {a : Int} (ha : a ∈ p) : ∀ k, k ≤ P.length → i < k → (whN P k (List.replicate n 0)).getD a.toNat 0 = i
  | 0, _, hk => absurd hk (Nat.not_lt_zero _)
  | k + 1, hkl, hk => by
    have han := h.node p (List.mem_of_getElem? hi) a ha
    obtain ⟨q, hq⟩ : ∃ q, P[k]? = some q := ⟨P[k], List.getElem?_eq_getElem (by omega)⟩
    show (whI k (P.getD k []) _).getD a.toNat 0 = _
    rw [getD_of hq, whI_get k han.1 _ _ (fun z hz => (h.node q (List.mem_of_getElem? hq) z hz).1) (by rw [whN_length, List.length_replicate]; omega)]
    by_cases hm : a ∈ q
    · rw [if_pos hm, flat_uniq h.nd hi hq ha hm]
    · rw [if_neg hm]
      have : i ≠ k := fun e => by subst e; rw [hi] at hq; exact hm (Option.some.inj hq ▸ ha)
      exact whN_get h hi ha k (by omega) (by omega)
theorem whP_get {n : Nat} {nx : Int → List Int} {P : List (List Int)} (h : POk n nx P) {i : Nat} {p : List Int} (hi : P[i]? = some p) {a : Int} (ha : a ∈ p) : (whP n P).getD a.toNat 0 = i :=
  whN_get h hi ha P.length (Nat.le_refl _) (List.getElem?_eq_some_iff.1 hi).1
/-- May a part come next? -/
def freeO (l : List EdgeT) (W : List Int) (T : List Bool) (i : Int) : Bool := !T.getD i.toNat false && !l.any fun x => decide (W.getD x.2.1.toNat 0 = i) && decide (W.getD x.1.toNat 0 ≠ i) && !T.getD (W.getD x.1.toNat 0).toNat false
def headO (P : List (List Int)) (i : Nat) : Int := (P.getD i []).headD 0
def bestO (P : List (List Int)) (l : List EdgeT) (W : List Int) (T : List Bool) : Nat → Int
  | 0 => -1
  | k + 1 => if freeO l W T k = true ∧ (bestO P l W T k < 0 ∨ headO P k < headO P (bestO P l W T k).toNat) then k else bestO P l W T k
theorem bestO_spec (P : List (List Int)) (l : List EdgeT) (W : List Int) (T : List Bool) : ∀ k : Nat, (bestO P l W T k = -1 ∧ ∀ i : Nat, i < k → freeO l W T i = false) ∨ ∃ b : Nat, bestO P l W T k = b ∧ b < k ∧ freeO l W T b = true ∧ ∀ i : Nat, i < k → freeO l W T i = true → headO P b ≤ headO P i
  | 0 => .inl ⟨rfl, fun _ h => absurd h (Nat.not_lt_zero _)⟩
  | k + 1 => by
    have ih := bestO_spec P l W T k
    by_cases c : freeO l W T k = true ∧ (bestO P l W T k < 0 ∨ headO P k < headO P (bestO P l W T k).toNat)
    · have e : bestO P l W T (k + 1) = k := if_pos c
      rw [e]
      refine .inr ⟨k, rfl, by omega, c.1, fun i hi hf => ?_⟩
      by_cases hik : i = k
      · subst hik; exact Int.le_refl _
      · rcases ih with ⟨h1, h2⟩ | ⟨b, h1, h2, h3, h4⟩
        · rw [h2 i (by omega)] at hf; cases hf
        · have := h4 i (by omega) hf
          rw [h1, Int.toNat_natCast] at c
          rcases c.2 with c | c
          · omega
          · omega
    · have e : bestO P l W T (k + 1) = bestO P l W T k := if_neg c
      rw [e]
      rcases ih with ⟨h1, h2⟩ | ⟨b, h1, h2, h3, h4⟩
      · refine .inl ⟨h1, fun i hi => ?_⟩
        by_cases hik : i = k
        · subst hik
          exact Bool.eq_false_iff.2 fun hf => c ⟨hf, .inl (by omega)⟩
        · exact h2 i (by omega)
      · refine .inr ⟨b, h1, by omega, h3, fun i hi hf => ?_⟩
        by_cases hik : i = k
        · subst hik
          rw [h1, Int.toNat_natCast] at c
          exact Int.not_lt.1 fun hlt => c ⟨hf, .inr hlt⟩
        · exact h4 i (by omega) hf
/-- What was told, and in which order, so far. -/
def ordO (P : List (List Int)) (l : List EdgeT) (W : List Int) : Nat → List Bool × List (List Int)
  | 0 => (List.replicate P.length false, [])
  | k + 1 => ((ordO P l W k).1.set (bestO P l W (ordO P l W k).1 P.length).toNat true, (ordO P l W k).2 ++ [P.getD (bestO P l W (ordO P l W k).1 P.length).toNat []])
def candB (n : Nat) (l : List EdgeT) (told : List Int) (a : Nat) : Bool := decide ((partB n l a).headD 0 = (a : Int)) && !inB told a && freeB l (partB n l a) told
def rOfN (n : Nat) (l : List EdgeT) : Nat → List (List Int) × List Int → List (List Int) × List Int
  | 0, s => s
  | f + 1, s => if s.2.length < n then (match (List.range n).find? (candB n l s.2) with | none => s | some a => rOfN n l f (s.1 ++ [partB n l a], s.2 ++ partB n l a)) else s
/-- The parts of a graph, in order. -/
def rOf (n : Nat) (l : List EdgeT) : List (List Int) := (rOfN n l (n + 1) ([], [])).1
theorem find_range {p : Nat → Bool} {n a : Nat} (ha : a < n) (hp : p a = true) (h : ∀ b, b < a → p b = false) : (List.range n).find? p = some a := by
  rw [List.find?_range_eq_some]
  exact ⟨hp, List.mem_range.2 ha, fun b hb => by rw [h b hb]; rfl⟩
/-- All nodes' parts were told. -/
structure PAll (n : Nat) (l : List EdgeT) (P : List (List Int)) : Prop where
  ok : POk n (toS n l) P
  all : ∀ x : Int, 0 ≤ x → x < n → ∃ p ∈ P, x ∈ p
theorem PAll.idx {n : Nat} {l : List EdgeT} {P : List (List Int)} (h : PAll n l P) {x : Int} (hx : 0 ≤ x ∧ x < n) : ∃ (i : Nat) (p : List Int), P[i]? = some p ∧ x ∈ p ∧ (whP n P).getD x.toNat 0 = i := by
  obtain ⟨p, hp, hxp⟩ := h.all x hx.1 hx.2
  obtain ⟨i, hi⟩ := List.getElem?_of_mem hp
  exact ⟨i, p, hi, hxp, whP_get h.ok hi hxp⟩
theorem lt_of_some {P : List (List Int)} {i : Nat} {p : List Int} (h : P[i]? = some p) : i < P.length := (List.getElem?_eq_some_iff.1 h).1
/-- Parts that were told so far, as marks and as a list. -/
structure OI (P : List (List Int)) (k : Nat) (T : List Bool) (out : List (List Int)) : Prop where
  tl : T.length = P.length
  ol : out.length = k
  cnt : T.countP id = k
  mem : ∀ q, q ∈ out ↔ ∃ i : Nat, T.getD i false = true ∧ P[i]? = some q
  nd : out.flatten.Nodup
theorem freeO_iff {n : Nat} {l : List EdgeT} {P : List (List Int)} (h : PAll n l P) (hr : ∀ e ∈ l, (0 ≤ e.1 ∧ e.1 < (n : Int)) ∧ 0 ≤ e.2.1 ∧ e.2.1 < (n : Int)) {k : Nat} {T : List Bool} {out : List (List Int)} (hO : OI P k T out) {i : Nat} {p : List Int} (hi : P[i]? = some p) : freeO l (whP n P) T i = true ↔ T.getD i false = false ∧ freeB l p out.flatten = true := by
  unfold freeO freeB
  rw [Int.toNat_natCast, Bool.and_eq_true, Bool.not_eq_true', Bool.not_eq_true', List.any_eq_false, List.all_eq_true]
  refine and_congr_right fun _ => ?_
  refine forall_congr' fun e => ?_
  refine forall_congr' fun he => ?_
  obtain ⟨q1, q2⟩ := hr e he
  obtain ⟨a, pa, ha, hpa, wa⟩ := h.idx q1
  obtain ⟨b, pb, hb, hpb, wb⟩ := h.idx q2
  rw [wa, wb, Int.toNat_natCast]
  have hin : ∀ {j : Nat} {r : List Int} {x : Int}, P[j]? = some r → x ∈ r → (inB p x = true ↔ j = i) := fun {j r x} hj hx => by
    rw [inB_iff]
    exact ⟨fun hm => flat_uniq h.ok.nd hj hi hx hm, fun e => by subst e; rw [hi] at hj; rw [Option.some.inj hj]; exact hx⟩
  have htold : inB out.flatten e.1 = true ↔ T.getD a false = true := by
    rw [inB_iff, List.mem_flatten]
    constructor
    · rintro ⟨q, hq, hm⟩
      obtain ⟨j, hj, hPj⟩ := (hO.mem q).1 hq
      rw [flat_uniq h.ok.nd ha hPj hpa hm]; exact hj
    · intro ht
      exact ⟨pa, (hO.mem pa).2 ⟨a, ht, ha⟩, hpa⟩
  have h1 := hin ha hpa
  have h2 := hin hb hpb
  rw [Bool.and_eq_true, Bool.and_eq_true, decide_eq_true_eq, decide_eq_true_eq, Bool.not_eq_true', Bool.not_eq_true', Bool.and_eq_false_iff, Bool.and_eq_false_iff, Bool.not_eq_false', Bool.not_eq_false']
  have h3 : inB p e.2.1 = false ↔ b ≠ i := by rw [← Bool.not_eq_true, h2]
  rw [htold, h1, h3, ← Bool.not_eq_true]
  constructor
  · intro hn
    by_cases c1 : b = i
    · by_cases c2 : a = i
      · exact .inl (.inr c2)
      · exact .inr (by
          by_cases c3 : T.getD a false = true
          · exact c3
          · exact absurd ⟨⟨by omega, by omega⟩, c3⟩ hn)
    · exact .inl (.inl c1)
  · rintro ((c | c) | c) ⟨⟨d1, d2⟩, d3⟩
    · exact c (by omega)
    · exact d2 (by omega)
    · exact d3 c
theorem count_set {T : List Bool} {i : Nat} (hi : i < T.length) (h : T.getD i false = false) : (T.set i true).countP id = T.countP id + 1 := by
  induction T generalizing i with
  | nil => simp at hi
  | cons t T ih =>
    cases i with
    | zero =>
      have : t = false := h
      subst this
      simp
    | succ i =>
      have := ih (i := i) (by simpa using hi) h
      rw [List.set_cons_succ, List.countP_cons, List.countP_cons, this]; omega
theorem count_last : ∀ {T : List Bool}, T.countP id < T.length → ∃ i, i < T.length ∧ T.getD i false = false ∧ ∀ j, i < j → j < T.length → T.getD j false = true := by
  intro T
  induction T with
  | nil => intro h; simp at h
  | cons t T ih =>
    intro h
    rw [List.countP_cons, List.length_cons] at h
    by_cases c : T.countP id < T.length
    · obtain ⟨i, h1, h2, h3⟩ := ih c
      refine ⟨i + 1, by rw [List.length_cons]; omega, h2, fun j hj hl => ?_⟩
      cases j with
      | zero => omega
      | succ j => exact h3 j (by omega) (by rw [List.length_cons] at hl; omega)
    · have ht : t = false := by
        cases t with
        | false => rfl
        | true => simp at h; omega
      subst ht
      have hall : T.countP id = T.length := by have := List.countP_le_length (p := id) (l := T); omega
      refine ⟨0, by simp, rfl, fun j hj hl => ?_⟩
      cases j with
      | zero => omega
      | succ j =>
        have hl : j < T.length := by rw [List.length_cons] at hl; omega
        have := List.countP_eq_length.1 hall _ (List.getElem_mem hl)
        show T.getD j false = true
        rw [List.getD_eq_getElem?_getD, List.getElem?_eq_getElem hl]; exact this
theorem parts_len {n : Nat} {nx : Int → List Int} {P : List (List Int)} (h : POk n nx P) : P.length ≤ n ∧ P.flatten.length ≤ n := by
  have h1 : P.flatten.length ≤ n := nodup_leD n _ h.nd fun z hz => by
    obtain ⟨p, hp, hz⟩ := List.mem_flatten.1 hz
    exact h.node p hp z hz
  refine ⟨Nat.le_trans ?_ h1, h1⟩
  have := h.ne
  clear h h1
  induction P with
  | nil => exact Nat.le_refl _
  | cons p P ih =>
    have h1 := List.length_pos_iff.2 (this p (List.mem_cons_self ..))
    have h2 := ih fun q hq => this q (List.mem_cons_of_mem _ hq)
    rw [List.flatten_cons, List.length_append, List.length_cons]; omega
/-- One more part: there is one that is free; it is the same one. -/
theorem ord_step {n : Nat} {l : List EdgeT} {P : List (List Int)} (h : PAll n l P) (hr : ∀ e ∈ l, (0 ≤ e.1 ∧ e.1 < (n : Int)) ∧ 0 ≤ e.2.1 ∧ e.2.1 < (n : Int)) {k : Nat} (hk : k < P.length) {T : List Bool} {out : List (List Int)} (hO : OI P k T out) :
    ∃ (b : Nat) (p : List Int), bestO P l (whP n P) T P.length = b ∧ P[b]? = some p ∧ OI P (k + 1) (T.set b true) (out ++ [p]) ∧ out.flatten.length < n ∧ ∃ a : Nat, (List.range n).find? (candB n l out.flatten) = some a ∧ partB n l a = p := by
  -- the last one that wasn't told is free
  obtain ⟨i, hi1, hi2, hi3⟩ := count_last (T := T) (by rw [hO.cnt, hO.tl]; exact hk)
  rw [hO.tl] at hi1 hi3
  obtain ⟨pi, hpi⟩ : ∃ p, P[i]? = some p := ⟨P[i], List.getElem?_eq_getElem hi1⟩
  have hfree : freeO l (whP n P) T i = true := by
    unfold freeO
    rw [Int.toNat_natCast, hi2, Bool.and_eq_true]
    refine ⟨rfl, ?_⟩
    rw [Bool.not_eq_true']
    refine List.any_eq_false.2 fun e he => ?_
    obtain ⟨q1, q2⟩ := hr e he
    obtain ⟨a, pa, ha, hpa, wa⟩ := h.idx q1
    obtain ⟨b, pb, hb, hpb, wb⟩ := h.idx q2
    rw [wa, wb, Int.toNat_natCast, Bool.and_eq_true, Bool.and_eq_true, decide_eq_true_eq, decide_eq_true_eq, Bool.not_eq_true']
    rintro ⟨⟨d1, d2⟩, d3⟩
    obtain ⟨j, q, j1, j2, j3⟩ := h.ok.clo a pa ha e.1 hpa e.2.1 (mem_toS.2 ⟨q2, q1, e, he, rfl, rfl⟩)
    have := flat_uniq h.ok.nd hb j2 hpb j3
    rw [hi3 a (by omega) (lt_of_some ha)] at d3
    cases d3
  rcases bestO_spec P l (whP n P) T P.length with ⟨_, hno⟩ | ⟨b, hb, hbl, hbf, hbm⟩
  · rw [hno i hi1] at hfree; cases hfree
  obtain ⟨p, hp⟩ : ∃ p, P[b]? = some p := ⟨P[b], List.getElem?_eq_getElem hbl⟩
  have hpm := List.mem_of_getElem? hp
  obtain ⟨hbT, hbF⟩ := (freeO_iff h hr hO hp).1 hbf
  have hpo : p ∉ out := fun hm => by
    obtain ⟨j, hj, hPj⟩ := (hO.mem p).1 hm
    obtain ⟨z, hz⟩ := List.exists_mem_of_ne_nil _ (h.ok.ne p hpm)
    rw [flat_uniq h.ok.nd hp hPj hz hz, hj] at hbT; cases hbT
  have hdis : ∀ z ∈ p, z ∉ out.flatten := fun z hz hm => by
    obtain ⟨q, hq, hzq⟩ := List.mem_flatten.1 hm
    obtain ⟨j, hj, hPj⟩ := (hO.mem q).1 hq
    rw [flat_uniq h.ok.nd hp hPj hz hzq, hj] at hbT; cases hbT
  have hnd : (out.flatten ++ p).Nodup := List.nodup_append.2 ⟨hO.nd, (h.ok.srt p hpm).imp fun h => by omega, fun x hx y hy e => hdis y hy (e ▸ hx)⟩
  have hnode : ∀ z ∈ out.flatten ++ p, 0 ≤ z ∧ z < (n : Int) := fun z hz => by
    rcases List.mem_append.1 hz with hz | hz
    · obtain ⟨q, hq, hzq⟩ := List.mem_flatten.1 hz
      obtain ⟨j, _, hPj⟩ := (hO.mem q).1 hq
      exact h.ok.node q (List.mem_of_getElem? hPj) z hzq
    · exact h.ok.node p hpm z hz
  have hlen := nodup_leD n _ hnd hnode
  rw [List.length_append] at hlen
  have hp0 := List.length_pos_iff.2 (h.ok.ne p hpm)
  refine ⟨b, p, hb, hp, ⟨by rw [List.length_set]; exact hO.tl, by rw [List.length_append, hO.ol]; rfl, by rw [count_set (by rw [hO.tl]; exact hbl) hbT, hO.cnt], fun q => ?_, by rw [List.flatten_append]; simpa using hnd⟩, by omega, ?_⟩
  · rw [List.mem_append, List.mem_singleton, hO.mem]
    constructor
    · rintro (⟨j, hj, hPj⟩ | rfl)
      · exact ⟨j, by rw [getD_setBq]; split; rfl; exact hj, hPj⟩
      · exact ⟨b, by rw [getD_setBq, if_pos ⟨rfl, by rw [hO.tl]; exact hbl⟩], hp⟩
    · rintro ⟨j, hj, hPj⟩
      rw [getD_setBq] at hj
      by_cases e : b = j
      · subst e; rw [hp] at hPj; exact .inr (Option.some.inj hPj).symm
      · rw [if_neg (fun h => e h.1)] at hj
        exact .inl ⟨j, hj, hPj⟩
  -- the node that comes first is the least one's head
  have hhead : ∀ {j : Nat} {q : List Int}, P[j]? = some q → headO P j ∈ q ∧ headO P j = q.headD 0 ∧ ∀ z ∈ q, headO P j ≤ z := fun {j q} hj => by
    have hne := h.ok.ne q (List.mem_of_getElem? hj)
    have hs := h.ok.srt q (List.mem_of_getElem? hj)
    unfold headO
    rw [getD_of hj]
    cases q with
    | nil => exact absurd rfl hne
    | cons z q =>
      refine ⟨List.mem_cons_self .., rfl, fun y hy => ?_⟩
      rcases List.mem_cons.1 hy with rfl | hy
      · exact Int.le_refl _
      · have := (List.pairwise_cons.1 hs).1 y hy
        show z ≤ y
        omega
  obtain ⟨m1, m2, _⟩ := hhead hp
  have hhn := h.ok.node p hpm _ m1
  refine ⟨(headO P b).toNat, find_range (by omega) ?_ fun a' ha' => Bool.eq_false_iff.2 fun hc => ?_, ?_⟩
  · unfold candB
    rw [Int.toNat_of_nonneg hhn.1, part_is h.ok hpm m1, hbF, Bool.and_true, Bool.and_eq_true, decide_eq_true_eq, Bool.not_eq_true']
    exact ⟨m2.symm, Bool.eq_false_iff.2 fun hm => hdis _ m1 (inB_iff.1 hm)⟩
  · unfold candB at hc
    rw [Bool.and_eq_true, Bool.and_eq_true, decide_eq_true_eq, Bool.not_eq_true'] at hc
    obtain ⟨⟨c1, c2⟩, c3⟩ := hc
    obtain ⟨j, q, hj, hq, _⟩ := h.idx (x := (a' : Int)) (by omega)
    rw [part_is h.ok (List.mem_of_getElem? hj) hq] at c1 c3
    obtain ⟨_, m4, _⟩ := hhead hj
    have hjT : T.getD j false = false := Bool.eq_false_iff.2 fun ht => by
      have : inB out.flatten a' = true := inB_iff.2 (List.mem_flatten.2 ⟨q, (hO.mem q).2 ⟨j, ht, hj⟩, hq⟩)
      rw [this] at c2; cases c2
    have := hbm j (lt_of_some hj) ((freeO_iff h hr hO hj).2 ⟨hjT, c3⟩)
    rw [m4, c1] at this
    omega
  · rw [Int.toNat_of_nonneg hhn.1]; exact part_is h.ok hpm m1
theorem ord_inv {n : Nat} {l : List EdgeT} {P : List (List Int)} (h : PAll n l P) (hr : ∀ e ∈ l, (0 ≤ e.1 ∧ e.1 < (n : Int)) ∧ 0 ≤ e.2.1 ∧ e.2.1 < (n : Int)) : ∀ k, k ≤ P.length → OI P k (ordO P l (whP n P) k).1 (ordO P l (whP n P) k).2 ∧ (k < P.length → ∃ b : Nat, bestO P l (whP n P) (ordO P l (whP n P) k).1 P.length = b ∧ b < P.length) ∧ ∀ f, rOfN n l (k + f) ([], []) = rOfN n l f ((ordO P l (whP n P) k).2, (ordO P l (whP n P) k).2.flatten) := by
  intro k
  induction k with
  | zero =>
    intro _
    have hno : ∀ i, ¬ ((List.replicate P.length false).getD i false = true) := fun i h1 => by
      rw [List.getD_eq_getElem?_getD, List.getElem?_replicate] at h1
      split at h1 <;> cases h1
    have h0 : OI P 0 (List.replicate P.length false) [] := ⟨List.length_replicate, rfl, (by rw [List.countP_eq_zero]; intro x hx; rw [List.eq_of_mem_replicate hx]; simp), fun q => ⟨fun h => absurd h (by simp), fun ⟨i, h1, _⟩ => absurd h1 (hno i)⟩, List.nodup_nil⟩
    refine ⟨h0, fun hk => ?_, fun f => by rw [Nat.zero_add]; rfl⟩
    obtain ⟨b, p, hb, hp, _⟩ := ord_step h hr hk h0
    exact ⟨b, hb, lt_of_some hp⟩
  | succ k ih =>
    intro hk
    obtain ⟨hO, _, hf⟩ := ih (by omega)
    obtain ⟨b, p, hb, hp, hO2, hlt, a, ha, hap⟩ := ord_step h hr (by omega) hO
    have e1 : (ordO P l (whP n P) (k + 1)).1 = (ordO P l (whP n P) k).1.set b true := by
      show (ordO P l (whP n P) k).1.set (bestO P l (whP n P) (ordO P l (whP n P) k).1 P.length).toNat true = _
      rw [hb, Int.toNat_natCast]
    have e2 : (ordO P l (whP n P) (k + 1)).2 = (ordO P l (whP n P) k).2 ++ [p] := by
      show (ordO P l (whP n P) k).2 ++ [P.getD (bestO P l (whP n P) (ordO P l (whP n P) k).1 P.length).toNat []] = _
      rw [hb, Int.toNat_natCast, getD_of hp]
    rw [e1, e2]
    refine ⟨hO2, fun hk2 => ?_, fun f => ?_⟩
    · obtain ⟨b2, p2, hb2, hp2, _⟩ := ord_step h hr hk2 hO2
      exact ⟨b2, hb2, lt_of_some hp2⟩
    · rw [show k + 1 + f = k + (f + 1) by omega, hf]
      show (if _ then _ else _) = _
      rw [if_pos hlt, ha]
      show rOfN n l f (_ ++ [partB n l a], _ ++ partB n l a) = _
      rw [hap, List.flatten_append]; simp
/-- What scc.Of tells. -/
theorem ord_is {n : Nat} {l : List EdgeT} {P : List (List Int)} (h : PAll n l P) (hr : ∀ e ∈ l, (0 ≤ e.1 ∧ e.1 < (n : Int)) ∧ 0 ≤ e.2.1 ∧ e.2.1 < (n : Int)) : (ordO P l (whP n P) P.length).2 = rOf n l := by
  obtain ⟨hO, _, hf⟩ := ord_inv h hr P.length (Nat.le_refl _)
  have hl := (parts_len h.ok).1
  have hf := hf (n + 1 - P.length)
  rw [show P.length + (n + 1 - P.length) = n + 1 by omega] at hf
  unfold rOf
  rw [hf]
  obtain ⟨f, hfe⟩ : ∃ f, n + 1 - P.length = f + 1 := ⟨n - P.length, by omega⟩
  rw [hfe]
  show _ = (if _ then _ else _ : List (List Int) × List Int).1
  have hall : ∀ i, i < P.length → (ordO P l (whP n P) P.length).1.getD i false = true := fun i hi => by
    have hc : (ordO P l (whP n P) P.length).1.countP id = (ordO P l (whP n P) P.length).1.length := by rw [hO.cnt, hO.tl]
    have := List.countP_eq_length.1 hc _ (List.getElem_mem (n := i) (by rw [hO.tl]; exact hi))
    rw [List.getD_eq_getElem?_getD, List.getElem?_eq_getElem (by rw [hO.tl]; exact hi)]; exact this
  have hsub : ∀ x ∈ (List.range n).map (fun i : Nat => (i : Int)), x ∈ (ordO P l (whP n P) P.length).2.flatten := fun x hx => by
    obtain ⟨i, hi, rfl⟩ := List.mem_map.1 hx
    have hi := List.mem_range.1 hi
    obtain ⟨j, p, hj, hp, _⟩ := h.idx (x := (i : Int)) (by omega)
    exact List.mem_flatten.2 ⟨p, (hO.mem p).2 ⟨j, hall j (lt_of_some hj), hj⟩, hp⟩
  have hge := sub_lenS (l := (List.range n).map (fun i : Nat => (i : Int))) (by rw [List.nodup_iff_pairwise_ne, List.pairwise_map]; exact List.pairwise_lt_range.imp fun h => by omega) hsub
  rw [List.length_map, List.length_range] at hge
  rw [if_neg (by show ¬ ((ordO P l (whP n P) P.length).2.flatten.length < n); omega)]
end Go.Proofs.YtljbnigceammdaaGreatDoor
