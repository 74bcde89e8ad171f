/-
  Dd: what the claim uses of them.
-/
import Derived.Test.YtljbnigceammdaaGreatDoorBn33
import Derived.Test.YtljbnigceammdaaGreatDoorBn34
import Derived.Test.YtljbnigceammdaaGreatDoorBn30
import Derived.Test.YtljbnigceammdaaGreatDoorBn37
namespace Go.Proofs.YtljbnigceammdaaGreatDoor
open Go.RowKit
set_option maxRecDepth 100000
/-- What goes through a node: the node is added. -/
def domT (v : Nat) : List Int × List Int × List CodeT × Unit := ([((2 ^ v : Nat) : Int)], [0], [], ())
def domS (N : Nat) (l : List EdgeT) (r : Nat) : Sy := ⟨2, N, N, sortedE l, [(r : Int)], [0], (List.range N).map domT⟩
theorem pow_w {v : Nat} (h : v < 8) : W64 ((2 ^ v : Nat) : Int) := by
  exact ⟨Int.natCast_nonneg _, Int.ofNat_lt.2 (Nat.lt_trans (Nat.pow_lt_pow_right (a := 2) (by decide) h) (by decide))⟩
theorem zero_w : W64 (0 : Int) := by unfold W64; omega
theorem is_dom {N : Nat} (h8 : N ≤ 8) : is12 2 N = true := by
  unfold is12
  rw [decide_eq_true (by decide), decide_eq_true (by decide), decide_eq_true (by omega), decide_eq_true (by omega)]; rfl
/-- A row of one small word. -/
theorem fits_one {N z : Nat} (h1 : 1 ≤ N) (h8 : N ≤ 8) (hz : z < 2 ^ N) : fitsW [(z : Int)] N = true := by
  obtain ⟨s1, c1⟩ := sz_one h1 h8
  unfold fitsW
  rw [s1, c1, Bool.and_eq_true, List.all_eq_true]
  refine ⟨decide_eq_true rfl, fun i hi => decide_eq_true ?_⟩
  have hi : i < 1 := List.mem_range.1 hi
  have e : min 64 (N - 64 * i) = N := by omega
  have i0 : i = 0 := by omega
  subst i0
  rw [e]
  show ((z : Int)).toNat < 2 ^ N
  rw [Int.toNat_natCast]; exact hz
theorem lt_256 {N z : Nat} (h8 : N ≤ 8) (hz : z < 2 ^ N) : z < 256 := Nat.lt_of_lt_of_le hz (Nat.pow_le_pow_right (n := 2) (by decide) h8)
theorem val_one {N z : Nat} (h1 : 1 ≤ N) (h8 : N ≤ 8) (hz : z < 2 ^ N) : Val 2 N [(z : Int)] := ⟨(val_set (is_dom h8) (by decide)).2 (fits_one h1 h8 hz), one64 (by have := lt_256 h8 hz; unfold W64; omega)⟩
theorem one_val {N : Nat} (h1 : 1 ≤ N) (h8 : N ≤ 8) {x : List Int} (h : Val 2 N x) : ∃ z : Nat, z < 2 ^ N ∧ x = [(z : Int)] := by
  obtain ⟨s1, c1⟩ := sz_one h1 h8
  have hf := (val_set (is_dom h8) (by decide)).1 h.v
  have hl := fits_len hf
  rw [s1] at hl
  obtain ⟨y, rfl⟩ := List.length_eq_one_iff.1 hl
  have hy := h.w64 y (List.mem_singleton.2 rfl)
  unfold fitsW at hf
  rw [Bool.and_eq_true, List.all_eq_true] at hf
  have := of_decide_eq_true (hf.2 0 (List.mem_range.2 (by show 0 < 1; omega)))
  rw [c1, show min 64 (N - 64 * 0) = N by omega] at this
  have this : y.toNat < 2 ^ N := this
  have hy0 : 0 ≤ y := hy.1
  exact ⟨y.toNat, this, by rw [Int.toNat_of_nonneg hy0]⟩
theorem dom_good {N : Nat} {l : List EdgeT} {r : Nat} (h1 : 1 ≤ N) (h8 : N ≤ 8) (hl : l.length ≤ 1024) (he : ∀ e ∈ l, (0 ≤ e.1 ∧ e.1 < N) ∧ 0 ≤ e.2.1 ∧ e.2.1 < N) (hr : r < N) : Good (domS N l r) := by
  refine ⟨is_dom h8, by show 1 ≤ (N : Int); omega, by show (N : Int) ≤ 256; omega, ?_, fun e h => ?_, ?_, fun v hv => ?_, (val_one (z := 0) h1 h8 (Nat.two_pow_pos N)).v, fun t ht => ?_⟩
  · show (sortedE l).length ≤ 1024
    rw [← fold_ins]
    have key : ∀ (l o : List PrT), (l.foldl (fun o x => insE x o) o).length ≤ o.length + l.length := by
      intro l
      induction l with
      | nil => intro o; exact Nat.le_refl _
      | cons x l ih => intro o; have h1 := ih (insE x o); have h2 := insE_len x o; rw [List.foldl_cons, List.length_cons]; omega
    have := key l []
    rw [List.length_nil] at this
    omega
  · exact he e ((sortedE_mem l e).1 h)
  · show ((((List.range N).map domT).length : Nat) : Int) = N
    rw [List.length_map, List.length_range]
  · rw [List.mem_singleton.1 hv]; show 0 ≤ (r : Int) ∧ (r : Int) < N; omega
  · obtain ⟨v, hv, rfl⟩ := List.mem_map.1 ht
    have hv := List.mem_range.1 hv
    refine checkT_ok (is_dom h8) ?_
    show trOk 2 N [((2 ^ v : Nat) : Int)] [0] [] = true
    unfold trOk
    rw [if_neg (by decide), fits_one h1 h8 (Nat.pow_lt_pow_right (by decide) hv), show fitsW [(0 : Int)] N = true from fits_one (z := 0) h1 h8 (Nat.two_pow_pos N)]; rfl
theorem dom_fit {N : Nat} {l : List EdgeT} {r : Nat} (h1 : 1 ≤ N) (h8 : N ≤ 8) (hl : l.length ≤ 1024) (he : ∀ e ∈ l, (0 ≤ e.1 ∧ e.1 < N) ∧ 0 ≤ e.2.1 ∧ e.2.1 < N) (hr : r < N) : Fit (domS N l r) := by
  have hg := dom_good h1 h8 hl he hr
  refine ⟨one64 zero_w, Nat.le_of_ble_eq_true rfl, by have := hg.el; omega, by show 1 ≤ 100000; omega, ?_, fun t ht => ?_⟩
  · show ((List.range N).map domT).length ≤ 100000
    rw [List.length_map, List.length_range]; omega
  · obtain ⟨v, hv, rfl⟩ := List.mem_map.1 ht
    have hv := List.mem_range.1 hv
    exact ⟨one64 (pow_w (by omega)), one64 zero_w, Nat.le_of_ble_eq_true rfl, Nat.le_of_ble_eq_true rfl, Nat.zero_le _⟩
theorem bit_one (z k : Nat) : bitW [(z : Int)] 0 k = z.testBit k := by
  unfold bitW
  show ((z : Int)).toNat.testBit k = _
  rw [Int.toNat_natCast]
/-- Below, of sets that are cut: whatever is in the greater one is in the less one. -/
theorem le_one {N a b : Nat} (h1 : 1 ≤ N) (h8 : N ≤ 8) (ha : a < 2 ^ N) (hb : b < 2 ^ N) : leV 2 N [(a : Int)] [(b : Int)] ↔ ∀ k, b.testBit k = true → a.testBit k = true := by
  have va := val_one h1 h8 ha
  have vb := val_one h1 h8 hb
  constructor
  · intro h k hk
    have := le_bits (.inr rfl) h (i := 0) (k := k) (by show 0 < 1; omega)
    rw [bit_one, bit_one] at this
    have this : (a.testBit k && b.testBit k) = b.testBit k := this
    rw [hk, Bool.and_true] at this
    exact this
  · intro h
    refine ⟨va, vb, join_ext (va.join vb) vb (fun h3 => absurd h3 (by decide)) fun hs i k hi hk => ?_⟩
    rw [join_len (a := [(a : Int)]) (b := [(b : Int)]) rfl] at hi
    have hi : i < 1 := hi
    have i0 : i = 0 := by omega
    subst i0
    rw [join_bit hs va.w64 vb.w64 rfl 0 k (by show 0 < 1; omega), bit_one, bit_one]
    show (a.testBit k && b.testBit k) = b.testBit k
    cases hb : b.testBit k with
    | false => rw [Bool.and_false]
    | true => rw [h k hb]; rfl
/-- A way from r to v, none of whose nodes is x, but the last one maybe. -/
inductive Pw (N : Nat) (l : List EdgeT) (r : Nat) (x : Int) : Int → Prop where
  | root : Pw N l r x r
  | step {u v : Int} (h : Pw N l r x u) (hx : u ≠ x) (hv : v ∈ toS N l u) : Pw N l r x v
theorem toS_sorted (N : Int) (l : List EdgeT) (u v : Int) : v ∈ toS N (sortedE l) u ↔ v ∈ toS N l u := by
  rw [mem_toS, mem_toS]
  exact and_congr_right fun _ => and_congr_right fun _ => exists_congr fun e => and_congr_left fun _ => sortedE_mem l e
theorem pow_bit (u x : Nat) : (2 ^ u).testBit x = decide (u = x) := by rw [Nat.testBit_two_pow]
/-- What goes through a node. -/
theorem out_dom {N : Nat} {l : List EdgeT} {r : Nat} (h8 : N ≤ 8) {z u : Nat} (hz : z < 256) (hu : u < N) : outS (domS N l r) [(z : Int)] u = [((z ||| 2 ^ u : Nat) : Int)] := by
  have ht : (domS N l r).T.getD u ([], [], [], ()) = domT u := by
    show ((List.range N).map domT).getD u _ = _
    rw [List.getD_eq_getElem?_getD, List.getElem?_map, List.getElem?_range hu]; rfl
  unfold outS
  rw [ht]
  show applyR 2 [((2 ^ u : Nat) : Int)] [0] [] [(z : Int)] = _
  rw [applyR_set (by decide)]
  have hp := Nat.pow_lt_pow_right (a := 2) (by decide) (show u < 8 by omega)
  have e1 : bothW anW [(z : Int)] [0] = [(z : Int)] := by
    refine row_ext (fun y hy => ?_) (one64 (by unfold W64; omega)) rfl fun i k hi hk => ?_
    · obtain ⟨q, _, rfl⟩ := List.mem_map.1 hy; exact wrap_64 _
    · rw [an_bit (one64 (by unfold W64; omega)) (one64 zero_w) i hk]
      have : bitW [0] i k = false := by
        unfold bitW wd
        cases i with
        | zero => exact zero_bit k
        | succ i => exact zero_bit k
      rw [this]; simp
  rw [e1]
  show [orW (z : Int) ((2 ^ u : Nat) : Int)] = _
  rw [or_w hz (by omega)]
/-- How the least solution stands: word by node. -/
def domZ (N : Nat) (l : List EdgeT) (r v : Nat) : Nat := (wd ((solS (domS N l r)).1.getD v []) 0).toNat
theorem or_powD {N z u : Nat} (hz : z < 2 ^ N) (hu : u < N) : z ||| 2 ^ u < 2 ^ N := Nat.or_lt_two_pow hz (Nat.pow_lt_pow_right (by decide) hu)
theorem full_bits {N k : Nat} (hk : k < N) : (2 ^ N - 1).testBit k = true := by rw [Nat.testBit_two_pow_sub_one]; exact decide_eq_true hk
open Classical in
/-- What none goes round, as a word. -/
noncomputable def roundZ (N : Nat) (l : List EdgeT) (r v : Nat) : Nat := ofB N (((List.range N).filter fun x : Nat => decide (¬ Pw N l r (x : Int) (v : Int))).map fun x : Nat => (x : Int))
theorem ofB_bit {N : Nat} (l : List Int) (k : Nat) : (ofB N l).testBit k = true ↔ (k : Int) ∈ l ∧ k < N := by
  have key : ∀ (l : List Int) (z : Nat), (l.foldl (setB N) z).testBit k = true ↔ z.testBit k = true ∨ ((k : Int) ∈ l ∧ k < N) := by
    intro l
    induction l with
    | nil => intro z; simp
    | cons a l ih =>
      intro z
      rw [List.foldl_cons, ih]
      unfold setB
      by_cases h : 0 ≤ a ∧ a < N
      · rw [if_pos h, Nat.testBit_or, pow_bit, Bool.or_eq_true, decide_eq_true_eq, List.mem_cons]
        constructor
        · rintro ((h1 | h1) | h1)
          · exact .inl h1
          · exact .inr ⟨.inl (by omega), by omega⟩
          · exact .inr ⟨.inr h1.1, h1.2⟩
        · rintro (h1 | ⟨h1 | h1, h2⟩)
          · exact .inl (.inl h1)
          · exact .inl (.inr (by omega))
          · exact .inr ⟨h1, h2⟩
      · rw [if_neg h, List.mem_cons]
        constructor
        · rintro (h1 | h1)
          · exact .inl h1
          · exact .inr ⟨.inr h1.1, h1.2⟩
        · rintro (h1 | ⟨h1 | h1, h2⟩)
          · exact .inl h1
          · exact absurd ⟨by omega, by omega⟩ h
          · exact .inr ⟨h1, h2⟩
  unfold ofB
  rw [key]; simp
theorem ofB_pow {N : Nat} (l : List Int) : ofB N l < 2 ^ N := by
  have key : ∀ (l : List Int) (z : Nat), z < 2 ^ N → l.foldl (setB N) z < 2 ^ N := by
    intro l
    induction l with
    | nil => exact fun z hz => hz
    | cons a l ih =>
      intro z hz
      refine ih _ ?_
      unfold setB
      split
      · exact or_powD hz (by omega)
      · exact hz
  exact key l 0 (Nat.two_pow_pos N)
open Classical in
theorem roundZ_bit {N : Nat} {l : List EdgeT} {r v x : Nat} : (roundZ N l r v).testBit x = true ↔ x < N ∧ ¬ Pw N l r (x : Int) (v : Int) := by
  unfold roundZ
  rw [ofB_bit]
  constructor
  · rintro ⟨h1, h2⟩
    obtain ⟨y, hy, e⟩ := List.mem_map.1 h1
    obtain rfl : y = x := by omega
    exact ⟨h2, of_decide_eq_true (List.mem_filter.1 hy).2⟩
  · rintro ⟨h1, h2⟩
    exact ⟨List.mem_map.2 ⟨x, List.mem_filter.2 ⟨List.mem_range.2 h1, decide_eq_true h2⟩, rfl⟩, h1⟩
theorem start_dom {N : Nat} {l : List EdgeT} {r v : Nat} (h1 : 1 ≤ N) (h8 : N ≤ 8) : startS (domS N l r) v = if v = r then [((0 : Nat) : Int)] else [((2 ^ N - 1 : Nat) : Int)] := by
  unfold startS
  by_cases h : v = r
  · subst h; rw [if_pos rfl, if_pos]; rfl
    show ([(v : Int)].any fun z => decide ((v : Int) = z)) = true
    simp
  · rw [if_neg h, if_neg]
    · show botL 2 N = _
      unfold botL
      rw [if_pos ⟨rfl, is_dom h8⟩]
      obtain ⟨s1, c1⟩ := sz_one h1 h8
      unfold fullW
      rw [s1, c1]
      show [((2 ^ min 64 (N - 64 * 0) - 1 : Nat) : Int)] = _
      rw [show min 64 (N - 64 * 0) = N by omega]
    · show ¬ ([(r : Int)].any fun z => decide ((v : Int) = z)) = true
      simp; omega
theorem dom_sol {N : Nat} {l : List EdgeT} {r : Nat} (h1 : 1 ≤ N) (h8 : N ≤ 8) (hl : l.length ≤ 1024) (he : ∀ e ∈ l, (0 ≤ e.1 ∧ e.1 < N) ∧ 0 ≤ e.2.1 ∧ e.2.1 < N) (hr : r < N) :
    ∀ v, v < N → (solS (domS N l r)).1.getD v [] = [(domZ N l r v : Int)] ∧ domZ N l r v < 2 ^ N ∧ ∀ x, (domZ N l r v).testBit x = true ↔ x < N ∧ ¬ Pw N l r (x : Int) (v : Int) := by
  have hg := dom_good h1 h8 hl he hr
  have hf := dom_fit h1 h8 hl he hr
  obtain ⟨q1, q2, _, q4⟩ := sol_least hf hg
  have hrow : ∀ v, v < N → (solS (domS N l r)).1.getD v [] = [(domZ N l r v : Int)] ∧ domZ N l r v < 2 ^ N := fun v hv => by
    obtain ⟨z, hz, e⟩ := one_val h1 h8 (q1.get (i := v) (by show (v : Int) < N; omega))
    have : domZ N l r v = z := by unfold domZ; rw [e]; exact Int.toNat_natCast z
    rw [this]; exact ⟨e, hz⟩
  have hpow : 2 ^ N - 1 < 2 ^ N := by have := Nat.two_pow_pos N; omega
  -- what solves is below what comes along each edge, and below the start
  have hedge : ∀ u v, u < N → v < N → (v : Int) ∈ toS N l u → ∀ x, (domZ N l r v).testBit x = true → ((domZ N l r u) ||| 2 ^ u).testBit x = true := fun u v hu hv huv x hx => by
    obtain ⟨_, _, d, hd, d1, d2⟩ := mem_toS.1 ((toS_sorted N l u v).2 huv)
    have := (stepV_edge hf hg q1 v (domS N l r).edges.length (Nat.le_refl _)).2 d (by rw [List.take_length]; exact hd) (by rw [d2])
    rw [← stepS_get (domS N l r) _ (show (v : Int) < N by omega), ← q2, (hrow v hv).1, d1, Int.toNat_natCast, (hrow u hu).1, out_dom h8 (lt_256 h8 (hrow u hu).2) hu] at this
    exact (le_one h1 h8 (or_powD (hrow u hu).2 hu) (hrow v hv).2).1 this x hx
  have hstart : ∀ v, v < N → ∀ x, (domZ N l r v).testBit x = true → (if v = r then 0 else 2 ^ N - 1).testBit x = true := fun v hv x hx => by
    have := (stepV_edge hf hg q1 v (domS N l r).edges.length (Nat.le_refl _)).1
    rw [← stepS_get (domS N l r) _ (show (v : Int) < N by omega), ← q2, (hrow v hv).1, start_dom h1 h8] at this
    by_cases h : v = r
    · rw [if_pos h] at this ⊢
      exact (le_one h1 h8 (Nat.two_pow_pos N) (hrow v hv).2).1 this x hx
    · rw [if_neg h] at this ⊢
      exact (le_one h1 h8 hpow (hrow v hv).2).1 this x hx
  have hno : ∀ (x : Nat) (w : Int), Pw N l r (x : Int) w → ∀ v : Nat, w = v → v < N → (domZ N l r v).testBit x = false := by
    intro x w hp
    induction hp with
    | root =>
      intro v e hv
      obtain rfl : v = r := by omega
      refine Bool.eq_false_iff.2 fun hx => ?_
      have := hstart v hv x hx
      rw [if_pos rfl, Nat.zero_testBit] at this
      cases this
    | @step u w _ hxu hw ih =>
      intro v e hv
      subst e
      obtain ⟨_, hu, _⟩ := mem_toS.1 hw
      obtain ⟨U, rfl⟩ : ∃ U : Nat, u = U := ⟨u.toNat, by omega⟩
      refine Bool.eq_false_iff.2 fun hx => ?_
      have := hedge U v (by omega) hv hw x hx
      rw [Nat.testBit_or, ih U rfl (by omega), Bool.false_or, pow_bit, decide_eq_true_eq] at this
      exact hxu (by omega)
  -- what none goes round is a solution from above
  have hy : ∀ v, roundZ N l r v < 2 ^ N := fun v => ofB_pow _
  obtain ⟨Y, hY⟩ : ∃ Y : List (List Int), Y = (List.range N).map fun v => [(roundZ N l r v : Int)] := ⟨_, rfl⟩
  have hYv : Vals (domS N l r) Y := by
    rw [hY]
    refine ⟨by show (((List.range N).map _).length : Int) = N; rw [List.length_map, List.length_range], fun y hy2 => ?_⟩
    obtain ⟨v, _, rfl⟩ := List.mem_map.1 hy2
    exact val_one h1 h8 (hy v)
  have hYg : ∀ v, v < N → Y.getD v [] = [(roundZ N l r v : Int)] := fun v hv => by
    rw [hY, List.getD_eq_getElem?_getD, List.getElem?_map, List.getElem?_range hv]; rfl
  have hYs : leA (domS N l r) (stepS (domS N l r) Y) Y := by
    refine ⟨step_Vals hf hg hYv, hYv, fun v hv => ?_⟩
    have hv' : v < N := by have hv : (v : Int) < N := hv; omega
    rw [stepS_get _ _ hv, hYg v hv']
    have hmost : ∀ k, k ≤ (domS N l r).edges.length → leV 2 N (stepV (domS N l r) Y k v) [(roundZ N l r v : Int)] := by
      intro k
      induction k with
      | zero =>
        intro _
        show leV 2 N (startS (domS N l r) v) _
        rw [start_dom h1 h8]
        by_cases h : v = r
        · rw [if_pos h]
          refine (le_one h1 h8 (Nat.two_pow_pos N) (hy v)).2 fun x hx => ?_
          have := (roundZ_bit.1 hx).2
          subst h
          exact absurd .root this
        · rw [if_neg h]
          exact (le_one h1 h8 hpow (hy v)).2 fun x hx => full_bits (roundZ_bit.1 hx).1
      | succ k ih =>
        intro hk
        have ih := ih (by omega)
        rw [stepV_succ _ _ (by omega)]
        unfold joinE
        by_cases hc : (domS N l r).edges[k].2.1 = (v : Int)
        · rw [if_pos hc]
          have hem : (domS N l r).edges[k] ∈ sortedE l := List.getElem_mem _
          have hel := he _ ((sortedE_mem l _).1 hem)
          obtain ⟨u, hu⟩ : ∃ u : Nat, (domS N l r).edges[k].1 = u := ⟨(domS N l r).edges[k].1.toNat, by omega⟩
          rw [hu, Int.toNat_natCast] 
          rw [hu] at hel
          have hu' : u < N := by omega
          refine leV.join ih ?_
          rw [hYg u hu', out_dom h8 (lt_256 h8 (hy u)) hu']
          refine (le_one h1 h8 (or_powD (hy u) hu') (hy v)).2 fun x hx => ?_
          obtain ⟨hx1, hx2⟩ := roundZ_bit.1 hx
          rw [Nat.testBit_or, pow_bit, Bool.or_eq_true, decide_eq_true_eq]
          by_cases hux : u = x
          · exact .inr hux
          · refine .inl (roundZ_bit.2 ⟨hx1, fun hp => hx2 (.step hp (by omega) (mem_toS.2 ⟨by omega, by omega, _, (sortedE_mem l _).1 hem, hu, hc⟩))⟩)
        · rw [if_neg hc]; exact ih
    exact hmost _ (Nat.le_refl _)
  intro v hv
  refine ⟨(hrow v hv).1, (hrow v hv).2, fun x => ?_⟩
  have hle := (q4 Y hYs).2.2 v (show (v : Int) < N by omega)
  rw [(hrow v hv).1, hYg v hv] at hle
  have hle := (le_one h1 h8 (hrow v hv).2 (hy v)).1 hle x
  constructor
  · intro hx
    refine ⟨?_, fun hp => ?_⟩
    · by_cases h : x < N
      · exact h
      · have := Nat.testBit_lt_two_pow (Nat.lt_of_lt_of_le (hrow v hv).2 (Nat.pow_le_pow_right (n := 2) (by decide) (show N ≤ x by omega)))
        rw [this] at hx; cases hx
    · rw [hno x v hp v rfl hv] at hx; cases hx
  · exact fun h => hle (roundZ_bit.2 h)
end Go.Proofs.YtljbnigceammdaaGreatDoor
