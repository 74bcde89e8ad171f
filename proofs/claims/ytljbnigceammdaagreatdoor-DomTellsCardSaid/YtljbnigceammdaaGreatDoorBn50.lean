/-
  Di; Rb: what the claim uses of them.
-/
import Derived.Test.YtljbnigceammdaaGreatDoorBn47
import Derived.Test.YtljbnigceammdaaGreatDoorBn33
namespace Go.Proofs.YtljbnigceammdaaGreatDoor
open Go.RowKit
set_option maxRecDepth 100000
theorem sub_lenD : ∀ {l m : List Int}, l.Nodup → (∀ x ∈ l, x ∈ m) → l.length ≤ m.length
  | [], _, _, _ => Nat.zero_le _
  | a :: l, m, hd, h => by
    have hd := List.nodup_cons.1 hd
    have ha := h a (List.mem_cons_self ..)
    have h1 := sub_lenD (l := l) (m := m.erase a) hd.2 fun x hx => (List.mem_erase_of_ne (fun e : x = a => hd.1 (by rw [← e]; exact hx))).2 (h x (List.mem_cons_of_mem _ hx))
    rw [List.length_erase_of_mem ha] at h1
    have := List.length_pos_of_mem ha
    rw [List.length_cons]; omega
theorem sub_eqD {l m : List Int} (hl : l.Nodup) (h : ∀ x ∈ l, x ∈ m) (hlen : m.length ≤ l.length) : ∀ x ∈ m, x ∈ l := by
  intro x hx
  refine Decidable.byContradiction fun hn => ?_
  have := sub_lenD (l := x :: l) (m := m) (List.nodup_cons.2 ⟨hn, hl⟩) fun y hy => by
    rcases List.mem_cons.1 hy with rfl | hy
    · exact hx
    · exact h y hy
  rw [List.length_cons] at this; omega
theorem exists_maxD (f : Int → Nat) : ∀ {l : List Int}, l ≠ [] → ∃ x ∈ l, ∀ y ∈ l, f y ≤ f x
  | [], h => absurd rfl h
  | [a], _ => ⟨a, List.mem_cons_self .., fun y hy => by rw [List.mem_singleton.1 hy]; exact Nat.le_refl _⟩
  | a :: b :: l, _ => by
    obtain ⟨x, hx, h⟩ := exists_maxD f (l := b :: l) (by simp)
    by_cases c : f a ≤ f x
    · exact ⟨x, List.mem_cons_of_mem _ hx, fun y hy => by
        rcases List.mem_cons.1 hy with rfl | hy
        · exact c
        · exact h y hy⟩
    · exact ⟨a, List.mem_cons_self .., fun y hy => by
        rcases List.mem_cons.1 hy with rfl | hy
        · exact Nat.le_refl _
        · have := h y hy; omega⟩
/-- A graph, and a root. -/
structure DG (N r : Nat) (l : List EdgeT) : Prop where
  h1 : 1 ≤ N
  h8 : N ≤ 8
  hl : l.length ≤ 1000
  ri : rightE N l = true
  hr : r < N
theorem row_ov {N r : Nat} {l : List EdgeT} (g : DG N r l) {v : Int} (hv : 0 ≤ v ∧ v < N) (x : Int) : x ∈ domRow N l r v.toNat ↔ Ov N l r x v := by
  rw [mem_row g.h1 g.h8 g.hl g.ri g.hr (by omega)]
  unfold Ov
  rw [Int.toNat_of_nonneg hv.1]
theorem row_nd (N : Nat) (l : List EdgeT) (r v : Nat) : (domRow N l r v).Nodup := (row_inc N l r v).imp fun h => by omega
theorem ov_self {N r : Nat} {l : List EdgeT} {v : Int} (h : Rch N l [(r : Int)] v) : Ov N l r v v := ⟨h, h.node, .inl rfl⟩
theorem rch_one {N r : Nat} {l : List EdgeT} (x : Int) {w : Int} (_hr : r < N) (h : Rch N l [(r : Int)] w) : Pw N l r x w ∨ Rch N l [(r : Int)] x := by
  induction h with
  | root hm _ => rw [List.mem_singleton.1 hm]; exact .inl .root
  | @step u w hu hv ih =>
    rcases ih with ih | ih
    · by_cases e : u = x
      · subst e; exact .inr hu
      · exact .inl (.step ih e hv)
    · exact .inr ih
theorem ov_rch {N r : Nat} {l : List EdgeT} {x v : Int} (hr : r < N) (h : Ov N l r x v) : Rch N l [(r : Int)] x := by
  rcases h.2.2 with e | e
  · subst e; exact h.1
  · exact (rch_one x hr h.1).resolve_left e
theorem ov_root {N r : Nat} {l : List EdgeT} {v : Int} (hr : r < N) (h : Rch N l [(r : Int)] v) : Ov N l r r v := by
  refine ⟨h, by omega, ?_⟩
  by_cases e : (r : Int) = v
  · exact .inl e
  · exact .inr fun hp => e (pw_root hp).symm
theorem all_getD {N r : Nat} {l : List EdgeT} {x : Int} (hx : 0 ≤ x ∧ x < N) : (domAll N l r).getD x.toNat [] = domRow N l r x.toNat := by
  have := domAll_get (l := l) (r := r) (show x.toNat < N by omega)
  rw [Int.toNat_natCast] at this
  rw [List.getD_eq_getElem?_getD, this]; rfl
/-- All others over v are over x. -/
def nearR (N : Nat) (l : List EdgeT) (r : Nat) (v x : Int) : Bool := decide (x ≠ v) && (domRow N l r v.toNat).all fun c => decide (c = v) || decide (c ∈ domRow N l r x.toNat)
theorem near_iff {N r : Nat} {l : List EdgeT} (g : DG N r l) {v x : Int} (hv : 0 ≤ v ∧ v < N) (hx : x ∈ domRow N l r v.toNat) : nearB (domAll N l r) v (domRow N l r v.toNat) x = nearR N l r v x := by
  have hox := (row_ov g hv x).1 hx
  have hxn := hox.2.1
  unfold nearB nearR
  rw [all_getD hxn]
  by_cases e : x = v
  · subst e; simp
  · have hvx : v ∉ domRow N l r x.toNat := fun h => e (ov_anti hox ((row_ov g hxn v).1 h))
    have hsub : ∀ c ∈ v :: domRow N l r x.toNat, c ∈ domRow N l r v.toNat := fun c hc => by
      rcases List.mem_cons.1 hc with rfl | hc
      · exact (row_ov g hv c).2 (ov_self hox.1)
      · exact (row_ov g hv c).2 (ov_trans ((row_ov g hxn c).1 hc) hox)
    have hnd : (v :: domRow N l r x.toNat).Nodup := List.nodup_cons.2 ⟨hvx, row_nd ..⟩
    have h1 := sub_lenD hnd hsub
    rw [List.length_cons] at h1
    rw [Bool.eq_iff_iff, Bool.and_eq_true, Bool.and_eq_true, decide_eq_true_eq, decide_eq_true_eq, List.all_eq_true]
    refine and_congr_right fun _ => ?_
    constructor
    · intro h c hc
      have := sub_eqD hnd hsub (by rw [List.length_cons]; omega) c hc
      rw [Bool.or_eq_true, decide_eq_true_eq, decide_eq_true_eq]
      exact List.mem_cons.1 this
    · intro h
      have := sub_lenD (row_nd N l r v.toNat) (m := v :: domRow N l r x.toNat) fun c hc => by
        have := h c hc
        rw [Bool.or_eq_true, decide_eq_true_eq, decide_eq_true_eq] at this
        exact List.mem_cons.2 this
      rw [List.length_cons] at this
      omega
theorem near_one {N r : Nat} {l : List EdgeT} (g : DG N r l) {v x y : Int} (hv : 0 ≤ v ∧ v < N) (hx : x ∈ domRow N l r v.toNat) (hy : y ∈ domRow N l r v.toNat) (nx : nearR N l r v x = true) (ny : nearR N l r v y = true) : x = y := by
  unfold nearR at nx ny
  rw [Bool.and_eq_true, decide_eq_true_eq, List.all_eq_true] at nx ny
  have h1 := nx.2 y hy
  have h2 := ny.2 x hx
  rw [Bool.or_eq_true, decide_eq_true_eq, decide_eq_true_eq] at h1 h2
  have hxn := ((row_ov g hv x).1 hx).2.1
  have hyn := ((row_ov g hv y).1 hy).2.1
  exact ov_anti ((row_ov g hyn x).1 (h2.resolve_left nx.1)) ((row_ov g hxn y).1 (h1.resolve_left ny.1))
theorem near_some {N r : Nat} {l : List EdgeT} (g : DG N r l) {v : Int} (hv : Rch N l [(r : Int)] v) (hne : v ≠ r) : ∃ x ∈ domRow N l r v.toNat, nearR N l r v x = true := by
  have hvn := hv.node
  have hrm : (r : Int) ∈ (domRow N l r v.toNat).filter fun c => decide (c ≠ v) := List.mem_filter.2 ⟨(row_ov g hvn _).2 (ov_root g.hr hv), decide_eq_true fun h => hne h.symm⟩
  obtain ⟨x, hx, hmax⟩ := exists_maxD (fun c => (domRow N l r c.toNat).length) (l := (domRow N l r v.toNat).filter fun c => decide (c ≠ v)) (List.ne_nil_of_mem hrm)
  obtain ⟨hx1, hx2⟩ := List.mem_filter.1 hx
  have hx2 := of_decide_eq_true hx2
  have hox := (row_ov g hvn x).1 hx1
  refine ⟨x, hx1, ?_⟩
  unfold nearR
  rw [Bool.and_eq_true, decide_eq_true_eq, List.all_eq_true]
  refine ⟨hx2, fun c hc => ?_⟩
  rw [Bool.or_eq_true, decide_eq_true_eq, decide_eq_true_eq]
  by_cases e : c = v
  · exact .inl e
  · refine .inr ?_
    have hoc := (row_ov g hvn c).1 hc
    rcases ov_line g.hr hox hoc (ov_rch g.hr hox) (ov_rch g.hr hoc) with h | h
    · by_cases e2 : c = x
      · subst e2; exact (row_ov g hox.2.1 c).2 (ov_self (ov_rch g.hr hox))
      · have hcx : c ∉ domRow N l r x.toNat := fun h2 => e2 (ov_anti ((row_ov g hox.2.1 c).1 h2) h)
        have h3 := sub_lenD (l := c :: domRow N l r x.toNat) (m := domRow N l r c.toNat) (List.nodup_cons.2 ⟨hcx, row_nd ..⟩) fun y hy => by
          rcases List.mem_cons.1 hy with rfl | hy
          · exact (row_ov g hoc.2.1 y).2 (ov_self (ov_rch g.hr hoc))
          · exact (row_ov g hoc.2.1 y).2 (ov_trans ((row_ov g hox.2.1 y).1 hy) h)
        have h4 := hmax c (List.mem_filter.2 ⟨hc, decide_eq_true e⟩)
        have h4 : (domRow N l r c.toNat).length ≤ (domRow N l r x.toNat).length := h4
        rw [List.length_cons] at h3
        omega
    · exact (row_ov g hox.2.1 c).2 h
theorem fold_find {p : Int → Bool} : ∀ (L : List Int) (o : Int), (∀ x ∈ L, ∀ y ∈ L, p x = true → p y = true → x = y) → L.foldl (fun o a => if p a = true then a else o) o = (L.find? p).getD o
  | [], _, _ => rfl
  | a :: L, o, h => by
    rw [List.foldl_cons, fold_find L _ fun x hx y hy => h x (List.mem_cons_of_mem _ hx) y (List.mem_cons_of_mem _ hy)]
    by_cases c : p a = true
    · rw [if_pos c, List.find?_cons_of_pos c]
      cases hf : L.find? p with
      | none => rfl
      | some x =>
        have := List.find?_some hf
        exact (h x (List.mem_cons_of_mem _ (List.mem_of_find?_eq_some hf)) a (List.mem_cons_self ..) this c)
    · rw [if_neg c, List.find?_cons_of_neg c]
/-- As the document finds the nearest one. -/
def aboveR (N : Nat) (l : List EdgeT) (r : Nat) (v : Int) : Int := (domRow N l r v.toNat).foldl (fun o a => if nearR N l r v a = true then a else o) (if (domRow N l r v.toNat).length = 0 then -2 else -1)
theorem above_eq {N r : Nat} {l : List EdgeT} (g : DG N r l) {v : Nat} (hv : v < N) : aboveR N l r v = aboveV N l r v := by
  have hvn : 0 ≤ (v : Int) ∧ (v : Int) < N := by omega
  have hn := fun x hx => near_iff g hvn (x := x) hx
  have hu := fun x hx y hy => near_one g hvn (x := x) (y := y) hx hy
  unfold aboveR aboveV
  rw [Int.toNat_natCast] at hn hu ⊢
  rw [fold_find _ _ hu]
  have : (domRow N l r v).find? (nearR N l r v) = (domRow N l r v).find? (nearB (domAll N l r) v (domRow N l r v)) := by
    generalize hL : domRow N l r v = L at hn ⊢
    clear hu
    have key : ∀ M : List Int, (∀ x ∈ M, x ∈ L) → M.find? (nearR N l r v) = M.find? (nearB (domAll N l r) v L) := by
      intro M
      induction M with
      | nil => intro _; rfl
      | cons a M ih =>
        intro h
        have h1 := hn a (h a (List.mem_cons_self ..))
        rw [List.find?_cons, List.find?_cons, h1, ih fun x hx => h x (List.mem_cons_of_mem _ hx)]
    exact key L fun _ h => h
  rw [this]
  cases (domRow N l r v).find? (nearB (domAll N l r) v (domRow N l r v)) with
  | none => rfl
  | some x => rfl
/-- What is told of a node that is reached. -/
theorem above_none {N r : Nat} {l : List EdgeT} {v : Nat} (hv : ¬ Rch N l [(r : Int)] v) : domRow N l r v = [] ∧ aboveV N l r v = -2 := by
  have h : domRow N l r v = [] := by unfold domRow; exact if_neg fun h => hv ((mem_reachR _).1 h)
  refine ⟨h, ?_⟩
  unfold aboveV
  rw [h]; rfl
theorem above_root {N r : Nat} {l : List EdgeT} (g : DG N r l) : domRow N l r r = [(r : Int)] ∧ aboveV N l r r = -1 := by
  have hrn : 0 ≤ (r : Int) ∧ (r : Int) < N := by have := g.hr; omega
  have hrr : Rch N l [(r : Int)] r := .root (List.mem_singleton.2 rfl) hrn
  have hmem := fun x => row_ov g hrn x
  rw [Int.toNat_natCast] at hmem
  have h : domRow N l r r = [(r : Int)] := by
    refine inc_ext (row_inc ..) (List.pairwise_singleton ..) fun x => ?_
    rw [hmem, List.mem_singleton]
    constructor
    · intro h
      rcases h.2.2 with e | e
      · exact e
      · exact absurd .root e
    · rintro rfl; exact ov_self hrr
  refine ⟨h, ?_⟩
  unfold aboveV
  rw [h]
  have : nearB (domAll N l r) r [(r : Int)] r = false := by unfold nearB; simp
  rw [List.find?_cons, this]; rfl
theorem above_some {N r : Nat} {l : List EdgeT} (g : DG N r l) {v : Nat} (hv : Rch N l [(r : Int)] v) (hne : v ≠ r) : ∃ x : Nat, aboveV N l r v = x ∧ x < N ∧ Rch N l [(r : Int)] x ∧ (domRow N l r v).length = (domRow N l r x).length + 1 := by
  have hvn := hv.node
  obtain ⟨x, hx, hn⟩ := near_some g hv (by omega)
  have hi := fun x hx => near_iff g hvn (x := x) hx
  rw [← hi x hx] at hn
  rw [Int.toNat_natCast] at hx hn
  unfold aboveV
  cases hf : (domRow N l r v).find? (nearB (domAll N l r) v (domRow N l r v)) with
  | none => exact absurd hn (List.find?_eq_none.1 hf x hx)
  | some y =>
    have hy := List.mem_of_find?_eq_some hf
    have hny := List.find?_some hf
    have hmem := fun x => row_ov g hvn x
    rw [Int.toNat_natCast] at hmem
    have hoy := (hmem y).1 hy
    have hyn := hoy.2.1
    unfold nearB at hny
    rw [all_getD hyn, Bool.and_eq_true, decide_eq_true_eq, decide_eq_true_eq] at hny
    refine ⟨y.toNat, by show y = _; omega, by omega, by rw [Int.toNat_of_nonneg hyn.1]; exact ov_rch g.hr hoy, by omega⟩
theorem above_ne {N r : Nat} {l : List EdgeT} (g : DG N r l) {v : Nat} (hv : Rch N l [(r : Int)] v) : aboveV N l r v ≠ -2 := by
  by_cases e : v = r
  · subst e; rw [(above_root g).2]; decide
  · obtain ⟨x, h, _⟩ := above_some g hv e
    rw [h]; omega
theorem domAbove_get {N : Nat} {l : List EdgeT} {r v : Nat} (hv : v < N) : (domAbove N l r).getD v 0 = aboveV N l r v := by
  unfold domAbove
  rw [List.getD_eq_getElem?_getD, List.getElem?_map, List.getElem?_range hv]; rfl
/-- Steps lead out: as many as are over it. -/
theorem steps_dom {N r : Nat} {l : List EdgeT} (g : DG N r l) : ∀ (k f n : Nat) (v : Nat), Rch N l [(r : Int)] v → (domRow N l r v).length = k → k < f → n + k ≤ N → (stepsOut (domAbove N l r) f v n).2 = n + k
  | 0, f, n, v, hv, hk, _, _ => by
    have hvn := hv.node
    have := (row_ov g hvn v).2 (ov_self hv)
    rw [Int.toNat_natCast] at this
    rw [List.length_eq_zero_iff.1 hk] at this
    cases this
  | k + 1, 0, _, _, _, _, h, _ => by omega
  | k + 1, f + 1, n, v, hv, hk, hf, hn => by
    have hvn := hv.node
    have hlen := domAbove_length N l r
    rw [so_yes (by omega) (by omega) (by omega), Int.toNat_natCast, domAbove_get (by omega)]
    by_cases e : v = r
    · subst e
      obtain ⟨h1, h2⟩ := above_root g
      rw [h1] at hk
      have hk : k = 0 := by have : [(v : Int)].length = 1 := rfl; omega
      subst hk
      rw [h2]
      cases f with
      | zero => rfl
      | succ f => rw [so_no (by omega)]
    · obtain ⟨x, h1, h2, h3, h4⟩ := above_some g hv e
      rw [h1, steps_dom g k f (n + 1) x h3 (by omega) (by omega) (by omega)]; omega
theorem row_len {N r : Nat} {l : List EdgeT} (g : DG N r l) {v : Nat} (hv : v < N) : (domRow N l r v).length ≤ N := by
  have hvn : 0 ≤ (v : Int) ∧ (v : Int) < N := by omega
  have hmem := fun x => row_ov g hvn x
  rw [Int.toNat_natCast] at hmem
  exact nodup_leD N _ (row_nd ..) fun z hz => ((hmem z).1 hz).2.1
theorem depth_dom {N r : Nat} {l : List EdgeT} (g : DG N r l) {v : Nat} (hv : Rch N l [(r : Int)] v) : depthV (domAbove N l r) v = (domRow N l r v).length := by
  have hvn := hv.node
  have hlen := domAbove_length N l r
  have hle := row_len g (v := v) (by omega)
  have := steps_dom g _ ((domAbove N l r).length + 2) 0 v hv rfl (by omega) (by omega)
  unfold depthV
  rw [this, Nat.zero_add]
  exact if_pos (by omega)
end Go.Proofs.YtljbnigceammdaaGreatDoor
namespace Go.Proofs.YtljbnigceammdaaGreatDoor
open Go.RowKit
set_option maxRecDepth 100000
theorem listB_length (b : List Bool) (k : Nat) : (listB b k).length ≤ k := by unfold listB; rw [List.length_map]; exact Nat.le_trans (List.length_filter_le _ _) (by simp)
theorem reachR_length (n : Nat) (l : List EdgeT) (fr : List Int) : (reachR n l fr).length ≤ n := by
  have := listB_length (reachB n l fr) ((n : Int)).toNat
  rw [Int.toNat_natCast] at this
  exact this
end Go.Proofs.YtljbnigceammdaaGreatDoor
