/-
  Da: what the claim uses of them.
-/
import Derived.Test.YtljbnigceammdaaGreatDoorBn29
import Derived.Test.YtljbnigceammdaaGreatDoorBn27
import Derived.Test.YtljbnigceammdaaGreatDoorBn30
namespace Go.Proofs.YtljbnigceammdaaGreatDoor
open Go.RowKit
set_option maxRecDepth 100000
/-- append to such a list; the list stays known. -/
theorem append_accOV {i : TI} {K : AV → Hp → Prop} (fr : Hp) {acc σ : Hp} {k n : Nat} {v x : AV} {cs new : List AV} (h : AccO i.size k v acc cs) (hx : SrcAt (fr ++ (acc ++ σ)) i.size x n new) (hnew : new.length = n * i.size) (hn : k + n ≤ 1048576) (hb : i.bytes ≤ 1024) (h0 : 0 < i.size)
    (go : ∀ v' acc', AccO i.size (k + n) v' acc' (cs ++ new) → K v' (fr ++ (acc' ++ σ))) : AppendAt i (fr ++ (acc ++ σ)) v x K := by
  cases h with
  | nil =>
    refine .perm _ (front_perm' fr [] σ) (.fresh n new (.inl rfl) (hx.perm (front_perm' fr [] σ)) (by omega) hb h0 (K := fun v σ3 => (n = 0 ∧ v = .nils ∧ σ3 = [] ++ (fr ++ σ)) ∨ (n ≠ 0 ∧ ∃ b, v = .mref b 0 n i.size ∧ σ3 = (b, new) :: ([] ++ (fr ++ σ)))) (fun hne b => .inr ⟨hne, b, rfl, rfl⟩) (fun h0 => .inl ⟨h0, rfl, rfl⟩)) ?_
    rintro v σ3 (⟨hz, rfl, rfl⟩ | ⟨hz, b, rfl, rfl⟩)
    · subst hz
      obtain rfl : new = [] := List.length_eq_zero_iff.1 (by simpa using hnew)
      exact ⟨_, (front_perm' fr [] σ).symm, .inl (go _ _ .nil)⟩
    · refine ⟨_, (front_perm' fr [(b, new)] σ).symm, .inl (go _ _ ?_)⟩
      have := AccO.mref (e := i.size) b 0 (0 + n) new new (by rw [List.drop_zero, Nat.zero_add, ← hnew, List.take_length]) (by rw [hnew, Nat.zero_add, Nat.zero_add]; exact Nat.le_refl _)
      rw [Nat.zero_add] at this ⊢
      exact this
  | mref b off k cs all h h2 =>
    have hl : cs.length = k * i.size := by rw [← h]; simp; omega
    refine .perm _ (front_perm' fr [(b, all)] σ) (.moreO 0 b off k n all new rfl rfl h2 (hx.perm (front_perm' fr [(b, all)] σ)) hn hb h0 (K := fun v σ3 => (v = .mref b off (k + n) i.size ∧ σ3 = (b, all.take (off + k * i.size) ++ new) :: (fr ++ σ)) ∨ ∃ b', v = .mref b' 0 (k + n) i.size ∧ σ3 = (b', cs ++ new) :: (fr ++ σ)) (.inl ⟨rfl, rfl⟩) (fun b' => .inr ⟨b', rfl, by rw [h]; rfl⟩)) ?_
    rintro v σ3 (⟨rfl, rfl⟩ | ⟨b', rfl, rfl⟩)
    · refine ⟨_, (front_perm' fr [(b, all.take (off + k * i.size) ++ new)] σ).symm, .inl (go _ _ (.mref _ _ _ _ _ ?_ ?_))⟩
      · have e1 : (all.take (off + k * i.size) ++ new).drop off = cs ++ new := by
          rw [List.drop_append_of_le_length (by simp; omega), List.drop_take, ← h]
          congr 2
          omega
        rw [e1]
        exact List.take_of_length_le (by rw [List.length_append, hl, hnew, Nat.add_mul]; exact Nat.le_refl _)
      · rw [List.length_append, List.length_take, hnew, Nat.add_mul]; omega
    · refine ⟨_, (front_perm' fr [(b', cs ++ new)] σ).symm, .inl (go _ _ (.mref _ _ _ _ _ ?_ ?_))⟩
      · rw [List.drop_zero]
        exact List.take_of_length_le (by rw [List.length_append, hl, hnew, Nat.add_mul]; exact Nat.le_refl _)
      · rw [List.length_append, hl, hnew, Nat.add_mul]; omega
theorem AccO.unv {e k : Nat} {v : AV} {acc : Hp} {cs : List AV} (h : AccO e k v acc cs) : AccO e k (unvia v) acc cs := by
  cases h with
  | nil => exact .nil
  | mref b off k cs all h h2 => exact .mref b off k cs all h h2
theorem accO_one {k : Nat} {v : AV} {acc : Hp} {cs : List AV} (h0 : 0 < k) (h : AccO 1 k v acc cs) : ∃ b off all, v = .mref b off k 1 ∧ acc = [(b, all)] ∧ (all.drop off).take (k * 1) = cs ∧ off + k * 1 ≤ all.length := by
  cases h with
  | nil => omega
  | mref b off k cs all h h2 => exact ⟨b, off, all, rfl, rfl, h, h2⟩
/-- The last one is taken. -/
theorem accO_pop {k : Nat} {v : AV} {acc : Hp} {cs : List AV} {x : AV} (hl : cs.length = k) (h : AccO 1 (k + 1) v acc (cs ++ [x])) : ∃ b off all, v = .mref b off (k + 1) 1 ∧ acc = [(b, all)] ∧ all[off + k]? = some x ∧ off + (k + 1) ≤ all.length ∧ AccO 1 k (.mref b off k 1) [(b, all)] cs := by
  obtain ⟨b, off, all, rfl, rfl, h1, h2⟩ := accO_one (by omega) h
  rw [Nat.mul_one] at h1 h2
  refine ⟨b, off, all, rfl, rfl, ?_, h2, .mref b off k cs all ?_ (by omega)⟩
  · have := congrArg (fun l => l[k]?) h1
    rw [List.getElem?_take, if_pos (by omega), List.getElem?_drop, List.getElem?_append_right (by omega), hl, Nat.sub_self] at this
    exact this
  · have := congrArg (List.take k) h1
    rw [List.take_take, Nat.min_eq_left (by omega), List.take_append_of_le_length (by omega), List.take_of_length_le (Nat.le_of_eq hl)] at this
    rw [Nat.mul_one]; exact this
/-- b is reached from some nodes of fr. -/
inductive Rch (n : Int) (l : List EdgeT) (fr : List Int) : Int → Prop where
  | root {a : Int} (h : a ∈ fr) (h1 : 0 ≤ a ∧ a < n) : Rch n l fr a
  | step {a b : Int} (h : Rch n l fr a) (hb : b ∈ toS n l a) : Rch n l fr b
theorem Rch.node {n : Int} {l : List EdgeT} {fr : List Int} {a : Int} (h : Rch n l fr a) : 0 ≤ a ∧ a < n := by
  cases h with
  | root h h1 => exact h1
  | step h hb => exact (mem_toS.1 hb).1
/-- Nodes that are marked, and wait. -/
def putL (n : Int) (l : List Int) (s : List Int × List Int) : List Int × List Int := l.foldl (fun s a => if (0 ≤ a ∧ a < n) ∧ a ∉ s.1 then (s.1 ++ [a], s.2 ++ [a]) else s) s
theorem putL_cons (n : Int) (a : Int) (l : List Int) (s : List Int × List Int) : putL n (a :: l) s = putL n l (if (0 ≤ a ∧ a < n) ∧ a ∉ s.1 then (s.1 ++ [a], s.2 ++ [a]) else s) := rfl
theorem nodup_leD : ∀ (n : Nat) (l : List Int), l.Nodup → (∀ z ∈ l, 0 ≤ z ∧ z < n) → l.length ≤ n
  | 0, [], _, _ => Nat.le_refl _
  | 0, z :: l, _, h => by have := h z (List.mem_cons_self ..); omega
  | n + 1, l, hd, h => by
    have h1 := nodup_leD n (l.filter fun z => decide (z ≠ n)) (hd.filter _) fun z hz => by
      obtain ⟨q1, q2⟩ := List.mem_filter.1 hz
      have := h z q1
      have q2 := of_decide_eq_true q2
      omega
    have h2 : l.length ≤ (l.filter fun z => decide (z ≠ (n : Int))).length + 1 := by
      clear h h1
      induction l with
      | nil => simp
      | cons z l ih =>
        have hd' := List.nodup_cons.1 hd
        by_cases hz : z = n
        · subst hz
          have e : (((n : Int) :: l).filter fun z => decide (z ≠ (n : Int))) = l := by
            rw [List.filter_cons_of_neg (by simp)]
            exact List.filter_eq_self.2 fun y hy => decide_eq_true fun e => hd'.1 (e ▸ hy)
          rw [e]; simp
        · have := ih hd'.2
          rw [List.filter_cons_of_pos (by simp [hz])]
          simp only [List.length_cons]; omega
    omega
/-- What holds of the nodes that are marked (M), wait (w), and were looked at (o). -/
structure RI (n : Int) (l : List EdgeT) (fr : List Int) (M w o : List Int) : Prop where
  nd : M.Nodup
  rc : ∀ a ∈ M, Rch n l fr a
  pm : (o ++ w).Perm M
  cl : ∀ a ∈ o, ∀ b ∈ toS n l a, b ∈ M
  fm : ∀ a ∈ fr, 0 ≤ a ∧ a < n → a ∈ M
theorem putL_spec {n : Int} {l : List EdgeT} {fr : List Int} : ∀ (L : List Int) {M w o : List Int}, M.Nodup → (∀ a ∈ M, Rch n l fr a) → (o ++ w).Perm M → (∀ a ∈ L, 0 ≤ a ∧ a < n → Rch n l fr a) →
    (putL n L (M, w)).1.Nodup ∧ (∀ a ∈ (putL n L (M, w)).1, Rch n l fr a) ∧ (o ++ (putL n L (M, w)).2).Perm (putL n L (M, w)).1 ∧ (∀ a ∈ M, a ∈ (putL n L (M, w)).1) ∧ ∀ a ∈ L, 0 ≤ a ∧ a < n → a ∈ (putL n L (M, w)).1
  | [], M, w, o, h1, h2, h3, _ => ⟨h1, h2, h3, fun _ h => h, fun a h => by cases h⟩
  | x :: L, M, w, o, h1, h2, h3, h4 => by
    rw [putL_cons]
    by_cases c : (0 ≤ x ∧ x < n) ∧ x ∉ M
    · rw [if_pos c]
      have hx := h4 x (List.mem_cons_self ..) c.1
      obtain ⟨q1, q2, q3, q4, q5⟩ := putL_spec L (M := M ++ [x]) (w := w ++ [x]) (o := o) (List.nodup_append.2 ⟨h1, by simp, fun a ha b hb => by rw [List.mem_singleton.1 hb]; exact fun e => c.2 (e ▸ ha)⟩) (fun a ha => by
        rcases List.mem_append.1 ha with ha | ha
        · exact h2 a ha
        · rw [List.mem_singleton.1 ha]; exact hx) (by rw [← List.append_assoc]; exact h3.append_right _) fun a ha => h4 a (List.mem_cons_of_mem _ ha)
      refine ⟨q1, q2, q3, fun a ha => q4 a (List.mem_append_left _ ha), fun a ha hn => ?_⟩
      rcases List.mem_cons.1 ha with rfl | ha
      · exact q4 a (List.mem_append_right _ (List.mem_cons_self ..))
      · exact q5 a ha hn
    · rw [if_neg c]
      obtain ⟨q1, q2, q3, q4, q5⟩ := putL_spec L (M := M) (w := w) (o := o) h1 h2 h3 fun a ha => h4 a (List.mem_cons_of_mem _ ha)
      refine ⟨q1, q2, q3, q4, fun a ha hn => ?_⟩
      rcases List.mem_cons.1 ha with rfl | ha
      · exact q4 a (Decidable.byContradiction fun hm => c ⟨hn, hm⟩)
      · exact q5 a ha hn
theorem RI.start {n : Int} {l : List EdgeT} {fr : List Int} : RI n l fr (putL n fr ([], [])).1 (putL n fr ([], [])).2 [] := by
  obtain ⟨q1, q2, q3, _, q5⟩ := putL_spec (n := n) (l := l) (fr := fr) fr (M := []) (w := []) (o := []) List.nodup_nil (fun a h => by cases h) (.refl _) fun a ha hn => .root ha hn
  exact ⟨q1, q2, q3, fun a h => (by cases h), q5⟩
theorem RI.next {n : Int} {l : List EdgeT} {fr : List Int} {M w o : List Int} {a : Int} (h : RI n l fr M (w ++ [a]) o) : RI n l fr (putL n (toS n l a) (M, w)).1 (putL n (toS n l a) (M, w)).2 (o ++ [a]) := by
  have hp : ((o ++ [a]) ++ w).Perm M := by
    refine List.Perm.trans ?_ h.pm
    rw [List.append_assoc]
    exact List.Perm.append_left _ List.perm_append_comm
  have ha : a ∈ M := h.pm.mem_iff.1 (by simp)
  obtain ⟨q1, q2, q3, q4, q5⟩ := putL_spec (n := n) (l := l) (fr := fr) (toS n l a) (M := M) (w := w) (o := o ++ [a]) h.nd h.rc hp fun b hb _ => .step (h.rc a ha) hb
  refine ⟨q1, q2, q3, fun x hx b hb => ?_, fun x hx hn => q4 x (h.fm x hx hn)⟩
  rcases List.mem_append.1 hx with hx | hx
  · exact q4 b (h.cl x hx b hb)
  · rw [List.mem_singleton.1 hx] at hb
    exact q5 b hb (mem_toS.1 hb).1
theorem RI.done {n : Int} {l : List EdgeT} {fr : List Int} {M o : List Int} (h : RI n l fr M [] o) (a : Int) : a ∈ o ↔ Rch n l fr a := by
  have hp : o.Perm M := by have := h.pm; rwa [List.append_nil] at this
  refine ⟨fun ha => h.rc a (hp.mem_iff.1 ha), fun hr => hp.mem_iff.2 ?_⟩
  induction hr with
  | root hf hn => exact h.fm _ hf hn
  | step _ hb ih => exact h.cl _ (hp.mem_iff.2 ih) _ hb
theorem RI.len {n : Nat} {l : List EdgeT} {fr : List Int} {M w o : List Int} (h : RI n l fr M w o) : M.length ≤ n ∧ o.length + w.length ≤ n := by
  have h1 := nodup_leD n M h.nd fun z hz => (h.rc z hz).node
  have h2 := h.pm.length_eq
  rw [List.length_append] at h2
  omega
theorem mem_listB {b : List Bool} {k : Nat} {a : Int} : a ∈ listB b k ↔ (0 ≤ a ∧ a < k) ∧ b.getD a.toNat false = true := by
  unfold listB
  rw [List.mem_map]
  constructor
  · rintro ⟨i, hi, rfl⟩
    obtain ⟨h1, h2⟩ := List.mem_filter.1 hi
    exact ⟨by have := List.mem_range.1 h1; omega, h2⟩
  · rintro ⟨h1, h2⟩
    exact ⟨a.toNat, List.mem_filter.2 ⟨List.mem_range.2 (by omega), h2⟩, by omega⟩
theorem listB_inc (b : List Bool) (k : Nat) : (listB b k).Pairwise (· < ·) := by
  unfold listB
  rw [List.pairwise_map]
  refine List.Pairwise.filter _ ?_
  exact List.pairwise_lt_range.imp fun h => by omega
theorem getD_setB (b : List Bool) (i j : Nat) : (b.set i true).getD j false = true ↔ (i = j ∧ i < b.length) ∨ b.getD j false = true := by
  rw [List.getD_eq_getElem?_getD, List.getElem?_set, List.getD_eq_getElem?_getD]
  by_cases h : i = j
  · subst h
    rw [if_pos rfl]
    by_cases h2 : i < b.length
    · rw [if_pos h2]; simp [h2]
    · rw [if_neg h2]; simp [h2]
  · rw [if_neg h]; simp [h]
theorem markB_get {n : Int} {b : List Bool} {a : Int} (hb : (b.length : Int) = n) (j : Nat) : (markB n b a).getD j false = true ↔ (0 ≤ a ∧ a < n ∧ (j : Int) = a) ∨ b.getD j false = true := by
  unfold markB
  by_cases h : 0 ≤ a ∧ a < n
  · rw [if_pos h, getD_setB]
    constructor
    · rintro (⟨e, _⟩ | e)
      · exact .inl ⟨h.1, h.2, by omega⟩
      · exact .inr e
    · rintro (⟨_, _, e⟩ | e)
      · exact .inl ⟨by omega, by omega⟩
      · exact .inr e
  · rw [if_neg h]
    exact ⟨.inr, fun h2 => by rcases h2 with h2 | h2; exact absurd ⟨h2.1, h2.2.1⟩ h; exact h2⟩
theorem marks_get {n : Int} : ∀ (fr : List Int) {b : List Bool}, (b.length : Int) = n → ∀ j : Nat, (fr.foldl (markB n) b).getD j false = true ↔ ((j : Int) ∈ fr ∧ (j : Int) < n) ∨ b.getD j false = true
  | [], b, _, j => by simp
  | a :: fr, b, hb, j => by
    rw [List.foldl_cons, marks_get fr (by rw [markB_length]; exact hb) j, markB_get hb j, List.mem_cons]
    constructor
    · rintro (⟨h1, h2⟩ | ⟨h1, h2, h3⟩ | h)
      · exact .inl ⟨.inr h1, h2⟩
      · exact .inl ⟨.inl h3, by omega⟩
      · exact .inr h
    · rintro (⟨h1 | h1, h2⟩ | h)
      · exact .inr (.inl ⟨by omega, by omega, h1⟩)
      · exact .inl ⟨h1, h2⟩
      · exact .inr (.inr h)
theorem marks_length (n : Int) : ∀ (fr : List Int) (b : List Bool), (fr.foldl (markB n) b).length = b.length
  | [], _ => rfl
  | a :: fr, b => by rw [List.foldl_cons, marks_length n fr, markB_length]
/-- Marks are right, and rounds bring no others. -/
def okB (n : Int) (l : List EdgeT) (fr : List Int) (b : List Bool) : Prop := (b.length : Int) = n ∧ ∀ j : Nat, b.getD j false = true → Rch n l fr j
theorem goB_ok {n : Int} {l : List EdgeT} {fr : List Int} {b : List Bool} {e : EdgeT} (he : e ∈ l) (h : okB n l fr b) : okB n l fr (goB n b e) := by
  unfold goB
  by_cases c : (0 ≤ e.1 ∧ e.1 < n) ∧ (0 ≤ e.2.1 ∧ e.2.1 < n) ∧ b.getD e.1.toNat false = true
  · rw [if_pos c]
    refine ⟨by rw [List.length_set]; exact h.1, fun j hj => ?_⟩
    rcases (getD_setB _ _ _).1 hj with ⟨e1, _⟩ | hj
    · have := h.2 _ c.2.2
      refine .step this (mem_toS.2 ⟨by omega, by omega, e, he, by omega, by omega⟩)
    · exact h.2 j hj
  · rw [if_neg c]; exact h
theorem round_ok {n : Int} {l : List EdgeT} {fr : List Int} : ∀ (L : List EdgeT) {b : List Bool}, (∀ e ∈ L, e ∈ l) → okB n l fr b → okB n l fr (L.foldl (goB n) b)
  | [], _, _, h => h
  | e :: L, _, hL, h => round_ok L (fun x hx => hL x (List.mem_cons_of_mem _ hx)) (goB_ok (hL e (List.mem_cons_self ..)) h)
theorem goB_up {n : Int} {b : List Bool} {e : EdgeT} {j : Nat} (h : b.getD j false = true) : (goB n b e).getD j false = true := by
  unfold goB
  split
  · exact (getD_setB _ _ _).2 (.inr h)
  · exact h
theorem round_up {n : Int} : ∀ (L : List EdgeT) {b : List Bool} {j : Nat}, b.getD j false = true → (L.foldl (goB n) b).getD j false = true
  | [], _, _, h => h
  | _ :: L, _, _, h => round_up L (goB_up h)
/-- Behind a round each edge that leads from a marked node was gone. -/
theorem round_go {n : Int} : ∀ (L : List EdgeT) {b : List Bool} {e : EdgeT}, (b.length : Int) = n → e ∈ L → (0 ≤ e.1 ∧ e.1 < n) → (0 ≤ e.2.1 ∧ e.2.1 < n) → b.getD e.1.toNat false = true → (L.foldl (goB n) b).getD e.2.1.toNat false = true
  | x :: L, b, e, hb, he, h1, h2, h3 => by
    rcases List.mem_cons.1 he with rfl | he
    · refine round_up L ?_
      unfold goB
      rw [if_pos ⟨h1, h2, h3⟩]
      exact (getD_setB _ _ _).2 (.inl ⟨rfl, by omega⟩)
    · exact round_go L (by rw [goB_length]; exact hb) he h1 h2 (goB_up h3)
def cntB (b : List Bool) : Nat := b.countP id
theorem count_up : ∀ {b c : List Bool}, b.length = c.length → (∀ j : Nat, b.getD j false = true → c.getD j false = true) → cntB b ≤ cntB c ∧ (cntB b = cntB c → b = c)
  | [], [], _, _ => ⟨Nat.le_refl _, fun _ => rfl⟩
  | x :: b, y :: c, hl, h => by
    obtain ⟨h1, h2⟩ := count_up (b := b) (c := c) (by simpa using hl) fun j hj => h (j + 1) hj
    have h0 := h 0
    unfold cntB at h1 h2 ⊢
    simp only [List.countP_cons]
    cases x <;> cases y <;> simp at h0 ⊢
    · exact ⟨h1, h2⟩
    · omega
    · exact ⟨h1, h2⟩
theorem round_length (n : Int) : ∀ (L : List EdgeT) (b : List Bool), (L.foldl (goB n) b).length = b.length
  | [], _ => rfl
  | e :: L, b => by rw [List.foldl_cons, round_length n L, goB_length]
theorem rounds_fix {n : Int} {l : List EdgeT} {b : List Bool} (h : roundB n l b = b) : ∀ k, roundsB n l k b = b
  | 0 => rfl
  | k + 1 => by rw [rounds_succ, h]; exact rounds_fix h k
theorem rounds_ends {n : Int} {l : List EdgeT} : ∀ (k : Nat) {b : List Bool}, (b.length : Int) = n → b.length ≤ cntB b + k → roundB n l (roundsB n l k b) = roundsB n l k b
  | 0, b, hb, hc => by
    have hl : (roundB n l b).length = b.length := round_length n l b
    have hu := count_up (b := b) (c := roundB n l b) hl.symm fun j hj => round_up l hj
    have h2 : cntB (roundB n l b) ≤ (roundB n l b).length := List.countP_le_length
    show roundB n l b = b
    exact (hu.2 (by omega)).symm
  | k + 1, b, hb, hc => by
    have hl : (roundB n l b).length = b.length := round_length n l b
    have hu := count_up (b := b) (c := roundB n l b) hl.symm fun j hj => round_up l hj
    by_cases h : roundB n l b = b
    · rw [rounds_fix h]; exact h
    · rw [rounds_succ]
      refine rounds_ends k (by rw [hl]; exact hb) ?_
      have : cntB b ≠ cntB (roundB n l b) := fun e => h (hu.2 e).symm
      omega
theorem rounds_okB {n : Int} {l : List EdgeT} {fr : List Int} : ∀ (k : Nat) {b : List Bool}, okB n l fr b → okB n l fr (roundsB n l k b)
  | 0, _, h => h
  | k + 1, _, h => by rw [rounds_succ]; exact rounds_okB k (round_ok l (fun _ h => h) h)
theorem rounds_up {n : Int} {l : List EdgeT} : ∀ (k : Nat) {b : List Bool} {j : Nat}, b.getD j false = true → (roundsB n l k b).getD j false = true
  | 0, _, _, h => h
  | k + 1, _, _, h => by rw [rounds_succ]; exact rounds_up k (round_up l h)
theorem mem_reachR {n : Nat} {l : List EdgeT} {fr : List Int} (a : Int) : a ∈ reachR n l fr ↔ Rch n l fr a := by
  have hl0 : (((List.replicate n false).length : Nat) : Int) = n := by rw [List.length_replicate]
  have hst : okB n l fr (fr.foldl (markB n) (List.replicate n false)) := by
    refine ⟨by rw [marks_length]; exact hl0, fun j hj => ?_⟩
    rcases (marks_get fr hl0 j).1 hj with ⟨h1, h2⟩ | h
    · exact .root h1 ⟨by omega, h2⟩
    · rw [List.getD_eq_getElem?_getD, List.getElem?_replicate] at h
      split at h <;> cases h
  have hok : okB n l fr (reachB n l fr) := rounds_okB _ hst
  have hfix : roundB n l (reachB n l fr) = reachB n l fr := by
    refine rounds_ends _ hst.1 ?_
    rw [marks_length, List.length_replicate, Int.toNat_natCast]; omega
  unfold reachR
  rw [Int.toNat_natCast, mem_listB]
  constructor
  · rintro ⟨h1, h2⟩
    have := hok.2 _ h2
    rwa [Int.toNat_of_nonneg h1.1] at this
  · intro h
    refine ⟨h.node, ?_⟩
    induction h with
    | @root x hf hn =>
      refine rounds_up _ ((marks_get fr hl0 _).2 (.inl ⟨?_, ?_⟩))
      · rw [Int.toNat_of_nonneg hn.1]; exact hf
      · omega
    | @step x y hx hy ih =>
      obtain ⟨hy1, hx1, e, he, e1, e2⟩ := mem_toS.1 hy
      rw [← hfix]
      have := round_go l (b := reachB n l fr) hok.1 he (by omega) (by omega) (by rw [e1]; exact ih)
      rw [e2] at this
      exact this
theorem reachR_inc (n : Nat) (l : List EdgeT) (fr : List Int) : (reachR n l fr).Pairwise (· < ·) := listB_inc _ _
/-- What was looked at, in order. -/
theorem RI.sorted {n : Nat} {l : List EdgeT} {fr : List Int} {M o : List Int} (h : RI n l fr M [] o) : sortI o = reachR n l fr := by
  have hp : o.Perm M := by have := h.pm; rwa [List.append_nil] at this
  have hnd : (sortI o).Nodup := (List.mergeSort_perm _ _).nodup_iff.2 (hp.nodup_iff.2 h.nd)
  refine inc_ext ?_ (reachR_inc n l fr) fun x => by rw [sortI_mem, h.done, mem_reachR]
  have h1 := sortI_sorted o
  have h2 : (sortI o).Pairwise (fun a b => a ≤ b ∧ a ≠ b) := List.pairwise_and_iff.2 ⟨h1, hnd⟩
  exact h2.imp fun h => by omega
end Go.Proofs.YtljbnigceammdaaGreatDoor
