/-
  Node by node, from an order on: what it comes to, how often nodes are looked at: plain.
-/
import Derived.Test.YteccfogpajbigaaGreatZg
import Derived.Test.YteccfogpajbigaaGreatZb
import Derived.Test.YteccfogpajbigaaGreatYh
namespace Go.Proofs.YteccfogpajbigaaGreat
open Go.RowKit
structure QS where
  vals : List (List Int)
  wait : List Int
  ev : Nat
  jo : Nat
def qPut (w : List Int) (v : Int) : List Int := if v ∈ w then w else w ++ [v]
def qV (s : Sy) (out : List Int) (q : QS) (v : Int) : QS :=
  if join12 s.what (q.vals.getD v.toNat []) out = q.vals.getD v.toNat [] then q
  else ⟨q.vals.set v.toNat (join12 s.what (q.vals.getD v.toNat []) out), qPut q.wait v, q.ev, q.jo + 1⟩
def qOut (s : Sy) (q : QS) (u : Int) : List Int := outS s (q.vals.getD u.toNat []) u.toNat
def qStep (s : Sy) (q : QS) : QS := match q.wait with
  | [] => q
  | u :: r => (toS s.n s.edges u).foldl (qV s (qOut s q u)) ⟨q.vals, r, q.ev + 1, q.jo⟩
def qIter (s : Sy) : Nat → QS → QS
  | 0, q => q
  | k + 1, q => qIter s k (qStep s q)
def startsS (s : Sy) : List (List Int) := (List.range s.n.toNat).map fun v : Nat => startS s (v : Int)
def q0 (s : Sy) (first : List Int) : QS := ⟨startsS s, first, 0, 0⟩
theorem qStep_nil {s : Sy} {q : QS} (h : q.wait = []) : qStep s q = q := by unfold qStep; rw [h]
theorem qStep_cons {s : Sy} {q : QS} {u : Int} {r : List Int} (h : q.wait = u :: r) : qStep s q = (toS s.n s.edges u).foldl (qV s (qOut s q u)) ⟨q.vals, r, q.ev + 1, q.jo⟩ := by unfold qStep; rw [h]
theorem qIter_nil {s : Sy} {q : QS} (h : q.wait = []) : ∀ k, qIter s k q = q
  | 0 => rfl
  | k + 1 => by unfold qIter; rw [qStep_nil h]; exact qIter_nil h k
theorem qIter_add (s : Sy) : ∀ (k m : Nat) (q : QS), qIter s (k + m) q = qIter s m (qIter s k q)
  | 0, m, q => by rw [Nat.zero_add]; rfl
  | k + 1, m, q => by rw [show k + 1 + m = (k + m) + 1 by omega]; exact qIter_add s k m (qStep s q)
theorem qIter_succ (s : Sy) (k : Nat) (q : QS) : qIter s (k + 1) q = qStep s (qIter s k q) := qIter_add s k 1 q
theorem qIter_eq {s : Sy} {q : QS} {k m : Nat} (h1 : (qIter s k q).wait = []) (h2 : (qIter s m q).wait = []) : qIter s k q = qIter s m q := by
  rcases Nat.le_total k m with h | h
  · obtain ⟨d, rfl⟩ := Nat.le.dest h
    rw [qIter_add, qIter_nil h1]
  · obtain ⟨d, rfl⟩ := Nat.le.dest h
    rw [qIter_add, qIter_nil h2]
/-! ### Steps of a system, edge by edge -/
theorem stepV_least {s : Sy} {a : List (List Int)} {y : List Int} (v : Nat) (h0 : leV s.what s.w (startS s v) y) (he : ∀ (i : Nat) (hi : i < s.edges.length), s.edges[i].2.1 = v → leV s.what s.w (outS s (a.getD s.edges[i].1.toNat []) s.edges[i].1.toNat) y) : ∀ k, k ≤ s.edges.length → leV s.what s.w (stepV s a k v) y
  | 0, _ => h0
  | k + 1, hk => by
    have ih := stepV_least v h0 he k (by omega)
    rw [stepV_succ s a (by omega)]
    unfold joinE
    split
    · next hc => exact leV.join ih (he k (by omega) hc)
    · exact ih
theorem mem_toS_edge {s : Sy} (hg : Good s) {u v : Int} : v ∈ toS s.n s.edges u ↔ ∃ (i : Nat) (hi : i < s.edges.length), s.edges[i].1 = u ∧ s.edges[i].2.1 = v := by
  rw [mem_toS]
  constructor
  · rintro ⟨_, _, e, he, h1, h2⟩
    obtain ⟨i, hi, rfl⟩ := List.getElem_of_mem he
    exact ⟨i, hi, h1, h2⟩
  · rintro ⟨i, hi, h1, h2⟩
    have := hg.edge _ (List.getElem_mem hi)
    refine ⟨by omega, by omega, _, List.getElem_mem hi, h1, h2⟩
/-! ### What stays true -/
def hasIn (s : Sy) (v : Nat) : Bool := s.edges.any fun e => decide (e.2.1 = (v : Int))
def inR (s : Sy) (a : List (List Int)) (v : Nat) : Nat := if hasIn s v = true then rankV s.what s.w (a.getD v []) else 0
structure QI (s : Sy) (q : QS) : Prop where
  va : Vals s q.vals
  le : leA s q.vals (solS s).1
  st : ∀ v : Nat, (v : Int) < s.n → leV s.what s.w (startS s v) (q.vals.getD v [])
  wr : ∀ v ∈ q.wait, 0 ≤ v ∧ v < s.n
  nd : q.wait.Nodup
  e1 : q.ev + q.wait.length ≤ s.n.toNat + q.jo
  e2 : s.n.toNat ≤ q.ev + q.wait.length
  jo : q.jo ≤ sumR s.n.toNat (inR s q.vals)
def QC (s : Sy) (q : QS) (u : Int) : Prop := u ∉ q.wait → ∀ v ∈ toS s.n s.edges u, leV s.what s.w (qOut s q u) (q.vals.getD v.toNat [])
theorem sumR_lt {f g : Nat → Nat} {n i : Nat} (h : ∀ j, j < n → f j ≤ g j) (hi : i < n) (hl : f i < g i) : sumR n f + 1 ≤ sumR n g := by
  have := sumR_mono n h
  by_cases e : sumR n f = sumR n g
  · have := this.2 e i hi; omega
  · omega
theorem getD_setQ {α : Type} (l : List α) (i j : Nat) (x d : α) (hi : i < l.length) : (l.set i x).getD j d = if i = j then x else l.getD j d := by
  rw [List.getD_eq_getElem?_getD, List.getElem?_set]
  by_cases h : i = j
  · subst h; rw [if_pos rfl, if_pos rfl, if_pos hi]; rfl
  · rw [if_neg h, if_neg h, List.getD_eq_getElem?_getD]
theorem mem_qPut {w : List Int} {v x : Int} : x ∈ qPut w v ↔ x ∈ w ∨ x = v := by
  unfold qPut
  split
  · next h => exact ⟨.inl, fun h2 => h2.elim id fun e => e ▸ h⟩
  · simp
/-- One edge that changes something. -/
theorem qV_inv {s : Sy} (_hf : Fit s) (hg : Good s) {q : QS} (h : QI s q) {u v : Int} (hv : v ∈ toS s.n s.edges u) {out : List Int} (ho : Val s.what s.w out) (hos : leV s.what s.w out ((solS s).1.getD v.toNat [])) :
    QI s (qV s out q v) ∧ (∀ i : Nat, (i : Int) < s.n → leV s.what s.w (q.vals.getD i []) ((qV s out q v).vals.getD i [])) ∧ leV s.what s.w out ((qV s out q v).vals.getD v.toNat []) ∧
    (∀ x, x ∈ q.wait → x ∈ (qV s out q v).wait) ∧ (∀ i : Nat, (i : Int) ∉ (qV s out q v).wait → (qV s out q v).vals.getD i [] = q.vals.getD i []) := by
  have hr := (mem_toS.1 hv).1
  have hvn : ((v.toNat : Nat) : Int) = v := by omega
  have hv0 := h.va.get (i := v.toNat) (by omega)
  unfold qV
  split
  · next hc =>
    refine ⟨h, fun i hi => leV.refl (h.va.get hi), ⟨ho, hv0, ?_⟩, fun x hx => hx, fun i _ => rfl⟩
    rw [join_comm ho hv0]; exact hc
  · next hc =>
    have hl := h.va.len
    have hlt : v.toNat < q.vals.length := by omega
    have hj := leV.left hv0 ho
    have hg2 : ∀ i : Nat, (i : Int) < s.n → leV s.what s.w (q.vals.getD i []) ((q.vals.set v.toNat (join12 s.what (q.vals.getD v.toNat []) out)).getD i []) := fun i hi => by
      rw [getD_setQ _ _ _ _ _ hlt]
      split
      · next e => subst e; exact hj
      · exact leV.refl (h.va.get hi)
    have hva : Vals s (q.vals.set v.toNat (join12 s.what (q.vals.getD v.toNat []) out)) := ⟨by rw [List.length_set]; exact hl, fun x hx => by
      rcases List.mem_or_eq_of_mem_set hx with h1 | h1
      · exact h.va.val x h1
      · rw [h1]; exact hj.2.1⟩
    refine ⟨⟨hva, ⟨hva, h.le.2.1, fun i hi => ?_⟩, fun i hi => (h.st i hi).trans (hg2 i hi), fun x hx => ?_, ?_, ?_, ?_, ?_⟩, hg2, ?_, fun x hx => mem_qPut.2 (.inl hx), fun i hi => ?_⟩
    · show leV s.what s.w ((q.vals.set v.toNat _).getD i []) _
      rw [getD_setQ _ _ _ _ _ hlt]
      split
      · next e => subst e; exact leV.join (h.le.2.2 _ hi) hos
      · exact h.le.2.2 i hi
    · rcases mem_qPut.1 hx with h1 | h1
      · exact h.wr x h1
      · rw [h1]; exact hr
    · show (qPut q.wait v).Nodup
      unfold qPut
      split
      · exact h.nd
      · next hn => exact List.nodup_append.2 ⟨h.nd, by simp, fun x hx y hy e => by simp at hy; subst hy; subst e; exact hn hx⟩
    · show q.ev + (qPut q.wait v).length ≤ s.n.toNat + (q.jo + 1)
      have := h.e1
      unfold qPut; split
      · omega
      · rw [List.length_append]; simp; omega
    · show s.n.toNat ≤ q.ev + (qPut q.wait v).length
      have := h.e2
      unfold qPut; split
      · omega
      · rw [List.length_append]; simp; omega
    · show q.jo + 1 ≤ sumR s.n.toNat (inR s (q.vals.set v.toNat (join12 s.what (q.vals.getD v.toNat []) out)))
      have hin : hasIn s v.toNat = true := by
        obtain ⟨i, hi, _, h2⟩ := (mem_toS_edge hg).1 hv
        exact List.any_eq_true.2 ⟨_, List.getElem_mem hi, decide_eq_true (by rw [h2, hvn])⟩
      have := sumR_lt (f := inR s q.vals) (g := inR s (q.vals.set v.toNat (join12 s.what (q.vals.getD v.toNat []) out))) (n := s.n.toNat) (i := v.toNat) (fun j hj2 => by
        unfold inR
        split
        · exact (rank_le (hg2 j (by omega))).1
        · exact Nat.le_refl _) (by omega) (by
        unfold inR
        rw [if_pos hin, if_pos hin, getD_setQ _ _ _ _ _ hlt, if_pos rfl]
        have h3 := rank_le hj
        by_cases e : rankV s.what s.w (q.vals.getD v.toNat []) = rankV s.what s.w (join12 s.what (q.vals.getD v.toNat []) out)
        · exact absurd (h3.2 e).symm hc
        · omega)
      have := h.jo
      omega
    · show leV s.what s.w out ((q.vals.set v.toNat _).getD v.toNat [])
      rw [getD_setQ _ _ _ _ _ hlt, if_pos rfl]
      exact leV.right hv0 ho
    · show (q.vals.set v.toNat _).getD i [] = q.vals.getD i []
      rw [getD_setQ _ _ _ _ _ hlt, if_neg]
      intro e
      exact hi (mem_qPut.2 (.inr (by omega)))
theorem sol_out {s : Sy} (hf : Fit s) (hg : Good s) {u v : Int} (hv : v ∈ toS s.n s.edges u) : leV s.what s.w (outS s ((solS s).1.getD u.toNat []) u.toNat) ((solS s).1.getD v.toNat []) := by
  obtain ⟨i, hi, h1, h2⟩ := (mem_toS_edge hg).1 hv
  have hr := (mem_toS.1 hv).1
  obtain ⟨q1, q2, _, _⟩ := sol_least hf hg
  have := (stepV_edge hf hg q1 v.toNat s.edges.length (Nat.le_refl _)).2 s.edges[i] (by rw [List.take_length]; exact List.getElem_mem hi) (by omega)
  rw [h1, ← stepS_get s _ (by omega), ← q2] at this
  exact this
theorem sol_start {s : Sy} (hf : Fit s) (hg : Good s) {v : Nat} (hv : (v : Int) < s.n) : leV s.what s.w (startS s v) ((solS s).1.getD v []) := by
  obtain ⟨q1, q2, _, _⟩ := sol_least hf hg
  have := (stepV_edge hf hg q1 v s.edges.length (Nat.le_refl _)).1
  rw [← stepS_get s _ hv, ← q2] at this
  exact this
/-- In the midst of a node: behind some of its edges. -/
structure QM (s : Sy) (u : Int) (x out : List Int) (done : List Int) (q : QS) : Prop where
  qi : QI s q
  other : ∀ u', u' ≠ u → 0 ≤ u' ∧ u' < s.n → QC s q u'
  self : u ∈ q.wait ∨ (q.vals.getD u.toNat [] = x ∧ ∀ v ∈ done, leV s.what s.w out (q.vals.getD v.toNat []))
theorem qM_step {s : Sy} (hf : Fit s) (hg : Good s) {u : Int} {x out done : List Int} {q : QS} (h : QM s u x out done q) (hu : 0 ≤ u ∧ u < s.n) (hd : ∀ z ∈ done, 0 ≤ z ∧ z < s.n) {v : Int} (hv : v ∈ toS s.n s.edges u) (ho : Val s.what s.w out) (hos : ∀ w ∈ toS s.n s.edges u, leV s.what s.w out ((solS s).1.getD w.toNat [])) :
    QM s u x out (done ++ [v]) (qV s out q v) := by
  obtain ⟨k1, k2, k3, k4, k5⟩ := qV_inv hf hg h.qi hv ho (hos v hv)
  refine ⟨k1, fun u' hne hr hw z hz => ?_, ?_⟩
  · have e : (((u'.toNat : Nat)) : Int) = u' := by omega
    have hz2 := (mem_toS.1 hz).1
    unfold qOut
    rw [k5 u'.toNat (by rw [e]; exact hw)]
    exact (h.other u' hne hr (fun hin => hw (k4 _ hin)) z hz).trans (k2 z.toNat (by omega))
  · rcases h.self with h1 | ⟨h1, h2⟩
    · exact .inl (k4 _ h1)
    · by_cases hw : u ∈ (qV s out q v).wait
      · exact .inl hw
      · refine .inr ⟨?_, fun z hz => ?_⟩
        · rw [k5 u.toNat (by rw [show ((u.toNat : Nat) : Int) = u by omega]; exact hw)]; exact h1
        · rcases List.mem_append.1 hz with h3 | h3
          · have := hd z h3
            exact (h2 z h3).trans (k2 z.toNat (by omega))
          · simp at h3; subst h3; exact k3
theorem qM_fold {s : Sy} (hf : Fit s) (hg : Good s) {u : Int} {x out : List Int} (hu : 0 ≤ u ∧ u < s.n) (ho : Val s.what s.w out) (hos : ∀ w ∈ toS s.n s.edges u, leV s.what s.w out ((solS s).1.getD w.toNat [])) :
    ∀ (l : List Int) (done : List Int) (q : QS), (∀ z ∈ l, z ∈ toS s.n s.edges u) → (∀ z ∈ done, 0 ≤ z ∧ z < s.n) → QM s u x out done q → QM s u x out (done ++ l) (l.foldl (qV s out) q)
  | [], done, q, _, _, h => by rw [List.append_nil]; exact h
  | v :: l, done, q, hl, hd, h => by
    have hv := hl v (List.mem_cons_self ..)
    have := qM_fold hf hg hu ho hos l (done ++ [v]) (qV s out q v) (fun z hz => hl z (List.mem_cons_of_mem _ hz)) (fun z hz => by
      rcases List.mem_append.1 hz with h1 | h1
      · exact hd z h1
      · simp at h1; subst h1; exact (mem_toS.1 hv).1) (qM_step hf hg h hu hd hv ho hos)
    rw [List.append_assoc] at this
    exact this
structure QQ (s : Sy) (q : QS) : Prop where
  qi : QI s q
  cl : ∀ u, 0 ≤ u ∧ u < s.n → QC s q u
theorem qM_start {s : Sy} {q : QS} {u : Int} {r : List Int} (h : QQ s q) (hw : q.wait = u :: r) (out : List Int) : QM s u (q.vals.getD u.toNat []) out [] ⟨q.vals, r, q.ev + 1, q.jo⟩ := by
  have hi := h.qi
  have hnd : (u :: r).Nodup := hw ▸ hi.nd
  refine ⟨⟨hi.va, hi.le, hi.st, fun v hv => hi.wr v (hw ▸ List.mem_cons_of_mem _ hv), (List.nodup_cons.1 hnd).2, ?_, ?_, hi.jo⟩, fun u' hne hr hn => ?_, .inr ⟨rfl, fun v hv => by cases hv⟩⟩
  · have := hi.e1; rw [hw, List.length_cons] at this; show q.ev + 1 + r.length ≤ s.n.toNat + q.jo; omega
  · have := hi.e2; rw [hw, List.length_cons] at this; show s.n.toNat ≤ q.ev + 1 + r.length; omega
  · refine h.cl u' hr ?_
    rw [hw]
    intro hm
    rcases List.mem_cons.1 hm with h1 | h1
    · exact hne h1
    · exact hn h1
theorem q_out_ok {s : Sy} (hf : Fit s) (hg : Good s) {q : QS} {u : Int} (h : QI s q) (hu : 0 ≤ u ∧ u < s.n) : Val s.what s.w (qOut s q u) ∧ ∀ w ∈ toS s.n s.edges u, leV s.what s.w (qOut s q u) ((solS s).1.getD w.toNat []) := by
  have hm := out_mono hf hg (h.le.2.2 u.toNat (by omega)) (v := u.toNat) (by omega)
  exact ⟨hm.1, fun w hw => hm.trans (sol_out hf hg hw)⟩
theorem qStep_inv {s : Sy} (hf : Fit s) (hg : Good s) {q : QS} (h : QQ s q) : QQ s (qStep s q) := by
  cases hw : q.wait with
  | nil => rw [qStep_nil hw]; exact h
  | cons u r =>
    have hu := h.qi.wr u (hw ▸ List.mem_cons_self ..)
    obtain ⟨o1, o2⟩ := q_out_ok hf hg h.qi hu
    have := qM_fold hf hg (x := q.vals.getD u.toNat []) hu o1 o2 (toS s.n s.edges u) [] _ (fun z hz => hz) (fun z hz => by cases hz) (qM_start h hw (qOut s q u))
    rw [qStep_cons hw]
    refine ⟨this.qi, fun u' hr => ?_⟩
    by_cases hne : u' = u
    · rw [hne]
      intro hn v hv
      rcases this.self with h1 | ⟨h1, h2⟩
      · exact absurd h1 hn
      · have h3 := h2 v (by simpa using hv)
        have e : ∀ Q : QS, Q.vals.getD u.toNat [] = q.vals.getD u.toNat [] → qOut s Q u = qOut s q u := fun Q h => by unfold qOut; rw [h]
        rw [e _ h1]
        exact h3
    · exact this.other u' hne hr
theorem qIter_inv {s : Sy} (hf : Fit s) (hg : Good s) : ∀ (k : Nat) {q : QS}, QQ s q → QQ s (qIter s k q)
  | 0, _, h => h
  | k + 1, _, h => qIter_inv hf hg k (qStep_inv hf hg h)
theorem startsS_get {s : Sy} {v : Nat} (hv : (v : Int) < s.n) : (startsS s).getD v [] = startS s v := by
  unfold startsS
  rw [List.getD_eq_getElem?_getD, List.getElem?_map, List.getElem?_range (by omega)]; rfl
/-- An order: each node once. -/
structure IsOrd (n : Int) (first : List Int) : Prop where
  len : (first.length : Int) = n
  nd : first.Nodup
  mem : ∀ z ∈ first, 0 ≤ z ∧ z < n
  all : ∀ z, 0 ≤ z ∧ z < n → z ∈ first
theorem q0_inv {s : Sy} (hf : Fit s) (hg : Good s) {first : List Int} (h : IsOrd s.n first) : QQ s (q0 s first) := by
  have hn := hg.n1
  have hva : Vals s (startsS s) := ⟨by unfold startsS; rw [List.length_map, List.length_range]; omega, fun x hx => by
    unfold startsS at hx
    obtain ⟨v, _, rfl⟩ := List.mem_map.1 hx
    exact start_Val hf hg v⟩
  have hl := h.len
  refine ⟨⟨hva, ⟨hva, (sol_least hf hg).1, fun i hi => ?_⟩, fun v hv => ?_, h.mem, h.nd, ?_, ?_, Nat.zero_le _⟩, fun u hu hn => absurd (h.all u hu) hn⟩
  · show leV s.what s.w ((startsS s).getD i []) _
    rw [startsS_get hi]; exact sol_start hf hg hi
  · show leV s.what s.w _ ((startsS s).getD v [])
    rw [startsS_get hv]; exact leV.refl (start_Val hf hg v)
  · show 0 + first.length ≤ s.n.toNat + 0; omega
  · show s.n.toNat ≤ 0 + first.length; omega
/-- How far it is to the end: at most so many rounds. -/
theorem jo_most {s : Sy} (hg : Good s) {q : QS} (h : QI s q) : (q.jo : Int) ≤ s.n * heightL s.what s.w := by
  refine Int.le_trans ?_ (totR_most hg q.vals)
  have := (sumR_mono (f := inR s q.vals) (g := fun v => rankV s.what s.w (q.vals.getD v [])) s.n.toNat fun v _ => by
    unfold inR; split
    · exact Nat.le_refl _
    · exact Nat.zero_le _).1
  have := h.jo
  unfold totR
  omega
theorem nodup_sub : ∀ (l m : List Nat), l.Nodup → (∀ x ∈ l, x ∈ m) → l.length ≤ m.length
  | [], _, _, _ => Nat.zero_le _
  | x :: l, m, h, hs => by
    obtain ⟨h1, h2⟩ := List.nodup_cons.1 h
    have hx := hs x (List.mem_cons_self ..)
    have := nodup_sub l (m.erase x) h2 fun y hy => (List.mem_erase_of_ne (show y ≠ x from fun e => h1 (by rw [← e]; exact hy))).2 (hs y (List.mem_cons_of_mem _ hy))
    rw [List.length_erase_of_mem hx] at this
    have := List.length_pos_of_mem hx
    simp only [List.length_cons]; omega
theorem sumR_filter (p : Nat → Bool) (c : Nat) : ∀ n, sumR n (fun v => if p v = true then c else 0) = ((List.range n).filter p).length * c
  | 0 => by simp [sumR]
  | n + 1 => by
    rw [sumR_succ, sumR_filter p c n, List.range_succ, List.filter_append, List.length_append, Nat.add_mul]
    congr 1
    by_cases h : p n = true
    · simp [h]
    · simp [h]
theorem jo_edges {s : Sy} (hg : Good s) {q : QS} (h : QI s q) : (q.jo : Int) ≤ ((sortedE s.edges).length : Int) * heightL s.what s.w := by
  have hh := height_le s.what s.w
  have h1 := (sumR_mono (f := inR s q.vals) (g := fun v => if hasIn s v = true then (heightL s.what s.w).toNat else 0) s.n.toNat fun v _ => by
    unfold inR; split
    · have := rank_height (q.vals.getD v []) hg.isL; omega
    · exact Nat.zero_le _).1
  rw [sumR_filter] at h1
  have h2 : ((List.range s.n.toNat).filter (hasIn s)).length ≤ ((sortedE s.edges).map fun e => e.2.1.toNat).length := by
    refine nodup_sub _ _ (List.nodup_range.filter _) fun v hv => ?_
    obtain ⟨_, h3⟩ := List.mem_filter.1 hv
    obtain ⟨e, he, h4⟩ := List.any_eq_true.1 h3
    have h4 := of_decide_eq_true h4
    exact List.mem_map.2 ⟨e, (sortedE_mem _ _).2 he, by omega⟩
  rw [List.length_map] at h2
  have h3 := h.jo
  have h4 : q.jo ≤ (sortedE s.edges).length * (heightL s.what s.w).toNat := Nat.le_trans h3 (Nat.le_trans h1 (Nat.mul_le_mul_right _ h2))
  have e : (((sortedE s.edges).length * (heightL s.what s.w).toNat : Nat) : Int) = ((sortedE s.edges).length : Int) * heightL s.what s.w := by
    rw [Int.natCast_mul, Int.toNat_of_nonneg hh.1]
  omega
/-- At the end: the least solution, and never too late. -/
theorem q_end {s : Sy} (hf : Fit s) (hg : Good s) {q : QS} (h : QQ s q) (hw : q.wait = []) : q.vals = (solS s).1 ∧ (q.jo : Int) ≤ s.n * heightL s.what s.w ∧ (q.ev : Int) ≤ s.n + ((sortedE s.edges).length : Int) * heightL s.what s.w ∧ (q.ev : Int) ≤ s.n + q.jo ∧ s.n ≤ q.ev := by
  have hn := hg.n1
  have e1 := h.qi.e1
  have e2 := h.qi.e2
  rw [hw, List.length_nil] at e1 e2
  refine ⟨?_, jo_most hg h.qi, ?_, by omega, by omega⟩
  · obtain ⟨q1, q2, _, q4⟩ := sol_least hf hg
    have hle : leA s (stepS s q.vals) q.vals := ⟨step_Vals hf hg h.qi.va, h.qi.va, fun v hv => by
      rw [stepS_get s _ hv]
      refine stepV_least v (h.qi.st v hv) (fun i hi he => ?_) _ (Nat.le_refl _)
      have hr := hg.edge _ (List.getElem_mem hi)
      have := h.cl s.edges[i].1 (by omega) (by rw [hw]; simp) (v : Int) ((mem_toS_edge hg).2 ⟨i, hi, rfl, he⟩)
      exact this⟩
    have h2 := q4 _ hle
    have l1 := h.qi.va.len
    have l2 := q1.len
    refine List.ext_getElem (by omega) fun i h3 h4 => ?_
    have := (h.qi.le.2.2 i (by omega)).anti (h2.2.2 i (by omega))
    rw [List.getD_eq_getElem?_getD, List.getD_eq_getElem?_getD, List.getElem?_eq_getElem h3, List.getElem?_eq_getElem h4] at this
    exact this
  · have := jo_edges hg h.qi; omega
/-- Each round leads on. -/
def qMu (s : Sy) (q : QS) : Nat := 2 * ((s.n * heightL s.what s.w).toNat + 1 - q.jo) + q.wait.length
theorem qV_mu (s : Sy) (out : List Int) (q : QS) (v : Int) : 2 * (qV s out q v).jo = 2 * q.jo + 2 * ((qV s out q v).jo - q.jo) ∧ q.jo ≤ (qV s out q v).jo ∧ (qV s out q v).wait.length ≤ q.wait.length + ((qV s out q v).jo - q.jo) := by
  unfold qV
  split
  · omega
  · show 2 * (q.jo + 1) = _ ∧ q.jo ≤ q.jo + 1 ∧ (qPut q.wait v).length ≤ q.wait.length + (q.jo + 1 - q.jo)
    refine ⟨by show 2 * (q.jo + 1) = 2 * q.jo + 2 * (q.jo + 1 - q.jo); omega, by omega, ?_⟩
    unfold qPut; split
    · omega
    · rw [List.length_append]; simp
theorem qV_mus (s : Sy) (out : List Int) : ∀ (l : List Int) (q : QS), q.jo ≤ (l.foldl (qV s out) q).jo ∧ (l.foldl (qV s out) q).wait.length ≤ q.wait.length + ((l.foldl (qV s out) q).jo - q.jo)
  | [], q => by simp
  | v :: l, q => by
    obtain ⟨_, h1, h2⟩ := qV_mu s out q v
    obtain ⟨h3, h4⟩ := qV_mus s out l (qV s out q v)
    simp only [List.foldl_cons]
    omega
theorem qStep_mu {s : Sy} (hf : Fit s) (hg : Good s) {q : QS} (h : QQ s q) {u : Int} {r : List Int} (hw : q.wait = u :: r) : qMu s (qStep s q) < qMu s q := by
  have hi := qStep_inv hf hg h
  have hj := jo_most hg hi.qi
  have hm := qV_mus s (qOut s q u) (toS s.n s.edges u) ⟨q.vals, r, q.ev + 1, q.jo⟩
  rw [← qStep_cons hw] at hm
  have hm1 : q.jo ≤ (qStep s q).jo := hm.1
  have hm2 : (qStep s q).wait.length ≤ r.length + ((qStep s q).jo - q.jo) := hm.2
  unfold qMu
  rw [hw, List.length_cons]
  omega
end Go.Proofs.YteccfogpajbigaaGreat
