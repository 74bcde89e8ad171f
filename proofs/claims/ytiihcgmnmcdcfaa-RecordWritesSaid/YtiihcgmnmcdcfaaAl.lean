/-
  Stores, append, and calls do what the walk says; all operations: 'opW_sound'. Over any program.
-/
import Derived.Test.YtiihcgmnmcdcfaaAk
import Derived.Deep.Upon
namespace Go.Proofs.Ytiihcgmnmcdcfaa
open Go.RowKit
section
variable {P : Program} {TT : TypeId → Option TI} {F F' : Nat → Prop} {w w' : World}

theorem splice_get : ∀ (xs cs : List AV) (o k : Nat), o + xs.length ≤ cs.length → (splice cs o xs)[k]? = if o ≤ k ∧ k < o + xs.length then xs[k - o]? else cs[k]?
  | [], cs, o, k, _ => by rw [if_neg (by intro h; simp at h; omega)]; rfl
  | x :: xs, cs, o, k, h => by
    simp only [List.length_cons] at h
    rw [splice, splice_get xs (cs.set o x) (o + 1) k (by simp; omega)]
    simp only [List.length_cons]
    by_cases h1 : o + 1 ≤ k ∧ k < o + 1 + xs.length
    · rw [if_pos h1, if_pos (by omega), show k - o = (k - (o + 1)) + 1 by omega]; rfl
    · rw [if_neg h1]
      by_cases h2 : o = k
      · subst h2
        rw [if_pos (by omega), Nat.sub_self, List.getElem?_set]
        simp; omega
      · rw [if_neg (by omega), List.getElem?_set, if_neg h2]
theorem row_get (c vs : List Value) (o k : Nat) (h : o + vs.length ≤ c.length) : (c.take o ++ vs ++ c.drop (o + vs.length))[k]? = if o ≤ k ∧ k < o + vs.length then vs[k - o]? else c[k]? := by
  have hl : (c.take o).length = o := by simp; omega
  by_cases h1 : k < o
  · rw [if_neg (by omega), List.append_assoc, List.getElem?_append_left (by omega), List.getElem?_take, if_pos h1]
  · by_cases h2 : k < o + vs.length
    · rw [if_pos (by omega), List.append_assoc, List.getElem?_append_right (by omega), hl, List.getElem?_append_left (by omega)]
    · rw [if_neg (by omega), List.getElem?_append_right (by simp; omega), List.getElem?_drop]
      congr 1
      simp; omega

theorem writeAs_some {i : TI} {cs cs' : List AV} {o : Nat} {v : AV} (h : writeAs i cs o v = some cs') : ∃ vs, v.cells? = some vs ∧ vs.length = i.size ∧ o + i.size ≤ cs.length ∧ cs' = splice cs o vs := by
  unfold writeAs at h
  split at h
  · rename_i vs hv
    split at h
    · rename_i h1 h2
      exact ⟨vs, hv, Nat.eq_of_beq_eq_true h1, Nat.le_of_ble_eq_true h2, (Option.some.inj h).symm⟩
    · cases h
  · cases h

/-- Cells laid over others. -/
theorem laid_rel {c : Array Value} {cs xs : List AV} {vs : List Value} {o : Nat} (hc : ∀ (i : Nat) (x : AV), cs[i]? = some x → x.leaf = true ∧ VRel F w x (c.getD i undef)) (hx : xs.length = vs.length) (hv : ∀ (i : Nat) (x : AV), xs[i]? = some x → x.leaf = true ∧ VRel F w x (vs.getD i undef)) (ho : o + xs.length ≤ c.size)
    {out : List AV} (hol : out.length ≤ c.size) (hout : ∀ k y, out[k]? = some y → (if o ≤ k ∧ k < o + xs.length then xs[k - o]? else cs[k]?) = some y) :
    ∀ (i : Nat) (x : AV), out[i]? = some x → x.leaf = true ∧ VRel F w x ((c.toList.take o ++ vs ++ c.toList.drop (o + vs.length)).toArray.getD i undef) := by
  intro k y hk
  have h1 := hout k y hk
  have hlt : k < out.length := (List.getElem?_eq_some_iff.1 hk).1
  have hrow := row_get c.toList vs o k (by simp; omega)
  have hkc : k < c.size := by omega
  have hlen : (c.toList.take o ++ vs ++ c.toList.drop (o + vs.length)).length = c.size := by simp; omega
  have hgd : (c.toList.take o ++ vs ++ c.toList.drop (o + vs.length)).toArray.getD k undef = ((c.toList.take o ++ vs ++ c.toList.drop (o + vs.length))[k]?).getD undef := by
    have h2 : k < (c.toList.take o ++ vs ++ c.toList.drop (o + vs.length)).toArray.size := by rw [List.size_toArray, hlen]; exact hkc
    simp only [Array.getD, h2, dif_pos]
    rw [List.getElem?_eq_getElem (by rw [hlen]; exact hkc)]
    rfl
  rw [hgd, hrow]
  split at h1
  · rename_i hin
    rw [if_pos (by omega)]
    obtain ⟨h2, h3⟩ := hv _ y h1
    exact ⟨h2, by rw [List.getD_eq_getElem?_getD] at h3; exact h3⟩
  · rename_i hin
    rw [if_neg (by omega)]
    obtain ⟨h2, h3⟩ := hc _ y h1
    refine ⟨h2, ?_⟩
    simpa [Array.getD, hkc] using h3

theorem store_sound (ok : TTok P TT) {o : Oper} {t : TypeId} {p x : Operand} (ho : o.op = .store t p x) {ρ : Operand → AV} {σ : Hp} {K : AV → Hp → Prop} {i : TI} (hi : TT t = some i) {b off : Nat} (hp : ρ p = .ptr b off) (h : StoreAt i σ b off (ρ x) (fun σ' => K .any σ')) : Leads P o ρ σ K := by
  intro a F w hx hσ next Q hn
  obtain ⟨j, cs, cs', h1, h2, go⟩ := h
  obtain ⟨vs, hv, hvl, hle, rfl⟩ := writeAs_some h2
  obtain ⟨jt, d, z, hj, hd, hs, _⟩ := tt_fact ok hi
  have a1 := hx p (by simp [ho, Op.operands]); rw [hp] at a1
  have a2 := hx x (by simp [ho, Op.operands])
  obtain ⟨c1, c2⟩ := cells?_rel a2 hv
  obtain ⟨hF, c, T, hc, hcl, hcr⟩ := hσ.holds _ (List.mem_of_getElem? h1)
  have hcl : cs.length ≤ c.size := hcl
  have hone : ∀ u ∈ (a.eval x).cells.toList, u.oneCell' = true := by
    intro u hu
    obtain ⟨k, hk⟩ := List.mem_iff_getElem?.1 hu
    have hlt : k < (a.eval x).cells.size := by have := (List.getElem?_eq_some_iff.1 hk).1; simpa using this
    obtain ⟨h3, h4⟩ := c2 k vs[k] (by simp)
    have := h4.one h3
    simpa [Array.getD, hlt, show (a.eval x).cells[k] = u by simpa [hlt] using hk] using this
  have hst := run_storeCells_at (P := P) b off T (a.eval x).cells.toList 0 c w hc (by simp [c1]; omega) hone
  have hrun : (execOp a.eval o).run P w = .ok .skip (w.setRow b (c.toList.take off ++ (a.eval x).cells.toList ++ c.toList.drop (off + (a.eval x).cells.toList.length)).toArray) := by
    simp only [Nat.add_zero] at hst
    have hsz : ¬ ((a.eval x).cells.size ≠ jt.size) := by rw [c1, hvl, hs]; simp
    simp only [execOp, ho, a1.ptrv, Instr.storeAt, Instr.sureAddr, Sem.run_bind, Sem.run_pure, Result.andThen_ok, storeVar, run_sizeOf hj, if_neg hsz, hst]
  unfold Oper.wp
  rw [hrun]
  have hlen : (c.toList.take off ++ (a.eval x).cells.toList ++ c.toList.drop (off + (a.eval x).cells.toList.length)).length = c.size := by simp; omega
  obtain ⟨s1, s2⟩ := relhp_set hσ h1 (cs' := splice cs off vs) hc (c' := (c.toList.take off ++ (a.eval x).cells.toList ++ c.toList.drop (off + (a.eval x).cells.toList.length)).toArray) (by simp only [List.size_toArray]; exact hlen) (by rw [splice_length]; simp only [List.size_toArray]; omega)
    (laid_rel (xs := vs) hcr (by simp [c1]) (fun k y hk => by
      have hlt : k < (a.eval x).cells.size := by rw [c1]; exact (List.getElem?_eq_some_iff.1 hk).1
      have := c2 k y hk
      simpa [Array.getD, List.getD, hlt] using this) (by omega) (by rw [splice_length]; omega) (fun k y hk => by rw [splice_get _ _ _ _ (by omega)] at hk; exact hk))
    (fun k hk => setRow_other w b k _ hk) (setRow_heap w b c _ T _ hc) rfl rfl rfl (by simp)
  exact hn undef .any _ F _ s1 s2 (.any _) go

/-! ### append -/
theorem At.flat {α : Type} {f : α → List AV} {es : Nat} (hf : ∀ x, (f x).length = es) {b : Nat} : ∀ (l : List α) (o : Nat), (∀ i, (h : i < l.length) → At F w b (o + i * es) (f l[i])) → At F w b o (l.flatMap f)
  | [], o, _ => fun i x h => by simp at h
  | y :: l, o, h => by
    have h0 := h 0 (by simp)
    have ih := At.flat hf l (o + es) (fun i hi => by
      have := h (i + 1) (by simpa using hi)
      rw [Nat.succ_mul, show o + (i * es + es) = o + es + i * es by omega] at this
      simpa using this)
    intro i x hx
    rw [List.flatMap_cons] at hx
    by_cases hi : i < es
    · rw [List.getElem?_append_left (by rw [hf]; exact hi)] at hx
      have := h0 i x (by simpa using hx)
      simpa using this
    · rw [List.getElem?_append_right (by rw [hf]; omega), hf] at hx
      have := ih (i - es) x hx
      rw [show o + es + (i - es) = o + i by omega] at this
      exact this
theorem flat_length {α : Type} {f : α → List AV} {es : Nat} (hf : ∀ x, (f x).length = es) : ∀ (l : List α), (l.flatMap f).length = l.length * es
  | [] => by simp
  | y :: l => by rw [List.flatMap_cons, List.length_append, hf, flat_length hf l, List.length_cons, Nat.succ_mul]; omega

/-- Cells known, as values. -/
theorem at_news {b o : Nat} {cs : List AV} (h : At F w b o cs) : ∃ news : List Value, news.length = cs.length ∧ (∀ j u, news[j]? = some u → w.cell? ⟨b, o + j, none⟩ = some u) ∧ (∀ (i : Nat) (x : AV), cs[i]? = some x → x.leaf = true ∧ VRel F w x (news.getD i undef)) ∧ ∀ u ∈ news, u.oneCell' = true := by
  have hc : ∀ m, m < cs.length → ∃ v, w.cell? ⟨b, o + m, none⟩ = some v ∧ v.oneCell' = true := by
    intro m hm
    obtain ⟨h1, v, h2, h3⟩ := h m cs[m] (by simp [hm])
    exact ⟨v, h2, h3.one h1⟩
  refine ⟨(List.range cs.length).map fun m => (w.cell? ⟨b, o + m, none⟩).getD undef, by simp, fun j u hj => ?_, fun i x hx => ?_, fun u hu => ?_⟩
  · have hlt : j < cs.length := by have := (List.getElem?_eq_some_iff.1 hj).1; simpa using this
    obtain ⟨v, h2, _⟩ := hc j hlt
    simp [hlt, h2] at hj
    rw [h2, hj]
  · have hlt : i < cs.length := (List.getElem?_eq_some_iff.1 hx).1
    obtain ⟨h1, v, h2, h3⟩ := h i x hx
    refine ⟨h1, ?_⟩
    simpa [List.getD, hlt, h2] using h3
  · obtain ⟨m, hm, rfl⟩ := List.mem_map.1 hu
    obtain ⟨v, h2, h3⟩ := hc m (List.mem_range.1 hm)
    rw [h2]
    exact h3

/-- What is appended. -/
theorem src_sound {σ : Hp} {es n : Nat} {x : AV} {new : List AV} (h : SrcAt σ es x n new) (hσ : RelHp F w σ) {v : Value} (hv : VRel F w x v) {tx e' : TypeId} (hk : P.underlying tx = some (.slice e')) :
    ∃ news : List Value, Src P es tx v n news w ∧ new.length = news.length ∧ ∀ (i : Nat) (x : AV), new[i]? = some x → x.leaf = true ∧ VRel F w x (news.getD i undef) := by
  have empty : ∀ (a : Option Addr) (c : Nat), Src P es tx (.slice a 0 c) 0 [] w := by
    intro a c
    cases a with
    | none => exact Src.ofNil w hk c
    | some a => exact Src.ofSlice w hk a 0 c [] (by simp) (fun j u h => by simp at h) (fun _ h => by cases h)
  cases h with
  | nils => cases hv; exact ⟨[], empty _ _, rfl, fun i x h => by simp at h⟩
  | zsl => cases hv; exact ⟨[], empty _ _, rfl, fun i x h => by simp at h⟩
  | esl => cases hv; exact ⟨[], empty _ _, rfl, fun i x h => by simp at h⟩
  | fsl s l hs =>
    obtain ⟨a, c, rfl, h1, h2, h3⟩ := hv.fslv
    by_cases hne : l = []
    · subst hne
      exact ⟨[], empty _ _, rfl, fun i x h => by simp at h⟩
    · obtain ⟨b, o, rfl, hF, hr⟩ := h3 hne
      have hat : At F w b o (l.flatMap s.cells) := At.flat (es := s.size) (fun d => Sh.cells_length s d) l o (fun i hi => by
        obtain ⟨cs', q1, q2, q3⟩ := hr i hi
        exact At.of_lies s q2 q3)
      obtain ⟨news, n1, n2, n3, n4⟩ := at_news hat
      have hl := flat_length (fun d => Sh.cells_length s d) l
      exact ⟨news, Src.ofSlice w hk _ _ c news (by rw [n1, hl, hs]) (fun j u hj => by rw [addr_add]; exact n2 j u hj) n4, n1.symm, n3⟩
  | mref j b off len cs h1 h2 =>
    obtain ⟨a, cap, rfl, c, T, fz, m1, m2, m3, m4⟩ := hv.mrefv
    have hat : At F w b off ((cs.drop off).take (n * es)) := by
      have := (hσ.at_ h1).drop off
      rw [Nat.zero_add] at this
      intro i x hx
      rw [List.getElem?_take] at hx
      split at hx
      · exact this i x hx
      · cases hx
    have hl : ((cs.drop off).take (n * es)).length = n * es := by simp; omega
    obtain ⟨news, n1, n2, n3, n4⟩ := at_news hat
    rcases m4 with ⟨rfl, _⟩ | ⟨q1, q2, rfl, rfl⟩
    · exact ⟨news, Src.ofSlice w hk _ _ cap news (by rw [n1, hl]) (fun j u hj => by rw [addr_add]; exact n2 j u hj) n4, n1.symm, n3⟩
    · have h0 : (List.take (0 * es) (List.drop off cs)) = [] := by simp
      rw [h0]
      exact ⟨[], empty _ _, rfl, fun i x h => by simp at h⟩

theorem run_append_op {η : Operand → Value} {o : Oper} {s x : Operand} {t t' : TypeId} (ho : o.op = .call ⟨.builtin .append, #[s, x], #[t, t']⟩) {v : Value} {w w' : World} (h : (Builtin.append_ #[t, t'] o.type #[η s, η x]).run P w = .ok v w') : (execOp η o).run P w = .ok (.value v) w' := by
  rw [call_args _ _ _ o ho]
  simp [builtin, h]

theorem size_zeroC (z : Array Value) (n : Nat) : (Builtin.zeroCells z n).size = n * z.size := by simp [Builtin.zeroCells]

/-- A new row behind append. -/
theorem grown_rel {σ : Hp} (hσ : RelHp F w σ) {e : TypeId} {i : TI} {z : Value} {olds news : List Value} {co cn : List AV} {len n cap : Nat} (ho : co.length = olds.length) (hn : cn.length = news.length) (hor : ∀ (i : Nat) (x : AV), co[i]? = some x → x.leaf = true ∧ VRel F w x (olds.getD i undef)) (hnr : ∀ (i : Nat) (x : AV), cn[i]? = some x → x.leaf = true ∧ VRel F w x (news.getD i undef))
    (hlo : olds.length = len * i.size) (hln : news.length = n * i.size) (hzs : z.cells.size = i.size) (hc1 : len + n ≤ cap) (hc2 : cap ≤ maxLen) :
    let w2 := w.drew.alloc (.cells ((olds ++ news).toArray ++ Builtin.zeroCells z.cells (cap - (len + n))) e)
    Stp F w F w2 ∧ RelHp F w2 ((w.heap.size, co ++ cn) :: σ) ∧ VRel F w2 (.mref w.heap.size 0 (len + n) i.size) (.slice (some ⟨w.heap.size, 0, none⟩) (len + n) cap) := by
  intro w2
  have hsz : ((olds ++ news).toArray ++ Builtin.zeroCells z.cells (cap - (len + n))).size = cap * i.size := by
    simp only [Array.size_append, List.size_toArray, List.length_append, size_zeroC, hzs, hlo, hln]
    rw [← Nat.add_mul, ← Nat.add_mul]
    congr 1
    omega
  obtain ⟨h1, h2⟩ := relhp_alloc hσ (c := (olds ++ news).toArray ++ Builtin.zeroCells z.cells (cap - (len + n))) (T := e) (cs := co ++ cn) (by simp; omega) (fun k x hx => by
    have hlt : k < (co ++ cn).length := (List.getElem?_eq_some_iff.1 hx).1
    have hk2 : k < (olds ++ news).length := by simp at hlt ⊢; omega
    have e1 : ((olds ++ news).toArray ++ Builtin.zeroCells z.cells (cap - (len + n))).getD k undef = (olds ++ news).getD k undef := by
      rw [Array.getD_eq_getD_getElem?, Array.getElem?_append_left (by simpa using hk2), List.getD_eq_getElem?_getD, List.getElem?_toArray]
    rw [e1]
    by_cases hk : k < co.length
    · rw [List.getElem?_append_left hk] at hx
      rw [List.getD_eq_getElem?_getD, List.getElem?_append_left (by omega), ← List.getD_eq_getElem?_getD]
      exact hor k x hx
    · rw [List.getElem?_append_right (by omega)] at hx
      rw [List.getD_eq_getElem?_getD, List.getElem?_append_right (by omega), ← List.getD_eq_getElem?_getD, ← ho]
      exact hnr _ x hx) (w0 := w.drew) (.inr rfl)
  refine ⟨h1, h2, .mref _ _ _ _ _ _ ⟨_, e, (0, 0), ?_, hc1, hc2, .inl ⟨rfl, by rw [hsz]; omega⟩⟩⟩
  exact alloc_at w.drew _

theorem append0_sound (ok : TTok P TT) {o : Oper} {s x : Operand} {t t' e e' : TypeId} (ho : o.op = .call ⟨.builtin .append, #[s, x], #[t, t']⟩) {ρ : Operand → AV} {σ : Hp} {K : AV → Hp → Prop} {it it' i : TI} (ht : TT t = some it) (hk : it.k = .slice e) (ht' : TT t' = some it') (hk' : it'.k = .slice e') (hi : TT e = some i)
    (h : Append0 i σ (ρ s) (ρ x) K) : Leads P o ρ σ K := by
  intro a F w hx hσ next Q hnx
  obtain ⟨_, d, _, _, hd, _, _, hft, _, _⟩ := tt_fact ok ht
  rw [hk] at hft
  obtain rfl := fits_slice hft
  obtain ⟨_, d', _, _, hd', _, _, hft', _, _⟩ := tt_fact ok ht'
  rw [hk'] at hft'
  obtain rfl := fits_slice hft'
  obtain ⟨j, dj, z, hj, hdj, hs, ⟨hb, hzl⟩, _, hz, hzz⟩ := tt_fact ok hi
  have hzs : z.cells.size = i.size := by have := (zero_rel (F := F) (w := w) hzz).1; omega
  have a1 := hx s (by simp [ho, Op.operands, Call.operands])
  have a2 := hx x (by simp [ho, Op.operands, Call.operands])
  have fits : ∀ {len n : Nat}, len + n ≤ 1048576 → i.bytes ≤ 1024 → (len + n) * j.bytes ≤ 140737488355328 := by
    intro len n h1 h2
    rw [hb]
    have : (len + n) * i.bytes ≤ 1048576 * 1024 := Nat.mul_le_mul h1 h2
    omega
  cases h with
  | fresh n new hsn hsrc hn hby h0 go same =>
    obtain ⟨news, src, q1, q2⟩ := src_sound (P := P) hsrc hσ a2 hd'
    rw [← hs] at src
    obtain ⟨ad, hv⟩ : ∃ ad, a.eval s = .slice ad 0 0 := by
      rcases hsn with hsn | hsn
      · rw [hsn] at a1; revert a1; generalize a.eval s = u; intro a1; cases a1; exact ⟨none, rfl⟩
      · rw [hsn] at a1; revert a1; generalize a.eval s = u; intro a1; cases a1; exact ⟨_, rfl⟩
    by_cases hn0 : n = 0
    · subst hn0
      have hnews : news = [] := List.length_eq_zero_iff.1 (by rw [src.newsLen]; simp)
      subst hnews
      have hr := run_append_op (η := a.eval) ho (by rw [hv]; exact run_append_nothing w t t' o.type e j hd hj ad 0 0 (Nat.le_refl _) _ src)
      unfold Oper.wp
      rw [hr]
      exact hnx _ _ σ F w (.refl _ _) hσ (by rw [← hv]; exact a1) (same rfl)
    · have hold : (Builtin.firstCells j.size 0 (.slice ad 0 0)).run P w.drew = .ok #[] w.drew := by
        cases ad with
        | none => exact run_firstCells_none w.drew _ _ _ _
        | some ad => exact run_firstCells_some w.drew j.size 0 ad 0 0 [] (by simp) (fun j u h => by simp at h)
      have hgrow := run_append_grow_src (P := P) w t t' o.type e j z hd hj hz ad 0 0 [] hold _ n news src (by omega) (by omega) (growslice_fits (by omega) (fits (by omega) hby))
      have hge := grownCap_ge w (0 + n) 0 e
      have hcm := grownCap_le_maxLen w (0 + n) 0 e (by unfold maxLen; omega)
      obtain ⟨g1, g2, g3⟩ := grown_rel hσ (e := e) (i := i) (z := z) (olds := []) (co := []) (news := news) (cn := new) (len := 0) (n := n) (cap := grownCap w (0 + n) 0 e) rfl q1 (fun i x h => by simp at h) q2 (by simp) (by rw [src.newsLen, hs]) hzs hge hcm
      have hr := run_append_op (η := a.eval) ho (by rw [hv]; exact hgrow)
      unfold Oper.wp
      rw [hr]
      have := go hn0 w.heap.size
      rw [show n = 0 + n from (Nat.zero_add n).symm] at this
      exact hnx _ _ _ F _ g1 g2 g3 this
  | more jj b len n cs new hsm hj1 hcl hsrc hn hby h0 go =>
    obtain ⟨news, src, q1, q2⟩ := src_sound (P := P) hsrc hσ a2 hd'
    rw [hsm] at a1
    obtain ⟨ad, cap, hv, c, T, fz, m1, m2, m3, m4⟩ := a1.mrefv
    obtain ⟨hF, c', T', hc', hcl', hcr'⟩ := hσ.holds _ (List.mem_of_getElem? hj1)
    have hcl' : cs.length ≤ c'.size := hcl'
    have hcc : c = c' ∧ T = T' ∧ fz = (0, 0) := by
      rw [hc'] at m1; cases m1; exact ⟨rfl, rfl, rfl⟩
    obtain ⟨rfl, rfl, rfl⟩ := hcc
    have hlt : jj < σ.length := (List.getElem?_eq_some_iff.1 hj1).1
    have hco : (cs.take (len * i.size)).length = len * i.size := by simp; omega
    have hcor : ∀ (k : Nat) (x : AV), (cs.take (len * i.size))[k]? = some x → x.leaf = true ∧ VRel F w x (c.getD k undef) := by
      intro k x hx
      rw [List.getElem?_take] at hx
      split at hx
      · exact hcr' k x hx
      · cases hx
    have hsub : RelHp F w (σ.eraseIdx jj) := hσ.sub (List.eraseIdx_sublist _ _)
    by_cases hroom : len + n ≤ cap
    · rcases m4 with ⟨rfl, hfit⟩ | ⟨ha1, ha2, hl0, hc0⟩
      · rw [Nat.zero_add] at hfit
        have hmul : (len + n) * i.size ≤ cap * i.size := Nat.mul_le_mul_right _ hroom
        rw [Nat.add_mul] at hmul
        have hnl : news.length = n * i.size := src.newsLen
        have hst := run_storeCells_at (P := P) b (len * i.size) T news 0 c w hc' (by omega) src.one
        simp only [Nat.add_zero] at hst
        rw [← hs] at src
        have happ : (Builtin.append_ #[t, t'] o.type #[.slice (some ⟨b, 0, none⟩) len cap, a.eval x]).run P w = .ok (.slice (some ⟨b, 0, none⟩) (len + n) cap) (w.setRow b (c.toList.take (len * i.size) ++ news ++ c.toList.drop (len * i.size + news.length)).toArray) := by
          rw [← hs] at hst ⊢
          simp [Builtin.append_, run_underlying hd, run_underlying hd', sizeOf, typeInfo, hj, src.len, hroom, src.cells, Addr.add_lit, hst]
        have hr := run_append_op (η := a.eval) ho (by rw [hv]; exact happ)
        have hlen : (c.toList.take (len * i.size) ++ news ++ c.toList.drop (len * i.size + news.length)).length = c.size := by simp; omega
        obtain ⟨s1, s2⟩ := relhp_set hσ hj1 (cs' := cs.take (len * i.size) ++ new) hc' (c' := (c.toList.take (len * i.size) ++ news ++ c.toList.drop (len * i.size + news.length)).toArray) (by simp only [List.size_toArray]; exact hlen) (by rw [List.size_toArray, hlen, List.length_append, hco, q1]; omega)
          (laid_rel (cs := cs.take (len * i.size)) (xs := new) (fun k y hk => hcor k y hk) q1 q2 (by omega) (by simp only [List.length_append, hco, q1]; omega) (fun k y hk => by
            by_cases hkl : k < len * i.size
            · rw [if_neg (by omega)]
              rw [List.getElem?_append_left (by omega)] at hk
              exact hk
            · rw [List.getElem?_append_right (by omega), hco] at hk
              have := (List.getElem?_eq_some_iff.1 hk).1
              rw [if_pos (by omega)]
              exact hk))
          (fun k hk => setRow_other w b k _ hk) (setRow_heap w b c _ T _ hc') rfl rfl rfl (by simp)
        unfold Oper.wp
        rw [hr]
        refine hnx _ _ _ F _ s1 (s2.perm ?_) ?_ (go b)
        · have := cons_erase_perm (σ.set jj (b, cs.take (len * i.size) ++ new)) jj (b, cs.take (len * i.size) ++ new) (by simp [hlt])
          rw [List.eraseIdx_set_eq] at this
          exact this
        · exact .mref _ _ _ _ _ _ ⟨_, T, (0, 0), setRow_heap w b c _ T _ hc', by omega, m3, .inl ⟨rfl, by simp only [List.size_toArray]; rw [hlen]; omega⟩⟩
      · subst hl0; subst hc0
        obtain rfl : n = 0 := by omega
        have hnews : news = [] := List.length_eq_zero_iff.1 (by rw [src.newsLen]; simp)
        subst hnews
        rw [← hs] at src
        have hnew : new = [] := List.length_eq_zero_iff.1 (by simpa using q1)
        subst hnew
        have hr := run_append_op (η := a.eval) ho (by rw [hv]; exact run_append_nothing w t t' o.type e j hd hj (some ad) 0 0 (Nat.le_refl _) _ src)
        unfold Oper.wp
        rw [hr]
        have hperm : RelHp F w ((b, cs) :: σ.eraseIdx jj) := hσ.perm (cons_erase_perm σ jj (b, cs) hj1)
        have g0 : K (.mref b 0 0 i.size) ((b, []) :: σ.eraseIdx jj) := by simpa using go b
        refine hnx _ _ ((b, []) :: σ.eraseIdx jj) F w (.refl _ _) ⟨hperm.nodup, fun p hp => ?_, hperm.low⟩ (.mref b 0 0 i.size ad 0 ⟨c, T, (0, 0), hc', Nat.le_refl _, by unfold maxLen; omega, .inr ⟨ha1, ha2, rfl, rfl⟩⟩) g0
        rcases List.mem_cons.1 hp with rfl | hp
        · exact ⟨hF, c, T, hc', by simp, fun i x h => by simp at h⟩
        · exact hperm.holds p (List.mem_cons_of_mem _ hp)
    · obtain ⟨olds, o1, o2, o3⟩ : ∃ olds : List Value, olds.length = len * i.size ∧ (Builtin.firstCells i.size len (.slice (some ad) len cap)).run P w.drew = .ok olds.toArray w.drew ∧ ∀ (k : Nat) (x : AV), (cs.take (len * i.size))[k]? = some x → x.leaf = true ∧ VRel F w x (olds.getD k undef) := by
        rcases m4 with ⟨rfl, hfit⟩ | ⟨ha1, ha2, rfl, rfl⟩
        · have hat : At F w b 0 (cs.take (len * i.size)) := by
            have := hσ.at_ hj1
            intro k x hx
            rw [List.getElem?_take] at hx
            split at hx
            · exact this k x hx
            · cases hx
          obtain ⟨olds, n1, n2, n3, n4⟩ := at_news hat
          refine ⟨olds, by rw [n1, hco], run_firstCells_some w.drew i.size len _ len cap olds (by rw [n1, hco]) (fun k u hk => ?_), n3⟩
          rw [addr_add]
          exact n2 k u hk
        · exact ⟨[], by simp, run_firstCells_some w.drew i.size 0 ad 0 0 [] (by simp) (fun j u h => by simp at h), fun k x h => by simp at h⟩
      have hnl : news.length = n * i.size := src.newsLen
      rw [← hs] at src
      have hgrow := run_append_grow_src (P := P) w t t' o.type e j z hd hj hz (some ad) len cap olds (by rw [hs]; exact o2) _ n news src (by omega) (by omega) (growslice_fits (by omega) (fits (by omega) hby))
      have hge := grownCap_ge w (len + n) cap e
      have hcm := grownCap_le_maxLen w (len + n) cap e (by unfold maxLen; omega)
      obtain ⟨g1, g2, g3⟩ := grown_rel hsub (e := e) (i := i) (z := z) (olds := olds) (co := cs.take (len * i.size)) (news := news) (cn := new) (len := len) (n := n) (cap := grownCap w (len + n) cap e) (by rw [hco, o1]) q1 o3 q2 o1 hnl hzs hge hcm
      have hr := run_append_op (η := a.eval) ho (by rw [hv]; exact hgrow)
      unfold Oper.wp
      rw [hr]
      exact hnx _ _ _ F _ g1 g2 g3 (go w.heap.size)
  | moreO jj b off len n cs new hsm hj1 hcl hsrc hn hby h0 goIn go =>
    obtain ⟨news, src, q1, q2⟩ := src_sound (P := P) hsrc hσ a2 hd'
    rw [hsm] at a1
    obtain ⟨ad, cap, hv, c, T, fz, m1, m2, m3, m4⟩ := a1.mrefv
    obtain ⟨hF, c', T', hc', hcl', hcr'⟩ := hσ.holds _ (List.mem_of_getElem? hj1)
    have hcl' : cs.length ≤ c'.size := hcl'
    have hcc : c = c' ∧ T = T' ∧ fz = (0, 0) := by
      rw [hc'] at m1; cases m1; exact ⟨rfl, rfl, rfl⟩
    obtain ⟨rfl, rfl, rfl⟩ := hcc
    have hlt : jj < σ.length := (List.getElem?_eq_some_iff.1 hj1).1
    have hco : (cs.take (off + len * i.size)).length = off + len * i.size := by simp; omega
    have hco2 : ((cs.drop off).take (len * i.size)).length = len * i.size := by simp; omega
    have hcor : ∀ (k : Nat) (x : AV), (cs.take (off + len * i.size))[k]? = some x → x.leaf = true ∧ VRel F w x (c.getD k undef) := by
      intro k x hx
      rw [List.getElem?_take] at hx
      split at hx
      · exact hcr' k x hx
      · cases hx
    have hsub : RelHp F w (σ.eraseIdx jj) := hσ.sub (List.eraseIdx_sublist _ _)
    by_cases hroom : len + n ≤ cap
    · rcases m4 with ⟨rfl, hfit⟩ | ⟨ha1, ha2, hl0, hc0⟩
      · have hfit : off + cap * i.size ≤ c.size := hfit
        have hmul : (len + n) * i.size ≤ cap * i.size := Nat.mul_le_mul_right _ hroom
        rw [Nat.add_mul] at hmul
        have hnl : news.length = n * i.size := src.newsLen
        have hst := run_storeCells_at (P := P) b (off + len * i.size) T news 0 c w hc' (by omega) src.one
        simp only [Nat.add_zero] at hst
        rw [← hs] at src
        have happ : (Builtin.append_ #[t, t'] o.type #[.slice (some ⟨b, off, none⟩) len cap, a.eval x]).run P w = .ok (.slice (some ⟨b, off, none⟩) (len + n) cap) (w.setRow b (c.toList.take (off + len * i.size) ++ news ++ c.toList.drop (off + len * i.size + news.length)).toArray) := by
          rw [← hs] at hst ⊢
          simp [Builtin.append_, run_underlying hd, run_underlying hd', sizeOf, typeInfo, hj, src.len, hroom, src.cells, Addr.add_lit, hst]
        have hr := run_append_op (η := a.eval) ho (by rw [hv]; exact happ)
        have hlen : (c.toList.take (off + len * i.size) ++ news ++ c.toList.drop (off + len * i.size + news.length)).length = c.size := by simp; omega
        obtain ⟨s1, s2⟩ := relhp_set hσ hj1 (cs' := cs.take (off + len * i.size) ++ new) hc' (c' := (c.toList.take (off + len * i.size) ++ news ++ c.toList.drop (off + len * i.size + news.length)).toArray) (by simp only [List.size_toArray]; exact hlen) (by rw [List.size_toArray, hlen, List.length_append, hco, q1]; omega)
          (laid_rel (cs := cs.take (off + len * i.size)) (xs := new) (fun k y hk => hcor k y hk) q1 q2 (by omega) (by simp only [List.length_append, hco, q1]; omega) (fun k y hk => by
            by_cases hkl : k < off + len * i.size
            · rw [if_neg (by omega)]
              rw [List.getElem?_append_left (by omega)] at hk
              exact hk
            · rw [List.getElem?_append_right (by omega), hco] at hk
              have := (List.getElem?_eq_some_iff.1 hk).1
              rw [if_pos (by omega)]
              exact hk))
          (fun k hk => setRow_other w b k _ hk) (setRow_heap w b c _ T _ hc') rfl rfl rfl (by simp)
        unfold Oper.wp
        rw [hr]
        refine hnx _ _ _ F _ s1 (s2.perm ?_) ?_ goIn
        · have := cons_erase_perm (σ.set jj (b, cs.take (off + len * i.size) ++ new)) jj (b, cs.take (off + len * i.size) ++ new) (by simp [hlt])
          rw [List.eraseIdx_set_eq] at this
          exact this
        · exact .mref _ _ _ _ _ _ ⟨_, T, (0, 0), setRow_heap w b c _ T _ hc', by omega, m3, .inl ⟨rfl, by simp only [List.size_toArray]; rw [hlen]; omega⟩⟩
      · subst hl0; subst hc0
        obtain rfl : n = 0 := by omega
        have hnews : news = [] := List.length_eq_zero_iff.1 (by rw [src.newsLen]; simp)
        subst hnews
        rw [← hs] at src
        have hnew : new = [] := List.length_eq_zero_iff.1 (by simpa using q1)
        subst hnew
        have hr := run_append_op (η := a.eval) ho (by rw [hv]; exact run_append_nothing w t t' o.type e j hd hj (some ad) 0 0 (Nat.le_refl _) _ src)
        unfold Oper.wp
        rw [hr]
        have hperm : RelHp F w ((b, cs) :: σ.eraseIdx jj) := hσ.perm (cons_erase_perm σ jj (b, cs) hj1)
        have g0 : K (.mref b off 0 i.size) ((b, cs.take off) :: σ.eraseIdx jj) := by simpa using goIn
        refine hnx _ _ ((b, cs.take off) :: σ.eraseIdx jj) F w (.refl _ _) ⟨hperm.nodup, fun p hp => ?_, hperm.low⟩ (.mref b off 0 i.size ad 0 ⟨c, T, (0, 0), hc', Nat.le_refl _, by unfold maxLen; omega, .inr ⟨ha1, ha2, rfl, rfl⟩⟩) g0
        rcases List.mem_cons.1 hp with rfl | hp
        · exact ⟨hF, c, T, hc', by simp only [List.length_take]; omega, fun k x h => by
            rw [List.getElem?_take] at h
            split at h
            · exact hcr' k x h
            · cases h⟩
        · exact hperm.holds p (List.mem_cons_of_mem _ hp)
    · obtain ⟨olds, o1, o2, o3⟩ : ∃ olds : List Value, olds.length = len * i.size ∧ (Builtin.firstCells i.size len (.slice (some ad) len cap)).run P w.drew = .ok olds.toArray w.drew ∧ ∀ (k : Nat) (x : AV), ((cs.drop off).take (len * i.size))[k]? = some x → x.leaf = true ∧ VRel F w x (olds.getD k undef) := by
        rcases m4 with ⟨rfl, hfit⟩ | ⟨ha1, ha2, rfl, rfl⟩
        · have hat : At F w b off ((cs.drop off).take (len * i.size)) := by
            have := hσ.at_ hj1
            intro k x hx
            rw [List.getElem?_take] at hx
            split at hx
            · rw [List.getElem?_drop] at hx
              have h5 := this (off + k) x hx
              simpa only [Nat.zero_add] using h5
            · cases hx
          obtain ⟨olds, n1, n2, n3, n4⟩ := at_news hat
          refine ⟨olds, by rw [n1, hco2], run_firstCells_some w.drew i.size len _ len cap olds (by rw [n1, hco2]) (fun k u hk => ?_), n3⟩
          rw [addr_add]
          exact n2 k u hk
        · exact ⟨[], by simp, run_firstCells_some w.drew i.size 0 ad 0 0 [] (by simp) (fun j u h => by simp at h), fun k x h => by simp at h⟩
      have hnl : news.length = n * i.size := src.newsLen
      rw [← hs] at src
      have hgrow := run_append_grow_src (P := P) w t t' o.type e j z hd hj hz (some ad) len cap olds (by rw [hs]; exact o2) _ n news src (by omega) (by omega) (growslice_fits (by omega) (fits (by omega) hby))
      have hge := grownCap_ge w (len + n) cap e
      have hcm := grownCap_le_maxLen w (len + n) cap e (by unfold maxLen; omega)
      obtain ⟨g1, g2, g3⟩ := grown_rel hsub (e := e) (i := i) (z := z) (olds := olds) (co := (cs.drop off).take (len * i.size)) (news := news) (cn := new) (len := len) (n := n) (cap := grownCap w (len + n) cap e) (by rw [hco2, o1]) q1 o3 q2 o1 hnl hzs hge hcm
      have hr := run_append_op (η := a.eval) ho (by rw [hv]; exact hgrow)
      unfold Oper.wp
      rw [hr]
      exact hnx _ _ _ F _ g1 g2 g3 (go w.heap.size)
theorem append_sound (ok : TTok P TT) {o : Oper} {s x : Operand} {t t' e e' : TypeId} (ho : o.op = .call ⟨.builtin .append, #[s, x], #[t, t']⟩) {ρ : Operand → AV} {σ : Hp} {K : AV → Hp → Prop} {it it' i : TI} (ht : TT t = some it) (hk : it.k = .slice e) (ht' : TT t' = some it') (hk' : it'.k = .slice e') (hi : TT e = some i)
    (h : AppendAt i σ (ρ s) (ρ x) K) : Leads P o ρ σ K := by
  cases h with
  | fresh n new hs hx hn hb h0 go same => exact append0_sound ok ho ht hk ht' hk' hi (.fresh n new hs hx hn hb h0 go same)
  | more j b len n cs new hs h1 h2 hx hn hb h0 go => exact append0_sound ok ho ht hk ht' hk' hi (.more j b len n cs new hs h1 h2 hx hn hb h0 go)
  | moreO j b off len n cs new hs h1 h2 hx hn hb h0 goIn go => exact append0_sound ok ho ht hk ht' hk' hi (.moreO j b off len n cs new hs h1 h2 hx hn hb h0 goIn go)
  | perm K2 hp h hk2 =>
    have := append0_sound ok ho ht hk ht' hk' hi h
    intro a F w hx hσ next Q hn
    refine this a F w hx (hσ.perm hp) next Q (fun v av σ' F' w' h1 h2 h3 h4 => ?_)
    obtain ⟨σ4, p, k | ⟨hl, k⟩⟩ := hk2 av σ' h4
    · exact hn v av σ4 F' w' h1 (h2.perm p) h3 k
    · exact hn v _ σ4 F' w' h1 (h2.perm p) (.via _ _ hl h3) k
end
end Go.Proofs.Ytiihcgmnmcdcfaa
