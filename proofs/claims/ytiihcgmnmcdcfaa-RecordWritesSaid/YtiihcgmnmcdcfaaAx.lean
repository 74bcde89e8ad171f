/-
  clear and copy do what the walk says. Over any program.
-/
import Derived.Test.YtiihcgmnmcdcfaaAl
namespace Go.Proofs.Ytiihcgmnmcdcfaa
open Go.RowKit
section
variable {P : Program} {TT : TypeId → Option TI} {F : Nat → Prop} {w : World}

/-- Cells that are laid into a block. -/
theorem lay_cells {σ : Hp} (hσ : RelHp F w σ) {j b off : Nat} {cs : List AV} (h1 : σ[j]? = some (b, cs)) (xs : List AV) (news : List Value) (hl : xs.length = news.length) (hle : off + xs.length ≤ cs.length) (hv : ∀ (k : Nat) (y : AV), xs[k]? = some y → y.leaf = true ∧ VRel F w y (news.getD k undef)) :
    ∃ w', (storeCells ⟨b, off, none⟩ news).run P w = .ok () w' ∧ Stp F w F w' ∧ RelHp F w' (σ.set j (b, splice cs off xs)) := by
  obtain ⟨hF, c, T, hc, hcl, hcr⟩ := hσ.holds _ (List.mem_of_getElem? h1)
  have hcl : cs.length ≤ c.size := hcl
  have hone : ∀ u ∈ news, u.oneCell' = true := by
    intro u hu
    obtain ⟨k, hk⟩ := List.mem_iff_getElem?.1 hu
    have hlt : k < news.length := (List.getElem?_eq_some_iff.1 hk).1
    obtain ⟨h3, h4⟩ := hv k (xs[k]'(by omega)) (by simp)
    have := h4.one h3
    rwa [List.getD_eq_getElem?_getD, hk] at this
  have hst := run_storeCells_at (P := P) b off T news 0 c w hc (by omega) hone
  simp only [Nat.add_zero] at hst
  have hlen : (c.toList.take off ++ news ++ c.toList.drop (off + news.length)).length = c.size := by simp; omega
  obtain ⟨s1, s2⟩ := relhp_set hσ h1 (cs' := splice cs off xs) hc (c' := (c.toList.take off ++ news ++ c.toList.drop (off + news.length)).toArray) (by simp only [List.size_toArray]; exact hlen) (by rw [splice_length]; simp only [List.size_toArray]; omega)
    (laid_rel (xs := xs) hcr hl hv (by omega) (by rw [splice_length]; omega) (fun k y hk => by rw [splice_get _ _ _ _ (by omega)] at hk; exact hk))
    (fun k hk => setRow_other w b k _ hk) (setRow_heap w b c _ T _ hc) rfl rfl rfl (by simp)
  exact ⟨_, hst, s1, s2⟩

theorem run_clear_op {η : Operand → Value} {o : Oper} {s : Operand} {t : TypeId} (ho : o.op = .call ⟨.builtin .clear, #[s], #[t]⟩) {v : Value} {w w' : World} (h : (Builtin.clear_ #[t] o.type #[η s]).run P w = .ok v w') : (execOp η o).run P w = .ok (.value v) w' := by
  rw [call_args _ _ _ o ho]
  simp [builtin, h]
theorem run_copy_op {η : Operand → Value} {o : Oper} {d x : Operand} {t t' : TypeId} (ho : o.op = .call ⟨.builtin .copy, #[d, x], #[t, t']⟩) {v : Value} {w w' : World} (h : (Builtin.copy_ #[t, t'] o.type #[η d, η x]).run P w = .ok v w') : (execOp η o).run P w = .ok (.value v) w' := by
  rw [call_args _ _ _ o ho]
  simp [builtin, h]
theorem set_same {σ : Hp} {j : Nat} {p : Nat × List AV} (h : σ[j]? = some p) : σ.set j p = σ := by
  obtain ⟨h1, h2⟩ := List.getElem?_eq_some_iff.1 h
  subst h2
  exact List.set_getElem_self h1

theorem clear_sound (ok : TTok P TT) {o : Oper} {s : Operand} {t e : TypeId} (ho : o.op = .call ⟨.builtin .clear, #[s], #[t]⟩) {ρ : Operand → AV} {σ : Hp} {K : AV → Hp → Prop} {it i : TI} (ht : TT t = some it) (hk : it.k = .slice e) (hi : TT e = some i) (h : ClearAt i σ (ρ s) (fun σ' => K (.tup []) σ')) : Leads P o ρ σ K := by
  intro a F w hx hσ next Q hnx
  obtain ⟨_, d, _, _, hd, _, _, hft, _, _⟩ := tt_fact ok ht
  rw [hk] at hft
  obtain rfl := fits_slice hft
  obtain ⟨j, dj, z, hj, hdj, hs, ⟨hb, hzl⟩, _, hz, hzz⟩ := tt_fact ok hi
  have a1 := hx s (by simp [ho, Op.operands, Call.operands])
  have e0 : ∀ (ad : Option Addr) (c : Nat), (Builtin.clear_ #[t] o.type #[.slice ad 0 c]).run P w = .ok (.tuple #[]) w := fun ad c => by
    cases ad <;> simp [Builtin.clear_, run_underlying hd]
  have done : ∀ (ad : Option Addr) (c : Nat), a.eval s = .slice ad 0 c → K (.tup []) σ → o.wp P a w next Q := fun ad c hv hK => by
    unfold Oper.wp
    rw [run_clear_op (η := a.eval) ho (by rw [hv]; exact e0 ad c)]
    exact hnx (.tuple #[]) _ σ F w (.refl _ _) hσ (.tup _ _ rfl (fun i x h => by simp at h)) hK
  cases h with
  | none hs go =>
    rcases hs with hs | hs | hs
    · rw [hs] at a1; generalize hv : a.eval s = v at a1; cases a1; exact done _ _ hv go
    · rw [hs] at a1; generalize hv : a.eval s = v at a1; cases a1; exact done _ _ hv go
    · rw [hs] at a1; generalize hv : a.eval s = v at a1; cases a1; exact done _ _ hv go
  | mref j' b off len cs hsm h1 h2 go =>
    rw [hsm] at a1
    obtain ⟨ad, cap, hv, c, T, fz, m1, m2, m3, m4⟩ := a1.mrefv
    by_cases hl0 : len = 0
    · subst hl0
      refine done _ _ hv ?_
      have e : splice cs off (repC i.zero 0) = cs := rfl
      rw [e, set_same h1] at go
      exact go
    · obtain ⟨rfl, _⟩ : ad = ⟨b, off, none⟩ ∧ off + cap * i.size ≤ c.size := by
        rcases m4 with h | ⟨_, _, h, _⟩
        · exact h
        · exact absurd h hl0
      obtain ⟨r1, r2⟩ := made_rel (F := F) (w := w) hzz (Nat.le_refl len)
      have hzsz : z.cells.size = i.zero.length := ((zero_rel (F := F) (w := w) hzz).1).symm
      have hcell : (madeCells z.cells (len * i.zero.length)) = Builtin.zeroCells z.cells len := by
        unfold madeCells Builtin.zeroCells
        rw [hzsz]
      have hsz : (Builtin.zeroCells z.cells len).size = len * i.zero.length := by rw [← hcell, size_madeCells]
      obtain ⟨w', k1, k2, k3⟩ := lay_cells (P := P) hσ h1 (off := off) (repC i.zero len) (Builtin.zeroCells z.cells len).toList (by rw [repC_length, Array.length_toList, hsz]) (by rw [repC_length, hzl]; exact h2) (fun k y hk => by
        have := r2 k y hk
        rw [hcell] at this
        refine ⟨this.1, ?_⟩
        rw [List.getD_eq_getElem?_getD, Array.getElem?_toList, ← Array.getD_eq_getD_getElem?]
        exact this.2)
      obtain ⟨len, rfl⟩ : ∃ m, len = m + 1 := ⟨len - 1, by omega⟩
      have hrun : (Builtin.clear_ #[t] o.type #[.slice (some ⟨b, off, none⟩) (len + 1) cap]).run P w = .ok (.tuple #[]) w' := by
        simp [Builtin.clear_, run_underlying hd, zeroValue, typeInfo, hj, hz, k1]
      unfold Oper.wp
      rw [run_clear_op (η := a.eval) ho (by rw [hv]; exact hrun)]
      exact hnx (.tuple #[]) _ _ F w' k2 k3 (.tup _ _ rfl (fun i x h => by simp at h)) go

theorem copy_sound (ok : TTok P TT) {o : Oper} {d x : Operand} {t t' e e' : TypeId} (ho : o.op = .call ⟨.builtin .copy, #[d, x], #[t, t']⟩) {ρ : Operand → AV} {σ : Hp} {K : AV → Hp → Prop} {it it' i : TI} (ht : TT t = some it) (hk : it.k = .slice e) (ht' : TT t' = some it') (hk' : it'.k = .slice e') (hi : TT e = some i)
    (h : CopyAt i σ (ρ d) (ρ x) K) : Leads P o ρ σ K := by
  intro a F w hx hσ next Q hnx
  obtain ⟨_, dd, _, _, hd, _, _, hft, _, _⟩ := tt_fact ok ht
  rw [hk] at hft
  obtain rfl := fits_slice hft
  obtain ⟨_, d', _, _, hd', _, _, hft', _, _⟩ := tt_fact ok ht'
  rw [hk'] at hft'
  obtain rfl := fits_slice hft'
  obtain ⟨j, dj, z, hj, hdj, hs, _⟩ := tt_fact ok hi
  have a1 := hx d (by simp [ho, Op.operands, Call.operands])
  have a2 := hx x (by simp [ho, Op.operands, Call.operands])
  cases h with
  | none new hdn hsrc go =>
    obtain ⟨news, src, q1, q2⟩ := src_sound (P := P) hsrc hσ a2 hd'
    have hnews : news = [] := List.length_eq_zero_iff.1 (by rw [src.newsLen]; simp)
    subst hnews
    rw [← hs] at src
    obtain ⟨ad, c, hv⟩ : ∃ ad c, a.eval d = .slice ad 0 c := by
      rcases hdn with hdn | hdn | hdn
      · rw [hdn] at a1; generalize a.eval d = v at a1; cases a1; exact ⟨_, _, rfl⟩
      · rw [hdn] at a1; generalize a.eval d = v at a1; cases a1; exact ⟨_, _, rfl⟩
      · rw [hdn] at a1; generalize a.eval d = v at a1; cases a1; exact ⟨_, _, rfl⟩
    have hrun : (Builtin.copy_ #[t, t'] o.type #[.slice ad 0 c, a.eval x]).run P w = .ok (goInt 0) w := by
      cases ad <;> simp [Builtin.copy_, run_underlying hd, src.len, sizeOf, typeInfo, hj, src.cells, storeCells]
    unfold Oper.wp
    rw [run_copy_op (η := a.eval) ho (by rw [hv]; exact hrun)]
    exact hnx _ _ σ F w (.refl _ _) hσ (.int _ _) go
  | mref jj b off len n cs new hdm h1 h2 hsrc hn go =>
    obtain ⟨news, src, q1, q2⟩ := src_sound (P := P) hsrc hσ a2 hd'
    rw [hdm] at a1
    obtain ⟨ad, cap, hv, c, T, fz, m1, m2, m3, m4⟩ := a1.mrefv
    have hnl : news.length = n * i.size := src.newsLen
    have hmul : n * i.size ≤ len * i.size := Nat.mul_le_mul_right _ hn
    rw [← hs] at src
    by_cases hl0 : len = 0
    · obtain rfl : n = 0 := by omega
      have hnews : news = [] := List.length_eq_zero_iff.1 (by rw [hnl]; simp)
      subst hnews
      have hnew : new = [] := List.length_eq_zero_iff.1 (by simpa using q1)
      subst hnew
      subst hl0
      have hrun : (Builtin.copy_ #[t, t'] o.type #[.slice (some ad) 0 cap, a.eval x]).run P w = .ok (goInt 0) w := by
        simp [Builtin.copy_, run_underlying hd, src.len, sizeOf, typeInfo, hj, src.cells, storeCells]
      unfold Oper.wp
      rw [run_copy_op (η := a.eval) ho (by rw [hv]; exact hrun)]
      have e : splice cs off ([] : List AV) = cs := rfl
      rw [e, set_same h1] at go
      exact hnx _ _ σ F w (.refl _ _) hσ (.int _ _) go
    · obtain ⟨rfl, _⟩ : ad = ⟨b, off, none⟩ ∧ off + cap * i.size ≤ c.size := by
        rcases m4 with h | ⟨_, _, h, _⟩
        · exact h
        · exact absurd h hl0
      obtain ⟨w', k1, k2, k3⟩ := lay_cells (P := P) hσ h1 (off := off) new news q1 (by omega) q2
      have hrun : (Builtin.copy_ #[t, t'] o.type #[.slice (some ⟨b, off, none⟩) len cap, a.eval x]).run P w = .ok (goInt n) w' := by
        simp [Builtin.copy_, run_underlying hd, src.len, sizeOf, typeInfo, hj, Nat.min_eq_left hn, src.cells, k1]
      unfold Oper.wp
      rw [run_copy_op (η := a.eval) ho (by rw [hv]; exact hrun)]
      exact hnx _ _ _ F w' k2 k3 (.int _ _) go
end
end Go.Proofs.Ytiihcgmnmcdcfaa
