/-
  Re: what the claim uses of them.
-/
import Derived.Test.YtegpahamenjiaaaGreatBn25
import Derived.Test.YtegpahamenjiaaaGreatBn31
import Derived.Test.YtegpahamenjiaaaGreatBn30
namespace Go.Proofs.YtegpahamenjiaaaGreat
open Go.RowKit
set_option maxRecDepth 100000
theorem nodup_le : ∀ (n : Nat) (l : List Int), l.Nodup → (∀ z ∈ l, 0 ≤ z ∧ z < n) → l.length ≤ n
  | 0, l, _, h => by
    cases l with
    | nil => exact Nat.le_refl _
    | cons z l => have := h z (List.mem_cons_self ..); omega
  | n + 1, l, hn, h => by
    have h1 := nodup_le n (l.erase (n : Int)) (hn.erase _) (fun z hz => by
      rw [hn.mem_erase_iff] at hz
      have := h z hz.2
      have := hz.1
      omega)
    rw [List.length_erase] at h1
    split at h1 <;> omega
/-- Nodes that are told: in a graph, each once. -/
def NdI (n : Nat) (l : List Int) : Prop := l.Nodup ∧ ∀ z ∈ l, 0 ≤ z ∧ z < n
theorem NdI.len {n : Nat} {l : List Int} (h : NdI n l) : l.length ≤ n := nodup_le n l h.1 h.2
theorem NdI.nil (n : Nat) : NdI n [] := ⟨List.nodup_nil, fun _ h => (List.not_mem_nil h).elim⟩
theorem NdI.snoc {n : Nat} {l : List Int} {a : Int} (h : NdI n l) (ha : ¬ a ∈ l) (h2 : 0 ≤ a ∧ a < n) : NdI n (l ++ [a]) := by
  refine ⟨?_, fun z hz => ?_⟩
  · rw [List.nodup_append]
    refine ⟨h.1, by simp, fun x hx y hy => ?_⟩
    rw [List.mem_singleton.1 hy]
    exact fun he => ha (he ▸ hx)
  · rcases List.mem_append.1 hz with hz | hz
    · exact h.2 z hz
    · rw [List.mem_singleton.1 hz]; exact h2
theorem NdI.perm {n : Nat} {l l2 : List Int} (h : NdI n l) (hp : l.Perm l2) : NdI n l2 := ⟨hp.nodup_iff.1 h.1, fun z hz => h.2 z (hp.mem_iff.2 hz)⟩
theorem NdI.right {n : Nat} {l l2 : List Int} (h : NdI n (l ++ l2)) : NdI n l2 := ⟨(List.nodup_append.1 h.1).2.1, fun z hz => h.2 z (List.mem_append.2 (.inr hz))⟩
theorem NdI.left {n : Nat} {l l2 : List Int} (h : NdI n (l ++ l2)) : NdI n l := ⟨(List.nodup_append.1 h.1).1, fun z hz => h.2 z (List.mem_append.2 (.inl hz))⟩
theorem acc_src {k : Nat} {v : AV} {acc : Hp} {cs : List AV} (fr σ : Hp) (h : Acc 1 k v acc cs) : SrcAt (fr ++ (acc ++ σ)) 1 v k cs := by
  have hl := h.length
  cases h with
  | nil => exact .nils
  | mref b k cs h =>
    have := SrcAt.mref (σ := fr ++ ([(b, cs)] ++ σ)) (es := 1) fr.length b 0 k cs (get_mid fr σ _) (by omega)
    rw [List.drop_zero, List.take_of_length_le (by omega)] at this
    exact this
abbrev seB (met : List Int) (a : Int) : List AV := (([] : List AV) ++ inC met).take ((0 + met.length) * 1) ++ [.int .i64 a]
theorem seB_eq (met : List Int) (a : Int) : seB met a = inC (met ++ [a]) := by
  show (inC met).take ((0 + met.length) * 1) ++ [.int .i64 a] = _
  rw [List.take_of_length_le (by rw [inC_len]; omega)]
  unfold inC
  rw [List.map_append]; rfl
theorem se_le (met : List Int) : (0 + met.length) * 1 ≤ (([] : List AV) ++ inC met).length := by
  show (0 + met.length) * 1 ≤ (inC met).length
  rw [inC_len]; omega
theorem se_acc (met : List Int) (a : Int) (b : Nat) : Acc 1 (met ++ [a]).length (.mref b 0 (0 + met.length + 1) 1) [(b, seB met a)] (inC (met ++ [a])) := by
  rw [seB_eq, show 0 + met.length + 1 = (met ++ [a]).length by simp]
  exact .mref b _ _ (by rw [inC_len, Nat.mul_one])
abbrev ViS := Nat × List Int × AV × Hp × AV × Hp
def ViOk (n : Nat) (nx met : List Int) (a : Int) (s : ViS) : Prop := s.1 ≤ nx.length ∧ NdI n (met ++ [a] ++ s.2.1) ∧ Acc 1 (met ++ [a] ++ s.2.1).length s.2.2.1 s.2.2.2.1 (inC (met ++ [a] ++ s.2.1)) ∧ Acc 1 s.2.1.length s.2.2.2.2.1 s.2.2.2.2.2 (inC s.2.1)
def VPost (n : Nat) (met : List Int) (acc σ : Hp) : AV → Hp → Prop := fun r σ' => ∃ o : List Int, r = .fsl (.int .i64) o ∧ σ' = acc ++ σ ∧ NdI n (met ++ o)
theorem aRVisit (n : Nat) (l : List EdgeT) (hl : l.length ≤ 100000) (hn : n ≤ 256) : ∀ (f deep : Nat), n + 1 - deep = f → deep ≤ n + 1 → ∀ (a : Int) (met : List Int) (v : AV) (acc σ : Hp), (0 ≤ a ∧ a < n) → NdI n met → Acc 1 met.length v acc (inC met) → ACalls Tryz.prog 240 [.int .i64 n, .fsl edgeSh l, .int .i64 a, v, .int .i64 deep] (acc ++ σ) (VPost n met acc σ) := by
  intro f
  induction f with
  | zero =>
    intro deep hf hd a met v acc σ ha hmet h
    have hml := hmet.len
    have h2 := h
    generalize hk : met.length = k at h2
    generalize hc : inC met = cs at h2
    cases h2
    all_goals
      first | subst hc | clear hc
      refine okF Tryz.func240 (by kernel_rfl) ?_
      refine callAB [] (fun σ => aRInA met a σ (by omega) h) (fun c1 => ?_) (fun c1 => ?_)
      · exact .nil (.nil _) (.done ⟨[], rfl, rfl, by rw [List.append_nil]; exact hmet⟩)
      refine bcond_dec (p := (n : Int) < (deep : Int)) (fun c2 => ?_) (fun c2 => absurd c2 (by omega))
      exact .nil (.nil _) (.done ⟨[], rfl, rfl, by rw [List.append_nil]; exact hmet⟩)
  | succ f ih =>
    intro deep hf hd a met v acc σ ha hmet h
    have hml := hmet.len
    have h2 := h
    generalize hk : met.length = k at h2
    generalize hc : inC met = cs at h2
    cases h2
    all_goals
      first | subst hc | clear hc
      refine okF Tryz.func240 (by kernel_rfl) ?_
      refine callAB [] (fun σ => aRInA met a σ (by omega) h) (fun c1 => ?_) (fun c1 => ?_)
      · exact .nil (.nil _) (.done ⟨[], rfl, rfl, by rw [List.append_nil]; exact hmet⟩)
      refine bcond_dec (p := (n : Int) < (deep : Int)) (fun c2 => absurd c2 (by omega)) (fun c2 => ?_)
      intro bl1
      refine AppendAt.more 0 bl1 0 met.length [] _ rfl rfl (Nat.le_of_ble_eq_true rfl) (acc_src [_] σ h) (by omega) (by decide) (by decide) (fun b2 => ?_)
      intro bl3
      refine AppendAt.more 1 b2 (0 + met.length) 1 _ _ rfl rfl (se_le met) (.mref 0 _ 0 1 _ rfl (Nat.le_of_ble_eq_true rfl)) (by omega) (by decide) (by decide) (fun b4 => ?_)
      have hac := se_acc met a b4
      have hna : ¬ a ∈ met := fun h => by rw [inB_iff.2 h] at c1; cases c1
      refine callR [] (aRNext n l a _ hl (by omega)) ?_
      refine .shed (.drop 1 1 (.refl _)) ?_
      refine .wrap 12 _ rfl rfl ?_
      refine .wrap 11 _ rfl rfl ?_
      have hxn : ∀ z ∈ toS n l a, 0 ≤ z ∧ z < n := fun z hz => (mem_toS.1 hz).1
      have hxl := toS_length n l a
      generalize toS n l a = nx at hxn hxl
      have hd1 := inc64 (k := deep) (by omega)
      refine loopS (S := ViS) (fun s => [(0, .int .i64 n), (1, .fsl edgeSh l), (2, .int .i64 a), (4, .int .i64 deep), (11, .via s.2.2.1), (12, .via s.2.2.2.2.1), (33, .fsl (.int .i64) nx), (34, .int .i64 nx.length), (35, .int .i64 s.1)]) (fun s => s.2.2.2.1 ++ (s.2.2.2.2.2 ++ (_ ++ σ))) (fun s => ViOk n nx met a s) (fun s => nx.length - s.1) (0, [], .mref b4 0 (0 + met.length + 1) 1, [(b4, seB met a)], .nils, []) ⟨⟨Nat.zero_le _, by rw [List.append_nil]; exact hmet.snoc hna ha, by rw [List.append_nil]; exact hac, .nil⟩, ⟨rfl, rfl, rfl, rfl, rfl, rfl, rfl, rfl, rfl, trivial⟩, rfl⟩ ?_
      rintro ⟨k, o, v1, a1, v2, a2⟩ g ⟨hk0, hN0, h10, h20⟩
      have hk : k ≤ nx.length := hk0
      have hN : NdI n (met ++ [a] ++ o) := hN0
      have h1 : Acc 1 (met ++ [a] ++ o).length v1 a1 (inC (met ++ [a] ++ o)) := h10
      have h2 : Acc 1 o.length v2 a2 (inC o) := h20
      clear hk0 hN0 h10 h20
      have hN1 := hN.len
      have hol : o.length ≤ n := hN.right.len
      refine bcond_dec (p := (k : Int) < (nx.length : Int)) (fun hlt => ?_) (fun hge => ?_)
      rotate_left
      · intro bl5
        refine append_acc ((bl5, [.int .i64 a]) :: a1) h2 (.mref 0 bl5 0 1 _ rfl (Nat.le_of_ble_eq_true rfl)) rfl (by omega) (by decide) (by decide) (fun v' acc' h' => ?_)
        have hlen : o.length + 1 = (o ++ [a] : List Int).length := by simp
        refine fin_acc (s := .int .i64) (l := (o ++ [a] : List Int)) ((bl5, [.int .i64 a]) :: a1) h' hlen (by rw [← inC_flat, show inC (o ++ [a]) = inC o ++ [.int .i64 a] from List.map_append]; rfl) (by decide) ?_
        refine .drop 0 1 (fin_dropA a1 (.done ⟨o ++ [a], rfl, rfl, hN.perm ?_⟩))
        rw [List.append_assoc]
        exact List.Perm.append_left _ List.perm_append_comm
      have hlt : k < nx.length := by omega
      obtain ⟨z, hz⟩ : ∃ z, nx[k] = z := ⟨_, rfl⟩
      have hzn := hxn z (hz ▸ List.getElem_mem hlt)
      refine With.mk rfl (IdxF.mk z (by omega) ((get_some hlt).trans (congrArg some hz)) ?_)
      have hih := fun σ => ih (deep + 1) (by omega) (by omega) z (met ++ [a] ++ o) v1 a1 σ hzn hN h1
      rw [← hd1] at hih
      refine .mk [] _ (hih _) ?_
      rintro _ _ ⟨more, rfl, rfl, hN2⟩
      have hN3 := hN2.len
      rw [List.length_append] at hN3
      refine append_acc a1 h2 (.fsl (.int .i64) more rfl) (by rw [← inC_flat, inC_len]; exact (Nat.mul_one _).symm) (show o.length + more.length ≤ 1048576 by omega) (by decide) (by decide) (fun v2' a2' h2' => ?_)
      refine append_acc [] h1 (.fsl (.int .i64) more rfl) (by rw [← inC_flat, inC_len]; exact (Nat.mul_one _).symm) (show (met ++ [a] ++ o).length + more.length ≤ 1048576 by omega) (by decide) (by decide) (fun v1' a1' h1' => ?_)
      refine nextS (k + 1, o ++ more, v1', a1', v2', a2') (by show nx.length - (k + 1) < nx.length - k; omega) ⟨hlt, ?_, ?_, ?_⟩ ⟨rfl, rfl, rfl, rfl, rfl, rfl, rfl, rfl, inc64 (by omega), trivial⟩ (.refl _)
      · show NdI n (met ++ [a] ++ (o ++ more))
        rw [← List.append_assoc]; exact hN2
      · show Acc 1 (met ++ [a] ++ (o ++ more)).length v1' a1' (inC (met ++ [a] ++ (o ++ more)))
        rw [← List.append_assoc, List.length_append (bs := more), inC, List.map_append (l₂ := more)]
        rw [← inC_flat] at h1'
        exact h1'
      · show Acc 1 (o ++ more).length v2' a2' (inC (o ++ more))
        rw [List.length_append, inC, List.map_append]
        rw [← inC_flat] at h2'
        exact h2'
theorem aRPost (n : Nat) (l : List EdgeT) (fr : List Int) (σ : Hp) (hl : l.length ≤ 100000) (hn : n ≤ 256) (hf : fr.length ≤ 100000) (hfr : ∀ z ∈ fr, 0 ≤ z ∧ z < n) : ACalls Tryz.prog 214 [.int .i64 n, .fsl edgeSh l, .fsl (.int .i64) fr] σ (fun r σ' => ∃ o : List Int, r = .fsl (.int .i64) o ∧ σ' = σ ∧ NdI n o) := by
  refine okF Tryz.func214 (by kernel_rfl) ?_
  refine .wrap 7 _ rfl rfl ?_
  refine loopS (S := Nat × List Int × AV × Hp) (fun s => [(0, .int .i64 n), (1, .fsl edgeSh l), (7, .via s.2.2.1), (11, .fsl (.int .i64) fr), (12, .int .i64 fr.length), (13, .int .i64 s.1)]) (fun s => s.2.2.2 ++ σ) (fun s => s.1 ≤ fr.length ∧ NdI n s.2.1 ∧ Acc 1 s.2.1.length s.2.2.1 s.2.2.2 (inC s.2.1)) (fun s => fr.length - s.1) (0, [], .nils, []) ⟨⟨Nat.zero_le _, NdI.nil n, .nil⟩, ⟨rfl, rfl, rfl, rfl, rfl, rfl, trivial⟩, rfl⟩ ?_
  rintro ⟨k, o, v, acc⟩ g ⟨hk0, hN0, h0⟩
  have hk : k ≤ fr.length := hk0
  have hN : NdI n o := hN0
  have h : Acc 1 o.length v acc (inC o) := h0
  clear hk0 hN0 h0
  refine bcond_dec (p := (k : Int) < (fr.length : Int)) (fun hlt => ?_) (fun hge => ?_)
  · have hlt : k < fr.length := by omega
    obtain ⟨z, hz⟩ : ∃ z, fr[k] = z := ⟨_, rfl⟩
    have hzn := hfr z (hz ▸ List.getElem_mem hlt)
    refine With.mk rfl (IdxF.mk z (by omega) ((get_some hlt).trans (congrArg some hz)) ?_)
    refine .mk [] _ (aRVisit n l hl hn (n + 1) 0 rfl (Nat.zero_le _) z o v acc _ hzn hN h) ?_
    rintro _ _ ⟨more, rfl, rfl, hN2⟩
    have hN3 := hN2.len
    rw [List.length_append] at hN3
    refine append_acc [] h (.fsl (.int .i64) more rfl) (by rw [← inC_flat, inC_len]; exact (Nat.mul_one _).symm) (show o.length + more.length ≤ 1048576 by omega) (by decide) (by decide) (fun v2' a2' h2' => ?_)
    refine nextS (k + 1, o ++ more, v2', a2') (by show fr.length - (k + 1) < fr.length - k; omega) ⟨hlt, hN2, ?_⟩ ⟨rfl, rfl, rfl, rfl, rfl, inc64 (by omega), trivial⟩ (.refl _)
    show Acc 1 (o ++ more).length v2' a2' (inC (o ++ more))
    rw [List.length_append, inC, List.map_append]
    rw [← inC_flat] at h2'
    exact h2'
  · refine loopS (S := Nat × List Int × AV × Hp) (fun s => [(0, .int .i64 n), (1, .fsl edgeSh l), (7, .via s.2.2.1), (10, .int .i64 s.1)]) (fun s => s.2.2.2 ++ σ) (fun s => s.1 ≤ n ∧ NdI n s.2.1 ∧ Acc 1 s.2.1.length s.2.2.1 s.2.2.2 (inC s.2.1)) (fun s => n - s.1) (0, o, v, acc) ⟨⟨Nat.zero_le _, hN, h⟩, ⟨rfl, rfl, rfl, rfl, trivial⟩, rfl⟩ ?_
    clear h hN hk hge
    rintro ⟨k, o, v, acc⟩ g ⟨hk0, hN0, h0⟩
    have hk : k ≤ n := hk0
    have hN : NdI n o := hN0
    have h : Acc 1 o.length v acc (inC o) := h0
    clear hk0 hN0 h0
    refine bcond_dec (p := (k : Int) < (n : Int)) (fun hlt => ?_) (fun hge => ?_)
    · have hlt : k < n := by omega
      refine .mk [] _ (aRVisit n l hl hn (n + 1) 0 rfl (Nat.zero_le _) k o v acc _ (by omega) hN h) ?_
      rintro _ _ ⟨more, rfl, rfl, hN2⟩
      have hN3 := hN2.len
      rw [List.length_append] at hN3
      refine append_acc [] h (.fsl (.int .i64) more rfl) (by rw [← inC_flat, inC_len]; exact (Nat.mul_one _).symm) (show o.length + more.length ≤ 1048576 by omega) (by decide) (by decide) (fun v2' a2' h2' => ?_)
      refine nextS (k + 1, o ++ more, v2', a2') (by show n - (k + 1) < n - k; omega) ⟨hlt, hN2, ?_⟩ ⟨rfl, rfl, rfl, inc64 (by omega), trivial⟩ (.refl _)
      show Acc 1 (o ++ more).length v2' a2' (inC (o ++ more))
      rw [List.length_append, inC, List.map_append]
      rw [← inC_flat] at h2'
      exact h2'
    · exact fin_acc (s := .int .i64) [] h rfl (inC_flat _) (by decide) (.done ⟨o, rfl, rfl, hN⟩)
theorem aRRanks (n : Nat) (l : List EdgeT) (fr : List Int) (σ : Hp) (hl : l.length ≤ 100000) (hn : n ≤ 256) (hf : fr.length ≤ 100000) (hfr : ∀ z ∈ fr, 0 ≤ z ∧ z < n) : ACalls Tryz.prog 184 [.int .i64 n, .fsl edgeSh l, .fsl (.int .i64) fr] σ (fun r σ' => ∃ o : List Int, r = .fsl (.int .i64) o ∧ σ' = σ ∧ o.length = n) := by
  refine okF Tryz.func184 (by kernel_rfl) ?_
  refine With.mk ⟨by omega, by omega, by omega, by decide⟩ ?_
  intro bq
  refine .mk [] _ (aRPost n l fr _ hl hn hf hfr) ?_
  rintro _ _ ⟨(po : List Int), rfl, rfl, hN⟩
  have hpl := hN.len
  refine loopS (S := Nat × List Int) (fun s => [(0, .int .i64 n), (7, .mref bq 0 n 1), (15, .fsl (.int .i64) po), (16, .int .i64 po.length), (17, .int .i64 s.1)]) (fun s => (bq, inC s.2) :: σ) (fun s => s.1 ≤ po.length ∧ s.2.length = n) (fun s => po.length - s.1) (0, List.replicate n 0) ⟨⟨Nat.zero_le _, by simp⟩, ⟨rfl, rfl, rfl, rfl, rfl, trivial⟩, by show _ = (bq, inC (List.replicate n 0)) :: σ; rw [← rep_inC]; rfl⟩ ?_
  rintro ⟨i, o⟩ g ⟨hi0, ho0⟩
  have hi : i ≤ po.length := hi0
  have ho : o.length = n := ho0
  clear hi0 ho0
  refine bcond_dec (p := (i : Int) < (po.length : Int)) (fun hlt => ?_) (fun hge => ?_)
  rotate_left
  · exact fin_inC ho (.done ⟨o, rfl, rfl, ho⟩)
  have hlt : i < po.length := by omega
  obtain ⟨z, hz⟩ : ∃ z, po[i] = z := ⟨_, rfl⟩
  have hzn := hN.2 z (hz ▸ List.getElem_mem hlt)
  refine With.mk rfl (IdxF.mk z (by omega) ((get_some hlt).trans (congrArg some hz)) ?_)
  refine With.mk ⟨rfl, by omega, by omega⟩ ?_
  refine StoreAt.mk 0 _ _ rfl (inC_write (l := o) rfl _ hzn.1 (by omega)) ?_
  exact nextS (i + 1, o.set z.toNat _) (by show po.length - (i + 1) < po.length - i; omega) ⟨hlt, by rw [List.length_set]; exact ho⟩ ⟨rfl, rfl, rfl, rfl, inc64 (by omega), trivial⟩ (.refl _)
theorem get_gD {l : List Int} {k : Nat} (h : k < l.length) : l[k]? = some (l.getD k 0) := by
  rw [List.getD_eq_getElem?_getD, List.getElem?_eq_getElem h]; rfl
abbrev AlS := Nat × List Int × AV × Hp
def AlOk (n B : Nat) (s : AlS) : Prop := (s.2.1.length ≤ B ∧ ∀ z ∈ s.2.1, 0 ≤ z ∧ z < n) ∧ Acc 1 s.2.1.length s.2.2.1 s.2.2.2 (inC s.2.1)
theorem aRAll14 (n : Nat) (l : List EdgeT) (fr : List Int) (σ : Hp) (hl : l.length ≤ 100000) (hn : n ≤ 256) (hf : fr.length ≤ 100000) (hfr : ∀ z ∈ fr, 0 ≤ z ∧ z < n) : ACalls Tryz.prog 144 [.int .i64 n, .fsl edgeSh l, .fsl (.int .i64) fr] σ (fun r σ' => ∃ o : List Int, r = .fsl (.int .i64) o ∧ σ' = σ ∧ o.length ≤ 131072 ∧ ∀ z ∈ o, 0 ≤ z ∧ z < n) := by
  refine okF Tryz.func144 (by kernel_rfl) ?_
  refine .mk [] _ (aRRanks n l fr _ hl hn hf hfr) ?_
  rintro _ σ ⟨(rk : List Int), rfl, rfl, hrk⟩
  refine .mk [] _ (aROf n l _ hl hn) ?_
  rintro _ σ ⟨(ps : List (List Int)), told, rfl, rfl, hI⟩
  have hpl := hI.plen
  refine .wrap 8 _ rfl rfl ?_
  refine loopS (S := AlS) (fun s => [(0, .int .i64 n), (7, .fsl (.int .i64) rk), (8, .via s.2.2.1), (20, .fsl (.slice (.int .i64)) ps), (21, .int .i64 ps.length), (22, .int .i64 s.1)]) (fun s => s.2.2.2 ++ σ) (fun s => s.1 ≤ ps.length ∧ AlOk n (n * (ps.take s.1).flatten.length) s) (fun s => ps.length - s.1) (0, [], .nils, []) ⟨⟨Nat.zero_le _, ⟨Nat.zero_le _, fun _ h => (List.not_mem_nil h).elim⟩, .nil⟩, ⟨rfl, rfl, rfl, rfl, rfl, rfl, trivial⟩, rfl⟩ ?_
  rintro ⟨i, o, v, acc⟩ g ⟨hi0, ⟨hB0, hz0⟩, h0⟩
  have hi : i ≤ ps.length := hi0
  have hB : o.length ≤ n * (ps.take i).flatten.length := hB0
  have hz : ∀ z ∈ o, 0 ≤ z ∧ z < n := hz0
  have h : Acc 1 o.length v acc (inC o) := h0
  clear hi0 hB0 hz0 h0
  refine bcond_dec (p := (i : Int) < (ps.length : Int)) (fun hlt => ?_) (fun hge => ?_)
  rotate_left
  · refine fin_acc (s := .int .i64) [] h rfl (inC_flat _) (by decide) (.done ⟨o, rfl, rfl, Nat.le_trans hB ?_, hz⟩)
    obtain rfl : i = ps.length := by omega
    rw [List.take_length, ← hI.told]
    exact Nat.le_trans (Nat.mul_le_mul hn hI.tlen) (by omega)
  have hlt : i < ps.length := by omega
  have hah := hI.ahead i hlt
  have htf := take_flatI hlt
  have hpn := hI.node ps[i] (List.getElem_mem hlt)
  have hpl2 := (hI.ne ps[i] (List.getElem_mem hlt)).2
  obtain ⟨p, hp⟩ : ∃ p, ps[i] = p := ⟨_, rfl⟩
  rw [hp] at htf hpn hpl2
  refine With.mk rfl (IdxF.mk p (by omega) ((get_some hlt).trans (congrArg some hp)) ?_)
  have hA : n * (ps.take i).flatten.length ≤ 65536 := Nat.le_trans (Nat.mul_le_mul hn (Nat.le_of_lt hah)) (by omega)
  have hAn : n * (ps.take (i + 1)).flatten.length = n * (ps.take i).flatten.length + n * p.length := by rw [htf, Nat.mul_add]
  have hnp : n * p.length ≤ 65536 := Nat.le_trans (Nat.mul_le_mul hn hpl2) (by omega)
  generalize n * (ps.take i).flatten.length = A at hB hA hAn
  refine loopS (S := AlS) (fun s => [(0, .int .i64 n), (7, .fsl (.int .i64) rk), (8, .via s.2.2.1), (10, .fsl (.int .i64) p), (11, .int .i64 s.1), (20, .fsl (.slice (.int .i64)) ps), (21, .int .i64 ps.length), (22, .int .i64 i)]) (fun s => s.2.2.2 ++ σ) (fun s => s.1 ≤ n ∧ AlOk n (A + s.1 * p.length) s) (fun s => n - s.1) (0, o, v, acc) ⟨⟨Nat.zero_le _, ⟨by show o.length ≤ A + 0 * p.length; omega, hz⟩, h⟩, ⟨rfl, rfl, rfl, rfl, rfl, rfl, rfl, rfl, trivial⟩, rfl⟩ ?_
  clear h hz hB
  rintro ⟨k, o, v, acc⟩ g2 ⟨hk0, ⟨hB0, hz0⟩, h0⟩
  have hk : k ≤ n := hk0
  have hB : o.length ≤ A + k * p.length := hB0
  have hz : ∀ z ∈ o, 0 ≤ z ∧ z < n := hz0
  have h : Acc 1 o.length v acc (inC o) := h0
  clear hk0 hB0 hz0 h0
  refine bcond_dec (p := (k : Int) < (n : Int)) (fun hlt2 => ?_) (fun hge2 => ?_)
  rotate_left
  · obtain rfl : k = n := by omega
    exact nextS (i + 1, o, v, acc) (by show ps.length - (i + 1) < ps.length - i; omega) ⟨hlt, ⟨by show o.length ≤ k * (ps.take (i + 1)).flatten.length; omega, hz⟩, h⟩ ⟨rfl, rfl, rfl, rfl, rfl, inc64 (by omega), trivial⟩ (.refl _)
  have hlt2 : k < n := by omega
  have hkp : (k + 1) * p.length = k * p.length + p.length := Nat.succ_mul _ _
  have hkp2 : (k + 1) * p.length ≤ n * p.length := Nat.mul_le_mul_right _ hlt2
  generalize (k + 1) * p.length = Y2 at hkp hkp2
  refine loopS (S := AlS) (fun s => [(0, .int .i64 n), (7, .fsl (.int .i64) rk), (8, .via s.2.2.1), (10, .fsl (.int .i64) p), (11, .int .i64 k), (20, .fsl (.slice (.int .i64)) ps), (21, .int .i64 ps.length), (22, .int .i64 i), (31, .fsl (.int .i64) p), (32, .int .i64 p.length), (33, .int .i64 s.1)]) (fun s => s.2.2.2 ++ σ) (fun s => s.1 ≤ p.length ∧ AlOk n (A + k * p.length + s.1) s) (fun s => p.length - s.1) (0, o, v, acc) ⟨⟨Nat.zero_le _, ⟨hB, hz⟩, h⟩, ⟨rfl, rfl, rfl, rfl, rfl, rfl, rfl, rfl, rfl, rfl, rfl, trivial⟩, rfl⟩ ?_
  clear h hz hB
  rintro ⟨j, o, v, acc⟩ g3 ⟨hj0, ⟨hB0, hz0⟩, h0⟩
  have hj : j ≤ p.length := hj0
  have hB : o.length ≤ A + k * p.length + j := hB0
  have hz : ∀ z ∈ o, 0 ≤ z ∧ z < n := hz0
  have h : Acc 1 o.length v acc (inC o) := h0
  clear hj0 hB0 hz0 h0
  refine bcond_dec (p := (j : Int) < (p.length : Int)) (fun hlt3 => ?_) (fun hge3 => ?_)
  rotate_left
  · obtain rfl : j = p.length := by omega
    exact nextS (k + 1, o, v, acc) (by show n - (k + 1) < n - k; omega) ⟨hlt2, ⟨by show o.length ≤ A + (k + 1) * p.length; rw [Nat.succ_mul]; omega, hz⟩, h⟩ ⟨rfl, rfl, rfl, rfl, inc64 (by omega), rfl, rfl, rfl, trivial⟩ (.refl _)
  have hlt3 : j < p.length := by omega
  obtain ⟨z, hpz⟩ : ∃ z, p[j] = z := ⟨_, rfl⟩
  have hzn := hpn z (hpz ▸ List.getElem_mem hlt3)
  refine With.mk rfl (IdxF.mk z (by omega) ((get_some hlt3).trans (congrArg some hpz)) ?_)
  refine With.mk rfl (IdxF.mk (rk.getD z.toNat 0) (by omega) (get_gD (by omega)) ?_)
  refine bcond_dec (p := rk.getD z.toNat 0 = (k : Int)) (fun c => ?_) (fun c => ?_)
  · intro bl1
    refine append_acc [_] h (.mref 0 bl1 0 1 _ rfl (Nat.le_of_ble_eq_true rfl)) rfl (by omega) (by decide) (by decide) (fun v' acc' h' => ?_)
    have hol : (o ++ [z] : List Int).length = o.length + 1 := List.length_append
    have hoc : inC (o ++ [z]) = inC o ++ [.int .i64 z] := List.map_append
    refine nextS (j + 1, o ++ [z], v', acc') (by show p.length - (j + 1) < p.length - j; omega) ⟨hlt3, ⟨Nat.le_trans (Nat.le_of_eq hol) (by omega), fun y hy => ?_⟩, ?_⟩ ⟨rfl, rfl, rfl, rfl, rfl, rfl, rfl, rfl, rfl, rfl, inc64 (by omega), trivial⟩ (.drop 0 1 (shed_eq rfl))
    · rcases List.mem_append.1 hy with hy | hy
      · exact hz y hy
      · rw [List.mem_singleton.1 hy]; exact hzn
    · show Acc 1 (o ++ [z] : List Int).length v' acc' (inC (o ++ [z]))
      rw [hol, hoc]
      exact h'
  · exact nextS (j + 1, o, v, acc) (by show p.length - (j + 1) < p.length - j; omega) ⟨hlt3, ⟨by show o.length ≤ A + k * p.length + (j + 1); omega, hz⟩, h⟩ ⟨rfl, rfl, rfl, rfl, rfl, rfl, rfl, rfl, rfl, rfl, inc64 (by omega), trivial⟩ (.refl _)
end Go.Proofs.YtegpahamenjiaaaGreat
