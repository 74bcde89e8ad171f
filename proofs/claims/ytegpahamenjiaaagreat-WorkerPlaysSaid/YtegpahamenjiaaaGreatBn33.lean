/-
  Rf: what the claim uses of them.
-/
import Derived.Test.YtegpahamenjiaaaGreatBn32
namespace Go.Proofs.YtegpahamenjiaaaGreat
open Go.RowKit
set_option maxRecDepth 100000
/-- A cell reads as what reads alike. -/
theorem cell_hp {F : Nat → Prop} {w : World} {σ : Hp} (h : RelHp F w σ) {i b' k : Nat} {cs' : List AV} {c c' : AV} (hl : c'.leaf = true) (hc : ∀ v, VRel F w c v → VRel F w c' v) (hi : σ[i]? = some (b', cs')) (hk : cs'[k]? = some c) : RelHp F w (σ.set i (b', cs'.set k c')) := by
  refine ⟨?_, fun p hp => ?_, h.low⟩
  · have e1 : (σ.set i (b', cs'.set k c')).map Prod.fst = σ.map Prod.fst := by
      rw [List.map_set]
      refine List.ext_getElem (by simp) fun j h1 h2 => ?_
      rw [List.getElem_set]
      split
      · rename_i hj; subst hj
        obtain ⟨q1, q2⟩ := List.getElem?_eq_some_iff.1 hi
        rw [List.getElem_map, q2]
      · rfl
    rw [e1]; exact h.nodup
  · rcases List.mem_or_eq_of_mem_set hp with hp | rfl
    · exact h.holds p hp
    · obtain ⟨h1, c0, T, h2, h3, h4⟩ := h.holds _ (List.mem_of_getElem? hi)
      refine ⟨h1, c0, T, h2, by rw [List.length_set]; exact h3, fun j x hx => ?_⟩
      rw [List.getElem?_set] at hx
      split at hx
      · rename_i hj; subst hj
        split at hx
        · cases hx
          exact ⟨hl, hc _ (h4 k _ hk).2⟩
        · cases hx
      · exact h4 j x hx
abbrev RowI := AV × Hp × List Int
def okRow (r : RowI) : Prop := (r.1 = .nils ∧ r.2.1 = [] ∧ r.2.2 = []) ∨ (∃ v, r.1 = .via v ∧ Acc 1 r.2.2.length v r.2.1 (inC r.2.2))
def rowsC (rs : List RowI) : List AV := rs.map (·.1)
def rowsB (rs : List RowI) : Hp := rs.flatMap (·.2.1)
def rowsL (rs : List RowI) : List (List Int) := rs.map (·.2.2)
theorem psC_app : ∀ (A : List (List Int)) (l : List Int) (B : List AV), (psC A ++ .fsl (.int .i64) l :: B) = psC (A ++ [l]) ++ B
  | [], _, _ => rfl
  | a :: A, l, B => congrArg (AV.fsl (.int .i64) a :: ·) (psC_app A l B)
theorem psC_len (A : List (List Int)) : (psC A).length = A.length := List.length_map _
theorem rows_hp {w : World} {bo : Nat} {σ : Hp} : ∀ (B : List RowI) (A : List (List Int)) (F : Nat → Prop), (∀ r ∈ B, okRow r) → RelHp F w ((bo, psC A ++ rowsC B) :: (rowsB B ++ σ)) → ∃ F', Stp F w F' w ∧ RelHp F' w ((bo, psC (A ++ rowsL B)) :: σ)
  | [], A, F, _, h => ⟨F, ⟨rfl, rfl, rfl, Nat.le_refl _, fun _ h => h, fun _ _ => rfl, fun _ c _ fz h => ⟨c, fz, h, rfl⟩, Nat.le_refl _⟩, by
    have h : RelHp F w ((bo, psC A ++ []) :: σ) := h
    rw [List.append_nil] at h
    rw [show A ++ rowsL [] = A from List.append_nil _]
    exact h⟩
  | (c, acc, l) :: B, A, F, hB, h => by
    have hB' : ∀ r ∈ B, okRow r := fun r hr => hB r (List.mem_cons_of_mem _ hr)
    have h : RelHp F w ((bo, psC A ++ c :: rowsC B) :: (acc ++ rowsB B ++ σ)) := h
    have hk : (psC A ++ c :: rowsC B)[(psC A).length]? = some c := by simp
    have hnil : acc = [] → l = [] → (∀ v, VRel F w c v → VRel F w (.fsl (.int .i64) []) v) → ∃ F', Stp F w F' w ∧ RelHp F' w ((bo, psC (A ++ rowsL ((c, acc, l) :: B))) :: σ) := fun h1 h2 h3 => by
      subst h1; subst h2
      have this : RelHp F w ((bo, (psC A ++ c :: rowsC B).set (psC A).length (.fsl (.int .i64) [])) :: (rowsB B ++ σ)) := cell_hp h (c' := .fsl (.int .i64) []) rfl h3 (i := 0) rfl hk
      rw [set_mid] at this
      have this : RelHp F w ((bo, psC A ++ .fsl (.int .i64) [] :: rowsC B) :: (rowsB B ++ σ)) := this
      have this : RelHp F w ((bo, psC (A ++ [[]]) ++ rowsC B) :: (rowsB B ++ σ)) := (psC_app A [] (rowsC B)) ▸ this
      obtain ⟨F', q1, q2⟩ := rows_hp B (A ++ [[]]) F hB' this
      rw [List.append_assoc] at q2
      exact ⟨F', q1, q2⟩
    have hn0 : ∀ v, VRel F w .nils v → VRel F w (.fsl (.int .i64) []) v := fun v hv => by
      cases hv
      exact .fsl (.int .i64) [] _ ⟨none, 0, rfl, Nat.le_refl _, by unfold maxLen; omega, fun _ => rfl, fun hne => absurd rfl hne⟩
    rcases hB _ (List.mem_cons_self ..) with ⟨h1, h2, h3⟩ | ⟨v, h1, h2⟩
    · have h1 : c = .nils := h1
      exact hnil h2 h3 (by rw [h1]; exact hn0)
    · have h1 : c = .via v := h1
      subst h1
      have h2 : Acc 1 l.length v acc (inC l) := h2
      generalize hn : l.length = n at h2
      generalize hc : inC l = cs at h2
      cases h2 with
      | nil =>
        exact hnil rfl (List.length_eq_zero_iff.1 hn) (by
          intro v hv
          cases hv with
          | via _ _ _ hv => exact hn0 _ hv)
      | mref b k cs hl =>
        subst hn
        subst hc
        have h5 : RelHp F w ((bo, (psC A ++ .via (.mref b 0 l.length 1) :: rowsC B).set (psC A).length (.mref b 0 l.length 1)) :: (b, inC l) :: (rowsB B ++ σ)) := cell_hp h (c' := .mref b 0 l.length 1) rfl (by
          intro v hv
          cases hv with
          | via _ _ _ hv => exact hv) (i := 0) rfl hk
        rw [set_mid] at h5
        have h5 : RelHp F w ((bo, psC A ++ .mref b 0 l.length 1 :: rowsC B) :: (b, inC l) :: (rowsB B ++ σ)) := h5
        obtain ⟨hst, hσ, hh⟩ := frz_hp h5 (j := 1) (b := b) (off := 0) (len := l.length) (es := 1) (cs := inC l) (e := .int .i64) (l := l) rfl (by rw [List.drop_zero, ← inC_flat]; exact List.take_of_length_le (by rw [inC_len]; omega)) ⟨rfl, rfl, by decide⟩
        have h6 : RelHp _ w ((bo, (psC A ++ .mref b 0 l.length 1 :: rowsC B).set (psC A).length (.fsl (.int .i64) l)) :: (rowsB B ++ σ)) := frz_cell hσ hh (i := 0) (k := (psC A).length) (b' := bo) rfl (by simp)
        rw [set_mid] at h6
        have h6 : RelHp _ w ((bo, psC A ++ .fsl (.int .i64) l :: rowsC B) :: (rowsB B ++ σ)) := h6
        rw [psC_app] at h6
        obtain ⟨F', q1, q2⟩ := rows_hp B (A ++ [l]) _ hB' h6
        rw [List.append_assoc] at q2
        exact ⟨F', hst.trans q1, q2⟩
theorem acalls_rows {f : FuncId} {xs : List AV} {σ0 σ : Hp} {Q : List (List Int) → Prop} (h : ACalls Tryz.prog f xs σ0 (fun r σ' => ∃ bo rs, r = .mref bo 0 (rs : List RowI).length 1 ∧ σ' = (bo, rowsC rs) :: (rowsB rs ++ σ) ∧ (∀ r ∈ rs, okRow r) ∧ Q (rowsL rs))) : ACalls Tryz.prog f xs σ0 (fun r σ' => ∃ ls : List (List Int), r = .fsl (.slice (.int .i64)) ls ∧ σ' = σ ∧ Q ls) :=
  ⟨h.1, fun F w vs hvs hσ => (h.2 F w vs hvs hσ).mono fun _ w' ⟨r, v, σ', F', h1, h2, h3, h4, h5⟩ => by
    obtain ⟨bo, rs, rfl, rfl, q1, q2⟩ := h5
    obtain ⟨F2, k1, k2⟩ := rows_hp rs [] F' q1 h3
    have hl : (rowsL rs).length = rs.length := List.length_map _
    have k2 : RelHp F2 w' ((bo, psC (rowsL rs)) :: σ) := k2
    obtain ⟨m1, m2, m3⟩ := frz_hp k2 (j := 0) (b := bo) (off := 0) (len := rs.length) (es := 1) (cs := psC (rowsL rs)) (e := .slice (.int .i64)) (l := rowsL rs) rfl (by rw [List.drop_zero, ← psC_flat]; exact List.take_of_length_le (by rw [psC_len, hl]; omega)) ⟨hl, rfl, by decide⟩
    exact ⟨.fsl (.slice (.int .i64)) (rowsL rs), v, σ, _, h1, (h2.trans k1).trans m1, m2, m3 v (h4.mono k1), rowsL rs, rfl, rfl, q2⟩⟩
theorem rowsC_len (rs : List RowI) : (rowsC rs).length = rs.length := List.length_map _
theorem rowsC_at (A : List RowI) (r : RowI) (B : List RowI) {z : Int} (hz : z = A.length) : (rowsC (A ++ r :: B))[0 + z.toNat * 1]? = some r.1 := by
  subst hz
  rw [Int.toNat_natCast, Nat.mul_one, Nat.zero_add]
  unfold rowsC
  rw [List.getElem?_map]
  simp
theorem rowsC_set (A : List RowI) (r r2 : RowI) (B : List RowI) {z : Int} (hz : z = A.length) : (rowsC (A ++ r :: B)).set (0 + z.toNat * 1) r2.1 = rowsC (A ++ r2 :: B) := by
  subst hz
  rw [Int.toNat_natCast, Nat.mul_one, Nat.zero_add]
  unfold rowsC
  simp
theorem rep_rows (n : Nat) : repC [.nils] n = rowsC (List.replicate n (.nils, [], [])) := by
  induction n with
  | zero => rfl
  | succ n ih => show AV.nils :: repC [.nils] n = _; rw [ih]; rfl
theorem rep_rowsB (n : Nat) : rowsB (List.replicate n (.nils, [], [])) = [] := by
  induction n with
  | zero => rfl
  | succ n ih => exact ih
theorem rowsB_mid (A : List RowI) (r : RowI) (B : List RowI) (σ : Hp) : rowsB (A ++ r :: B) ++ σ = rowsB A ++ (r.2.1 ++ (rowsB B ++ σ)) := by
  unfold rowsB
  simp
def SdOk (k b : Nat) (rs : List RowI) : Prop := (∀ r ∈ rs, okRow r) ∧ rs.length = k ∧ ∀ r ∈ rs, r.2.2.length ≤ b
theorem aRSeeds (n : Nat) (l : List EdgeT) (fr : List Int) (k : Nat) (σ : Hp) (hl : l.length ≤ 100000) (h1 : 1 ≤ n) (hn : n ≤ 256) (hk1 : 1 ≤ k) (hk2 : k ≤ 64) (hf : fr.length ≤ 100000) (hfr : ∀ z ∈ fr, 0 ≤ z ∧ z < n) : ACalls Tryz.prog 93 [.int .i64 n, .fsl edgeSh l, .fsl (.int .i64) fr, .int .i64 k] σ (fun r σ' => ∃ ls : List (List Int), r = .fsl (.slice (.int .i64)) ls ∧ σ' = σ ∧ ls.length = k ∧ ∀ x ∈ ls, x.length ≤ 131072) := by
  refine acalls_rows ?_
  refine okF Tryz.func93 (by kernel_rfl) ?_
  refine .mk [] _ (aROwners n l k _ hl h1 hn (by omega) (by omega)) ?_
  rintro _ σ ⟨(ow : List Int), rfl, rfl, how⟩
  refine .mk [] _ (aRAll14 n l fr _ hl hn hf hfr) ?_
  rintro _ σ ⟨(al : List Int), rfl, rfl, hall, haz⟩
  refine With.mk ⟨by omega, by omega, by omega, by decide⟩ ?_
  intro bo
  refine loopS (S := Nat × List RowI) (fun s => [(9, .fsl (.int .i64) ow), (10, .fsl (.int .i64) al), (11, .mref bo 0 k 1), (12, .int .i64 ((s.1 : Int) - 1))]) (fun s => (bo, rowsC s.2) :: (rowsB s.2 ++ σ)) (fun s => s.1 ≤ al.length ∧ SdOk k (al.length - s.1) s.2) (fun s => s.1) (al.length, List.replicate k (.nils, [], [])) ⟨⟨Nat.le_refl _, fun r hr => .inl (by rw [List.eq_of_mem_replicate hr]; exact ⟨rfl, rfl, rfl⟩), by simp, fun r hr => by rw [List.eq_of_mem_replicate hr]; exact Nat.zero_le _⟩, ⟨rfl, rfl, rfl, ?_, trivial⟩, ?_⟩ ?_
  · show AV.int .i64 (IntKind.i64.wrap ((al.length : Int) - 1)) = .int .i64 ((al.length : Int) - 1)
    rw [IntKind.wrap_i64, show ((al.length : Int) - 1 + 9223372036854775808) % 18446744073709551616 - 9223372036854775808 = (al.length : Int) - 1 by omega]
  · show _ = (bo, rowsC (List.replicate k (.nils, [], []))) :: (rowsB (List.replicate k (.nils, [], [])) ++ σ)
    rw [← rep_rows, rep_rowsB]; rfl
  rintro ⟨j, rs⟩ g ⟨hj0, ho0, hl0, hb0⟩
  have hj : j ≤ al.length := hj0
  have ho : ∀ r ∈ rs, okRow r := ho0
  have hrl : rs.length = k := hl0
  have hb : ∀ r ∈ rs, r.2.2.length ≤ al.length - j := hb0
  clear hj0 ho0 hl0 hb0
  refine bcond_dec (p := 0 ≤ (j : Int) - 1) (fun hlt => ?_) (fun hge => ?_)
  rotate_left
  · subst hrl
    exact .done ⟨bo, rs, rfl, rfl, ho, List.length_map _, fun x hx => by
      obtain ⟨r, hr, rfl⟩ := List.mem_map.1 hx
      exact Nat.le_trans (hb r hr) (by omega)⟩
  obtain ⟨i, rfl⟩ : ∃ i, j = i + 1 := ⟨j - 1, by omega⟩
  have hia : i < al.length := by omega
  have hji : (((i + 1 : Nat) : Int) - 1).toNat = i := by omega
  obtain ⟨z, hz⟩ : ∃ z, al[i] = z := ⟨_, rfl⟩
  have hzn := haz z (hz ▸ List.getElem_mem hia)
  have hzi : al[(((i + 1 : Nat) : Int) - 1).toNat]? = some z := by rw [hji, List.getElem?_eq_getElem hia, hz]
  refine With.mk rfl (IdxF.mk z (by omega) hzi ?_)
  have hwl := how.1
  obtain ⟨w, hw⟩ : ∃ w, ow.getD z.toNat 0 = w := ⟨_, rfl⟩
  have hzw : ow[z.toNat]? = some w := by rw [← hw]; exact get_gD (by omega)
  have hwk := how.2 w (List.mem_of_getElem? hzw)
  refine With.mk rfl (IdxF.mk w (by omega) hzw ?_)
  obtain ⟨A, r, B, rfl, hA⟩ : ∃ A r B, rs = A ++ r :: B ∧ (w : Int) = A.length := ⟨rs.take w.toNat, rs[w.toNat]'(by omega), rs.drop (w.toNat + 1), by simp, by rw [List.length_take]; omega⟩
  obtain ⟨c, acc, rl⟩ := r
  rw [rowsB_mid]
  have hcg := rowsC_at A (c, acc, rl) B hA
  have hcs := fun r2 => rowsC_set A (c, acc, rl) r2 B hA
  generalize hC : rowsC (A ++ (c, acc, rl) :: B) = C at hcg hcs
  have hr : okRow (c, acc, rl) := ho _ (List.mem_append_right _ (List.mem_cons_self ..))
  have hCl : C.length = k := by rw [← hC, rowsC_len]; exact hrl
  have hrb : rl.length ≤ al.length - (i + 1) := hb (c, acc, rl) (List.mem_append_right _ (List.mem_cons_self ..))
  have hnew : ∀ v' acc', Acc 1 (rl.length + 1) v' acc' (inC rl ++ [.int .i64 z]) → i ≤ al.length ∧ SdOk k (al.length - i) (A ++ (.via v', acc', rl ++ [z]) :: B) := fun v' acc' h' => by
    have hl2 : (rl ++ [z] : List Int).length = rl.length + 1 := List.length_append
    refine ⟨by omega, fun r hr => ?_, by rw [← hrl]; simp, fun r hr => ?_⟩
    · rcases List.mem_append.1 hr with hr | hr
      · exact ho r (List.mem_append_left _ hr)
      · rcases List.mem_cons.1 hr with rfl | hr
        · refine .inr ⟨v', rfl, ?_⟩
          show Acc 1 (rl ++ [z] : List Int).length v' acc' (inC (rl ++ [z]))
          rw [hl2, show inC (rl ++ [z]) = inC rl ++ [.int .i64 z] from List.map_append]
          exact h'
        · exact ho r (List.mem_append_right _ (List.mem_cons_of_mem _ hr))
    · rcases List.mem_append.1 hr with hr | hr
      · exact Nat.le_trans (hb r (List.mem_append_left _ hr)) (by omega)
      · rcases List.mem_cons.1 hr with rfl | hr
        · exact Nat.le_trans (Nat.le_of_eq hl2) (by omega)
        · exact Nat.le_trans (hb r (List.mem_append_right _ (List.mem_cons_of_mem _ hr))) (by omega)
  have hdec : AV.int .i64 (IntKind.i64.wrap (((i + 1 : Nat) : Int) - 1 - 1)) = .int .i64 ((i : Int) - 1) := by
    rw [IntKind.wrap_i64, show (((i + 1 : Nat) : Int) - 1 - 1 + 9223372036854775808) % 18446744073709551616 - 9223372036854775808 = (i : Int) - 1 by omega]
  rcases hr with ⟨q1, q2, q3⟩ | ⟨v, q1, q2⟩
  · have q1 : c = .nils := q1
    have q2 : acc = [] := q2
    have q3 : rl = [] := q3
    subst q1
    subst q2
    subst q3
    refine .sched [] (.one 0 false (.one 1 false (.one 2 false (.one 3 false (.one 4 false (.one 6 false (.one 7 false (.one 8 false (.one 9 false (.alt 5 (.one 10 false (.one 11 false (.one 12 false (.one 13 false .stop)))) (.one 10 false (.one 5 false (.one 11 false (.one 12 false (.one 13 false .stop))))))))))))))) (by kernel_rfl) ?_
    refine With.mk ⟨rfl, by omega, by omega⟩ ?_
    refine With.mk rfl ?_
    refine IdxF.mk z (by omega) hzi ?_
    refine And.intro ?_ ?_
    · refine LoadAt.mk 0 _ _ rfl (read1 rfl hcg) ?_
      intro bl1
      refine append_acc ((bl1, [.int .i64 z]) :: (bo, C) :: rowsB A) (Acc.nil (e := 1)) (.mref 0 bl1 0 1 _ rfl (Nat.le_of_ble_eq_true rfl)) rfl (by omega) (by decide) (by decide) (fun v' acc' h' => ?_)
      refine With.mk ⟨rfl, by omega, by omega⟩ ?_
      refine StoreAt.mk 1 _ _ rfl ((write1 rfl rfl (by omega)).trans (congrArg some (hcs (.via v', acc', [] ++ [z])))) ?_
      exact nextS (i, A ++ (.via v', acc', [] ++ [z]) :: B) (Nat.lt_succ_self i) (hnew v' acc' h') ⟨rfl, rfl, rfl, hdec, trivial⟩ (.drop 0 1 (shed_eq (by rw [rowsB_mid]; rfl)))
    · intro bl2
      refine LoadAt.mk 1 _ _ rfl (read1 rfl hcg) ?_
      refine append_acc ((bl2, [.int .i64 z]) :: (bo, C) :: rowsB A) (Acc.nil (e := 1)) (.mref 0 bl2 0 1 _ rfl (Nat.le_of_ble_eq_true rfl)) rfl (by omega) (by decide) (by decide) (fun v' acc' h' => ?_)
      refine With.mk ⟨rfl, by omega, by omega⟩ ?_
      refine StoreAt.mk 1 _ _ rfl ((write1 rfl rfl (by omega)).trans (congrArg some (hcs (.via v', acc', [] ++ [z])))) ?_
      exact nextS (i, A ++ (.via v', acc', [] ++ [z]) :: B) (Nat.lt_succ_self i) (hnew v' acc' h') ⟨rfl, rfl, rfl, hdec, trivial⟩ (.drop 0 1 (shed_eq (by rw [rowsB_mid]; rfl)))
  · have q1 : c = .via v := q1
    have q2 : Acc 1 rl.length v acc (inC rl) := q2
    subst q1
    refine .sched [] (.one 0 false (.one 1 false (.one 2 false (.one 3 false (.one 4 false (.one 6 false (.one 7 false (.one 8 false (.one 9 false (.alt 5 (.one 10 false (.one 11 false (.one 12 false (.one 13 false .stop)))) (.one 10 false (.one 5 false (.one 11 false (.one 12 false (.one 13 false .stop))))))))))))))) (by kernel_rfl) ?_
    refine With.mk ⟨rfl, by omega, by omega⟩ ?_
    refine With.mk rfl ?_
    refine IdxF.mk z (by omega) hzi ?_
    refine And.intro ?_ ?_
    · refine LoadAt.mk 0 _ _ rfl (read1 rfl hcg) ?_
      intro bl1
      refine append_acc ((bl1, [.int .i64 z]) :: (bo, C) :: rowsB A) q2 (.mref 0 bl1 0 1 _ rfl (Nat.le_of_ble_eq_true rfl)) rfl (show rl.length + 1 ≤ 1048576 by omega) (by decide) (by decide) (fun v' acc' h' => ?_)
      refine With.mk ⟨rfl, by omega, by omega⟩ ?_
      refine StoreAt.mk 1 _ _ rfl ((write1 rfl rfl (by omega)).trans (congrArg some (hcs (.via v', acc', rl ++ [z])))) ?_
      exact nextS (i, A ++ (.via v', acc', rl ++ [z]) :: B) (Nat.lt_succ_self i) (hnew v' acc' h') ⟨rfl, rfl, rfl, hdec, trivial⟩ (.drop 0 1 (shed_eq (by rw [rowsB_mid]; rfl)))
    · intro bl2
      refine LoadAt.mk 1 _ _ rfl (read1 rfl hcg) ?_
      refine append_acc ((bl2, [.int .i64 z]) :: (bo, C) :: rowsB A) q2 (.mref 0 bl2 0 1 _ rfl (Nat.le_of_ble_eq_true rfl)) rfl (show rl.length + 1 ≤ 1048576 by omega) (by decide) (by decide) (fun v' acc' h' => ?_)
      refine With.mk ⟨rfl, by omega, by omega⟩ ?_
      refine StoreAt.mk 1 _ _ rfl ((write1 rfl rfl (by omega)).trans (congrArg some (hcs (.via v', acc', rl ++ [z])))) ?_
      exact nextS (i, A ++ (.via v', acc', rl ++ [z]) :: B) (Nat.lt_succ_self i) (hnew v' acc' h') ⟨rfl, rfl, rfl, hdec, trivial⟩ (.drop 0 1 (shed_eq (by rw [rowsB_mid]; rfl)))
end Go.Proofs.YtegpahamenjiaaaGreat
