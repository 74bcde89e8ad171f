/-
  Rh; Ri: what the claim uses of them.
-/
import Derived.Test.YtegpahamenjiaaaGreatBn50
namespace Go.Proofs.YtegpahamenjiaaaGreat
open Go.RowKit
set_option maxRecDepth 100000
/-- A worker that was just made, of the reference's. -/
abbrev rw0 (s : Sy) (l : Lay) (who : Nat) : List AV :=
  [.int .i64 s.what, .int .i64 s.w, .int .i64 s.n, .fsl edgeSh s.edges, .fsl (.int .i64) s.entry, .fsl (.int .u64) s.init, .fsl transSh s.T, .int .i64 l.what, .int .i64 l.words, .int .i64 l.n, .int .i64 l.k, .int .i64 who, .int .i64 0, .int .i64 0, .bool false, .nils, .nils, .nilp, .nilp, .nilp, .nils, .int .i64 0, .int .i64 0, .bool false]
/-- Those of a list of blocks, the last one first. -/
def nwR0 (s : Sy) (l : Lay) : List Nat → Hp
  | [] => []
  | w :: L => (w, rw0 s l L.length) :: nwR0 s l L
def nwR (s : Sy) (l : Lay) : List Nat → Hp
  | [] => []
  | w :: L => (w, rwC s l L.length 0 0 false [] [] .nilp .nilp .nilp .nils 0 0 false) :: nwR s l L
def nwP (s : Sy) (l : Lay) : List Nat → Hp
  | [] => []
  | w :: L => (w, wkC s l L.length 0 0 false 0 .nilif 0 false [] []) :: nwP s l L
def ptrs (L : List Nat) : List AV := L.map fun w => .ptr w 0
theorem getm {α : Type} (fr σ : List α) (x : α) : (fr ++ x :: σ)[fr.length]? = some x := by simp
theorem setm {α : Type} (fr σ : List α) (x y : α) : (fr ++ x :: σ).set fr.length y = fr ++ y :: σ := by simp
theorem nilsl {F : Nat → Prop} {w : World} (e : Sh) : ∀ v, VRel F w .nils v → VRel F w (.fsl e []) v := fun v hv => by
  cases hv
  exact .fsl e [] _ ⟨none, 0, rfl, Nat.le_refl _, by unfold maxLen; omega, fun _ => rfl, fun hne => absurd rfl hne⟩
theorem nwR_hp {F : Nat → Prop} {w : World} (s : Sy) (l : Lay) (τ : Hp) : ∀ (L : List Nat) (A : Hp), RelHp F w (A ++ (nwR0 s l L ++ τ)) → RelHp F w (A ++ (nwR s l L ++ τ))
  | [], _, h => h
  | b :: L, A, h => by
    have h : RelHp F w (A ++ (b, rw0 s l L.length) :: (nwR0 s l L ++ τ)) := h
    have h1 := cell_hp h (c' := .fsl (.int .i64) []) rfl (nilsl _) (i := A.length) (k := 15) (getm _ _ _) rfl
    rw [setm] at h1
    have h2 := cell_hp h1 (c' := .fsl (.int .u64) []) rfl (nilsl _) (i := A.length) (k := 16) (getm _ _ _) rfl
    rw [setm] at h2
    have h3 : RelHp F w (A ++ (b, rwC s l L.length 0 0 false [] [] .nilp .nilp .nilp .nils 0 0 false) :: (nwR0 s l L ++ τ)) := h2
    rw [show A ++ (b, rwC s l L.length 0 0 false [] [] .nilp .nilp .nilp .nils 0 0 false) :: (nwR0 s l L ++ τ) = (A ++ [(b, rwC s l L.length 0 0 false [] [] .nilp .nilp .nilp .nils 0 0 false)]) ++ (nwR0 s l L ++ τ) by rw [List.append_assoc]; rfl] at h3
    have h4 := nwR_hp s l τ L _ h3
    rw [List.append_assoc] at h4
    exact h4
theorem aRAll0 (s : Sy) (l : Lay) (k : Nat) (σ : Hp) (hk : l.k = k) (hk2 : k ≤ 64) : ACalls Tryz.prog 54 [.agg (sysC s), .agg (layV l)] σ (fun v σ' => ∃ L acc, L.length = k ∧ Acc 1 k v acc (ptrs L.reverse) ∧ σ' = nwR0 s l L ++ (acc ++ σ)) := by
  refine okF Tryz.func54 (by kernel_rfl) ?_
  intro bx
  intro by_
  refine .wrap 5 _ rfl rfl ?_
  refine loopS (S := List Nat × AV × Hp) (fun t => [(2, .ptr bx 0), (3, .ptr by_ 0), (5, .via t.2.1), (6, .int .i64 t.1.length)]) (fun t => (by_, layV l) :: (bx, sysC s) :: (nwR0 s l t.1 ++ (t.2.2 ++ σ))) (fun t => t.1.length ≤ k ∧ Acc 1 t.1.length t.2.1 t.2.2 (ptrs t.1.reverse)) (fun t => k - t.1.length) ([], .nils, []) ⟨⟨Nat.zero_le _, .nil⟩, ⟨rfl, rfl, rfl, rfl, trivial⟩, rfl⟩ ?_
  rintro ⟨L, v, acc⟩ g ⟨hl0, h0⟩
  have hl : L.length ≤ k := hl0
  have h : Acc 1 L.length v acc (ptrs L.reverse) := h0
  clear hl0 h0
  refine LoadAt.mk 0 _ _ rfl rfl ?_
  refine bcond_dec (p := (L.length : Int) < l.k) (fun hlt => ?_) (fun hge => ?_)
  rotate_left
  · have hlk : L.length = k := by omega
    exact .drop 0 2 (.done ⟨L, acc, hlk, hlk ▸ h, rfl⟩)
  have hlt : L.length < k := by omega
  refine LoadAt.mk 1 _ _ rfl rfl ?_
  refine LoadAt.mk 0 _ _ rfl rfl ?_
  intro bl1
  intro bl2
  refine append_acc (_ :: _ :: _ :: _ :: nwR0 s l L) h (.mref 0 bl2 0 1 _ rfl (Nat.le_of_ble_eq_true rfl)) rfl (by omega) (by decide) (by decide) (fun v' acc' h' => ?_)
  refine nextS (bl1 :: L, v', acc') (by show k - (L.length + 1) < k - L.length; omega) ⟨hlt, ?_⟩ ⟨rfl, rfl, rfl, inc64 (show L.length < 1000000000 by omega), trivial⟩ (.drop 0 1 (.pull [2, 2] (.refl _)))
  show Acc 1 (L.length + 1) v' acc' (ptrs (bl1 :: L).reverse)
  rw [List.reverse_cons, ptrs, List.map_append]
  exact h'
/-- A worker of each number. -/
theorem aRAll33 (s : Sy) (l : Lay) (k : Nat) (σ : Hp) (hk : l.k = k) (hk2 : k ≤ 64) : ACalls Tryz.prog 54 [.agg (sysC s), .agg (layV l)] σ (fun v σ' => ∃ L acc, L.length = k ∧ Acc 1 k v acc (ptrs L.reverse) ∧ σ' = nwR s l L ++ (acc ++ σ)) :=
  ⟨(aRAll0 s l k σ hk hk2).1, fun F w vs hvs hσ => ((aRAll0 s l k σ hk hk2).2 F w vs hvs hσ).mono fun _ _ ⟨r, v, σ', F', h1, h2, h3, h4, L, acc, q1, q2, q3⟩ => by
    subst q3
    exact ⟨r, v, _, F', h1, h2, nwR_hp s l (acc ++ σ) L [] h3, h4, L, acc, q1, q2, rfl⟩⟩
theorem aNodeW (s : Sy) (l : Lay) (who ev jo : Int) (en : Bool) (does : Int) (nv : AV) (node : Int) (has : Bool) (nx out : List Int) (w : Nat) (σ : Hp) : ACalls Tryz.prog 22 [.ptr w 0] ((w, wkC s l who ev jo en does nv node has nx out) :: σ) (Ret (.tup [.int .i64 (if has = true then node else 0), .bool has]) ((w, wkC s l who ev jo en does nv node has nx out) :: σ)) := by
  refine okF Tryz.func22 (by kernel_rfl) ?_
  cases has with
  | true =>
    refine LoadAt.mk 0 _ _ rfl rfl ?_
    refine LoadAt.mk 0 _ _ rfl rfl ?_
    exact .done ⟨rfl, rfl⟩
  | false =>
    refine LoadAt.mk 0 _ _ rfl rfl ?_
    exact .done ⟨rfl, rfl⟩
end Go.Proofs.YtegpahamenjiaaaGreat
namespace Go.Proofs.YtegpahamenjiaaaGreat
open Go.RowKit
set_option maxRecDepth 100000
/-- Blocks in another order. -/
theorem blk_perm (f : List Hp) (σ : Hp) {a b : List Nat} (h : a.Perm b) : (a.foldr (fun i t => f.getD i [] ++ t) σ).Perm (b.foldr (fun i t => f.getD i [] ++ t) σ) := by
  induction h with
  | nil => exact .refl _
  | cons x _ ih => exact ih.append_left _
  | swap x y l => exact front_perm' _ _ _
  | trans _ _ ih1 ih2 => exact ih1.trans ih2
theorem acc_mref {k : Nat} {v : AV} {acc : Hp} {cs : List AV} (h : Acc 1 k v acc cs) (hk : 0 < k) : ∃ b, v = .mref b 0 k 1 ∧ acc = [(b, cs)] := by
  cases h with
  | nil => omega
  | mref b k cs h => exact ⟨b, rfl, rfl⟩
/-- A worker of each kind, that do the same. -/
structure Wk where
  who : Nat
  x : WS
  w : Nat
  r : Nat
  c : AV
  acc : Hp
  v : Nat
  rr : Nat
def Wk.px (e : Wk) : AV := .ptr e.w 0
def Wk.py (e : Wk) : AV := .ptr e.v 0
def Wk.blk (s : Sy) (l : Lay) (e : Wk) : Hp := WB s l e.who e.w e.r e.c e.acc e.x ++ RB s l e.who e.v e.rr e.x
def mkL : List Nat → List Nat → List Wk
  | w :: A, v :: B => mkL A B ++ [⟨A.length, ws0, w, 0, .nils, [], v, 0⟩]
  | _, _ => []
theorem mkL_len : ∀ {A B : List Nat}, A.length = B.length → (mkL A B).length = A.length
  | [], [], _ => rfl
  | a :: A, b :: B, h => by
    show (mkL A B ++ [_]).length = A.length + 1
    rw [List.length_append, mkL_len (by simpa using h)]; rfl
theorem mkL_px : ∀ {A B : List Nat}, A.length = B.length → (mkL A B).map Wk.px = ptrs A.reverse
  | [], [], _ => rfl
  | a :: A, b :: B, h => by
    show (mkL A B ++ [_]).map Wk.px = _
    rw [List.map_append, mkL_px (by simpa using h), List.reverse_cons, ptrs, ptrs, List.map_append]; rfl
theorem mkL_py : ∀ {A B : List Nat}, A.length = B.length → (mkL A B).map Wk.py = ptrs B.reverse
  | [], [], _ => rfl
  | a :: A, b :: B, h => by
    show (mkL A B ++ [_]).map Wk.py = _
    rw [List.map_append, mkL_py (by simpa using h), List.reverse_cons, ptrs, ptrs, List.map_append]; rfl
theorem mkL_at : ∀ {A B : List Nat}, A.length = B.length → ∀ (i : Nat) (e : Wk), (mkL A B)[i]? = some e → e.who = i ∧ e.x = ws0 ∧ e.c = .nils ∧ e.acc = []
  | [], [], _, i, e, h => by cases h
  | a :: A, b :: B, h, i, e, he => by
    have hl : (mkL A B).length = A.length := mkL_len (by simpa using h)
    have he : (mkL A B ++ [_])[i]? = some e := he
    by_cases hi : i < (mkL A B).length
    · rw [List.getElem?_append_left hi] at he
      exact mkL_at (by simpa using h) i e he
    · rw [List.getElem?_append_right (by omega)] at he
      have hi0 : i - (mkL A B).length = 0 := by
        rcases Nat.eq_zero_or_pos (i - (mkL A B).length) with h | h
        · exact h
        · rw [List.getElem?_eq_none (show [(⟨A.length, ws0, a, 0, .nils, [], b, 0⟩ : Wk)].length ≤ _ from h)] at he; cases he
      rw [hi0] at he
      cases he
      exact ⟨by show A.length = i; omega, rfl, rfl, rfl⟩
theorem mkL_perm (s : Sy) (l : Lay) : ∀ {A B : List Nat}, A.length = B.length → ((mkL A B).flatMap (Wk.blk s l)).Perm (nwP s l A ++ nwR s l B)
  | [], [], _ => .refl _
  | a :: A, b :: B, h => by
    have hl : A.length = B.length := by simpa using h
    have ih := mkL_perm s l hl
    show ((mkL A B ++ [_]).flatMap (Wk.blk s l)).Perm _
    rw [List.flatMap_append]
    have e : [(⟨A.length, ws0, a, 0, .nils, [], b, 0⟩ : Wk)].flatMap (Wk.blk s l) = [(a, wkC s l A.length 0 0 false 0 .nilif 0 false [] []), (b, rwC s l B.length 0 0 false [] [] .nilp .nilp .nilp .nils 0 0 false)] := by rw [← hl]; rfl
    rw [e]
    refine (ih.append_right _).trans ?_
    show ((nwP s l A ++ nwR s l B) ++ [_, _]).Perm (_ :: (nwP s l A ++ _ :: nwR s l B))
    refine List.perm_append_comm.trans ?_
    refine .cons _ ?_
    exact (List.perm_middle (l₁ := nwP s l A) (a := (b, rwC s l B.length 0 0 false [] [] .nilp .nilp .nilp .nils 0 0 false)) (l₂ := nwR s l B)).symm
theorem ofE_zero {s : Sy} {k : Int} (h : ofE s k = 0) : checkS s = 0 ∧ 1 ≤ k ∧ k ≤ 64 := by
  unfold ofE at h
  split at h
  · split at h
    · exact ⟨by assumption, by assumption⟩
    · cases h
  · exact absurd h (by assumption)
theorem ls_of {s : Sy} {k : Int} (hf : Fit s) (h : ofE s k = 0) : LS s (layOf s k) ∧ (layOf s k).k = k := by
  obtain ⟨h1, h2⟩ := ofE_zero h
  have e : ∀ z, okI (ofE s k) z = z := fun z => if_pos h
  exact ⟨⟨hf, good_of h1, e _, e _, e _, by rw [show (layOf s k).k = k from e _]; exact h2.1, by rw [show (layOf s k).k = k from e _]; exact h2.2⟩, e _⟩
theorem aMakesBad (s : Sy) (k : Int) (σ : Hp) (hf : Fit s) (he : ¬ ofE s k = 0) : ACalls Tryz.prog 25 [.agg (sysC s), .int .i64 k] σ (Ret (.tup [.nils, .nils, .nilp, .nilp, .bool false]) σ) := by
  refine okF Tryz.func25 (by kernel_rfl) ?_
  intro bl1
  refine LoadAt.mk 0 _ _ rfl rfl ?_
  refine callR [] (aLayOf s k _ hf) ?_
  intro bl2
  refine StoreAt.mk 0 _ _ rfl rfl ?_
  refine bcond_split (fun c3 => ?_) (fun c3 => ?_)
  · have c3 : ¬ (ofE s k = 0) := by simpa using c3
    exact .drop 0 2 (.done ⟨rfl, rfl⟩)
  · have c3 : ofE s k = 0 := by simpa using c3
    refine LoadAt.mk 1 _ _ rfl rfl ?_
    exact absurd (by assumption) he
theorem take_set {A Z : List Int} {i : Nat} (hA : i < A.length) (hZ : i < Z.length) : (A.take i ++ Z.drop i).set i A[i] = A.take (i + 1) ++ Z.drop (i + 1) := by
  rw [List.drop_eq_getElem_cons hZ, show (A.take i ++ Z[i] :: Z.drop (i + 1)).set i A[i] = (A.take i ++ Z[i] :: Z.drop (i + 1)).set (A.take i).length A[i] by rw [List.length_take, Nat.min_eq_left (by omega)], setm, List.take_succ_eq_append_getElem hA, List.append_assoc]
  rfl
theorem aMakesOk (s : Sy) (k : Nat) (σ : Hp) (hf : Fit s) (he : ofE s k = 0) : ACalls Tryz.prog 25 [.agg (sysC s), .int .i64 k] σ (fun z σ' => ∃ (la lb p q m q2 : Nat) (ws : List Int) (L : List Wk) (G : Hp), z = .tup [.mref la 0 k 1, .mref lb 0 k 1, .ptr p 0, .ptr m 0, .bool true] ∧ σ' = (la, L.map Wk.px) :: (lb, L.map Wk.py) :: plH p q ws (reH m q2 ws (L.flatMap (Wk.blk s (layOf s k)) ++ (G ++ σ))) ∧ L.length = k ∧ (∀ (i : Nat) (e : Wk), L[i]? = some e → e.who = i ∧ e.x = ws0 ∧ e.c = .nils ∧ e.acc = []) ∧ FlOk s (layOf s k) ws) := by
  obtain ⟨hs, hLk⟩ := ls_of hf he
  obtain ⟨hz1, hz2, hz3⟩ := hs.size
  obtain ⟨hk1, hk2⟩ := (ofE_zero he).2
  refine okF Tryz.func25 (by kernel_rfl) ?_
  obtain ⟨l, hl⟩ : ∃ l, layOf s k = l := ⟨_, rfl⟩
  have e1 : AV.tup [.agg (layV (layOf s k)), .int .i64 (ofE s k)] = .tup [.agg (layV l), .int .i64 (ofE s k)] := by rw [hl]
  have e2 : AV.tup [.agg (layC s k), .int .i64 (ofE s k)] = .tup [.agg (layV l), .int .i64 (ofE s k)] := by rw [← hl]; rfl
  rw [hl] at hs hLk hz1 hz2 hz3 ⊢
  generalize hE : ofE s k = E at e1 e2
  rw [hE] at he
  intro bl1
  refine LoadAt.mk 0 _ _ rfl rfl ?_
  refine callR [] (acalls_eq (aLayOf s k _ hf) (hE ▸ e1)) ?_
  intro bl2
  refine StoreAt.mk 0 _ _ rfl rfl ?_
  refine bcond_split (fun c3 => ?_) (fun c3 => ?_)
  · have c3 : ¬ (ofE s (↑k : Int) = 0) := by simpa using c3
    exact absurd (hE ▸ he) (by assumption)
  · have c3 : ofE s (↑k : Int) = 0 := by simpa using c3
    refine LoadAt.mk 1 _ _ rfl rfl ?_
    refine callR [] (acalls_eq (aROf32 s k _ hf) (hE ▸ e2)) ?_
    intro bl4
    refine StoreAt.mk 0 _ _ rfl rfl ?_
    refine LoadAt.mk 2 _ _ rfl rfl ?_
    refine LoadAt.mk 0 _ _ rfl rfl ?_
    (refine .mk [] _ (aRFill s l _ hs) ?_; rintro _ _ ⟨m, q2, ws, rfl, rfl, hFl⟩)
    refine LoadAt.mk 3 _ _ rfl rfl ?_
    refine callR [] (aLSize l _) ?_
    (refine .mk [] _ (aNew _ _) ?_; rintro _ _ ⟨p, q, rfl, rfl⟩)
    refine LoadAt.mk 2 _ _ rfl rfl ?_
    obtain ⟨hwl, hmv⟩ := hFl
    rw [hz3]
    obtain ⟨Z, hZ⟩ : ∃ Z, Z = (List.replicate (szL l) 0 : List Int) := ⟨_, rfl⟩
    have hZl : Z.length = szL l := by rw [hZ]; exact List.length_replicate
    refine loopS (S := Nat × List Int) (fun t => [(1, .int .i64 k), (2, .ptr bl1 0), (9, .ptr bl2 0), (11, .ptr bl4 0), (13, .ptr m 0), (14, .ptr p 0), (44, .mref q2 0 ws.length 1), (45, .int .i64 ws.length), (46, .int .i64 t.1)])
      (fun t => plH p q t.2 (reH m q2 ws ((bl4, layV l) :: (bl2, layV l) :: (bl1, sysC s) :: σ))) (fun t => t.1 ≤ ws.length ∧ t.2 = ws.take t.1 ++ Z.drop t.1) (fun t => ws.length - t.1) (0, Z) ⟨⟨Nat.zero_le _, rfl⟩, ⟨rfl, rfl, rfl, rfl, rfl, rfl, rfl, rfl, rfl, trivial⟩, by rw [← hZ]; unfold plH; rw [hZl]; rfl⟩ ?_
    rintro ⟨i, us⟩ g ⟨hi0, hu0⟩
    have hi : i ≤ ws.length := hi0
    have hu : us = ws.take i ++ Z.drop i := hu0
    clear hi0 hu0
    refine bcond_dec (p := (i : Int) < (ws.length : Int)) (fun hlt => ?_) (fun hge => ?_)
    · have hlt : i < ws.length := by omega
      refine With.mk ⟨rfl, by omega, by omega⟩ ?_
      refine LoadAt.mk 3 _ _ rfl (get64 hlt rfl) ?_
      refine callR [] (aStore p q us i (wd ws i) _) ?_
      refine nextS (i + 1, mStore us i (wd ws i)) (by show ws.length - (i + 1) < ws.length - i; omega) ⟨hlt, ?_⟩ ⟨rfl, rfl, rfl, rfl, rfl, rfl, rfl, rfl, inc64 (by omega), trivial⟩ (.refl _)
      show mStore us i (wd ws i) = ws.take (i + 1) ++ Z.drop (i + 1)
      rw [store_hit, hu, wd_get ws hlt]
      exact take_set hlt (by omega)
    · have hge : i = ws.length := by omega
      subst hge
      rw [List.take_length, List.drop_eq_nil_of_le (by omega), List.append_nil] at hu
      subst hu
      have hLk2 : l.k = k := hLk
      have hE2 : ofE s l.k = 0 := by rw [hLk2, hE]; exact he
      have hL2 : layOf s l.k = l := by rw [hLk2]; exact hl
      refine .shed (.pull [6, 6, 6] (.refl _)) ?_
      refine .wrap 17 _ rfl rfl ?_
      have hwl2 := hwl
      clear hz1 hz3 hi hwl
      refine loopS (S := List Nat × AV × Hp) (fun t => [(2, .ptr bl1 0), (9, .ptr bl2 0), (11, .ptr bl4 0), (13, .ptr m 0), (14, .ptr p 0), (17, .via t.2.1), (56, .int .i64 k), (57, .int .i64 t.1.length)])
        (fun t => (bl4, layV l) :: (bl2, layV l) :: (bl1, sysC s) :: (nwP s l t.1 ++ (t.2.2 ++ plH p q us (reH m q2 us σ)))) (fun t => t.1.length ≤ k ∧ Acc 1 t.1.length t.2.1 t.2.2 (ptrs t.1.reverse)) (fun t => k - t.1.length) ([], .nils, []) ⟨⟨Nat.zero_le _, .nil⟩, ⟨rfl, rfl, rfl, rfl, rfl, rfl, rfl, rfl, trivial⟩, rfl⟩ ?_
      rintro ⟨LP, v1, a1⟩ g ⟨hl0, h0⟩
      have hll : LP.length ≤ k := hl0
      have h : Acc 1 LP.length v1 a1 (ptrs LP.reverse) := h0
      clear hl0 h0
      refine bcond_dec (p := (LP.length : Int) < (k : Int)) (fun hlt => ?_) (fun hge => ?_)
      · have hlt : LP.length < k := by omega
        refine LoadAt.mk 2 _ _ rfl rfl ?_
        refine LoadAt.mk 1 _ _ rfl rfl ?_
        refine .mk [] _ (aNewOk s l LP.length _ hf hE2 hL2 (by omega) (by omega)) ?_
        rintro _ _ ⟨w, rfl, rfl⟩
        intro lt
        refine append_acc (_ :: (w, _) :: _ :: _ :: _ :: nwP s l LP) h (.mref 0 lt 0 1 _ rfl (Nat.le_of_ble_eq_true rfl)) rfl (by omega) (by decide) (by decide) (fun v' acc' h' => ?_)
        refine nextS (w :: LP, v', acc') (by show k - (LP.length + 1) < k - LP.length; omega) ⟨hlt, ?_⟩ ⟨rfl, rfl, rfl, rfl, rfl, rfl, rfl, inc64 (show LP.length < 1000000000 by omega), trivial⟩ (.drop 0 1 (.pull [3, 3, 3] (shed_eq rfl)))
        show Acc 1 (LP.length + 1) v' acc' (ptrs (w :: LP).reverse)
        rw [List.reverse_cons, ptrs, List.map_append]
        exact h'
      · have hge : LP.length = k := by omega
        obtain ⟨la, rfl, rfl⟩ := acc_mref h (by omega)
        refine LoadAt.mk 2 _ _ rfl rfl ?_
        refine LoadAt.mk 0 _ _ rfl rfl ?_
        refine .mk [] _ (aRAll33 s l k _ hLk2 (by omega)) ?_
        rintro v2 _ ⟨LR, a2, hlr, h2, rfl⟩
        obtain ⟨lb, rfl, rfl⟩ := acc_mref h2 (by omega)
        have hle : LP.length = LR.length := by omega
        rw [hge]
        refine .perm (σ2 := (la, (mkL LP LR).map Wk.px) :: (lb, (mkL LP LR).map Wk.py) :: plH p q us (reH m q2 us ((mkL LP LR).flatMap (Wk.blk s l) ++ ([(bl4, layV l), (bl2, layV l), (bl1, sysC s)] ++ σ)))) ?_ (.done ⟨la, lb, p, q, m, q2, us, mkL LP LR, _, rfl, rfl, (mkL_len hle).trans hge, mkL_at hle, hwl2, hmv⟩)
        rw [mkL_px hle, mkL_py hle]
        refine (List.Perm.append_left [_, _, _, _, _, _] ((mkL_perm s l hle).append_right _)).trans ?_
        rw [List.append_assoc]
        exact blk_perm [nwR s l LR, [(lb, ptrs LR.reverse)], [(bl4, layV l), (bl2, layV l), (bl1, sysC s)], nwP s l LP, [(la, ptrs LP.reverse)], [(p, plC q us.length), (q, woC us), (m, [AV.mref q2 0 us.length 1]), (q2, woC us)]] σ (a := [4, 1, 5, 3, 0, 2]) (b := [0, 1, 2, 3, 4, 5]) (by decide)
end Go.Proofs.YtegpahamenjiaaaGreat
