/-
  Db: what the claim uses of them.
-/
import Derived.Test.YtljbnigceammdaaGreatDoorBn31
namespace Go.Proofs.YtljbnigceammdaaGreatDoor
open Go.RowKit
set_option maxRecDepth 100000
theorem getM_putD : ∀ (l : List (Int × Int)) (n x z : Int), getM (putM l n x) z = if z = n then some x else getM l z
  | [], n, x, z => by
    by_cases h : z = n
    · subst h; simp [putM, getM]
    · rw [if_neg h]; unfold putM getM; rw [if_neg (fun e => h e.symm)]; rfl
  | p :: l, n, x, z => by
    by_cases hp : p.1 = n
    · have e : putM (p :: l) n x = (n, x) :: l := if_pos hp
      rw [e]
      by_cases h : z = n
      · subst h; rw [if_pos rfl]; exact if_pos rfl
      · rw [if_neg h]
        show (if n = z then some x else getM l z) = (if p.1 = z then some p.2 else getM l z)
        rw [if_neg (fun e => h e.symm), if_neg (fun e => h (e.symm.trans hp))]
    · have e : putM (p :: l) n x = p :: putM l n x := if_neg hp
      rw [e]
      show (if p.1 = z then some p.2 else getM (putM l n x) z) = if z = n then some x else (if p.1 = z then some p.2 else getM l z)
      by_cases h2 : p.1 = z
      · rw [if_pos h2, if_pos h2, if_neg (fun e => hp (h2.trans e))]
      · rw [if_neg h2, if_neg h2, getM_putD l n x z]
/-- Nodes that wait, as a list, and nodes that are marked, as a map. -/
structure RW (v : AV) (acc : Hp) (ml : List (Int × Int)) (s : List Int × List Int) : Prop where
  acc : AccO 1 s.2.length v acc (inC s.2)
  mp : ∀ z, (getM ml z).getD 0 = if z ∈ s.1 then 1 else 0
theorem len_appD (w : List Int) (b : Int) : (w ++ [b]).length = w.length + 1 := by simp
theorem fin_dropA {R : AV → Hp → Prop} {r : AV} {acc σ : Hp} (h : Fin R r σ) : Fin R r (acc ++ σ) := .drop 0 acc.length (by rw [List.take_zero, List.nil_append, Nat.zero_add, List.drop_left]; exact h)
theorem perm_inD (A τ ρ : Hp) (x : Nat × List AV) : (A ++ (τ ++ (x :: ρ))).Perm (x :: (A ++ (τ ++ ρ))) := by
  rw [← List.append_assoc, ← List.append_assoc]; exact List.perm_middle
theorem putL_take (n : Int) (L : List Int) (s : List Int × List Int) {k : Nat} (h : k < L.length) : putL n (L.take (k + 1)) s = if (0 ≤ L[k] ∧ L[k] < n) ∧ L[k] ∉ (putL n (L.take k) s).1 then ((putL n (L.take k) s).1 ++ [L[k]], (putL n (L.take k) s).2 ++ [L[k]]) else putL n (L.take k) s := by
  unfold putL; rw [List.take_succ_eq_append_getElem h, List.foldl_append]; rfl
theorem aPut (bn bi bm bw n : Nat) (L : List Int) {v : AV} {acc : Hp} {ml : List (Int × Int)} {s0 : List Int × List Int} (σ : Hp) (h : RW v acc ml s0) (hL : L.length ≤ 100000) (hw : s0.2.length ≤ 100000) :
    ACalls Tryz.prog 52 [.fsl (.int .i64) L, .ptr bn 0, .ptr bi 0, .ptr bw 0] ((bw, [v]) :: (bi, [.mapr bm]) :: (bm, [.mapc ml]) :: (bn, [.int .i64 n]) :: (acc ++ σ)) (fun r σ' => r = .tup [] ∧ ∃ v' acc' ml', RW v' acc' ml' (putL n L s0) ∧ σ' = (bw, [v']) :: (bi, [.mapr bm]) :: (bm, [.mapc ml']) :: (bn, [.int .i64 n]) :: (acc' ++ σ)) := by
  refine okF Tryz.func52 (by kernel_rfl) ?_
  refine loopS (S := Nat × AV × Hp × List (Int × Int) × List Int × List Int) (fun x => [(1, .ptr bn 0), (2, .ptr bi 0), (3, .ptr bw 0), (7, .fsl (.int .i64) L), (8, .int .i64 L.length), (9, .int .i64 x.1)]) (fun x => (bw, [x.2.1]) :: (bi, [.mapr bm]) :: (bm, [.mapc x.2.2.2.1]) :: (bn, [.int .i64 n]) :: (x.2.2.1 ++ σ)) (fun x => (x.1 ≤ L.length ∧ x.2.2.2.2 = putL n (L.take x.1) s0 ∧ x.2.2.2.2.2.length ≤ s0.2.length + x.1) ∧ RW x.2.1 x.2.2.1 x.2.2.2.1 x.2.2.2.2) (fun x => L.length - x.1) (0, v, acc, ml, s0) ⟨⟨⟨Nat.zero_le _, rfl, Nat.le_refl _⟩, h⟩, ⟨rfl, rfl, rfl, rfl, rfl, rfl, trivial⟩, rfl⟩ ?_
  rintro ⟨k, v, acc, ml, s⟩ g ⟨⟨hk0, hs0, hl0⟩, hr0⟩
  have hk : k ≤ L.length := hk0
  have hs : s = putL n (L.take k) s0 := hs0
  have hl : s.2.length ≤ s0.2.length + k := hl0
  have hr : RW v acc ml s := hr0
  clear hk0 hs0 hl0 hr0
  refine bcond_dec (p := (k : Int) < L.length) (fun hlt => ?_) (fun hge => ?_)
  · have hlt : k < L.length := by omega
    have hst := putL_take n L s0 hlt
    obtain ⟨a, ha⟩ : ∃ a, L[k] = a := ⟨_, rfl⟩
    rw [← hs, ha] at hst
    have hmp := hr.mp a
    refine With.mk rfl (IdxF.mk a (by omega) ((get_some hlt).trans (congrArg some ha)) ?_)
    refine LoadAt.mk 3 _ _ rfl rfl ?_
    refine callB [] (aNode n a _) (fun c1 => ?_) (fun c1 => ?_)
    · have hn := node_iff.1 c1
      refine LoadAt.mk 1 _ _ rfl rfl ?_
      refine MapAt.mk 2 _ _ rfl rfl ?_
      refine bcond_dec (fun c1 => ?_) (fun c1 => ?_)
      · have c1 : (getM ml a).getD 0 = 0 := c1
        refine LoadAt.mk 1 _ _ rfl rfl ?_
        refine MapAt.mk 2 _ _ rfl rfl ?_
        refine LoadAt.mk 0 _ _ rfl rfl ?_
        intro bl2
        have hm : a ∉ s.1 := fun h => by rw [if_pos h] at hmp; omega
        rw [if_pos ⟨hn, hm⟩] at hst
        refine append_accOV [_, _, _, _, _] hr.acc.unv (.mref 0 bl2 0 1 _ rfl (Nat.le_of_ble_eq_true rfl)) rfl (by omega) (by decide) (by decide) (fun v' acc' h' => ?_)
        obtain ⟨bq, off, all, rfl, rfl, q1, q2⟩ := accO_one (by omega) h'
        refine StoreAt.mk 1 _ _ rfl rfl ?_
        refine nextS (k + 1, .mref bq off (s.2.length + 1) 1, [(bq, all)], putM ml a 1, (s.1 ++ [a], s.2 ++ [a])) (by show L.length - (k + 1) < L.length - k; omega) ⟨⟨hlt, hst.symm, by show (s.2 ++ [a]).length ≤ _; rw [List.length_append, List.length_singleton]; omega⟩, ?_, fun z => ?_⟩ ⟨rfl, rfl, rfl, rfl, rfl, inc64 (by omega), trivial⟩ (.drop 0 1 (.refl _))
        · show AccO 1 (s.2 ++ [a]).length _ _ (inC (s.2 ++ [a]))
          rw [len_appD, show inC (s.2 ++ [a]) = inC s.2 ++ [.int .i64 a] from List.map_append]
          exact h'
        · show (getM (putM ml a 1) z).getD 0 = if z ∈ s.1 ++ [a] then 1 else 0
          rw [getM_putD]
          by_cases e : z = a
          · subst e; rw [if_pos rfl, if_pos (by simp)]; rfl
          · rw [if_neg e, hr.mp z]; simp [e]
      · have c1 : ¬ ((getM ml a).getD 0 = 0) := c1
        have hm : ¬ ((0 ≤ a ∧ a < n) ∧ a ∉ s.1) := fun h => by rw [if_neg h.2] at hmp; omega
        rw [if_neg hm] at hst
        exact nextS (k + 1, v, acc, ml, s) (by show L.length - (k + 1) < L.length - k; omega) ⟨⟨hlt, hst.symm, by show s.2.length ≤ s0.2.length + (k + 1); omega⟩, hr⟩ ⟨rfl, rfl, rfl, rfl, rfl, inc64 (by omega), trivial⟩ (.refl _)
    · have hn : ¬ (0 ≤ a ∧ a < n) := fun h => by rw [node_iff.2 h] at c1; cases c1
      rw [if_neg (fun h => hn h.1)] at hst
      exact nextS (k + 1, v, acc, ml, s) (by show L.length - (k + 1) < L.length - k; omega) ⟨⟨hlt, hst.symm, by show s.2.length ≤ s0.2.length + (k + 1); omega⟩, hr⟩ ⟨rfl, rfl, rfl, rfl, rfl, inc64 (by omega), trivial⟩ (.refl _)
  · have hge : k = L.length := by omega
    subst hge
    rw [List.take_length] at hs
    exact .done ⟨rfl, v, acc, ml, by rw [← hs]; exact hr, rfl⟩
theorem aReached (n : Nat) (l : List EdgeT) (fr : List Int) (σ : Hp) (hl : l.length ≤ 100000) (hn : n ≤ 10000) (hf : fr.length ≤ 100000) : ACalls Tryz.prog 24 [.int .i64 n, .fsl edgeSh l, .fsl (.int .i64) fr] σ (Ret (.fsl (.int .i64) (reachR n l fr)) σ) := by
  have h0 : RW .nils [] [] ([], []) := ⟨.nil, fun z => by simp [getM]⟩
  refine okF Tryz.func24 (by kernel_rfl) ?_
  intro bl1
  intro bl2
  intro bl3
  intro bl4
  refine StoreAt.mk 0 _ _ rfl rfl ?_
  refine .mk [2] _ (aPut bl1 bl4 bl3 bl2 n fr σ h0 hf (by decide)) ?_
  rintro _ _ ⟨rfl, v, acc, ml, hr, rfl⟩
  have hri : RI n l fr (putL n fr ([], [])).1 (putL n fr ([], [])).2 [] := RI.start
  generalize hs : putL n fr ([], []) = s at hr hri
  clear hs h0
  obtain ⟨M, W⟩ := s
  have hlen := hri.len
  have hlen : M.length ≤ n ∧ ([] : List Int).length + W.length ≤ n := hlen
  rcases List.eq_nil_or_concat W with hW | ⟨w, a, hW⟩
  · subst hW
    have hend : AV.fsl (.int .i64) ([] : List Int) = .fsl (.int .i64) (reachR n l fr) := by rw [← hri.sorted]; exact congrArg (AV.fsl (.int .i64)) (List.length_eq_zero_iff.1 (sortI_length [])).symm
    have hv : v = .nils ∨ ∃ b off, v = .mref b off 0 1 := by
      obtain ⟨h1, _⟩ := hr
      have h1 : AccO 1 0 v acc [] := h1
      generalize hk : (0 : Nat) = k at h1
      cases h1 with
      | nil => exact .inl rfl
      | mref b off k cs all => subst hk; exact .inr ⟨b, off, rfl⟩
    rcases hv with rfl | ⟨b, off, rfl⟩
    · refine LoadAt.mk 0 _ _ rfl rfl ?_
      refine callR [] (aSortN _) ?_
      exact .nil (.nil (.int .i64)) (.drop 0 4 (fin_dropA (acc := acc) (σ := σ) (.done ⟨hend, rfl⟩)))
    · refine LoadAt.mk 0 _ _ rfl rfl ?_
      refine callR [] (aSortN _) ?_
      exact .nil (.nil (.int .i64)) (.drop 0 4 (fin_dropA (acc := acc) (σ := σ) (.done ⟨hend, rfl⟩)))
  · have hW : W = w ++ [a] := by simpa using hW
    subst hW
    have hk : (inC w).length = w.length := inC_length w
    have hpop := accO_pop hk (by have h1 := hr.acc; have h1 : AccO 1 (w ++ [a]).length v acc (inC (w ++ [a])) := h1; rw [len_appD, show inC (w ++ [a]) = inC w ++ [.int .i64 a] from List.map_append] at h1; exact h1)
    obtain ⟨b, off, all, rfl, rfl, q1, q2, q3⟩ := hpop
    rw [List.length_append, List.length_singleton] at hlen
    refine LoadAt.mk 0 _ _ rfl rfl ?_
    refine bcond_dec (fun c1 => ?_) (fun c1 => ?_)
    · have c1 : 0 < (↑(w.length + 1) : Int) := c1
      refine LoadAt.mk 0 _ _ rfl rfl ?_
      refine LoadAt.mk 0 _ _ rfl rfl ?_
      have hwr : IntKind.i64.wrap (((w.length + 1 : Nat) : Int) - 1) = (w.length : Int) := by rw [w64 (by omega)]; omega
      refine With.mk ⟨rfl, by omega, by omega⟩ ?_
      refine LoadAt.mk 4 _ _ rfl (show readAs ⟨.int .i64, 1, 8, [.int .i64 0]⟩ all (off + (IntKind.i64.wrap (((w.length + 1 : Nat) : Int) - 1)).toNat * 1) = some (.int .i64 a) by rw [hwr, Int.toNat_natCast, Nat.mul_one]; exact q1) ?_
      refine LoadAt.mk 0 _ _ rfl rfl ?_
      refine LoadAt.mk 0 _ _ rfl rfl ?_
      refine With.mk ⟨by omega, by omega, by omega, rfl⟩ ?_
      refine StoreAt.mk 0 _ _ rfl rfl ?_
      intro bl5
      have hcut : AV.mref b (off + Int.toNat 0 * 1) ((IntKind.i64.wrap (((w.length + 1 : Nat) : Int) - 1)).toNat - Int.toNat 0) 1 = .mref b off w.length 1 := by rw [hwr]; rfl
      have hrw : RW (AV.mref b (off + Int.toNat 0 * 1) ((IntKind.i64.wrap (((w.length + 1 : Nat) : Int) - 1)).toNat - Int.toNat 0) 1) [(b, all)] ml (M, w) := ⟨by rw [hcut]; exact q3, hr.mp⟩
      refine append_acc [_, _, _, _, _, _] Acc.nil (.mref 0 bl5 0 1 _ rfl (Nat.le_of_ble_eq_true rfl)) rfl (by omega) (by decide) (by decide) (fun vo acco hacco => ?_)
      refine LoadAt.mk 4 _ _ rfl rfl ?_
      refine callR [] (aNext n l a _ hl) ?_
      refine .mk [5, 5, 5, 5, 5] _ (aPut bl1 bl4 bl3 bl2 n (toS n l a) ((bl5, [.int .i64 a]) :: (acco ++ σ)) hrw (by have := toS_length n l a; omega) (by show w.length ≤ _; omega)) ?_
      rintro _ _ ⟨rfl, v', acc', ml', hr', rfl⟩
      have hri' : RI n l fr (putL n (toS n l a) (M, w)).1 (putL n (toS n l a) (M, w)).2 ([] ++ [a]) := hri.next
      generalize putL n (toS n l a) (M, w) = s' at hr' hri'
      refine .loop (S := (AV × Hp × List (Int × Int)) × (List Int × List Int) × AV × Hp × List Int) (fun _ => 0) (fun x => [(1, .fsl edgeSh l), (3, .ptr bl1 0), (7, .via x.2.2.1), (8, .ptr bl2 0), (10, .fn (.func 52) [] [.ptr bl1 0, .ptr bl4 0, .ptr bl2 0])]) (fun x => (bl2, [x.1.1]) :: (bl4, [.mapr bl3]) :: (bl3, [.mapc x.1.2.2]) :: (bl1, [.int .i64 n]) :: (x.1.2.1 ++ (x.2.2.2.1 ++ σ))) (fun x => RW x.1.1 x.1.2.1 x.1.2.2 x.2.1 ∧ RI n l fr x.2.1.1 x.2.1.2 x.2.2.2.2 ∧ Acc 1 x.2.2.2.2.length x.2.2.1 x.2.2.2.1 (inC x.2.2.2.2)) (fun x => n - x.2.2.2.2.length) ((v', acc', ml'), s', vo, acco, [] ++ [a]) ⟨rfl, ⟨hr', hri', hacco⟩, ⟨rfl, rfl, rfl, rfl, rfl, trivial⟩, .perm (perm_inD [_, _, _, _] acc' (acco ++ σ) _).symm (.drop 0 1 (.refl _))⟩ ?_
      rintro ⟨⟨v, acc, ml⟩, ⟨M, W⟩, vo, acco, out⟩ t ⟨hr0, hri0, hacco0⟩
      have hr : RW v acc ml (M, W) := hr0
      have hri : RI n l fr M W out := hri0
      have hacco : Acc 1 out.length vo acco (inC out) := hacco0
      clear hr0 hri0 hacco0
      have hlen := hri.len
      rcases List.eq_nil_or_concat W with hW | ⟨w, a, hW⟩
      · subst hW
        have hv : v = .nils ∨ ∃ b off, v = .mref b off 0 1 := by
          obtain ⟨h1, _⟩ := hr
          have h1 : AccO 1 0 v acc [] := h1
          generalize hk : (0 : Nat) = k at h1
          cases h1 with
          | nil => exact .inl rfl
          | mref b off k cs all => subst hk; exact .inr ⟨b, off, rfl⟩
        have hso : sortI out = reachR n l fr := hri.sorted
        obtain ⟨q, hq⟩ : ∃ q, out.length = q := ⟨_, rfl⟩
        obtain ⟨cs, hcs⟩ : ∃ cs, inC out = cs := ⟨_, rfl⟩
        rw [hq, hcs] at hacco
        have hsl := sortI_length out
        have hend : ∀ (bo : Nat) (x : AV), Fin (Ret (.fsl (.int .i64) (reachR n l fr)) σ) (.mref bo 0 q 1) ((bo, inC (sortI out)) :: (bl2, [x]) :: (bl4, [.mapr bl3]) :: (bl3, [.mapc ml]) :: (bl1, [.int .i64 n]) :: (acc ++ σ)) := fun bo x =>
          .frz 0 bo 0 q 1 _ (.int .i64) (sortI out) rfl (by rw [List.drop_zero, List.take_of_length_le (by rw [inC_length, hsl, hq]; omega)]; exact inC_flat _) ⟨hsl.trans hq, rfl, by decide⟩ .here (.drop 0 4 (fin_dropA (acc := acc) (σ := σ) (.done ⟨by rw [hso], rfl⟩)))
        cases hacco with
        | nil =>
          obtain rfl := List.length_eq_zero_iff.1 hq
          have he : AV.fsl (.int .i64) ([] : List Int) = .fsl (.int .i64) (reachR n l fr) := by rw [← hso]; exact congrArg (AV.fsl (.int .i64)) (List.length_eq_zero_iff.1 (sortI_length [])).symm
          rcases hv with rfl | ⟨b, off, rfl⟩
          · refine LoadAt.mk 0 _ _ rfl rfl ?_
            refine callR [] (aSortN _) ?_
            exact .nil (.nil (.int .i64)) (.drop 0 4 (fin_dropA (acc := acc) (σ := σ) (.done ⟨he, rfl⟩)))
          · refine LoadAt.mk 0 _ _ rfl rfl ?_
            refine callR [] (aSortN _) ?_
            exact .nil (.nil (.int .i64)) (.drop 0 4 (fin_dropA (acc := acc) (σ := σ) (.done ⟨he, rfl⟩)))
        | mref bo q cs h =>
          subst hcs
          rcases hv with rfl | ⟨b, off, rfl⟩
          · refine LoadAt.mk 0 _ _ rfl rfl ?_
            refine .perm _ (perm_inD [_, _, _, _] acc σ (bo, inC out)).symm ((aSortI bo out q _ hq (by omega))) ?_
            rintro _ _ ⟨rfl, rfl⟩
            exact ⟨_, .refl _, hend bo _⟩
          · refine LoadAt.mk 0 _ _ rfl rfl ?_
            refine .perm _ (perm_inD [_, _, _, _] acc σ (bo, inC out)).symm ((aSortI bo out q _ hq (by omega))) ?_
            rintro _ _ ⟨rfl, rfl⟩
            exact ⟨_, .refl _, hend bo _⟩
      · have hW : W = w ++ [a] := by simpa using hW
        subst hW
        have hk : (inC w).length = w.length := inC_length w
        have hpop := accO_pop hk (by have h1 := hr.acc; have h1 : AccO 1 (w ++ [a]).length v acc (inC (w ++ [a])) := h1; rw [len_appD, show inC (w ++ [a]) = inC w ++ [.int .i64 a] from List.map_append] at h1; exact h1)
        obtain ⟨b, off, all, rfl, rfl, q1, q2, q3⟩ := hpop
        rw [List.length_append, List.length_singleton] at hlen
        refine LoadAt.mk 0 _ _ rfl rfl ?_
        refine bcond_dec (fun c1 => ?_) (fun c1 => ?_)
        · have c1 : 0 < (↑(w.length + 1) : Int) := c1
          refine LoadAt.mk 0 _ _ rfl rfl ?_
          refine LoadAt.mk 0 _ _ rfl rfl ?_
          have hwr : IntKind.i64.wrap (((w.length + 1 : Nat) : Int) - 1) = (w.length : Int) := by rw [w64 (by omega)]; omega
          refine With.mk ⟨rfl, by omega, by omega⟩ ?_
          refine LoadAt.mk 4 _ _ rfl (show readAs ⟨.int .i64, 1, 8, [.int .i64 0]⟩ all (off + (IntKind.i64.wrap (((w.length + 1 : Nat) : Int) - 1)).toNat * 1) = some (.int .i64 a) by rw [hwr, Int.toNat_natCast, Nat.mul_one]; exact q1) ?_
          refine LoadAt.mk 0 _ _ rfl rfl ?_
          refine LoadAt.mk 0 _ _ rfl rfl ?_
          refine With.mk ⟨by omega, by omega, by omega, rfl⟩ ?_
          refine StoreAt.mk 0 _ _ rfl rfl ?_
          intro bl5
          have hcut : AV.mref b (off + Int.toNat 0 * 1) ((IntKind.i64.wrap (((w.length + 1 : Nat) : Int) - 1)).toNat - Int.toNat 0) 1 = .mref b off w.length 1 := by rw [hwr]; rfl
          have hrw : RW (AV.mref b (off + Int.toNat 0 * 1) ((IntKind.i64.wrap (((w.length + 1 : Nat) : Int) - 1)).toNat - Int.toNat 0) 1) [(b, all)] ml (M, w) := ⟨by rw [hcut]; exact q3, hr.mp⟩
          refine append_acc [_, _, _, _, _, _] hacco (.mref 0 bl5 0 1 _ rfl (Nat.le_of_ble_eq_true rfl)) rfl (by omega) (by decide) (by decide) (fun vo acco hacco => ?_)
          refine LoadAt.mk 4 _ _ rfl rfl ?_
          refine callR [] (aNext n l a _ hl) ?_
          refine .mk [5, 5, 5, 5, 5] _ (aPut bl1 bl4 bl3 bl2 n (toS n l a) ((bl5, [.int .i64 a]) :: (acco ++ σ)) hrw (by have := toS_length n l a; omega) (by show w.length ≤ _; omega)) ?_
          rintro _ _ ⟨rfl, v', acc', ml', hr', rfl⟩
          have hri' : RI n l fr (putL n (toS n l a) (M, w)).1 (putL n (toS n l a) (M, w)).2 (out ++ [a]) := hri.next
          generalize putL n (toS n l a) (M, w) = s' at hr' hri'
          refine .mk ((v', acc', ml'), s', vo, acco, out ++ [a]) rfl (by show n - (out ++ [a]).length < n - out.length; rw [len_appD]; omega) ⟨hr', hri', by show Acc 1 (out ++ [a]).length vo acco (inC (out ++ [a])); rw [len_appD, show inC (out ++ [a]) = inC out ++ [.int .i64 a] from List.map_append]; exact hacco⟩ ⟨rfl, rfl, rfl, rfl, rfl, trivial⟩ (.perm (perm_inD [_, _, _, _] acc' (acco ++ σ) _).symm (.drop 0 1 (.refl _)))
        · have c1 : ¬ (0 < (↑(w.length + 1) : Int)) := c1
          exact absurd c1 (by omega)
    · have c1 : ¬ (0 < (↑(w.length + 1) : Int)) := c1
      exact absurd c1 (by omega)
end Go.Proofs.YtljbnigceammdaaGreatDoor
