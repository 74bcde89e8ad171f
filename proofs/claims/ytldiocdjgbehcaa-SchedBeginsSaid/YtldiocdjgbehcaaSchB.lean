/-
  The walk of SchedBegins.
-/
import Derived.Test.YtldiocdjgbehcaaSchP
namespace Go.Proofs.Ytldiocdjgbehcaa
open Go.RowKit
set_option maxRecDepth 100000
set_option maxHeartbeats 4000000
def glue {α : Type} (bs : List (List α)) (t : List α) (is : List Nat) : List α := is.foldr (fun i acc => bs.getD i [] ++ acc) t
/-- Rows of blocks in two orders. -/
theorem gp {α : Type} (bs : List (List α)) (t : List α) (is js : List Nat) (h : is.Perm js) : (glue bs t is).Perm (glue bs t js) := by
  unfold glue
  induction h with
  | nil => exact List.Perm.refl _
  | cons x _ ih => exact List.Perm.append_left _ ih
  | swap x y l =>
    simp only [List.foldr_cons]
    rw [← List.append_assoc, ← List.append_assoc]
    exact List.Perm.append_right _ List.perm_append_comm
  | trans _ _ ih1 ih2 => exact ih1.trans ih2
theorem gp2 {α : Type} (a b c d : α) (X1 X2 Y1 Y2 : List α) : (a :: b :: (X1 ++ (X2 ++ (c :: d :: (Y1 ++ Y2))))).Perm (b :: d :: (X2 ++ (Y2 ++ (a :: c :: (X1 ++ (Y1 ++ [])))))) := by
  have h := gp [[a], [b], [c], [d], X1, X2, Y1, Y2] [] [0, 1, 4, 5, 2, 3, 6, 7] [1, 3, 5, 7, 0, 2, 4, 6] (by decide)
  have e : Y1 ++ Y2 = Y1 ++ (Y2 ++ []) := by rw [List.append_nil]
  rw [e]
  exact h
theorem aRun25' {n : Nat} (p q : Nat) (rs : List Nat) (L : List Mach) (ws : List Int) (scr : List (Int × Int × Unit)) (lb : Nat) (σ : Hp) (hn : rs.length = n) (h1 : n ≤ 100000) (hL : L.length = n) (hs : scr.length ≤ 100000) (hl : ∀ x ∈ L, x.1.length ≤ 1000000) (h0 : 0 < n) :
    ACalls Try.prog 98 [.ptr p 0, .mref lb 0 n 1, .fsl pickSh scr] ((lb, rs.map fun r => .ptr r 0) :: plH p q ws (blkO (rs.map some) L ++ σ)) (fun x σ' => ∃ R : St25, R = go25 n scr ⟨(L, ws), List.replicate n 0, List.replicate n false, 0⟩ ∧ x = .agg [.fsl (.int .i64) R.st, .fsl .bool R.dn, .int .i64 R.us] ∧ σ' = (lb, rs.map fun r => .ptr r 0) :: plH p q R.a.2 (blkO (rs.map some) R.a.1 ++ σ)) := by
  subst hn
  exact aRun25 p q rs L ws scr lb σ h1 hL hs hl h0
theorem sub_len {α : Type} (a b : Nat) (s : List α) : ((s.drop a).take b).length ≤ s.length := by
  rw [List.length_take, List.length_drop]; omega
theorem cut_take {α : Type} {s : List α} {x : Int} {k : Nat} (h : x = k) : (s.drop (Int.toNat 0)).take (x.toNat - Int.toNat 0) = s.take k := by
  subst h; simp
theorem cut_drop {α : Type} {s : List α} {x : Int} {k : Nat} (h : x = k) : (s.drop x.toNat).take ((s.length : Int).toNat - x.toNat) = s.drop k := by
  subst h
  refine List.take_of_length_le ?_
  simp
theorem pick_in {α : Type} {z : α} {X X' : List α} (h : X.Perm (z :: X')) (A B : List α) : (A ++ (X ++ B)).Perm (z :: (A ++ (X' ++ B))) := by
  refine (List.Perm.append_left A (List.Perm.append_right B h)).trans ?_
  exact List.perm_middle
theorem neP2 {n : Int} (h : (!decide (n = n)) = true) : False := by simp at h
theorem eq4 {a b c d : Int} (h : (!allB (eqAll [AV.int .u64 a, .int .u64 b, .int .u64 c, .int .u64 d] [AV.int .u64 a, .int .u64 b, .int .u64 c, .int .u64 d])) = true) : False := by
  simp [allB, eqAll, leafEq] at h
theorem neL {a b : Nat} (h : a = b) (c : (!decide ((a : Int) = (b : Int))) = true) : False := by subst h; simp at c
theorem init_BB (a : List Mach × List Int) (n : Nat) : BB ⟨a, List.replicate n 0, List.replicate n false, 0⟩ := by
  intro i
  have : (List.replicate n (0 : Int)).getD i 0 = 0 := by
    rw [List.getD_eq_getElem?_getD, List.getElem?_replicate]; split <;> rfl
  show 0 ≤ (List.replicate n (0 : Int)).getD i 0 ∧ (List.replicate n (0 : Int)).getD i 0 ≤ ((0 : Nat) : Int)
  rw [this]
  exact ⟨Int.le_refl _, Int.le_refl _⟩
theorem init_IN (l : List (List Ins)) : IN ⟨(z25 l, [0, 0, 0, 0]), List.replicate l.length 0, List.replicate l.length false, 0⟩ := by
  intro i hi x hx
  have hi : (List.replicate l.length false).getD i true = true := hi
  have hx : (z25 l)[i]? = some x := hx
  have hlt : i < (z25 l).length := by
    rcases Nat.lt_or_ge i (z25 l).length with h | h
    · exact h
    · rw [List.getElem?_eq_none h] at hx; cases hx
  rw [List.getD_eq_getElem?_getD, List.getElem?_replicate, if_pos (by simpa using hlt)] at hi
  cases hi
theorem schedBegins_walk (l : List (List Ins)) (scr : List (Int × Int × Unit)) (cut : Int) (hL : l.length ≤ maxLen) (hcut : 0 ≤ cut ∧ cut ≤ 255) : ACalls Try.prog 17 [.fsl (.slice instrSh) l, .fsl pickSh scr, .int .u8 cut] [] (fun r _ => r = .bool true) := by
  refine okF Try.func17 (by kernel_rfl) ?_
  refine callR [] awake25a ?_
  refine callR [] (aFew25 l scr _ hL) ?_
  cases hf : few25 l scr
  · exact .done rfl
  obtain ⟨hl20, hl6, hs80⟩ := few25_get hf
  obtain ⟨at_, hat, hatl⟩ : ∃ k : Nat, (IntKind.i64.wrap cut).tmod (IntKind.i64.wrap ((scr.length : Int) + 1)) = k ∧ k ≤ scr.length := by
    have e1 : IntKind.i64.wrap cut = cut := by rw [IntKind.wrap_i64]; omega
    have e2 : IntKind.i64.wrap ((scr.length : Int) + 1) = ((scr.length + 1 : Nat) : Int) := by rw [IntKind.wrap_i64]; omega
    rw [e1, e2, Int.tmod_eq_emod_of_nonneg hcut.1]
    have h1 := Int.emod_nonneg cut (show ((scr.length + 1 : Nat) : Int) ≠ 0 by omega)
    have h2 := Int.emod_lt_of_pos cut (show (0 : Int) < ((scr.length + 1 : Nat) : Int) by omega)
    exact ⟨(cut % ((scr.length + 1 : Nat) : Int)).toNat, by omega, by omega⟩
  have hA0 : 0 ≤ (IntKind.i64.wrap cut).tmod (IntKind.i64.wrap ((scr.length : Int) + 1)) := by rw [hat]; omega
  have hA1 : (IntKind.i64.wrap cut).tmod (IntKind.i64.wrap ((scr.length : Int) + 1)) ≤ scr.length := by rw [hat]; omega
  refine With.mk (show IntKind.i64.wrap ((scr.length : Int) + 1) ≠ 0 by rw [IntKind.wrap_i64]; omega) ?_
  refine .mk [] _ (aMachines l [] hl6 hl20) ?_
  rintro _ _ ⟨rs, rr, va, vb, aa, ab, hrs, hrr, ha, hb, hz, rfl, rfl⟩
  have hM2 := fun σ => aMachines l σ hl6 hl20
  rcases Nat.eq_zero_or_pos l.length with h0 | h0
  · obtain ⟨rfl, rfl, rfl, rfl⟩ := hz h0
    obtain rfl := List.length_eq_zero_iff.1 h0
    obtain rfl := List.length_eq_zero_iff.1 hrs
    obtain rfl := List.length_eq_zero_iff.1 hrr
    refine .mk [] _ (hM2 _) ?_
    rintro _ _ ⟨rs2, rr2, va2, vb2, aa2, ab2, hrs2, hrr2, ha2, hb2, hz2, rfl, rfl⟩
    obtain ⟨rfl, rfl, rfl, rfl⟩ := hz2 h0
    obtain rfl := List.length_eq_zero_iff.1 hrs2
    obtain rfl := List.length_eq_zero_iff.1 hrr2
    refine .mk [] _ (aNew 4 _) ?_
    rintro _ _ ⟨p, q, rfl, rfl⟩
    refine .mk [] _ (aNew 4 _) ?_
    rintro _ _ ⟨p2, q2, rfl, rfl⟩
    refine callR [] (aRun25n _ _ _) ?_
    intro bx
    refine StoreAt.mk 0 _ _ rfl rfl ?_
    refine With.mk ⟨Int.le_refl _, hA0, hA1, rfl⟩ ?_
    refine callR [] (aRun25n _ _ _) ?_
    intro bl1
    refine StoreAt.mk 0 _ _ rfl rfl ?_
    refine LoadAt.mk 0 _ _ rfl rfl ?_
    refine LoadAt.mk 1 _ _ rfl rfl ?_
    refine LoadAt.mk 0 _ _ rfl rfl ?_
    refine LoadAt.mk 1 _ _ rfl rfl ?_
    refine bcond_dec (fun c2 => ?_) (fun c2 => ?_)
    · have c2 : 0 < if 0 < (IntKind.i64.wrap cut).tmod (IntKind.i64.wrap ((↑scr.length : Int) + 1)) then 0 else (IntKind.i64.wrap cut).tmod (IntKind.i64.wrap ((↑scr.length : Int) + 1)) := c2
      rw [hat] at c2
      exfalso
      split at c2 <;> omega
    · have c2 : ¬ (0 < if 0 < (IntKind.i64.wrap cut).tmod (IntKind.i64.wrap ((↑scr.length : Int) + 1)) then 0 else (IntKind.i64.wrap cut).tmod (IntKind.i64.wrap ((↑scr.length : Int) + 1))) := c2
      refine LoadAt.mk 0 _ _ rfl rfl ?_
      refine LoadAt.mk 0 _ _ rfl rfl ?_
      refine LoadAt.mk 1 _ _ rfl rfl ?_
      refine LoadAt.mk 1 _ _ rfl rfl ?_
      refine LoadAt.mk 0 _ _ rfl rfl ?_
      refine loopS (S := Unit) (fun s => [(1, .fsl pickSh scr), (7, .int .i64 ((IntKind.i64.wrap cut).tmod (IntKind.i64.wrap ((scr.length : Int) + 1)))), (8, .nils), (10, .nils), (12, .ptr p 0), (13, .ptr p2 0), (14, .ptr bx 0), (15, .ptr bl1 0), (100, .int .i64 0), (101, .int .i64 0)])
        (fun s => (bl1, [.fsl (.int .i64) [], .fsl .bool [], .int .i64 0]) :: (bx, [.fsl (.int .i64) [], .fsl .bool [], .int .i64 0]) :: plH p2 q2 [0, 0, 0, 0] (plH p q [0, 0, 0, 0] [])) (fun s => True) (fun s => 0) () ⟨trivial, ⟨rfl, rfl, rfl, rfl, rfl, rfl, rfl, rfl, rfl, rfl, trivial⟩, rfl⟩ ?_
      intro _ g _
      refine With.mk ⟨hA0, hA1, Int.le_refl _, rfl⟩ ?_
      refine callR [] (aRun25n _ _ _) ?_
      refine loopS (S := Unit) (fun s => [(8, .nils), (10, .nils), (12, .ptr p 0), (13, .ptr p2 0), (138, .int .i64 0), (139, .int .i64 0)])
        (fun s => (bl1, [.fsl (.int .i64) [], .fsl .bool [], .int .i64 0]) :: (bx, [.fsl (.int .i64) [], .fsl .bool [], .int .i64 0]) :: plH p2 q2 [0, 0, 0, 0] (plH p q [0, 0, 0, 0] [])) (fun s => True) (fun s => 0) () ⟨trivial, ⟨rfl, rfl, rfl, rfl, rfl, rfl, trivial⟩, rfl⟩ ?_
      intro _ g _
      refine callR [5, 5] (aAll p q [0, 0, 0, 0] _ (by decide)) ?_
      refine callR [5, 5] (aAll p2 q2 [0, 0, 0, 0] _ (by decide)) ?_
      refine callR [] (same10 ([0, 0, 0, 0] : List Int) [0, 0, 0, 0] _ (by decide)) ?_
      exact .done rfl
  · obtain ⟨lx, rfl, rfl⟩ := ha.pos h0
    obtain ⟨ly, rfl, rfl⟩ := hb.pos h0
    obtain ⟨X1, hX1⟩ : ∃ X1, X1 = blkO (rs.map some) (z25 l) := ⟨_, rfl⟩
    obtain ⟨Y1, hY1⟩ : ∃ Y1, Y1 = blkO (rr.map some) (z25 l) := ⟨_, rfl⟩
    refine .perm _ (List.Perm.refl _) (hM2 _) ?_
    rintro _ _ ⟨rs2, rr2, va2, vb2, aa2, ab2, hrs2, hrr2, ha2, hb2, hz2, rfl, rfl⟩
    obtain ⟨la, rfl, rfl⟩ := ha2.pos h0
    obtain ⟨ly2, rfl, rfl⟩ := hb2.pos h0
    obtain ⟨J, hJ⟩ : ∃ J : Hp, J = (ly, rr.map fun r => AV.ptr r 0) :: (ly2, rr2.map fun r => AV.ptr r 0) :: (blkO (rr.map some) (z25 l) ++ blkO (rr2.map some) (z25 l)) := ⟨_, rfl⟩
    refine ⟨(lx, rs.map fun r => .ptr r 0) :: (la, rs2.map fun r => .ptr r 0) :: (blkO (rs.map some) (z25 l) ++ (blkO (rs2.map some) (z25 l) ++ J)), ?_, ?_⟩
    · rw [hJ]
      exact gp2 _ _ _ _ _ _ _ _
    refine .mk [] _ (aNew 4 _) ?_
    rintro _ _ ⟨p, q, rfl, rfl⟩
    refine .mk [] _ (aNew 4 _) ?_
    rintro _ _ ⟨p2, q2, rfl, rfl⟩
    have hz1 : (z25 l).length = l.length := by simp
    have hzl : ∀ x ∈ z25 l, x.1.length ≤ 1000000 := by
      intro x hx
      obtain ⟨y, hy, rfl⟩ := List.mem_map.1 hx
      have := hl20 y hy
      show y.length ≤ 1000000
      omega
    have hc1 := fun σ => aRun25' p q rs (z25 l) [0, 0, 0, 0] scr lx σ hrs (by omega) hz1 (by omega) hzl h0
    refine .perm _ (gp [[_], [_], [_], [_], [_], [_], blkO (rs.map some) (z25 l), blkO (rs2.map some) (z25 l)] J [4, 2, 3, 6, 0, 1, 5, 7] [0, 1, 2, 3, 4, 5, 6, 7] (by decide)) (hc1 _) ?_
    rintro _ _ ⟨R, hR, rfl, rfl⟩
    refine ⟨plH p2 q2 [0, 0, 0, 0] (plH p q R.a.2 ((lx, rs.map fun r => .ptr r 0) :: (la, rs2.map fun r => .ptr r 0) :: (blkO (rs.map some) R.a.1 ++ (blkO (rs2.map some) (z25 l) ++ J)))), gp [[_], [_], [_], [_], [_], [_], blkO (rs.map some) R.a.1, blkO (rs2.map some) (z25 l)] J [0, 1, 2, 3, 4, 5, 6, 7] [4, 2, 3, 6, 0, 1, 5, 7] (by decide), ?_⟩
    intro bx
    refine StoreAt.mk 0 _ _ rfl rfl ?_
    refine With.mk ⟨Int.le_refl _, hA0, hA1, rfl⟩ ?_
    have hc2 := fun s σ hs => aRun25' p2 q2 rs2 (z25 l) [0, 0, 0, 0] s la σ hrs2 (by omega) hz1 hs hzl h0
    refine .perm _ (gp [[_], [_], [_], [_], [_], [_], [_], blkO (rs.map some) R.a.1, blkO (rs2.map some) (z25 l)] J [6, 1, 2, 8, 0, 3, 4, 5, 7] [0, 1, 2, 3, 4, 5, 6, 7, 8] (by decide)) (hc2 _ _ (Nat.le_trans (sub_len _ _ scr) (by omega))) ?_
    rintro _ _ ⟨R2, hR2, rfl, rfl⟩
    have hR2 : R2 = go25 l.length (scr.take at_) ⟨(z25 l, [0, 0, 0, 0]), List.replicate l.length 0, List.replicate l.length false, 0⟩ := hR2.trans (congrArg (fun s => go25 l.length s _) (cut_take hat))
    have hI0 : IN ⟨(z25 l, [0, 0, 0, 0]), List.replicate l.length 0, List.replicate l.length false, 0⟩ := init_IN l
    have hB0 : BB ⟨(z25 l, [0, 0, 0, 0]), List.replicate l.length 0, List.replicate l.length false, 0⟩ := init_BB _ _
    have hRR : R = go25 l.length (scr.drop at_) R2 := by
      have := go_append (n := l.length) (scr.take at_) (scr.drop at_) ⟨(z25 l, [0, 0, 0, 0]), List.replicate l.length 0, List.replicate l.length false, 0⟩
      rw [List.take_append_drop, ← hR, ← hR2] at this
      exact this
    have hm1 := go_mono (n := l.length) (scr.take at_) _ hB0 (by show 0 + _ ≤ 1000; rw [List.length_take]; omega)
    rw [← hR2] at hm1
    obtain ⟨_, hu2, _, _, hend, hB2⟩ := hm1
    have hu2 : R2.us ≤ at_ := by
      have : R2.us ≤ 0 + (scr.take at_).length := hu2
      rw [List.length_take] at this; omega
    have hm2 := go_mono (n := l.length) (scr.drop at_) R2 hB2 (by rw [List.length_drop]; omega)
    rw [← hRR] at hm2
    obtain ⟨f1, _, f3, f4, _, _⟩ := hm2
    have f2 : at_ ≤ R2.us ∨ R.us = R2.us := by
      rcases hend with h | h
      · left
        have : R2.us = 0 + (scr.take at_).length := h
        rw [List.length_take] at this; omega
      · right; rw [hRR]; exact congrArg SSt.us (goS_all _ h)
    have hk1 := goS_keeps (step := stepO) (tell := fun a _ => a) (n := l.length) (fun a => (a.1.length = l.length ∧ ∀ x ∈ a.1, x.1.length ≤ 1000000) ∧ a.2.length = 4) (fun a i d h => ⟨step_ok h.1, (step_ws a i d).trans h.2⟩) (fun _ _ h => h)
    obtain ⟨⟨⟨hL2, hx2⟩, hw2⟩, hst2, hdn2⟩ := hk1 (scr.take at_) ⟨(z25 l, [0, 0, 0, 0]), List.replicate l.length 0, List.replicate l.length false, 0⟩ ⟨⟨hz1, hzl⟩, rfl⟩
    obtain ⟨⟨⟨hL1, _⟩, hw1⟩, hst1, hdn1⟩ := hk1 scr ⟨(z25 l, [0, 0, 0, 0]), List.replicate l.length 0, List.replicate l.length false, 0⟩ ⟨⟨hz1, hzl⟩, rfl⟩
    unfold go25 at hR hR2
    rw [← hR2] at hL2 hx2 hw2 hst2 hdn2
    rw [← hR] at hL1 hw1 hst1 hdn1
    have hst2 : R2.st.length = l.length := hst2.trans List.length_replicate
    have hdn2 : R2.dn.length = l.length := hdn2.trans List.length_replicate
    have hst1 : R.st.length = l.length := hst1.trans List.length_replicate
    have hdn1 : R.dn.length = l.length := hdn1.trans List.length_replicate
    have hI2 : IN R2 := by rw [hR2]; exact go_IN _ _ hI0
    refine ⟨(bx, [.fsl (.int .i64) R.st, .fsl .bool R.dn, .int .i64 R.us]) :: plH p2 q2 R2.a.2 (plH p q R.a.2 ((lx, rs.map fun r => .ptr r 0) :: (la, rs2.map fun r => .ptr r 0) :: (blkO (rs.map some) R.a.1 ++ (blkO (rs2.map some) R2.a.1 ++ J)))), gp [[_], [_], [_], [_], [_], [_], [_], blkO (rs.map some) R.a.1, blkO (rs2.map some) R2.a.1] J [0, 1, 2, 3, 4, 5, 6, 7, 8] [6, 1, 2, 8, 0, 3, 4, 5, 7] (by decide), ?_⟩
    intro bl1
    refine StoreAt.mk 0 _ _ rfl rfl ?_
    refine LoadAt.mk 0 _ _ rfl rfl ?_
    refine LoadAt.mk 1 _ _ rfl rfl ?_
    refine bcond_dec (fun c2 => ?_) (fun _ => ?_)
    · exfalso
      have c2 : (R.us : Int) < (R2.us : Int) := c2
      omega
    refine LoadAt.mk 0 _ _ rfl rfl ?_
    refine LoadAt.mk 1 _ _ rfl rfl ?_
    refine bcond_dec (fun c3 => ?_) (fun _ => ?_)
    · exfalso
      have c3 : (R2.us : Int) < if (R.us : Int) < (IntKind.i64.wrap cut).tmod (IntKind.i64.wrap ((scr.length : Int) + 1)) then (R.us : Int) else (IntKind.i64.wrap cut).tmod (IntKind.i64.wrap ((scr.length : Int) + 1)) := c3
      rw [hat] at c3
      split at c3 <;> omega
    refine LoadAt.mk 0 _ _ rfl rfl ?_
    refine bcond_split (fun c4 => (neL hst2 c4).elim) (fun _ => ?_)
    refine LoadAt.mk 0 _ _ rfl rfl ?_
    refine bcond_split (fun c4 => (neL hdn2 c4).elim) (fun _ => ?_)
    refine LoadAt.mk 1 _ _ rfl rfl ?_
    refine bcond_split (fun c4 => (neL hst1 c4).elim) (fun _ => ?_)
    refine LoadAt.mk 1 _ _ rfl rfl ?_
    refine bcond_split (fun c4 => (neL hdn1 c4).elim) (fun _ => ?_)
    refine LoadAt.mk 0 _ _ rfl rfl ?_
    refine loopS (S := Nat) (fun s => [(1, .fsl pickSh scr), (7, .int .i64 ((IntKind.i64.wrap cut).tmod (IntKind.i64.wrap ((scr.length : Int) + 1)))), (8, .mref lx 0 l.length 1), (10, .mref la 0 l.length 1), (12, .ptr p 0), (13, .ptr p2 0), (14, .ptr bx 0), (15, .ptr bl1 0), (100, .int .i64 R2.st.length), (101, .int .i64 s)])
      (fun s => (bl1, [.fsl (.int .i64) R2.st, .fsl .bool R2.dn, .int .i64 R2.us]) :: (bx, [.fsl (.int .i64) R.st, .fsl .bool R.dn, .int .i64 R.us]) :: plH p2 q2 R2.a.2 (plH p q R.a.2 ((lx, rs.map fun r => .ptr r 0) :: (la, rs2.map fun r => .ptr r 0) :: (blkO (rs.map some) R.a.1 ++ (blkO (rs2.map some) R2.a.1 ++ J))))) (fun s => s ≤ R2.st.length) (fun s => R2.st.length - s) 0 ⟨Nat.zero_le _, ⟨rfl, rfl, rfl, rfl, rfl, rfl, rfl, rfl, rfl, rfl, trivial⟩, rfl⟩ ?_
    intro k g hk
    have hk : k ≤ R2.st.length := hk
    refine bcond_dec (fun hlt => ?_) (fun hge => ?_)
    · have hlt : (k : Int) < R2.st.length := hlt
      have hkl : k < l.length := by omega
      refine .quiet (by kernel_rfl) ?_
      refine LoadAt.mk 0 _ _ rfl rfl ?_
      refine With.mk rfl ?_
      have k1 : k < R2.st.length := by omega
      have k2 : k < R.st.length := by omega
      have k3 : k < R2.dn.length := by omega
      have k4 : k < R.dn.length := by omega
      have hle : R2.st[k] ≤ R.st[k] := by
        have := f3 k
        rw [List.getD_eq_getElem?_getD, List.getD_eq_getElem?_getD, List.getElem?_eq_getElem k1, List.getElem?_eq_getElem k2] at this
        exact this
      have hdd : R2.dn[k] = true → R.dn[k] = true := by
        have := f4 k
        rw [List.getD_eq_getElem?_getD, List.getD_eq_getElem?_getD, List.getElem?_eq_getElem k3, List.getElem?_eq_getElem k4] at this
        exact this
      refine IdxF.mk R2.st[k] (by omega) (get_some k1) ?_
      refine LoadAt.mk 1 _ _ rfl rfl ?_
      refine With.mk rfl ?_
      refine IdxF.mk R.st[k] (by omega) (get_some k2) ?_
      refine bcond_dec (fun c1 => ?_) (fun c1 => ?_)
      · have c1 : R.st[k] < R2.st[k] := c1
        exfalso
        omega
      · have c1 : ¬ (R.st[k] < R2.st[k]) := c1
        refine LoadAt.mk 0 _ _ rfl rfl ?_
        refine With.mk rfl ?_
        cases hd2 : R2.dn[k] with
        | true =>
          refine IdxF.mk true (by omega) ((get_some k3).trans (congrArg some hd2)) ?_
          refine LoadAt.mk 1 _ _ rfl rfl ?_
          refine With.mk rfl (IdxF.mk true (by omega) ((get_some k4).trans (congrArg some (hdd hd2))) ?_)
          exact next (k + 1) (by show R2.st.length - (k + 1) < R2.st.length - k; omega) k1 ⟨rfl, rfl, rfl, rfl, rfl, rfl, rfl, rfl, rfl, inc64 (by omega), trivial⟩ rfl
        | false =>
          refine IdxF.mk false (by omega) ((get_some k3).trans (congrArg some hd2)) ?_
          exact next (k + 1) (by show R2.st.length - (k + 1) < R2.st.length - k; omega) k1 ⟨rfl, rfl, rfl, rfl, rfl, rfl, rfl, rfl, rfl, inc64 (by omega), trivial⟩ rfl
    · have hge : ¬ (k : Int) < R2.st.length := hge
      refine With.mk ⟨hA0, hA1, Int.le_refl _, rfl⟩ ?_
      have hc3 := fun s σ hs => aRun25' p2 q2 rs2 R2.a.1 R2.a.2 s la σ hrs2 (by omega) hL2 hs hx2 h0
      refine .perm _ (gp [[_], [_], [_], [_], [_], [_], [_], [_], blkO (rs.map some) R.a.1, blkO (rs2.map some) R2.a.1] J [7, 2, 3, 9, 0, 1, 4, 5, 6, 8] [0, 1, 2, 3, 4, 5, 6, 7, 8, 9] (by decide)) (hc3 _ _ (Nat.le_trans (sub_len _ _ scr) (by omega))) ?_
      rintro _ _ ⟨R3, hR3, rfl, rfl⟩
      refine ⟨(bl1, [.fsl (.int .i64) R2.st, .fsl .bool R2.dn, .int .i64 R2.us]) :: (bx, [.fsl (.int .i64) R.st, .fsl .bool R.dn, .int .i64 R.us]) :: plH p2 q2 R3.a.2 (plH p q R.a.2 ((lx, rs.map fun r => .ptr r 0) :: (la, rs2.map fun r => .ptr r 0) :: (blkO (rs.map some) R.a.1 ++ (blkO (rs2.map some) R3.a.1 ++ J)))), gp [[_], [_], [_], [_], [_], [_], [_], [_], blkO (rs.map some) R.a.1, blkO (rs2.map some) R3.a.1] J [0, 1, 2, 3, 4, 5, 6, 7, 8, 9] [7, 2, 3, 9, 0, 1, 4, 5, 6, 8] (by decide), ?_⟩
      have hR3 : R3 = go25 l.length (scr.drop at_) ⟨R2.a, List.replicate l.length 0, List.replicate l.length false, 0⟩ := hR3.trans (congrArg (fun s => go25 l.length s _) (cut_drop hat))
      have hEq : R3.a = R.a := by
        rw [hR3, hRR]
        refine (sim (n := l.length) (scr.drop at_) R2 ⟨R2.a, List.replicate l.length 0, List.replicate l.length false, 0⟩ rfl (fun i hi => ?_) hI2).symm
        have hi : (List.replicate l.length false).getD i true = true := hi
        have hge : l.length ≤ i := by
          rcases Nat.lt_or_ge i l.length with h | h
          · rw [List.getD_eq_getElem?_getD, List.getElem?_replicate, if_pos h] at hi; cases hi
          · exact h
        rw [List.getD_eq_getElem?_getD, List.getElem?_eq_none (by omega)]; rfl
      rw [hEq]
      refine loopS (S := Nat) (fun s => [(8, .mref lx 0 l.length 1), (10, .mref la 0 l.length 1), (12, .ptr p 0), (13, .ptr p2 0), (138, .int .i64 l.length), (139, .int .i64 s)])
        (fun s => (bl1, [.fsl (.int .i64) R2.st, .fsl .bool R2.dn, .int .i64 R2.us]) :: (bx, [.fsl (.int .i64) R.st, .fsl .bool R.dn, .int .i64 R.us]) :: plH p2 q2 R.a.2 (plH p q R.a.2 ((lx, rs.map fun r => .ptr r 0) :: (la, rs2.map fun r => .ptr r 0) :: (blkO (rs.map some) R.a.1 ++ (blkO (rs2.map some) R.a.1 ++ J))))) (fun s => s ≤ l.length) (fun s => l.length - s) 0 ⟨Nat.zero_le _, ⟨rfl, rfl, rfl, rfl, rfl, rfl, trivial⟩, rfl⟩ ?_
      intro k g hk
      have hk : k ≤ l.length := hk
      refine bcond_dec (fun hlt => ?_) (fun hge => ?_)
      · have hlt : (k : Int) < l.length := hlt
        have hkl : k < l.length := by omega
        obtain ⟨X', hX'⟩ := blk_pick (rs := rs) (L := R.a.1) (k := k) (by omega) (by omega)
        obtain ⟨Y', hY'⟩ := blk_pick (rs := rs2) (L := R.a.1) (k := k) (by omega) (by omega)
        have g1 := fun fr : Hp => pick_in hX' fr (blkO (rs2.map some) R.a.1 ++ J)
        have g2 := fun fr : Hp => pick_in hY' (fr ++ blkO (rs.map some) R.a.1) J
        have r1 := fun fr : Hp => (aRegs rs[k] R.a.1[k].1 R.a.1[k].2 (fr ++ (X' ++ (blkO (rs2.map some) R.a.1 ++ J)))).perm2 (g1 fr).symm (g1 fr)
        have r2 := fun fr : Hp => (aRegs rs2[k] R.a.1[k].1 R.a.1[k].2 ((fr ++ blkO (rs.map some) R.a.1) ++ (Y' ++ J))).perm2 (g2 fr).symm (g2 fr)
        have r3 := fun fr : Hp => (aAt rs[k] R.a.1[k].1 R.a.1[k].2 (fr ++ (X' ++ (blkO (rs2.map some) R.a.1 ++ J)))).perm2 (g1 fr).symm (g1 fr)
        have r4 := fun fr : Hp => (aAt rs2[k] R.a.1[k].1 R.a.1[k].2 ((fr ++ blkO (rs.map some) R.a.1) ++ (Y' ++ J))).perm2 (g2 fr).symm (g2 fr)
        refine .quiet (by kernel_rfl) ?_
        refine With.mk ⟨rfl, by omega, by omega⟩ ?_
        refine LoadAt.mk 6 _ _ rfl (p_get (rs := rs) (i := k) (by omega)) ?_
        refine callQ [] (r1 [_, _, _, _, _, _, _, _]) ?_
        refine With.mk ⟨rfl, by omega, by omega⟩ ?_
        refine LoadAt.mk 7 _ _ rfl (p_get (rs := rs2) (i := k) (by omega)) ?_
        refine callQ [] (r2 [_, _, _, _, _, _, _, _]) ?_
        refine EqAt.mk (by kernel_rfl) (by kernel_rfl) ?_
        refine bcond_split (fun c1 => (eq4 c1).elim) (fun _ => ?_)
        refine With.mk ⟨rfl, by omega, by omega⟩ ?_
        refine LoadAt.mk 6 _ _ rfl (p_get (rs := rs) (i := k) (by omega)) ?_
        refine callQ [] (r3 [_, _, _, _, _, _, _, _]) ?_
        refine With.mk ⟨rfl, by omega, by omega⟩ ?_
        refine LoadAt.mk 7 _ _ rfl (p_get (rs := rs2) (i := k) (by omega)) ?_
        refine callQ [] (r4 [_, _, _, _, _, _, _, _]) ?_
        refine bcond_split (fun c2 => (neP2 c2).elim) (fun _ => ?_)
        exact next (k + 1) (by show l.length - (k + 1) < l.length - k; omega) hkl ⟨rfl, rfl, rfl, rfl, rfl, inc64 (by omega), trivial⟩ rfl
      · have hge : ¬ (k : Int) < l.length := hge
        refine callR [5, 5] (aAll p q R.a.2 _ (by omega)) ?_
        refine callR [5, 5] (aAll p2 q2 R.a.2 _ (by omega)) ?_
        refine callR [] (same10 R.a.2 R.a.2 _ (by omega)) ?_
        exact .done (congrArg AV.bool (decide_eq_true rfl))
end Go.Proofs.Ytldiocdjgbehcaa
