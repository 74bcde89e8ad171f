/-
  Lpc: what the claim uses of them.
-/
import Derived.Test.YtljbnigceammdaaGreatDoorBn41
import Derived.Test.YtljbnigceammdaaGreatDoorBn42
import Derived.Test.YtljbnigceammdaaGreatDoorBn44
namespace Go.Proofs.YtljbnigceammdaaGreatDoor
open Go.RowKit
set_option maxRecDepth 100000
theorem aFlowBack (n : Int) (l : List EdgeT) (a : Int) (σ : Hp) (hl : l.length ≤ 100000) : ACalls Tryz.prog 91 [.int .i64 n, .fsl edgeSh l, .int .i64 a] σ (Ret (.fsl (.int .i64) (toS n (sortedE (turnE l)) a)) σ) := by
  have h2 : (sortedE (turnE l)).length ≤ 100000 := Nat.le_trans (by rw [← insK_all]; exact insK_len (turnE l) _ (Nat.le_refl _)) (by rw [turnE_length]; exact hl)
  refine okF Tryz.func91 (by kernel_rfl) ?_
  refine callR [] (aFlowReverse l _ hl) ?_
  refine callR [] (aNext n (sortedE (turnE l)) a _ h2) ?_
  exact .done ⟨rfl, rfl⟩
theorem aBack1 (b8 : Nat) (A : List (List Int)) (x : EdgeT) (σ : Hp) (h : 0 ≤ x.1 ∧ x.1 < A.length) (hr : ∀ w ∈ A, w.length ≤ 1000) (A' : Hp) : ACalls Tryz.prog 59 (.agg (cellE x) :: [.ptr b8 0]) (A' ++ ((b8, [.fsl (.slice (.int .i64)) A]) :: σ)) (Ret (.bool (decide (x.2.1 ∈ A.getD x.1.toNat []))) (A' ++ ((b8, [.fsl (.slice (.int .i64)) A]) :: σ))) := by
  obtain ⟨x1, x2, xu⟩ := x
  have h : 0 ≤ x1 ∧ x1 < A.length := h
  have hlt : x1.toNat < A.length := by omega
  have hg : A[x1.toNat]? = some (A.getD x1.toNat []) := by rw [List.getD_eq_getElem?_getD, List.getElem?_eq_getElem hlt]; rfl
  have hgl := hr (A.getD x1.toNat []) (by rw [List.getD_eq_getElem?_getD, List.getElem?_eq_getElem hlt]; exact List.getElem_mem hlt)
  have key : ACalls Tryz.prog 59 (.agg (cellE (x1, x2, xu)) :: [.ptr b8 0]) ((b8, [.fsl (.slice (.int .i64)) A]) :: (A' ++ σ)) (Ret (.bool (decide (x2 ∈ A.getD x1.toNat []))) ((b8, [.fsl (.slice (.int .i64)) A]) :: (A' ++ σ))) := by
    refine okF Tryz.func59 (by kernel_rfl) ?_
    intro bx
    refine .quiet (by kernel_rfl) ?_
    refine LoadAt.mk 1 _ _ rfl rfl ?_
    refine LoadAt.mk 0 _ _ rfl rfl ?_
    refine With.mk rfl ?_
    refine IdxF.mk (A.getD x1.toNat []) h.1 hg ?_
    refine LoadAt.mk 0 _ _ rfl rfl ?_
    refine callQ [] (acalls_eq (aContainsI (A.getD x1.toNat []) x2 _ (by omega)) (av_bool (any_inD _ _))) ?_
    exact .drop 0 1 (.done ⟨rfl, rfl⟩)
  exact acalls_permR key List.perm_middle.symm List.perm_middle
theorem aLoopsBackNo (n r : Int) (l : List EdgeT) (σ : Hp) (hl : l.length ≤ 1000000) (h : ¬ (rightE n l = true ∧ 0 ≤ r ∧ r < n)) : ACalls Tryz.prog 30 [.int .i64 n, .fsl edgeSh l, .int .i64 r] σ (Ret (.tup [.fsl edgeSh ([] : List EdgeT), .int .i64 1]) σ) := by
  refine okF Tryz.func30 (by kernel_rfl) ?_
  refine callR [] (aDomAllNo n r l _ hl h) ?_
  intro bl1
  refine StoreAt.mk 0 _ _ rfl rfl ?_
  exact .nil (frz_cons (.nil _) (.refl _)) (.drop 0 1 (.done ⟨rfl, rfl⟩))
theorem aLoopsBack (N r : Nat) (l : List EdgeT) (σ : Hp) (d : DG N r l) (hg : (gT, tabT) ∈ σ) : ACalls Tryz.prog 30 [.int .i64 N, .fsl edgeSh l, .int .i64 r] σ (Ret (.tup [.fsl edgeSh (backP N l r), .int .i64 0]) σ) := by
  obtain ⟨z, hz⟩ : ∃ z : Int, z = 0 := ⟨_, rfl⟩
  have hA : ∀ ρ, (gT, tabT) ∈ ρ → ACalls Tryz.prog 11 [.int .i64 N, .fsl edgeSh l, .int .i64 r] ρ (Ret (.tup [.fsl (.slice (.int .i64)) (domAll N l r), .int .i64 z]) ρ) := fun ρ hm => hz ▸ aDomAll N r l ρ d.h1 d.h8 d.hl d.ri d.hr hm
  have hl := d.hl
  have hee : ∀ e ∈ l, (0 ≤ e.1 ∧ e.1 < (N : Int)) ∧ 0 ≤ e.2.1 ∧ e.2.1 < (N : Int) := fun e he => by
    have hri := d.ri
    unfold rightE at hri
    simp only [Bool.and_eq_true, List.all_eq_true] at hri
    have := hri.2 e he
    exact ⟨node_iff.1 this.1, node_iff.1 this.2⟩
  have hsl : (sortedE l).length ≤ 1000 := Nat.le_trans (by rw [← insK_all]; exact insK_len l _ (Nat.le_refl _)) hl
  have hwl : ∀ w ∈ domAll N l r, w.length ≤ 1000 := fun w hw => by
    unfold domAll at hw
    obtain ⟨v, _, rfl⟩ := List.mem_map.1 hw
    exact Nat.le_trans (domRow_small N l r v) (by decide)
  refine okF Tryz.func30 (by kernel_rfl) ?_
  refine callR [] (hA _ hg) ?_
  intro b8
  refine StoreAt.mk 0 _ _ rfl rfl ?_
  refine bcond_split (fun c1 => absurd hz (by simpa using c1)) (fun c1 => ?_)
  refine callR [] (aFlowSorted l _ (by omega)) ?_
  have hK := aKeptE 59 [.ptr b8 0] (sortedE l) (fun x => decide (x.2.1 ∈ (domAll N l r).getD x.1.toNat [])) ((b8, [.fsl (.slice (.int .i64)) (domAll N l r)]) :: σ) (by omega) (fun x hx A' => aBack1 b8 (domAll N l r) x σ (by rw [domAll_length]; exact (hee x ((sortedE_mem l x).1 hx)).1) hwl A')
  have hf : (sortedE l).filter (fun x => decide (x.2.1 ∈ (domAll N l r).getD x.1.toNat [])) = backP N l r := by
    unfold backP
    refine List.filter_congr fun x hx => ?_
    rw [all_getD (hee x ((sortedE_mem l x).1 hx)).1]
  refine callR [] (acalls_eq hK (congrArg (AV.fsl edgeSh) hf)) ?_
  exact .drop 0 1 (.done ⟨rfl, rfl⟩)
/-- kept, of some nodes: what it tells stays open. -/
theorem aKeptIO (f : FuncId) (caps : List AV) (L : List Int) (p : Int → Bool) (σ : Hp) (h : L ≠ []) (hl : L.length ≤ 1000000) (hc : ∀ x ∈ L, ∀ A : Hp, ACalls Tryz.prog f (.int .i64 x :: caps) (A ++ σ) (Ret (.bool (p x)) (A ++ σ))) : ACalls Tryz.prog 89 [.fsl (.int .i64) L, .fn (.func f) [] caps] σ (fun r σ' => ∃ b cs, r = .mref b 0 (L.filter p).length 1 ∧ (cs.drop 0).take ((L.filter p).length * 1) = inC (L.filter p) ∧ 0 + (L.filter p).length * 1 ≤ cs.length ∧ σ' = (b, cs) :: σ) := by
  have hk : ∀ b3, ∀ x ∈ L, ∀ A : Hp, ACalls Tryz.prog 120 (.int .i64 x :: [.ptr b3 0]) (A ++ ((b3, [.fn (.func f) [] caps]) :: σ)) (Ret (.bool (!p x)) (A ++ ((b3, [.fn (.func f) [] caps]) :: σ))) := fun b3 x hx A => aKept1I f caps b3 p x σ (hc x hx) A
  refine okF Tryz.func89 (by kernel_rfl) ?_
  intro b3
  have hC : ∀ σ, ACalls Tryz.prog 119 [.fsl (.int .i64) L] σ (fun x σ' => ∃ b, x = .mref b 0 L.length 1 ∧ σ' = (b, L.flatMap cellI) :: σ) := fun σ => by
    refine okF Tryz.func119 (by kernel_rfl) ?_
    refine With.mk (List.length_pos_iff.2 h) ?_
    intro b2
    refine AppendAt.more 0 b2 0 L.length [] (L.flatMap cellI) rfl rfl (Nat.le_of_ble_eq_true rfl) (.fsl _ _ rfl) (by omega) (by decide) (by decide) (fun b' => ?_)
    refine .done ⟨b', ?_, ?_⟩
    · rw [Nat.zero_add]; rfl
    · rfl
  refine .mk [] _ (hC _) ?_
  rintro _ _ ⟨b, rfl, rfl⟩
  refine .mk [] _ (aDelKI 120 [.ptr b3 0] b L p _ hl (hk b3)) ?_
  rintro _ _ ⟨k, cs, h1, h2, rfl, rfl⟩
  subst h1
  have hlen := congrArg List.length h2
  rw [List.length_take, row_length cellI_len] at hlen
  exact .drop 1 1 (.done ⟨b, cs, rfl, by rw [List.drop_zero, h2]; exact flatI _, by omega, rfl⟩)
theorem with_roundS {P : Program} {TT : TypeId → Option TI} {fn : Go.Func} {a c : Go.Code} {xs : List AV} {σ : Hp} {R : AV → Hp → Prop} {S : Type} (hb : fn.body = some (.seq a (.scope c))) (lab : S → Nat) (L : S → List (Nat × AV)) (H : S → Hp) (p : S → Prop) (μ : S → Nat)
    (hr : RoundG (codeW P TT 998) c lab L H p μ (exitW TT fn.results.toList R))
    (h : RoundG (codeW P TT 998) c lab L H p μ (exitW TT fn.results.toList R) → codeF P TT (codeW P TT 999) (.seq a (.scope c)) (t0 xs) σ (exitW TT fn.results.toList R)) : bodyW P TT fn xs σ R := by
  have h1 : codeW P TT 1000 (.seq a (.scope c)) (t0 xs) σ (exitW TT fn.results.toList R) := h hr
  unfold bodyW
  rw [hb]
  exact h1
theorem aBody1 (bh : Nat) (h x : Int) (σ A : Hp) : ACalls Tryz.prog 90 (.int .i64 x :: [.ptr bh 0]) (A ++ ((bh, [.int .i64 h]) :: σ)) (Ret (.bool (decide (x ≠ h))) (A ++ ((bh, [.int .i64 h]) :: σ))) := by
  have key : ACalls Tryz.prog 90 (.int .i64 x :: [.ptr bh 0]) ((bh, [.int .i64 h]) :: (A ++ σ)) (Ret (.bool (decide (x ≠ h))) ((bh, [.int .i64 h]) :: (A ++ σ))) := by
    refine okF Tryz.func90 (by kernel_rfl) ?_
    refine LoadAt.mk 0 _ _ rfl rfl ?_
    refine bcond_split (fun c1 => ?_) (fun c1 => ?_)
    · have c1 : ¬ (x = h) := by simpa using c1
      exact .done ⟨av_bool (decide_eq_true (by assumption)).symm, rfl⟩
    · have c1 : x = h := by simpa using c1
      exact .done ⟨av_bool (decide_eq_false (fun h => h (by assumption))).symm, rfl⟩
  exact acalls_permR key List.perm_middle.symm List.perm_middle
theorem aBody2 (bp bm : Nat) (ml : List (Int × Int)) (x : Int) (σ A : Hp) : ACalls Tryz.prog 92 (.int .i64 x :: [.ptr bp 0]) (A ++ ((bp, [.mapr bm]) :: (bm, [.mapc ml]) :: σ)) (Ret (.bool (decide (mkM ml x = 1))) (A ++ ((bp, [.mapr bm]) :: (bm, [.mapc ml]) :: σ))) := by
  have key : ACalls Tryz.prog 92 (.int .i64 x :: [.ptr bp 0]) ((bp, [.mapr bm]) :: (bm, [.mapc ml]) :: (A ++ σ)) (Ret (.bool (decide (mkM ml x = 1))) ((bp, [.mapr bm]) :: (bm, [.mapc ml]) :: (A ++ σ))) := by
    refine okF Tryz.func92 (by kernel_rfl) ?_
    refine LoadAt.mk 0 _ _ rfl rfl ?_
    refine MapAt.mk 1 _ _ rfl rfl ?_
    refine bcond_dec (fun c1 => ?_) (fun c1 => ?_)
    · have c1 : (getM ml x).getD 0 = 1 := c1
      exact .done ⟨av_bool (decide_eq_true (by assumption)).symm, rfl⟩
    · have c1 : ¬ ((getM ml x).getD 0 = 1) := c1
      exact .done ⟨av_bool (decide_eq_false (by assumption)).symm, rfl⟩
  have hp : ((bp, [AV.mapr bm]) :: (bm, [AV.mapc ml]) :: (A ++ σ) : Hp).Perm (A ++ ((bp, [.mapr bm]) :: (bm, [.mapc ml]) :: σ)) := ((List.Perm.cons _ List.perm_middle.symm).trans List.perm_middle.symm)
  exact acalls_permR key hp hp.symm
/-- The first one of such a list is taken. -/
theorem accO_front {k : Nat} {v : AV} {acc : Hp} {cs : List AV} {x : AV} (h : AccO 1 (k + 1) v acc (x :: cs)) : ∃ b off all, v = .mref b off (k + 1) 1 ∧ acc = [(b, all)] ∧ all[off + 0 * 1]? = some x ∧ AccO 1 k (.mref b (off + 1 * 1) k 1) [(b, all)] cs := by
  obtain ⟨b, off, all, rfl, rfl, h1, h2⟩ := accO_one (by omega) h
  rw [Nat.mul_one] at h1 h2
  refine ⟨b, off, all, rfl, rfl, ?_, .mref b (off + 1 * 1) k cs all ?_ (by omega)⟩
  · have := congrArg (fun l => l[0]?) h1
    rw [List.getElem?_take, if_pos (by omega), List.getElem?_drop] at this
    simpa using this
  · have := congrArg List.tail h1
    rw [Nat.mul_one, Nat.mul_one]
    rw [← List.drop_one, ← List.drop_one, List.drop_take, List.drop_drop] at this
    simpa using this
theorem accO_val {e k : Nat} {v : AV} {acc : Hp} {cs : List AV} (h : AccO e k v acc cs) : v = .nils ∨ ∃ b off, v = .mref b off k e := by
  cases h with
  | nil => exact .inl rfl
  | mref b off => exact .inr ⟨b, off, rfl⟩
theorem aBody (N : Nat) (l : List EdgeT) (h : Int) (F R : List Int) (σ : Hp) (hN : N ≤ 8) (hl : l.length ≤ 1000) (hh : 0 ≤ h ∧ h < N) (hF : ∀ f ∈ F, 0 ≤ f ∧ f < (N : Int)) (hFn : F ≠ []) (hFl : F.length ≤ 1000) (hRl : R.length ≤ 1000) :
    ACalls Tryz.prog 58 [.int .i64 N, .fsl edgeSh l, .int .i64 h, .fsl (.int .i64) F, .fsl (.int .i64) R] σ (Ret (.fsl (.int .i64) (bodyP N l h F R)) σ) := by
  refine okF Tryz.func58 (by kernel_rfl) ?_
  have hMR : ∀ ml, BI N l h F ml [] → R.filter (fun x => decide (mkM ml x = 1)) = bodyP N l h F R := fun ml hb => by
    unfold bodyP
    refine List.filter_congr fun x _ => Bool.eq_iff_iff.2 ?_
    rw [decide_eq_true_eq, hb.done, inLoop_iff hF]
  have hend : ∀ (ml : List (Int × Int)) (bp bm bh : Nat) (acc : Hp), BI N l h F ml [] → ACalls Tryz.prog 89 [.fsl (.int .i64) R, .fn (.func 92) [] [.ptr bp 0]] ((bp, [.mapr bm]) :: (bm, [.mapc ml]) :: (bh, [.int .i64 h]) :: (acc ++ σ)) (Ret (.fsl (.int .i64) (bodyP N l h F R)) ((bp, [.mapr bm]) :: (bm, [.mapc ml]) :: (bh, [.int .i64 h]) :: (acc ++ σ))) := fun ml bp bm bh acc hb =>
    acalls_eq (aKeptI 92 [.ptr bp 0] R (fun x => decide (mkM ml x = 1)) _ (by omega) (fun x _ A => aBody2 bp bm ml x ((bh, [.int .i64 h]) :: (acc ++ σ)) A)) (congrArg (AV.fsl (.int .i64)) (hMR ml hb))
  refine with_roundS (S := (AV × Hp × List (Int × Int) × List Int) × Nat × Nat × Nat) rfl (fun _ => 0)
    (fun x => [(0, .int .i64 N), (1, .fsl edgeSh l), (4, .fsl (.int .i64) R), (11, .ptr x.2.1 0), (12, x.1.1)])
    (fun x => (x.2.1, [.mapr x.2.2.1]) :: (x.2.2.1, [.mapc x.1.2.2.1]) :: (x.2.2.2, [.int .i64 h]) :: (x.1.2.1 ++ σ))
    (fun x => BI N l h F x.1.2.2.1 x.1.2.2.2 ∧ AccO 1 x.1.2.2.2.length x.1.1 x.1.2.1 (inC x.1.2.2.2) ∧ unM x.1.2.2.1 N * (1000 + 1) + x.1.2.2.2.length ≤ 100000)
    (fun x => unM x.1.2.2.1 N * (1000 + 1) + x.1.2.2.2.length) ?_ ?_
  · rintro ⟨⟨v, acc, ml, W⟩, bp, bm, bh⟩ g ⟨hB0, hA0, hM0⟩
    have hB : BI N l h F ml W := hB0
    have hA : AccO 1 W.length v acc (inC W) := hA0
    have hM : unM ml N * (1000 + 1) + W.length ≤ 100000 := hM0
    clear hB0 hA0 hM0
    cases W with
    | nil =>
      have hA : AccO 1 0 v acc [] := hA
      cases hA with
      | nil =>
        refine callR [] (hend ml bp bm bh [] hB) ?_
        exact .drop 0 3 (.done ⟨rfl, rfl⟩)
      | mref b off =>
        refine callR [] (hend ml bp bm bh [_] hB) ?_
        exact .drop 0 4 (.done ⟨rfl, rfl⟩)
    | cons a W =>
      have han := hB.node hh hF a (List.mem_cons_self ..)
      obtain ⟨k, hk⟩ : ∃ k, W.length = k := ⟨_, rfl⟩
      have hA : AccO 1 (k + 1) v acc (.int .i64 a :: inC W) := by rw [← hk]; exact hA
      obtain ⟨b, off, all, rfl, rfl, q1, q2⟩ := accO_front hA
      have hlk : (a :: W).length = k + 1 := by rw [List.length_cons, hk]
      have hM : unM ml N * (1000 + 1) + (k + 1) ≤ 100000 := by rw [← hlk]; exact hM
      refine bcond_dec (p := (0 : Int) < ((k + 1 : Nat) : Int)) (fun c1 => ?_) (fun c1 => absurd c1 (by omega))
      refine With.mk (show 1 = 1 ∧ (0 : Int) ≤ 0 ∧ (0 : Int) < ((k + 1 : Nat) : Int) from ⟨rfl, Int.le_refl _, c1⟩) ?_
      refine LoadAt.mk 3 _ _ rfl (read1 rfl q1) ?_
      refine With.mk (show (0 : Int) ≤ 1 ∧ (1 : Int) ≤ ((k + 1 : Nat) : Int) ∧ ((k + 1 : Nat) : Int) ≤ ((k + 1 : Nat) : Int) ∧ (1 : Nat) = 1 from ⟨by decide, by omega, Int.le_refl _, rfl⟩) ?_
      refine LoadAt.mk 0 _ _ rfl rfl ?_
      refine MapAt.mk 1 _ _ rfl rfl ?_
      refine bcond_dec (p := mkM ml a = 0) (fun c1 => ?_) (fun c1 => ?_)
      · refine LoadAt.mk 0 _ _ rfl rfl ?_
        refine MapAt.mk 1 _ _ rfl rfl ?_
        have hBm := hB.mark c1
        have hun := unM_put (a := a.toNat) (ml := ml) (by rw [Int.toNat_of_nonneg han.1]; exact c1) N
        rw [Int.toNat_of_nonneg han.1, if_pos (by omega)] at hun
        have hbl : (backZ N l a).length ≤ 1000 := Nat.le_trans (toS_length ..) (by show N ≤ 1000; omega)
        refine callR [] (aFlowBack N l a _ (by omega)) ?_
        refine append_accOV (i := ⟨.int .i64, 1, 8, [.int .i64 0]⟩) [_, _, _] q2 (.fsl (.int .i64) (backZ N l a) rfl) (by rw [← inC_flat, inC_length]; exact (Nat.mul_one _).symm) (by show k + (backZ N l a).length ≤ 1048576; omega) (by decide) (by decide) (fun v' acc' h' => ?_)
        rw [← inC_flat] at h'
        have hal : (W ++ backZ N l a).length = k + (backZ N l a).length := by rw [List.length_append, hk]
        have hai : inC (W ++ backZ N l a) = inC W ++ inC (backZ N l a) := List.map_append
        rcases accO_val h' with rfl | ⟨b2, off2, rfl⟩
        · refine .mk ((.nils, acc', putM ml a 1, W ++ backZ N l a), bp, bm, bh) rfl (by show unM (putM ml a 1) N * (1000 + 1) + (W ++ backZ N l a).length < unM ml N * (1000 + 1) + (a :: W).length; rw [hal, hlk]; omega) ⟨hBm, by rw [hal, hai]; exact h', by show unM (putM ml a 1) N * (1000 + 1) + (W ++ backZ N l a).length ≤ 100000; rw [hal]; omega⟩ ⟨rfl, rfl, rfl, rfl, rfl, trivial⟩ (.refl _)
        · refine .mk ((.mref b2 off2 (k + (backZ N l a).length) 1, acc', putM ml a 1, W ++ backZ N l a), bp, bm, bh) rfl (by show unM (putM ml a 1) N * (1000 + 1) + (W ++ backZ N l a).length < unM ml N * (1000 + 1) + (a :: W).length; rw [hal, hlk]; omega) ⟨hBm, by rw [hal, hai]; exact h', by show unM (putM ml a 1) N * (1000 + 1) + (W ++ backZ N l a).length ≤ 100000; rw [hal]; omega⟩ ⟨rfl, rfl, rfl, rfl, rfl, trivial⟩ (.refl _)
      · refine .mk ((.mref b (off + 1 * 1) k 1, [(b, all)], ml, W), bp, bm, bh) rfl (by show unM ml N * (1000 + 1) + W.length < unM ml N * (1000 + 1) + (a :: W).length; rw [hlk, hk]; omega) ⟨hB.skip c1, by rw [hk]; exact q2, by show unM ml N * (1000 + 1) + W.length ≤ 100000; rw [hk]; omega⟩ ⟨rfl, rfl, rfl, rfl, rfl, trivial⟩ (.refl _)
  · intro hr
    intro bl1
    intro bl2
    refine LoadAt.mk 1 _ _ rfl rfl ?_
    refine MapAt.mk 0 _ _ rfl rfl ?_
    intro bl3
    refine StoreAt.mk 0 _ _ rfl rfl ?_
    have hK := aKeptIO 90 [.ptr bl1 0] F (fun a => decide (a ≠ h)) ((bl3, [.mapr bl2]) :: (bl2, [.mapc [(h, 1)]]) :: (bl1, [.int .i64 h]) :: σ) hFn (by omega) (fun x _ A => by
      have := aBody1 bl1 h x σ (A ++ [(bl3, [.mapr bl2]), (bl2, [.mapc [(h, 1)]])])
      rw [List.append_assoc] at this
      exact this)
    refine .mk [] _ hK ?_
    rintro _ _ ⟨b, cs, rfl, q1, q2, rfl⟩
    have hBs := BI.start N l h F
    obtain ⟨W, hW⟩ : ∃ W, F.filter (fun a => decide (a ≠ h)) = W := ⟨_, rfl⟩
    rw [hW] at hBs q1 q2
    rw [hW]
    have hWl : W.length ≤ 1000 := by rw [← hW]; exact Nat.le_trans (List.length_filter_le _ _) hFl
    have hB : BI N l h F [(h, 1)] W := hBs
    have hA : AccO 1 W.length (.mref b 0 W.length 1) [(b, cs)] (inC W) := .mref _ _ _ _ _ q1 q2
    have hun0 := unM_le [(h, 1)] N
    cases W with
    | nil =>
      refine callR [3, 3, 3] (hend [(h, 1)] bl3 bl2 bl1 [(b, cs)] hB) ?_
      exact .drop 0 4 (.done ⟨rfl, rfl⟩)
    | cons a W =>
      have han := hB.node hh hF a (List.mem_cons_self ..)
      obtain ⟨k, hk⟩ : ∃ k, W.length = k := ⟨_, rfl⟩
      have hlk : (a :: W).length = k + 1 := by rw [List.length_cons, hk]
      have hWl : k + 1 ≤ 1000 := hlk ▸ hWl
      have hA : AccO 1 (k + 1) (.mref b 0 (k + 1) 1) [(b, cs)] (.int .i64 a :: inC W) := by rw [← hk]; exact hA
      obtain ⟨b', off', all', e1, e2, q1, q2⟩ := accO_front hA
      injection e1 with e1 e3 e4 e5
      subst e1; subst e3
      obtain rfl : cs = all' := by injection e2 with e2; injection e2
      rw [hlk]
      refine bcond_dec (p := (0 : Int) < ((k + 1 : Nat) : Int)) (fun c1 => ?_) (fun c1 => absurd c1 (by omega))
      refine With.mk (show 1 = 1 ∧ (0 : Int) ≤ 0 ∧ (0 : Int) < ((k + 1 : Nat) : Int) from ⟨rfl, Int.le_refl _, c1⟩) ?_
      refine LoadAt.mk 0 _ _ rfl (read1 rfl q1) ?_
      refine With.mk (show (0 : Int) ≤ 1 ∧ (1 : Int) ≤ ((k + 1 : Nat) : Int) ∧ ((k + 1 : Nat) : Int) ≤ ((k + 1 : Nat) : Int) ∧ (1 : Nat) = 1 from ⟨by decide, by omega, Int.le_refl _, rfl⟩) ?_
      refine LoadAt.mk 1 _ _ rfl rfl ?_
      refine MapAt.mk 2 _ _ rfl rfl ?_
      refine bcond_dec (p := mkM [(h, 1)] a = 0) (fun c1 => ?_) (fun c1 => ?_)
      · refine LoadAt.mk 1 _ _ rfl rfl ?_
        refine MapAt.mk 2 _ _ rfl rfl ?_
        have hBm := hB.mark c1
        have hun := unM_put (a := a.toNat) (ml := [(h, 1)]) (by rw [Int.toNat_of_nonneg han.1]; exact c1) N
        rw [Int.toNat_of_nonneg han.1, if_pos (by omega)] at hun
        have hbl : (backZ N l a).length ≤ 1000 := Nat.le_trans (toS_length ..) (by show N ≤ 1000; omega)
        refine callR [3, 3, 3] (aFlowBack N l a _ (by omega)) ?_
        refine append_accOV (i := ⟨.int .i64, 1, 8, [.int .i64 0]⟩) [_, _, _] q2 (.fsl (.int .i64) (backZ N l a) rfl) (by rw [← inC_flat, inC_length]; exact (Nat.mul_one _).symm) (by show k + (backZ N l a).length ≤ 1048576; omega) (by decide) (by decide) (fun v' acc' h' => ?_)
        rw [← inC_flat] at h'
        have hal : (W ++ backZ N l a).length = k + (backZ N l a).length := by rw [List.length_append, hk]
        have hai : inC (W ++ backZ N l a) = inC W ++ inC (backZ N l a) := List.map_append
        rcases accO_val h' with rfl | ⟨b2, off2, rfl⟩
        · refine loop_with hr ((.nils, acc', putM [(h, 1)] a 1, W ++ backZ N l a), bl3, bl2, bl1) ⟨rfl, ⟨hBm, by rw [hal, hai]; exact h', by show unM (putM [(h, 1)] a 1) N * (1000 + 1) + (W ++ backZ N l a).length ≤ 100000; rw [hal]; omega⟩, ⟨rfl, rfl, rfl, rfl, rfl, trivial⟩, .refl _⟩
        · refine loop_with hr ((.mref b2 off2 (k + (backZ N l a).length) 1, acc', putM [(h, 1)] a 1, W ++ backZ N l a), bl3, bl2, bl1) ⟨rfl, ⟨hBm, by rw [hal, hai]; exact h', by show unM (putM [(h, 1)] a 1) N * (1000 + 1) + (W ++ backZ N l a).length ≤ 100000; rw [hal]; omega⟩, ⟨rfl, rfl, rfl, rfl, rfl, trivial⟩, .refl _⟩
      · refine loop_with hr ((.mref b (0 + 1 * 1) k 1, [(b, cs)], [(h, 1)], W), bl3, bl2, bl1) ⟨rfl, ⟨hB.skip c1, by rw [hk]; exact q2, by show unM [(h, 1)] N * (1000 + 1) + W.length ≤ 100000; rw [hk]; omega⟩, ⟨rfl, rfl, rfl, rfl, rfl, trivial⟩, .pull [3, 3, 3] (.refl _)⟩
end Go.Proofs.YtljbnigceammdaaGreatDoor
