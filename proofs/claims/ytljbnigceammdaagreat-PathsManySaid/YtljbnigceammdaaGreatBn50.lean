/-
  Hl: what the claim uses of them.
-/
import Derived.Test.YtljbnigceammdaaGreatBn49
namespace Go.Proofs.YtljbnigceammdaaGreat
open Go.RowKit
set_option maxRecDepth 100000
theorem set_snoc {α : Type} (l : List α) (x y : α) {k : Nat} (h : k = l.length) : (l ++ [x]).set k y = l ++ [y] := by subst h; simp
theorem get_snoc {α : Type} (l : List α) (x : α) {k : Nat} (h : k = l.length) : (l ++ [x])[k]? = some x := by subst h; simp
theorem frzV {t t' : Tm} {b off len es : Nat} {e : Sh} {l : List e.T} (k : Nat) (h : t k = .via (.mref b off len es)) (h' : t' = upd t [(k, .fsl e l)]) (i : Nat) : FrzRel b off len es e l (t i) (t' i) := by
  subst h'
  show FrzRel b off len es e l (t i) (match Nat.beq i k with | true => .fsl e l | false => t i)
  cases hb : Nat.beq i k with
  | true => rw [Nat.eq_of_beq_eq_true hb, h]; exact .via .here
  | false => exact .refl _
theorem nilV {t t' : Tm} (e : Sh) (k : Nat) (h : t k = .via .nils) (h' : t' = upd t [(k, .fsl e [])]) (i : Nat) : FrzRel 0 0 0 0 .bool [] (t i) (t' i) := by
  subst h'
  show FrzRel 0 0 0 0 .bool [] (t i) (match Nat.beq i k with | true => .fsl e [] | false => t i)
  cases hb : Nat.beq i k with
  | true => rw [Nat.eq_of_beq_eq_true hb, h]; exact .via (.nil e)
  | false => exact .refl _
theorem srcI {σ : Hp} (w : List Int) : SrcAt σ 1 (.fsl (.int .i64) w) w.length (inC w) := by
  rw [inC_flat]; exact .fsl (.int .i64) w rfl
/-- One-node ways. -/
def onesP (k : Nat) : List (List Int) := (List.range k).map fun a : Nat => [(a : Int)]
theorem onesP_succ (k : Nat) : onesP (k + 1) = onesP k ++ [[(k : Int)]] := by unfold onesP; rw [List.range_succ, List.map_append]; rfl
theorem onesP_length (k : Nat) : (onesP k).length = k := by unfold onesP; simp
theorem aRLong (s : Sy) (K : Nat) (σ : Hp) (_hf : Fit s) (hg : Good s) (hK : K ≤ 100) (hm : ∀ k, k ≤ K → (longP s k).length ≤ 100000) : ACalls Tryz.prog 29 [.agg (sysC s), .int .i64 K] σ (Ret (.fsl (.slice (.int .i64)) (longP s K)) σ) := by
  have hn1 := hg.n1
  have hn2 := hg.n2
  have hel := hg.el
  obtain ⟨N, hN⟩ : ∃ N : Nat, s.n = N := ⟨s.n.toNat, by omega⟩
  have hNx : ∀ (a : Int) (σ : Hp), ACalls Tryz.prog 59 [.int .i64 s.n, .fsl edgeSh s.edges, .int .i64 a] σ (Ret (.fsl (.int .i64) (toS s.n s.edges a)) σ) := fun a σ => aRNextI s.n s.edges a σ (by omega) (by omega) (by omega)
  have hL0 : longP s 0 = onesP N := by show (List.range s.n.toNat).map _ = _; rw [hN]; rfl
  refine okF Tryz.func29 (by kernel_rfl) ?_
  intro bl1
  refine .wrap 5 _ rfl rfl ?_
  refine loopS (S := Nat × AV × Hp) (fun x => [(1, .int .i64 K), (2, .ptr bl1 0), (5, .via x.2.1), (6, .int .i64 x.1)]) (fun x => (bl1, sysC s) :: (x.2.2 ++ σ)) (fun x => x.1 ≤ N ∧ Acc 1 x.1 x.2.1 x.2.2 (iiC (onesP x.1))) (fun x => N - x.1) (0, .nils, []) ⟨⟨Nat.zero_le _, .nil⟩, ⟨rfl, rfl, rfl, rfl, trivial⟩, rfl⟩ ?_
  rintro ⟨a, v, acc⟩ g ⟨ha0, hacc0⟩
  have ha : a ≤ N := ha0
  have hacc : Acc 1 a v acc (iiC (onesP a)) := hacc0
  clear ha0 hacc0
  refine LoadAt.mk 0 _ _ rfl rfl ?_
  refine bcond_dec (p := (a : Int) < s.n) (fun hlt => ?_) (fun hge => ?_)
  · have hlt : a < N := by omega
    intro bl2
    intro bl3
    have hk := iiC_length (onesP a)
    rw [onesP_length] at hk
    refine append_acc [_, _, _] hacc (.mref 0 bl3 0 1 _ rfl (Nat.le_of_ble_eq_true rfl)) rfl (by omega) (by decide) (by decide) (fun v' acc' h' => ?_)
    obtain ⟨b5, rfl, rfl⟩ := accA_one (by omega) h'
    refine .frzc 1 bl2 0 1 1 _ (.int .i64) ([(a : Int)] : List Int) rfl rfl ⟨rfl, rfl, by decide⟩ 2 a b5 _ rfl (get_snoc _ _ hk.symm) ?_
    refine nextS (a + 1, .mref b5 0 (a + 1) 1, [(b5, iiC (onesP (a + 1)))]) (by show N - (a + 1) < N - a; omega) ⟨hlt, .mref b5 (a + 1) _ (by rw [iiC_length, onesP_length, Nat.mul_one])⟩ ⟨rfl, rfl, rfl, inc64 (by omega), trivial⟩ (.drop 0 1 (shed_eq ?_))
    have e : (iiC (onesP a) ++ [AV.mref bl2 0 1 1]).set a (.fsl (.int .i64) ([(a : Int)] : List Int)) = iiC (onesP (a + 1)) := by rw [set_snoc _ _ _ hk.symm, iiC_snoc, onesP_succ]
    exact congrArg (fun c => (bl1, sysC s) :: (b5, c) :: σ) e
  · have hge : a = N := by omega
    subst hge
    obtain ⟨b, rfl, rfl⟩ := accA_one (by omega) hacc
    refine .frz 1 b 0 a 1 _ (.slice (.int .i64)) (onesP a) rfl (by rw [List.drop_zero, List.take_of_length_le (by rw [iiC_length, onesP_length, Nat.mul_one]; exact Nat.le_refl _)]; exact iiC_flat _) ⟨onesP_length a, rfl, by decide⟩ (frzV 5 rfl rfl) ?_
    refine loopS (S := Nat) (fun k => [(1, .int .i64 K), (2, .ptr bl1 0), (5, .fsl (.slice (.int .i64)) (longP s k)), (7, .int .i64 k)]) (fun _ => (bl1, sysC s) :: σ) (fun k => k ≤ K) (fun k => K - k) 0 ⟨Nat.zero_le _, ⟨rfl, rfl, by rw [hL0]; rfl, rfl, trivial⟩, rfl⟩ ?_
    intro k g hk0
    have hk : k ≤ K := hk0
    clear hk0
    refine bcond_dec (p := (k : Int) < K) (fun hlt => ?_) (fun hge => ?_)
    · have hlt : k < K := by omega
      have hmk := hm k hk
      have hmk1 := hm (k + 1) hlt
      have hway := long_way (s := s) (by omega) k
      have hlong : longP s (k + 1) = (longP s k).flatMap (growP s) := rfl
      rw [hlong] at hmk1
      generalize hLL : longP s k = LL at hmk hmk1 hway hlong
      refine .wrap 8 _ rfl rfl ?_
      refine loopS (S := Nat × AV × Hp) (fun x => [(1, .int .i64 K), (2, .ptr bl1 0), (7, .int .i64 k), (8, .via x.2.1), (29, .fsl (.slice (.int .i64)) LL), (30, .int .i64 LL.length), (31, .int .i64 x.1)]) (fun x => (bl1, sysC s) :: (x.2.2 ++ σ)) (fun x => x.1 ≤ LL.length ∧ Acc 1 ((LL.take x.1).flatMap (growP s)).length x.2.1 x.2.2 (iiC ((LL.take x.1).flatMap (growP s)))) (fun x => LL.length - x.1) (0, .nils, []) ⟨⟨Nat.zero_le _, .nil⟩, ⟨rfl, rfl, rfl, rfl, by rw [← hLL]; rfl, by rw [← hLL]; rfl, rfl, trivial⟩, rfl⟩ ?_
      rintro ⟨i, v, acc⟩ g ⟨hi0, hacc0⟩
      have hi : i ≤ LL.length := hi0
      have hacc : Acc 1 ((LL.take i).flatMap (growP s)).length v acc (iiC ((LL.take i).flatMap (growP s))) := hacc0
      clear hi0 hacc0
      refine bcond_dec (p := (i : Int) < LL.length) (fun hlt2 => ?_) (fun hge2 => ?_)
      · have hlt2 : i < LL.length := by omega
        obtain ⟨w, hw⟩ : ∃ w, LL[i] = w := ⟨_, rfl⟩
        obtain ⟨hwy, hwl⟩ := hway w (hw ▸ List.getElem_mem hlt2)
        obtain ⟨B, hB⟩ : ∃ B, toS s.n s.edges (lastD w) = B := ⟨_, rfl⟩
        have hBl : B.length ≤ 256 := by have := toS_le s.n s.edges (lastD w); rw [hB] at this; omega
        have hNx2 : ∀ σ, ACalls Tryz.prog 59 [.int .i64 s.n, .fsl edgeSh s.edges, .int .i64 (lastD w)] σ (Ret (.fsl (.int .i64) B) σ) := fun σ => hB ▸ hNx (lastD w) σ
        have hgr : growP s w = B.map fun b => w ++ [b] := by unfold growP; rw [hB]
        have hst : (LL.take (i + 1)).flatMap (growP s) = (LL.take i).flatMap (growP s) ++ B.map fun b => w ++ [b] := by
          rw [List.take_succ_eq_append_getElem hlt2, List.flatMap_append, hw, List.flatMap_singleton, hgr]
        have hle : ((LL.take (i + 1)).flatMap (growP s)).length ≤ 100000 := by
          refine Nat.le_trans (List.Sublist.length_le ?_) hmk1
          conv => rhs; rw [← List.take_append_drop (i + 1) LL, List.flatMap_append]
          exact List.sublist_append_left _ _
        have hlast : (0 ≤ IntKind.i64.wrap ((w.length : Int) - 1) ∧ IntKind.i64.wrap ((w.length : Int) - 1) < w.length) ∧ w[(IntKind.i64.wrap ((w.length : Int) - 1)).toNat]? = some (lastD w) := by
          have e : IntKind.i64.wrap ((w.length : Int) - 1) = ((w.length - 1 : Nat) : Int) := by rw [IntKind.wrap_i64]; omega
          rw [e]
          exact ⟨by omega, by unfold lastD; exact gz (by omega) rfl⟩
        rw [hst] at hle
        generalize (LL.take i).flatMap (growP s) = R at hacc hst hle
        refine With.mk rfl (IdxF.mk w (by omega) ((get_some hlt2).trans (congrArg some hw)) ?_)
        refine .quiet (by kernel_rfl) ?_
        refine LoadAt.mk 0 _ _ rfl rfl ?_
        refine LoadAt.mk 0 _ _ rfl rfl ?_
        refine With.mk rfl (IdxF.mk (lastD w) hlast.1.1 hlast.2 ?_)
        refine callQ [] (hNx2 _) ?_
        refine loopS (S := Nat × AV × Hp) (fun x => [(1, .int .i64 K), (2, .ptr bl1 0), (7, .int .i64 k), (8, .via x.2.1), (10, .fsl (.int .i64) w), (29, .fsl (.slice (.int .i64)) LL), (30, .int .i64 LL.length), (31, .int .i64 i), (45, .fsl (.int .i64) B), (46, .int .i64 B.length), (47, .int .i64 x.1)]) (fun x => (bl1, sysC s) :: (x.2.2 ++ σ)) (fun x => x.1 ≤ B.length ∧ Acc 1 (R ++ (B.take x.1).map fun b => w ++ [b]).length x.2.1 x.2.2 (iiC (R ++ (B.take x.1).map fun b => w ++ [b]))) (fun x => B.length - x.1) (0, v, acc) ⟨⟨Nat.zero_le _, by show Acc 1 (R ++ (B.take 0).map fun b => w ++ [b]).length v acc _; rw [List.take_zero, List.map_nil, List.append_nil]; exact hacc⟩, ⟨rfl, rfl, rfl, rfl, rfl, rfl, rfl, rfl, rfl, rfl, rfl, trivial⟩, rfl⟩ ?_
        rintro ⟨j, v, acc⟩ g ⟨hj0, hacc0⟩
        have hj : j ≤ B.length := hj0
        have hacc : Acc 1 (R ++ (B.take j).map fun b => w ++ [b]).length v acc (iiC (R ++ (B.take j).map fun b => w ++ [b])) := hacc0
        clear hj0 hacc0
        refine bcond_dec (p := (j : Int) < B.length) (fun hlt3 => ?_) (fun hge3 => ?_)
        · have hlt3 : j < B.length := by omega
          obtain ⟨b, hb⟩ : ∃ b, B[j] = b := ⟨_, rfl⟩
          have hst3 : (R ++ (B.take (j + 1)).map fun b => w ++ [b]) = (R ++ (B.take j).map fun b => w ++ [b]) ++ [w ++ [b]] := by
            rw [List.take_succ_eq_append_getElem hlt3, List.map_append, hb, List.append_assoc]; rfl
          have hle3 : (R ++ (B.take j).map fun b => w ++ [b]).length < 100000 := by
            rw [List.length_append, List.length_map] at hle ⊢
            rw [List.length_take]
            omega
          generalize hQ : (R ++ (B.take j).map fun b => w ++ [b]) = Q at hacc hst3 hle3
          obtain ⟨q, hq⟩ : ∃ q, Q.length = q := ⟨_, rfl⟩
          have hqi := iiC_length Q
          rw [hq] at hacc hle3 hqi
          refine With.mk rfl (IdxF.mk b (by omega) ((get_some hlt3).trans (congrArg some hb)) ?_)
          have hwl1 : (w ++ [b]).length = 0 + w.length + 1 := by rw [len_app, Nat.zero_add]
          intro bl2
          refine append_accV [] (Acc.mref bl2 0 [] rfl) (srcI w) (show (inC w).length = w.length * 1 by rw [inC_length, Nat.mul_one]) (by omega) (by decide) (by decide) (fun v1 acc1 h1 => ?_)
          obtain ⟨bc, rfl, rfl⟩ := accA_one (by omega) h1
          intro bl3
          refine append_accV [_] h1 (.mref 0 bl3 0 1 _ rfl (Nat.le_of_ble_eq_true rfl)) rfl (by omega) (by decide) (by decide) (fun v2 acc2 h2 => ?_)
          obtain ⟨bd, rfl, rfl⟩ := accA_one (by omega) h2
          intro bl4
          refine append_acc [_, _, _, _] hacc (.mref 0 bl4 0 1 _ rfl (Nat.le_of_ble_eq_true rfl)) rfl (by omega) (by decide) (by decide) (fun v' acc' h' => ?_)
          obtain ⟨b5, rfl, rfl⟩ := accA_one (by omega) h'
          refine .frzc 2 bd 0 (0 + w.length + 1) 1 _ (.int .i64) (w ++ [b]) rfl ?_ ⟨hwl1, rfl, by decide⟩ 3 q b5 _ rfl (get_snoc _ _ hqi.symm) ?_
          · rw [List.drop_zero, List.take_of_length_le (Nat.le_of_eq h2.length)]
            show [] ++ inC w ++ [AV.int .i64 b] = _
            rw [List.nil_append, inC_flat]
            exact flat_app w b
          refine nextS (j + 1, .mref b5 0 (q + 1) 1, [(b5, iiC (Q ++ [w ++ [b]]))]) (by show B.length - (j + 1) < B.length - j; omega) ⟨hlt3, ?_⟩ ⟨rfl, rfl, rfl, rfl, rfl, rfl, rfl, rfl, rfl, rfl, inc64 (by omega), trivial⟩ (.drop 0 2 (shed_eq ?_))
          · show Acc 1 (R ++ (B.take (j + 1)).map fun b => w ++ [b]).length (.mref b5 0 (q + 1) 1) _ _
            rw [hst3, len_rows, hq]
            exact .mref b5 (q + 1) _ (by rw [iiC_length, len_rows, hq, Nat.mul_one])
          · have e : (iiC Q ++ [AV.mref bd 0 (0 + w.length + 1) 1]).set q (.fsl (.int .i64) (w ++ [b])) = iiC (Q ++ [w ++ [b]]) := by rw [set_snoc _ _ _ hqi.symm, iiC_snoc]
            exact congrArg (fun c => (bl1, sysC s) :: (b5, c) :: σ) e
        · have hge3 : j = B.length := by omega
          subst hge3
          rw [List.take_length] at hacc
          rw [← hst] at hacc
          exact nextS (i + 1, v, acc) (by show LL.length - (i + 1) < LL.length - i; omega) ⟨hlt2, hacc⟩ ⟨rfl, rfl, rfl, rfl, rfl, rfl, inc64 (by omega), trivial⟩ (.refl _)
      · have hge2 : i = LL.length := by omega
        subst hge2
        rw [List.take_length] at hacc
        have hfin : longP s (k + 1) = LL.flatMap (growP s) := by rw [hlong]
        generalize LL.flatMap (growP s) = Q at hacc hfin
        obtain ⟨q, hq⟩ : ∃ q, Q.length = q := ⟨_, rfl⟩
        obtain ⟨cs, hcs⟩ : ∃ cs, iiC Q = cs := ⟨_, rfl⟩
        rw [hq, hcs] at hacc
        cases hacc with
        | nil =>
          obtain rfl := List.length_eq_zero_iff.1 hq
          refine .nil (nilV (.slice (.int .i64)) 5 rfl rfl) ?_
          exact nextS (k + 1) (by show K - (k + 1) < K - k; omega) hlt ⟨rfl, rfl, by rw [hfin]; rfl, inc64 (by omega), trivial⟩ (.refl _)
        | mref b q cs h =>
          refine .frz 1 b 0 q 1 cs (.slice (.int .i64)) Q rfl (by rw [List.drop_zero, List.take_of_length_le (Nat.le_of_eq h), ← hcs]; exact iiC_flat _) ⟨hq, rfl, by decide⟩ (frzV 5 rfl rfl) ?_
          exact nextS (k + 1) (by show K - (k + 1) < K - k; omega) hlt ⟨rfl, rfl, by rw [hfin]; rfl, inc64 (by omega), trivial⟩ (.refl _)
    · have hge : k = K := by omega
      subst hge
      exact .drop 0 1 (.done ⟨rfl, rfl⟩)
theorem aRAll20 (s : Sy) (v : Int) (M : Nat) (σ : Hp) (hf : Fit s) (hg : Good s) (hM : M ≤ 100) (hm : ∀ k, k ≤ M → (longP s k).length ≤ 100000) (hm2 : (allP s v M).length ≤ 100000) : ACalls Tryz.prog 13 [.agg (sysC s), .int .i64 v, .int .i64 M] σ (Ret (.fsl (.slice (.int .i64)) (allP s v M)) σ) := by
  have hn1 := hg.n1
  refine okF Tryz.func13 (by kernel_rfl) ?_
  intro bl1
  refine .wrap 7 _ rfl rfl ?_
  refine loopS (S := Nat × AV × Hp) (fun x => [(1, .int .i64 v), (2, .int .i64 M), (3, .ptr bl1 0), (7, .via x.2.1), (8, .int .i64 x.1)]) (fun x => (bl1, sysC s) :: (x.2.2 ++ σ)) (fun x => x.1 ≤ M + 1 ∧ Acc 1 (upP s v x.1).length x.2.1 x.2.2 (iiC (upP s v x.1))) (fun x => M + 1 - x.1) (0, .nils, []) ⟨⟨Nat.zero_le _, .nil⟩, ⟨rfl, rfl, rfl, rfl, rfl, trivial⟩, rfl⟩ ?_
  rintro ⟨j, vo, acc⟩ g ⟨hj0, hacc0⟩
  have hj : j ≤ M + 1 := hj0
  have hacc : Acc 1 (upP s v j).length vo acc (iiC (upP s v j)) := hacc0
  clear hj0 hacc0
  refine bcond_dec (p := (j : Int) ≤ M) (fun hlt => ?_) (fun hge => ?_)
  · have hlt : j < M + 1 := by omega
    have hup : upP s v (j + 1) = upP s v j ++ toP s v j := upP_succ s v j
    have hle : (upP s v (j + 1)).length ≤ 100000 := Nat.le_trans (upP_le s v hlt) hm2
    rw [hup] at hle
    have hmj := hm j (by omega)
    have hL := aRLong s j
    have hway := long_way (s := s) (by omega) j
    rw [toP_long] at hup hle
    generalize longP s j = LL at hup hle hmj hL hway
    refine LoadAt.mk 0 _ _ rfl rfl ?_
    refine callR [] (hL _ hf hg (by omega) fun k hk => hm k (by omega)) ?_
    refine loopS (S := Nat × AV × Hp) (fun x => [(1, .int .i64 v), (2, .int .i64 M), (3, .ptr bl1 0), (7, .via x.2.1), (8, .int .i64 j), (18, .fsl (.slice (.int .i64)) LL), (19, .int .i64 LL.length), (20, .int .i64 x.1)]) (fun x => (bl1, sysC s) :: (x.2.2 ++ σ)) (fun x => x.1 ≤ LL.length ∧ Acc 1 (upP s v j ++ (LL.take x.1).filter (isTo v)).length x.2.1 x.2.2 (iiC (upP s v j ++ (LL.take x.1).filter (isTo v)))) (fun x => LL.length - x.1) (0, vo, acc) ⟨⟨Nat.zero_le _, by show Acc 1 (upP s v j ++ (LL.take 0).filter (isTo v)).length vo acc _; rw [List.take_zero, List.filter_nil, List.append_nil]; exact hacc⟩, ⟨rfl, rfl, rfl, rfl, rfl, rfl, rfl, rfl, trivial⟩, rfl⟩ ?_
    rintro ⟨i, vo, acc⟩ g ⟨hi0, hacc0⟩
    have hi : i ≤ LL.length := hi0
    have hacc : Acc 1 (upP s v j ++ (LL.take i).filter (isTo v)).length vo acc (iiC (upP s v j ++ (LL.take i).filter (isTo v))) := hacc0
    clear hi0 hacc0
    refine bcond_dec (p := (i : Int) < LL.length) (fun hlt2 => ?_) (fun hge2 => ?_)
    · have hlt2 : i < LL.length := by omega
      obtain ⟨w, hw⟩ : ∃ w, LL[i] = w := ⟨_, rfl⟩
      obtain ⟨hwy, hwl⟩ := hway w (hw ▸ List.getElem_mem hlt2)
      have hst : (upP s v j ++ (LL.take (i + 1)).filter (isTo v)) = (upP s v j ++ (LL.take i).filter (isTo v)) ++ (if lastD w = v then [w] else []) := by
        rw [List.take_succ_eq_append_getElem hlt2, List.filter_append, hw, List.append_assoc]
        congr 2
        unfold isTo
        by_cases e : lastD w = v
        · rw [if_pos e, List.filter_cons, decide_eq_true e]; rfl
        · rw [if_neg e, List.filter_cons, decide_eq_false e]; rfl
      have hle2 : (upP s v j ++ (LL.take i).filter (isTo v)).length ≤ 100000 := by
        refine Nat.le_trans (List.Sublist.length_le ?_) hle
        exact List.Sublist.append (.refl _) (List.Sublist.filter _ (List.take_sublist _ _))
      have hlast : (0 ≤ IntKind.i64.wrap ((w.length : Int) - 1) ∧ IntKind.i64.wrap ((w.length : Int) - 1) < w.length) ∧ w[(IntKind.i64.wrap ((w.length : Int) - 1)).toNat]? = some (lastD w) := by
        have e : IntKind.i64.wrap ((w.length : Int) - 1) = ((w.length - 1 : Nat) : Int) := by rw [IntKind.wrap_i64]; omega
        rw [e]
        exact ⟨by omega, by unfold lastD; exact gz (by omega) rfl⟩
      generalize (upP s v j ++ (LL.take i).filter (isTo v)) = Q at hacc hst hle2
      refine With.mk rfl (IdxF.mk w (by omega) ((get_some hlt2).trans (congrArg some hw)) ?_)
      refine With.mk rfl (IdxF.mk (lastD w) hlast.1.1 hlast.2 ?_)
      refine bcond_dec (fun c1 => ?_) (fun c1 => ?_)
      · have c1 : lastD w = v := c1
        intro bl2
        rw [if_pos c1] at hst
        refine append_acc [_, _] hacc (.mref 0 bl2 0 1 _ rfl (Nat.le_of_ble_eq_true rfl)) rfl (by omega) (by decide) (by decide) (fun v' acc' h' => ?_)
        refine nextS (i + 1, v', acc') (by show LL.length - (i + 1) < LL.length - i; omega) ⟨hlt2, ?_⟩ ⟨rfl, rfl, rfl, rfl, rfl, rfl, rfl, inc64 (by omega), trivial⟩ (.drop 0 1 (.refl _))
        show Acc 1 (upP s v j ++ (LL.take (i + 1)).filter (isTo v)).length v' acc' (iiC (upP s v j ++ (LL.take (i + 1)).filter (isTo v)))
        rw [hst, len_rows, ← iiC_snoc]
        exact h'
      · have c1 : ¬ (lastD w = v) := c1
        rw [if_neg c1, List.append_nil] at hst
        exact nextS (i + 1, vo, acc) (by show LL.length - (i + 1) < LL.length - i; omega) ⟨hlt2, by show Acc 1 (upP s v j ++ (LL.take (i + 1)).filter (isTo v)).length vo acc (iiC (upP s v j ++ (LL.take (i + 1)).filter (isTo v))); rw [hst]; exact hacc⟩ ⟨rfl, rfl, rfl, rfl, rfl, rfl, rfl, inc64 (by omega), trivial⟩ (.refl _)
    · have hge2 : i = LL.length := by omega
      subst hge2
      rw [List.take_length, ← hup] at hacc
      exact nextS (j + 1, vo, acc) (by show M + 1 - (j + 1) < M + 1 - j; omega) ⟨hlt, hacc⟩ ⟨rfl, rfl, rfl, rfl, inc64 (by omega), trivial⟩ (.refl _)
  · have hge : j = M + 1 := by omega
    subst hge
    exact fin_acc (s := .slice (.int .i64)) [(bl1, sysC s)] hacc rfl (iiC_flat _) (by decide) (.drop 0 1 (.done ⟨rfl, rfl⟩))
theorem aRMeet20 (s : Sy) (v : Int) (M : Nat) (σ : Hp) (hf : Fit s) (hg : Good s) (hM : M ≤ 100) (hm : ∀ k, k ≤ M → (longP s k).length ≤ 100000) (hm2 : (allP s v M).length ≤ 100000) : ACalls Tryz.prog 15 [.agg (sysC s), .int .i64 v, .int .i64 M] σ (Ret (.fsl (.int .u64) (meetS s (allP s v M))) σ) := by
  have hrow : ∀ w ∈ allP s v M, wayB s w = true ∧ w.length ≤ 101 := fun w hw => by
    obtain ⟨k, hk, h1, _⟩ := mem_allP.1 hw
    have h2 := long_way (by have := hg.n1; omega) k w h1
    exact ⟨h2.1, by omega⟩
  have hA := fun σ => aRAll20 s v M σ hf hg hM hm hm2
  generalize allP s v M = L at hrow hA hm2
  have hV : ∀ j, Val s.what s.w (meetS s (L.take j)) := fun j => meetS_Val hf hg fun w hw => (hrow w (List.mem_of_mem_take hw)).1
  refine okF Tryz.func15 (by kernel_rfl) ?_
  intro bl1
  refine LoadAt.mk 0 _ _ rfl rfl ?_
  refine LoadAt.mk 0 _ _ rfl rfl ?_
  refine callR [] (aRBottom12 s.what s.w _ hg.isL) ?_
  refine LoadAt.mk 0 _ _ rfl rfl ?_
  refine callR [] (hA _) ?_
  refine loopS (S := Nat) (fun j => [(3, .ptr bl1 0), (7, .fsl (.int .u64) (meetS s (L.take j))), (18, .fsl (.slice (.int .i64)) L), (19, .int .i64 L.length), (20, .int .i64 j)]) (fun _ => (bl1, sysC s) :: σ) (fun j => j ≤ L.length) (fun j => L.length - j) 0 ⟨Nat.zero_le _, ⟨rfl, rfl, rfl, rfl, rfl, trivial⟩, rfl⟩ ?_
  intro j g hj0
  have hj : j ≤ L.length := hj0
  clear hj0
  have hx := hV j
  have hxs := val_short hx.v
  refine bcond_dec (p := (j : Int) < L.length) (fun hlt => ?_) (fun hge => ?_)
  · have hlt : j < L.length := by omega
    obtain ⟨w, hw⟩ : ∃ w, L[j] = w := ⟨_, rfl⟩
    obtain ⟨hway, hwl⟩ := hrow w (hw ▸ List.getElem_mem hlt)
    have hst : meetS s (L.take (j + 1)) = join12 s.what (meetS s (L.take j)) (alongS s w) := by
      unfold meetS
      rw [List.take_succ_eq_append_getElem hlt, List.foldl_append, hw]; rfl
    have hy := alongS_Val hf hg hway
    have hys := val_short hy.v
    have hAl := fun σ => aRAlong20 s w σ hf hg hway (by omega)
    have hJ := fun σ => aRJoin12 s.what (meetS s (L.take j)) (alongS s w) σ hx.w64 hy.w64 (val_eqlen hx.v hy.v) (by omega)
    refine With.mk rfl (IdxF.mk w (by omega) ((get_some hlt).trans (congrArg some hw)) ?_)
    refine .quiet (by kernel_rfl) ?_
    refine LoadAt.mk 0 _ _ rfl rfl ?_
    refine LoadAt.mk 0 _ _ rfl rfl ?_
    refine callQ [] (hAl _) ?_
    refine callQ [] (hJ _) ?_
    exact nextS (j + 1) (by show L.length - (j + 1) < L.length - j; omega) hlt ⟨rfl, congrArg (AV.fsl (.int .u64)) hst.symm, rfl, rfl, inc64 (by omega), trivial⟩ (.refl _)
  · have hge : j = L.length := by omega
    subst hge
    exact .drop 0 1 (.done ⟨by show AV.fsl (.int .u64) (meetS s (L.take L.length)) = _; rw [List.take_length], rfl⟩)
theorem aRSame09 (L : List (List Int)) (σ : Hp) (hl : L.length ≤ 1000000) (hw : ∀ w ∈ L, w.length ≤ 1000000) : ACalls Tryz.prog 12 [.fsl (.slice (.int .i64)) L, .fsl (.slice (.int .i64)) L] σ (Ret (.bool true) σ) := by
  refine okF Tryz.func12 (by kernel_rfl) ?_
  refine bcond_split (fun c1 => ?_) (fun c1 => ?_)
  · simp at c1
  refine loopS (S := Nat) (fun k => [(0, .fsl (.slice (.int .i64)) L), (1, .fsl (.slice (.int .i64)) L), (13, .fsl (.slice (.int .i64)) L), (14, .int .i64 L.length), (15, .int .i64 k)]) (fun _ => σ) (fun k => k ≤ L.length) (fun k => L.length - k) 0 ⟨Nat.zero_le _, ⟨rfl, rfl, rfl, rfl, rfl, trivial⟩, rfl⟩ ?_
  intro k g hk0
  have hk : k ≤ L.length := hk0
  clear hk0
  refine bcond_dec (p := (k : Int) < L.length) (fun hlt => ?_) (fun hge => ?_)
  · have hlt : k < L.length := by omega
    obtain ⟨w, hwk⟩ : ∃ w, L[k] = w := ⟨_, rfl⟩
    have hwl := hw w (hwk ▸ List.getElem_mem hlt)
    have hg := (get_some hlt).trans (congrArg some hwk)
    refine With.mk rfl (IdxF.mk w (by omega) hg ?_)
    refine With.mk rfl (IdxF.mk w (by omega) hg ?_)
    refine bcond_split (fun c1 => ?_) (fun c1 => ?_)
    · simp at c1
    refine loopS (S := Nat) (fun j => [(0, .fsl (.slice (.int .i64)) L), (1, .fsl (.slice (.int .i64)) L), (5, .int .i64 k), (6, .fsl (.int .i64) w), (13, .fsl (.slice (.int .i64)) L), (14, .int .i64 L.length), (15, .int .i64 k), (29, .int .i64 w.length), (30, .int .i64 j)]) (fun _ => σ) (fun j => j ≤ w.length) (fun j => w.length - j) 0 ⟨Nat.zero_le _, ⟨rfl, rfl, rfl, rfl, rfl, rfl, rfl, rfl, rfl, trivial⟩, rfl⟩ ?_
    intro j g hj0
    have hj : j ≤ w.length := hj0
    clear hj0
    refine bcond_dec (p := (j : Int) < w.length) (fun hlt2 => ?_) (fun hge2 => ?_)
    · have hlt2 : j < w.length := by omega
      have hgw := get_some hlt2
      generalize w[j] = z at hgw
      refine .quiet (by kernel_rfl) ?_
      refine With.mk rfl (IdxF.mk z (by omega) hgw ?_)
      refine With.mk rfl (IdxF.mk w (by omega) hg ?_)
      refine With.mk rfl (IdxF.mk z (by omega) hgw ?_)
      refine bcond_split (fun c1 => ?_) (fun c1 => ?_)
      · simp at c1
      exact nextS (j + 1) (by show w.length - (j + 1) < w.length - j; omega) hlt2 ⟨rfl, rfl, rfl, rfl, rfl, rfl, rfl, rfl, inc64 (by omega), trivial⟩ (.refl _)
    · exact nextS (k + 1) (by show L.length - (k + 1) < L.length - k; omega) hlt ⟨rfl, rfl, rfl, rfl, inc64 (by omega), trivial⟩ (.refl _)
  · exact .done ⟨rfl, rfl⟩
end Go.Proofs.YtljbnigceammdaaGreat
