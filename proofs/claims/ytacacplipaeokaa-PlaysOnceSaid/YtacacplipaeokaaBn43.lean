/-
  Pz: what the claim uses of them.
-/
import Derived.Test.YtacacplipaeokaaBn42
import Derived.Test.YtacacplipaeokaaBn26
namespace Go.Proofs.Ytacacplipaeokaa
open Go.RowKit
set_option maxRecDepth 100000
set_option maxHeartbeats 4000000
abbrev opSh : Sh := .field (.int .i64) (.field (.int .i64) (.field (.int .i64) (.field (.int .i64) (.field (.int .i64) (.field .bool .nil)))))
def opT (o : OpR) : opSh.T := (o.who, o.kind, o.n, o.bg, o.en, o.ok, ())
theorem ops_flat (L : List OpR) : L.flatMap opC = (L.map opT).flatMap opSh.cells := by
  rw [List.flatMap_map]; rfl
/-- What the workers have to do. -/
def todosP (ow th : List Int) : List (List Int) := ow :: th.map fun n => List.replicate n.toNat 0
def W0P (ow th : List Int) : List PW := (todosP ow th).map fun t => ⟨t, none, 0⟩
def aP0 (cap : Int) (ow th : List Int) : PA := ⟨ws0P cap, 0, [], W0P ow th⟩
def runP (cap : Int) (ow th : List Int) (scr : List (Int × Int × Unit)) : SSt PA := goP cap (th.length + 1) scr ⟨aP0 cap ow th, List.replicate (th.length + 1) 0, List.replicate (th.length + 1) false, 0⟩
def idsP (W : List Nat) : List (Nat × Nat) := (List.range W.length).zip W
theorem aWordsP (n : Int) (σ : Hp) : ACalls Try.prog 39 [.int .i64 n] σ (Ret (.int .i64 ((2 + rm n : Nat) : Int)) σ) := by
  have h := rm_ok n
  refine okF Try.func39 (by kernel_rfl) ?_
  refine callR [] (aRoom _ _) ?_
  exact .done ⟨av_int (by rw [IntKind.wrap_i64]; omega), rfl⟩
theorem aNewP (cap : Int) (σ : Hp) : ACalls Try.prog 8 [.int .i64 ((2 + rm cap : Nat) : Int)] σ (fun r σ' => ∃ p q, r = .ptr p 0 ∧ σ' = plH p q (List.replicate (2 + rm cap) 0) σ) := by
  have hr := rm_ok cap
  refine (aNew _ σ).mono ?_
  rintro _ _ ⟨p, q, rfl, rfl⟩
  have e : cutN ((2 + rm cap : Nat) : Int) = 2 + rm cap := by unfold cutN; omega
  exact ⟨p, q, rfl, by rw [e]; show _ = (p, plC q (List.replicate (2 + rm cap) (0 : Int)).length) :: _; rw [List.length_replicate]⟩
theorem aResetP (cap : Int) (p q : Nat) (σ : Hp) : ACalls Try.prog 40 [.agg [.int .i64 0, .int .i64 cap], plI p] (plH p q (List.replicate (2 + rm cap) 0) σ) (Ret (.tup []) (plH p q (ws0P cap) σ)) := by
  have h := aResetD p q (List.replicate (2 + rm cap) 0) 0 cap σ
  have e : mStore (mStore (List.replicate (2 + rm cap) 0) 0 1) (botD 0) 1 = ws0P cap := by
    have e1 : botD 0 = ((1 : Nat) : Int) := by decide
    rw [e1, pd_st]
    show (mStore (List.replicate (2 + rm cap) 0) ((0 : Nat) : Int) 1).set 1 1 = _
    rw [pd_st]; exact rfl
  rw [e] at h; exact h
def zsP (ow th : List Int) (k : Nat) : List (Nat × PW) := (todosP ow (th.take k)).map fun t => (0, ⟨t, none, 0⟩)
def ifW (w : Nat) : AV := .iface 85 (.ptr w 0)
theorem np_perm {α : Type} (b : α) (L Z σ : List α) : (L ++ ((Z ++ [b]) ++ σ)).Perm (b :: (L ++ (Z ++ σ))) := by
  have := List.perm_middle (a := b) (l₁ := L ++ Z) (l₂ := σ)
  simpa only [List.append_assoc, List.cons_append, List.nil_append] using this
theorem toNat_max (n : Int) : (if n < 0 then (0 : Int) else n).toNat = n.toNat := by split <;> omega
theorem zs_snoc {ow th : List Int} {k : Nat} {W : List Nat} (h : k < th.length) (hW : W.length = k + 1) (cap : Int) (pl bw : Nat) : zBs cap pl (idsP (W ++ [bw])) (zsP ow th (k + 1)) = zBs cap pl (idsP W) (zsP ow th k) ++ [(bw, wkP (k + 1) cap pl (List.replicate th[k].toNat 0) .nilif 0)] := by
  have hz : (zsP ow th k).length = k + 1 := by simp [zsP, todosP]; omega
  have e1 : idsP (W ++ [bw]) = idsP W ++ [(k + 1, bw)] := by
    unfold idsP
    rw [List.length_append, hW, List.length_singleton, List.range_succ, List.zip_append (by simp [hW])]; rfl
  have e2 : zsP ow th (k + 1) = zsP ow th k ++ [(0, ⟨List.replicate th[k].toNat 0, none, 0⟩)] := by
    unfold zsP todosP
    rw [List.take_succ_eq_append_getElem h]
    simp only [List.map_append, List.map_cons, List.map_nil, List.cons_append]
  unfold zBs
  rw [e1, e2, List.zip_append (by rw [hz]; simp [idsP, hW]), List.flatMap_append]
  rfl
theorem nx_shed {ow th : List Int} {k : Nat} {W : List Nat} (h : k < th.length) (hW : W.length = k + 1) (cap : Int) (pl bw lb : Nat) (a b c d e f : Nat × List AV) (σ : Hp) {C M M' : List AV} (hC : C = wkP (k + 1) cap pl (List.replicate th[k].toNat 0) .nilif 0) (hM : M = M') :
    Shed ((bw, C) :: (lb, M) :: a :: b :: c :: d :: e :: f :: (zBs cap pl (idsP W) (zsP ow th k) ++ σ)) ((lb, M') :: a :: b :: c :: d :: e :: f :: (zBs cap pl (idsP (W ++ [bw])) (zsP ow th (k + 1)) ++ σ)) := by
  subst hC hM
  rw [zs_snoc h hW]
  exact .perm (np_perm _ [_, _, _, _, _, _, _] _ _) (.refl _)
theorem nx_cells {k m n : Nat} {cap : Int} {pl : Nat} (h : k < 1000000) (hn : m = n) : [AV.int .i64 (IntKind.i64.wrap ((k : Int) + 1)), .int .i64 0, .int .i64 cap, .fsl (.int .i64) (List.replicate m (0 : Int)), .nilif, .int .i64 0, .ptr pl 0] = wkP (k + 1) cap pl (List.replicate n 0) .nilif 0 := by
  subst hn
  rw [show IntKind.i64.wrap ((k : Int) + 1) = ((k + 1 : Nat) : Int) by rw [IntKind.wrap_i64]; omega]
  rfl
theorem nx_map (W : List Nat) (w : Nat) : W.map ifW ++ [ifW w] = (W ++ [w]).map ifW := by rw [List.map_append]; rfl
theorem ids_fst (W : List Nat) : ∀ i (h : i < (idsP W).length), (idsP W)[i].1 = i := fun i h => by simp [idsP]
theorem ids_len (W : List Nat) : (idsP W).length = W.length := by simp [idsP]
theorem ids_map (W : List Nat) : (idsP W).map (fun y => AV.iface 85 (.ptr y.2 0)) = W.map ifW := by
  unfold idsP
  have : (fun y : Nat × Nat => AV.iface 85 (.ptr y.2 0)) = ifW ∘ Prod.snd := rfl
  rw [this, ← List.map_map, List.map_snd_zip (by simp)]
theorem sum_le {α : Type} (f : α → Nat) (m : Nat) : ∀ {l : List α}, (∀ x ∈ l, f x ≤ m) → SX.sumL f l ≤ l.length * m
  | [], _ => Nat.zero_le _
  | a :: l, h => by
    have h1 := h a (List.mem_cons_self ..)
    have h2 := sum_le f m (l := l) fun x hx => h x (List.mem_cons_of_mem _ hx)
    show f a + SX.sumL f l ≤ (l.length + 1) * m
    rw [Nat.add_mul]; omega
theorem free0 {cap : Int} {ow th : List Int} (hr : rightP cap ow th = true) : FreeA (th.length + 1) (aP0 cap ow th) := by
  obtain ⟨hc1, hc2, ho1, ht1, hon, hth⟩ := rightP_get hr
  have hnone : ∀ x ∈ W0P ow th, x.now = none := fun x hx => by
    obtain ⟨t, _, rfl⟩ := List.mem_map.1 hx; rfl
  have hget : ∀ (i : Nat) (x : PW), (W0P ow th)[i]? = some x → x.now = none := fun i x h => hnone x (List.mem_of_getElem? h)
  refine ⟨by show (W0P ow th).length = _; simp [W0P, todosP], ?_, fun i x hx => ?_, ?_, fun i j x y hx hy hn => absurd (hget i x hx) hn, ?_⟩
  · show NN (ws0P cap)
    intro z hz
    unfold ws0P at hz
    rcases List.mem_or_eq_of_mem_set hz with hz | rfl
    · rcases List.mem_or_eq_of_mem_set hz with hz | rfl
      · rw [(List.mem_replicate.1 hz).2]; exact Int.le_refl _
      · decide
    · decide
  · unfold okPW; rw [hget i x hx]; trivial
  · show 0 + sumT (W0P ow th) ≤ 100000
    have : sumT (W0P ow th) ≤ (W0P ow th).length * 256 := sum_le _ 256 fun x hx => by
      obtain ⟨t, ht, rfl⟩ := List.mem_map.1 hx
      show t.length ≤ 256
      rcases List.mem_cons.1 ht with rfl | ht
      · exact ho1
      · obtain ⟨n, hn, rfl⟩ := List.mem_map.1 ht
        have := hth n hn
        rw [List.length_replicate]; omega
    have hl : (W0P ow th).length = th.length + 1 := by simp [W0P, todosP]
    rw [hl] at this
    have : (th.length + 1) * 256 ≤ 64 * 256 := Nat.mul_le_mul_right _ (by omega)
    omega
  · intro i x hx n hn
    have hx : (W0P ow th)[i]? = some x := hx
    rcases Nat.eq_zero_or_pos i with rfl | hi
    · have hx : some (⟨ow, none, 0⟩ : PW) = some x := hx
      cases hx
      have := hon n hn
      unfold begN
      rw [if_neg (by omega)]
      split
      · obtain ⟨m, rfl⟩ := Int.eq_ofNat_of_zero_le (show 0 ≤ n by omega)
        rw [pd_wu (by omega), pd_wr (by omega)]
      · rfl
    · unfold begN; rw [if_pos hi]; rfl
theorem fin_frontP {R : AV → Hp → Prop} {r : AV} (a : Hp) {σ : Hp} (h : Fin R r σ) : Fin R r (a ++ σ) := .drop 0 a.length (by rw [List.take_zero, Nat.zero_add, List.drop_left]; exact h)
theorem aRunP (cap : Int) (ow th : List Int) (scr : List (Int × Int × Unit)) (σ : Hp) (hs : scr.length ≤ 100000) (hr : rightP cap ow th = true) : ACalls Try.prog 18 [.agg [.int .i64 cap, .fsl (.int .i64) ow, .fsl (.int .i64) th, .fsl pickSh scr]] σ (Ret (.tup [.fsl opSh ((runP cap ow th scr).a.ops.map opT), .fsl (.int .u64) (listD 0 cap (runP cap ow th scr).a.ws), .int .i64 0]) σ) := by
  refine okF Try.func18 (by kernel_rfl) ?_
  have hR := fun σ => aRightP cap ow th scr σ
  rw [hr] at hR
  obtain ⟨hc1, hc2, ho1, ht1, hon, hth⟩ := rightP_get hr
  intro bA
  refine LoadAt.mk 0 _ _ rfl rfl ?_
  refine callR [] (hR _) ?_
  refine LoadAt.mk 0 _ _ rfl rfl ?_
  intro bD
  refine StoreAt.mk 0 _ _ rfl rfl ?_
  refine LoadAt.mk 1 _ _ rfl rfl ?_
  refine callR [] (aWordsP _ _) ?_
  refine CallAt.mk [] _ (aNewP cap _) ?_
  rintro _ _ ⟨p, q, rfl, rfl⟩
  refine LoadAt.mk 2 _ _ rfl rfl ?_
  refine callR [] (aResetP cap p q _) ?_
  intro pl
  intro dn
  refine StoreAt.mk 0 _ _ rfl rfl ?_
  refine LoadAt.mk 4 _ _ rfl rfl ?_
  refine LoadAt.mk 5 _ _ rfl rfl ?_
  refine LoadAt.mk 0 _ _ rfl rfl ?_
  intro w0
  intro lb0
  refine LoadAt.mk 7 _ _ rfl rfl ?_
  refine .wrap 8 _ rfl rfl ?_
  refine .shed (.pull [7, 7, 7, 7, 7, 7, 7, 1] (.refl _)) ?_
  refine loopS (S := Nat × List Nat × Nat) (fun s => [(1, .ptr bA 0), (5, .ptr bD 0), (6, .ptr p 0), (7, .ptr dn 0), (8, .via (.mref s.2.2 0 (s.1 + 1) 1)), (36, .fsl (.int .i64) th), (37, .int .i64 th.length), (38, .int .i64 s.1)])
    (fun s => (s.2.2, s.2.1.map ifW) :: (dn, [.ptr pl 0]) :: (pl, opsH 0 .nils) :: plH p q (ws0P cap) ((bD, [.int .i64 0, .int .i64 cap]) :: (bA, [.int .i64 cap, .fsl (.int .i64) ow, .fsl (.int .i64) th, .fsl pickSh scr]) :: (zBs cap pl (idsP s.2.1) (zsP ow th s.1) ++ σ)))
    (fun s => s.1 ≤ th.length ∧ s.2.1.length = s.1 + 1) (fun s => th.length - s.1) (0, [w0], lb0) ⟨⟨Nat.zero_le _, rfl⟩, ⟨rfl, rfl, rfl, rfl, rfl, rfl, rfl, rfl, trivial⟩, rfl⟩ ?_
  rintro ⟨k, W, lb⟩ g ⟨hk, hW⟩
  have hk : k ≤ th.length := hk
  have hW : W.length = k + 1 := hW
  refine bcond_dec (fun hlt => ?_) (fun hge => ?_)
  · have hlt : (k : Int) < th.length := hlt
    have hlt : k < th.length := by omega
    refine With.mk rfl (IdxF.mk th[k] (by omega) (get_some hlt) ?_)
    have hm : (0 : Int) ≤ (if th[k] < 0 then 0 else th[k]) ∧ (if th[k] < 0 then (0 : Int) else th[k]) ≤ (if th[k] < 0 then 0 else th[k]) ∧ (if th[k] < 0 then (0 : Int) else th[k]) ≤ 1048576 ∧ 8 ≤ 1024 := by
      have := hth th[k] (List.getElem_mem hlt)
      split <;> omega
    refine .sched [] (.one 0 false (.one 1 false (.one 2 false (.one 4 false (.one 5 false (.alt 3 (.alt 6 (.one 7 false (.one 8 false (.one 9 false (.one 10 false (.one 11 false (.one 12 false (.one 13 false .stop))))))) (.one 7 false (.one 6 false (.one 8 false (.one 9 false (.one 10 false (.one 11 false (.one 12 false (.one 13 false .stop))))))))) (.alt 6 (.one 3 false (.one 7 false (.one 8 false (.one 9 false (.one 10 false (.one 11 false (.one 12 false (.one 13 false .stop)))))))) (.one 7 false (.alt 3 (.one 6 false (.one 8 false (.one 9 false (.one 10 false (.one 11 false (.one 12 false (.one 13 false .stop))))))) (.one 6 false (.one 3 false (.one 8 false (.one 9 false (.one 10 false (.one 11 false (.one 12 false (.one 13 false .stop))))))))))))))))) (by kernel_rfl) ?_
    refine And.intro ?_ ?_
    · refine LoadAt.mk 5 _ _ rfl rfl ?_
      refine And.intro ?_ ?_
      · refine With.mk hm ?_
        intro bl1
        refine LoadAt.mk 2 _ _ rfl rfl ?_
        intro bl2
        intro bl3
        refine append_acc (k := k + 1) (acc := [(lb, W.map ifW)]) [_, _, _] (.mref lb _ _ (by simp [hW])) (.mref 0 bl3 0 1 _ rfl (Nat.le_of_ble_eq_true rfl)) rfl (by omega) (by decide) (by decide) (fun v' acc' h' => ?_)
        rcases acc_split h' with ⟨h0, _⟩ | ⟨lb', rfl, rfl⟩
        · omega
        refine .frzc 2 bl1 0 (if th[k] < 0 then (0 : Int) else th[k]).toNat 1 _ (.int .i64) (List.replicate (if th[k] < 0 then (0 : Int) else th[k]).toNat (0 : Int)) rfl (by rw [rep_stC]; exact stC_frz List.length_replicate) ⟨List.length_replicate, rfl, by decide⟩ 1 3 bl2 _ rfl rfl ?_
        refine nextS (k + 1, W ++ [bl2], lb') ?_ ⟨hlt, by simp [hW]⟩ ⟨rfl, rfl, rfl, rfl, rfl, rfl, rfl, inc64 (by omega), trivial⟩ (.drop 0 1 (nx_shed hlt hW cap pl bl2 lb' _ _ _ _ _ _ _ (nx_cells (by omega) (toNat_max _)) (nx_map W bl2)))
        show th.length - (k + 1) < th.length - k; omega
      · refine LoadAt.mk 1 _ _ rfl rfl ?_
        refine With.mk hm ?_
        intro bl4
        intro bl5
        intro bl6
        refine append_acc (k := k + 1) (acc := [(lb, W.map ifW)]) [_, _, _] (.mref lb _ _ (by simp [hW])) (.mref 0 bl6 0 1 _ rfl (Nat.le_of_ble_eq_true rfl)) rfl (by omega) (by decide) (by decide) (fun v' acc' h' => ?_)
        rcases acc_split h' with ⟨h0, _⟩ | ⟨lb', rfl, rfl⟩
        · omega
        refine .frzc 2 bl4 0 (if th[k] < 0 then (0 : Int) else th[k]).toNat 1 _ (.int .i64) (List.replicate (if th[k] < 0 then (0 : Int) else th[k]).toNat (0 : Int)) rfl (by rw [rep_stC]; exact stC_frz List.length_replicate) ⟨List.length_replicate, rfl, by decide⟩ 1 3 bl5 _ rfl rfl ?_
        refine nextS (k + 1, W ++ [bl5], lb') ?_ ⟨hlt, by simp [hW]⟩ ⟨rfl, rfl, rfl, rfl, rfl, rfl, rfl, inc64 (by omega), trivial⟩ (.drop 0 1 (nx_shed hlt hW cap pl bl5 lb' _ _ _ _ _ _ _ (nx_cells (by omega) (toNat_max _)) (nx_map W bl5)))
        show th.length - (k + 1) < th.length - k; omega
    · refine And.intro ?_ ?_
      · refine With.mk hm ?_
        intro bl7
        refine LoadAt.mk 6 _ _ rfl rfl ?_
        refine LoadAt.mk 2 _ _ rfl rfl ?_
        intro bl8
        intro bl9
        refine append_acc (k := k + 1) (acc := [(lb, W.map ifW)]) [_, _, _] (.mref lb _ _ (by simp [hW])) (.mref 0 bl9 0 1 _ rfl (Nat.le_of_ble_eq_true rfl)) rfl (by omega) (by decide) (by decide) (fun v' acc' h' => ?_)
        rcases acc_split h' with ⟨h0, _⟩ | ⟨lb', rfl, rfl⟩
        · omega
        refine .frzc 2 bl7 0 (if th[k] < 0 then (0 : Int) else th[k]).toNat 1 _ (.int .i64) (List.replicate (if th[k] < 0 then (0 : Int) else th[k]).toNat (0 : Int)) rfl (by rw [rep_stC]; exact stC_frz List.length_replicate) ⟨List.length_replicate, rfl, by decide⟩ 1 3 bl8 _ rfl rfl ?_
        refine nextS (k + 1, W ++ [bl8], lb') ?_ ⟨hlt, by simp [hW]⟩ ⟨rfl, rfl, rfl, rfl, rfl, rfl, rfl, inc64 (by omega), trivial⟩ (.drop 0 1 (nx_shed hlt hW cap pl bl8 lb' _ _ _ _ _ _ _ (nx_cells (by omega) (toNat_max _)) (nx_map W bl8)))
        show th.length - (k + 1) < th.length - k; omega
      · refine LoadAt.mk 1 _ _ rfl rfl ?_
        refine And.intro ?_ ?_
        · refine LoadAt.mk 5 _ _ rfl rfl ?_
          refine With.mk hm ?_
          intro bl10
          intro bl11
          intro bl12
          refine append_acc (k := k + 1) (acc := [(lb, W.map ifW)]) [_, _, _] (.mref lb _ _ (by simp [hW])) (.mref 0 bl12 0 1 _ rfl (Nat.le_of_ble_eq_true rfl)) rfl (by omega) (by decide) (by decide) (fun v' acc' h' => ?_)
          rcases acc_split h' with ⟨h0, _⟩ | ⟨lb', rfl, rfl⟩
          · omega
          refine .frzc 2 bl10 0 (if th[k] < 0 then (0 : Int) else th[k]).toNat 1 _ (.int .i64) (List.replicate (if th[k] < 0 then (0 : Int) else th[k]).toNat (0 : Int)) rfl (by rw [rep_stC]; exact stC_frz List.length_replicate) ⟨List.length_replicate, rfl, by decide⟩ 1 3 bl11 _ rfl rfl ?_
          refine nextS (k + 1, W ++ [bl11], lb') ?_ ⟨hlt, by simp [hW]⟩ ⟨rfl, rfl, rfl, rfl, rfl, rfl, rfl, inc64 (by omega), trivial⟩ (.drop 0 1 (nx_shed hlt hW cap pl bl11 lb' _ _ _ _ _ _ _ (nx_cells (by omega) (toNat_max _)) (nx_map W bl11)))
          show th.length - (k + 1) < th.length - k; omega
        · refine With.mk hm ?_
          intro bl13
          refine LoadAt.mk 6 _ _ rfl rfl ?_
          intro bl14
          intro bl15
          refine append_acc (k := k + 1) (acc := [(lb, W.map ifW)]) [_, _, _] (.mref lb _ _ (by simp [hW])) (.mref 0 bl15 0 1 _ rfl (Nat.le_of_ble_eq_true rfl)) rfl (by omega) (by decide) (by decide) (fun v' acc' h' => ?_)
          rcases acc_split h' with ⟨h0, _⟩ | ⟨lb', rfl, rfl⟩
          · omega
          refine .frzc 2 bl13 0 (if th[k] < 0 then (0 : Int) else th[k]).toNat 1 _ (.int .i64) (List.replicate (if th[k] < 0 then (0 : Int) else th[k]).toNat (0 : Int)) rfl (by rw [rep_stC]; exact stC_frz List.length_replicate) ⟨List.length_replicate, rfl, by decide⟩ 1 3 bl14 _ rfl rfl ?_
          refine nextS (k + 1, W ++ [bl14], lb') ?_ ⟨hlt, by simp [hW]⟩ ⟨rfl, rfl, rfl, rfl, rfl, rfl, rfl, inc64 (by omega), trivial⟩ (.drop 0 1 (nx_shed hlt hW cap pl bl14 lb' _ _ _ _ _ _ _ (nx_cells (by omega) (toNat_max _)) (nx_map W bl14)))
          show th.length - (k + 1) < th.length - k; omega
  · have hge : ¬ (k : Int) < th.length := hge
    obtain rfl : k = th.length := by omega
    have hf := free0 hr
    have hz : (zsP ow th th.length).map (·.2) = W0P ow th := by unfold zsP W0P; rw [List.take_length, List.map_map]; rfl
    have hl : (playW cap dn pl p q (idsP W) (ids_fst W)).L.length = th.length + 1 := by
      show ((idsP W).map _).length = _
      rw [List.length_map, ids_len, hW]
    have hL : (playW cap dn pl p q (idsP W) (ids_fst W)).L = W.map ifW := ids_map W
    have hE := aEachT (playW cap dn pl p q (idsP W) (ids_fst W)) lb scr (⟨ws0P cap, 0, [], zsP ow th th.length, .nils, [], .nil⟩ : PWS) ((bD, [.int .i64 0, .int .i64 cap]) :: (bA, [.int .i64 cap, .fsl (.int .i64) ow, .fsl (.int .i64) th, .fsl pickSh scr]) :: σ) (by omega) hs (by
      show FreeA (idsP W).length ⟨ws0P cap, 0, [], (zsP ow th th.length).map (·.2)⟩
      rw [ids_len, hW, hz]; exact hf) 42 [.ptr dn 0] (fun s k σ _ => aSeeP cap dn pl p q (idsP W) s k σ)
    rw [hl, hL] at hE
    refine LoadAt.mk 6 _ _ rfl rfl ?_
    refine .perm _ (List.Perm.append_left [_, _, _, _, _] (front_perm' [_, _] (zBs cap pl (idsP W) (zsP ow th th.length)) σ)) hE ?_
    rintro _ _ ⟨s', hs', rfl, rfl⟩
    have hrun : (playW cap dn pl p q (idsP W) (ids_fst W)).run scr (PWS.abs ⟨ws0P cap, 0, [], zsP ow th th.length, .nils, [], .nil⟩) = runP cap ow th scr := by
      unfold AWorld.run AWorld.init
      rw [hl, hL]
      have e1 : (W.map ifW).map isNil = List.replicate (th.length + 1) false := by
        rw [← hW, List.map_map]
        exact List.map_eq_replicate_iff.2 fun _ _ => rfl
      have e2 : (PWS.abs ⟨ws0P cap, 0, [], zsP ow th th.length, .nils, [], .nil⟩) = aP0 cap ow th := by
        show PA.mk (ws0P cap) 0 [] ((zsP ow th th.length).map (·.2)) = _
        rw [hz]; rfl
      rw [e1, e2]; rfl
    have hs' : PWS.abs s' = (runP cap ow th scr).a := Eq.trans hs' (congrArg SSt.a hrun)
    obtain ⟨ws, us, ops, Z, v, acc, hacc⟩ := s'
    have ew : ws = (runP cap ow th scr).a.ws := congrArg PA.ws hs'
    have eo : ops = (runP cap ow th scr).a.ops := congrArg PA.ops hs'
    rw [← ew, ← eo]
    have hLs := fun σ => aListD p q ws 0 cap σ
    rcases acc_split hacc with ⟨h0, rfl, rfl⟩ | ⟨b, rfl, rfl⟩
    · refine ⟨_, List.Perm.append_left [_, _, _, _, _] (front_perm' [_, _] (zBs cap pl (idsP W) Z) σ).symm, ?_⟩
      refine .quiet (by kernel_rfl) ?_
      refine LoadAt.mk 1 _ _ rfl rfl ?_
      refine LoadAt.mk 2 _ _ rfl rfl ?_
      refine LoadAt.mk 5 _ _ rfl rfl ?_
      refine callQ [4, 4] (hLs _) ?_
      refine .drop 0 7 (fin_frontP (zBs cap pl (idsP W) Z) (.nil (frz_cons (.nil opSh) (.refl _)) (.done ⟨?_, rfl⟩)))
      obtain rfl : ops = [] := List.length_eq_zero_iff.1 h0
      rfl
    · refine ⟨_, List.Perm.append_left [_, _, _, _, _, _] (front_perm' [_, _] (zBs cap pl (idsP W) Z) σ).symm, ?_⟩
      refine .quiet (by kernel_rfl) ?_
      refine LoadAt.mk 1 _ _ rfl rfl ?_
      refine LoadAt.mk 2 _ _ rfl rfl ?_
      refine LoadAt.mk 6 _ _ rfl rfl ?_
      refine callQ [5, 5] (hLs _) ?_
      refine .frz 3 b 0 ops.length 6 _ opSh (ops.map opT) rfl (by rw [List.drop_zero, ops_flat]; exact List.take_of_length_le (by rw [← ops_flat, flat_length (es := 6) opC_len]; exact Nat.le_refl _)) ⟨List.length_map .., rfl, by decide⟩ (frz_cons .here (.refl _)) ?_
      exact .drop 0 7 (fin_frontP (zBs cap pl (idsP W) Z) (.done ⟨rfl, rfl⟩))
end Go.Proofs.Ytacacplipaeokaa
