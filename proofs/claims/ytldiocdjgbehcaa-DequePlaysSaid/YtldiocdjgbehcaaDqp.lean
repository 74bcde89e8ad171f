/-
  soughlaw27: awake; the walk of DequePlays.
-/
import Derived.Test.YtldiocdjgbehcaaDqm
namespace Go.Proofs.Ytldiocdjgbehcaa
open Go.RowKit
set_option maxRecDepth 100000
set_option maxHeartbeats 4000000
def aq27 (k : Nat) : DQ := match k with
  | 0 => ⟨0, 4, 7, false, false, 0, 0, 0, 0⟩
  | 1 => ⟨0, 4, 7, false, false, 1, 1, 0, 0⟩
  | 2 => ⟨0, 4, 7, false, false, 2, 1, 1, 0⟩
  | 3 => ⟨0, 4, 7, false, false, 3, 1, 1, 0⟩
  | _ => ⟨0, 4, 7, true, true, 4, 1, 1, 0⟩
def aw27 (k : Nat) : List Int := match k with
  | 0 | 1 | 2 => [1, 1, 0, 0, 0, 0]
  | 3 => [1, 1, 0, 7, 0, 0]
  | _ => [1, 2, 0, 7, 0, 0]
theorem aq_good (k : Nat) : (aq27 k).good := by
  unfold aq27
  split <;> simp [DQ.good]
theorem awake27a : ACalls Try.prog 68 [] [] (Ret (.bool true) []) := by
  refine okF Try.func68 (by kernel_rfl) ?_
  refine .mk [] _ (aNew 6 []) ?_
  rintro _ _ ⟨p, q, rfl, rfl⟩
  intro bl1
  refine StoreAt.mk 0 _ _ rfl rfl ?_
  refine LoadAt.mk 0 _ _ rfl rfl ?_
  refine callR [2, 2] (aResetD p q [0, 0, 0, 0, 0, 0] 0 4 _) ?_
  refine LoadAt.mk 2 _ _ rfl rfl ?_
  intro bl2
  refine loopS (S := Nat) (fun s => [(1, .ptr p 0), (2, .ptr bl1 0), (3, .ptr bl2 0), (4, .int .i64 (s + 1 : Nat))]) (fun s => (bl2, dqC (aq27 s)) :: plH p q (aw27 s) [(bl1, [.int .i64 0, .int .i64 4])]) (fun s => s ≤ 3) (fun s => 3 - s) 0 ⟨Nat.zero_le _, ⟨rfl, rfl, rfl, rfl, trivial⟩, rfl⟩ ?_
  intro k g hk
  have hk : k ≤ 3 := hk
  match k, hk with
  | 0, _ =>
    refine callR [] (aPushP p q bl2 (aq27 0) (aw27 0) 0 _ (aq_good _) (x' := aq27 (0 + 1)) (ws' := aw27 (0 + 1)) (b := false) (by kernel_rfl)) ?_
    exact next (0 + 1) (by show 3 - (0 + 1) < 3 - 0; decide) (by show 0 + 1 ≤ 3; decide) ⟨rfl, rfl, rfl, rfl, trivial⟩ rfl
  | 1, _ =>
    refine callR [] (aPushP p q bl2 (aq27 1) (aw27 1) 0 _ (aq_good _) (x' := aq27 (1 + 1)) (ws' := aw27 (1 + 1)) (b := false) (by kernel_rfl)) ?_
    exact next (1 + 1) (by show 3 - (1 + 1) < 3 - 1; decide) (by show 1 + 1 ≤ 3; decide) ⟨rfl, rfl, rfl, rfl, trivial⟩ rfl
  | 2, _ =>
    refine callR [] (aPushP p q bl2 (aq27 2) (aw27 2) 0 _ (aq_good _) (x' := aq27 (2 + 1)) (ws' := aw27 (2 + 1)) (b := false) (by kernel_rfl)) ?_
    exact next (2 + 1) (by show 3 - (2 + 1) < 3 - 2; decide) (by show 2 + 1 ≤ 3; decide) ⟨rfl, rfl, rfl, rfl, trivial⟩ rfl
  | 3, _ =>
    refine callR [] (aPushP p q bl2 (aq27 3) (aw27 3) 0 _ (aq_good _) (x' := aq27 4) (ws' := aw27 4) (b := true) (by kernel_rfl)) ?_
    refine LoadAt.mk 0 _ _ rfl rfl ?_
    refine LoadAt.mk 3 _ _ rfl rfl ?_
    refine callR [2, 2] (aListD p q (aw27 4) 0 4 _) ?_
    refine LoadAt.mk 3 _ _ rfl rfl ?_
    refine callR [] (aListD p q (aw27 4) 0 4 _) ?_
    refine With.mk rfl ?_
    refine IdxF.mk (7 : Int) (by decide) (by kernel_rfl) ?_
    exact .drop 0 4 (.done ⟨rfl, rfl⟩)
theorem lenD_le (b c : Int) (ws : List Int) : (listD b c ws).length ≤ 1000000 := by
  have := rm_ok c
  unfold listD
  rw [takeD_length]
  unfold lenD
  omega
theorem val_of {L L2 : List OD} (h : L2.map OD.val = L.map OD.val) {j : Nat} (h2 : j < L2.length) (h1 : j < L.length) : L2[j].val = L[j].val := by
  have := congrArg (fun l => l[j]?) h
  simpa [h1, h2] using this
theorem idx_mod {k i : Nat} (hk : k ≤ 1000) (hi : i < 8) : ∃ j : Nat, (IntKind.i64.wrap (IntKind.i64.wrap (((k + 1 : Nat) : Int) - 1) + IntKind.i64.wrap ((i : Int) * (i : Int)))).tmod ((k + 1 : Nat) : Int) = j ∧ j < k + 1 := by
  have h1 : i * i ≤ 7 * 7 := Nat.mul_le_mul (by omega) (by omega)
  have h2 : (i : Int) * (i : Int) = ((i * i : Nat) : Int) := by rw [Int.natCast_mul]
  obtain ⟨s, hs⟩ : ∃ s, s = i * i := ⟨_, rfl⟩
  rw [h2, ← hs]
  rw [← hs] at h1
  have e : IntKind.i64.wrap (IntKind.i64.wrap (((k + 1 : Nat) : Int) - 1) + IntKind.i64.wrap (s : Int)) = ((k + s : Nat) : Int) := by
    rw [IntKind.wrap_i64, IntKind.wrap_i64, IntKind.wrap_i64]; omega
  rw [e, Int.tmod_eq_emod_of_nonneg (by omega)]
  refine ⟨(k + s) % (k + 1), ?_, Nat.mod_lt _ (by omega)⟩
  rw [Int.natCast_emod]
theorem readElemD {i : TI} (hi : i.wide = true) (hs : i.size = 4) {l l2 : List OD} (hv : l2.map OD.val = l.map OD.val) {j : Nat} (h : j < l2.length) {x : Int} (hx : x = j) : readAs i (l.flatMap OD.val) (0 + x.toNat * 4) = some (.agg l2[j].val) := by
  subst hx
  have e : l.flatMap OD.val = l2.flatMap OD.val := by rw [List.flatMap_def, List.flatMap_def, hv]
  rw [e]
  have hl := flat_length (f := OD.val) (es := 4) OD.val_len l2
  have hb : Nat.ble (0 + j * 4 + 4) (l2.flatMap OD.val).length = true := Nat.ble_eq_true_of_le (by rw [hl]; omega)
  unfold readAs
  rw [hi, hs]
  show (match Nat.ble (0 + j * 4 + 4) (l2.flatMap OD.val).length with | true => some (AV.agg (((l2.flatMap OD.val).drop (0 + j * 4)).take 4)) | false => none) = _
  rw [hb]
  show some (AV.agg (((l2.flatMap OD.val).drop (0 + j * 4)).take 4)) = _
  rw [Nat.zero_add, flat_elem OD.val_len h]
theorem valD_set {L : List OD} {j : Nat} (hj : j < L.length) (q' : DQ) : (L.set j ⟨L[j].k, L[j].r, L[j].rr, q'⟩).map OD.val = L.map OD.val := by
  have e : OD.val ⟨L[j].k, L[j].r, L[j].rr, q'⟩ = L[j].val := rfl
  rw [List.map_set, e]
  refine List.ext_getElem (by simp) fun n h1 h2 => ?_
  rw [List.getElem_set]
  split
  · rename_i hn; subst hn; simp
  · rfl
theorem dequePlays_walk (room : Int) (ws0 : List Int) (acts : List (Int × Int × Int × Unit)) (h0 : NN ws0) (ha : ∀ a ∈ acts, 0 ≤ a.2.1 ∧ 0 ≤ a.2.2.1 ∧ a.2.2.1 ≤ 255) : ACalls Try.prog 15 [.int .i64 room, .fsl (.int .u64) ws0, .fsl (.field (.int .i64) (.field (.int .u64) (.field (.int .u8) .nil))) acts] [] (fun r _ => r = .bool true) := by
  refine okF Try.func15 (by kernel_rfl) ?_
  refine callR [] awake27a ?_
  refine bcond_dec (fun c1 => ?_) (fun c1 => ?_)
  · have c1 : 12 < (↑ws0.length : Int) := c1
    exact .done rfl
  · have c1 : ¬ (12 < (↑ws0.length : Int)) := c1
    refine bcond_dec (fun c2 => ?_) (fun c2 => ?_)
    · have c2 : 16 < (↑acts.length : Int) := c2
      exact .done rfl
    · have c2 : ¬ (16 < (↑acts.length : Int)) := c2
      intro bl3
      refine StoreAt.mk 0 _ _ rfl rfl ?_
      refine .mk [] _ (aNew 12 _) ?_
      rintro _ _ ⟨p, q, rfl, rfl⟩
      refine .mk [] _ (aRNew 12 _) ?_
      rintro _ _ ⟨m, q2, rfl, rfl⟩
      obtain ⟨Z, hZ⟩ : ∃ Z, Z = (List.replicate 12 0 : List Int) := ⟨_, rfl⟩
      have hZn : NN Z := fun z hz => by rw [hZ] at hz; rw [List.eq_of_mem_replicate hz]; exact Int.le_refl _
      refine loopS (S := Nat × List Int) (fun s => [(0, .int .i64 room), (2, .fsl (.field (.int .i64) (.field (.int .u64) (.field (.int .u8) .nil))) acts), (7, .ptr bl3 0), (8, .ptr p 0), (9, .ptr m 0), (32, .fsl (.int .u64) ws0), (33, .int .i64 ws0.length), (34, .int .i64 s.1)])
        (fun s => reH m q2 s.2 (plH p q s.2 [(bl3, [.int .i64 1, .int .i64 room])])) (fun s => s.1 ≤ ws0.length ∧ s.2.length = 12 ∧ NN s.2) (fun s => ws0.length - s.1) (0, Z) ⟨⟨Nat.zero_le _, by rw [hZ]; rfl, hZn⟩, ⟨rfl, rfl, rfl, rfl, rfl, rfl, rfl, rfl, trivial⟩, by rw [hZ]; rfl⟩ ?_
      rintro ⟨k, ws⟩ g ⟨hk, hl, hn⟩
      have hk : k ≤ ws0.length := hk
      have hl : ws.length = 12 := hl
      have hn : NN ws := hn
      refine bcond_dec (fun hlt => ?_) (fun hge => ?_)
      · have hlt : (k : Int) < ws0.length := hlt
        have hlt : k < ws0.length := by omega
        refine With.mk rfl (IdxF.mk ws0[k] (by omega) (get_some hlt) ?_)
        refine callR [3, 3] (aStore p q ws k ws0[k] _) ?_
        refine callR [3, 3] (aRStore m q2 ws k ws0[k] _) ?_
        refine nextS (k + 1, mStore ws k ws0[k]) ?_ ⟨hlt, (mStore_length ws k ws0[k]).trans hl, store_nn hn k (h0 _ (List.getElem_mem hlt))⟩ ⟨rfl, rfl, rfl, rfl, rfl, rfl, rfl, inc64 (by omega), trivial⟩ (shed_eq rfl)
        show ws0.length - (k + 1) < ws0.length - k; omega
      · have hge : ¬ (k : Int) < ws0.length := hge
        refine .wrap 12 _ rfl rfl ?_
        refine loopS (S := Nat × AV × Hp × List OD × List Int) (fun s => [(0, .int .i64 room), (7, .ptr bl3 0), (8, .ptr p 0), (9, .ptr m 0), (12, .via s.2.1), (48, .fsl (.field (.int .i64) (.field (.int .u64) (.field (.int .u8) .nil))) acts), (49, .int .i64 acts.length), (50, .int .i64 s.1)])
          (fun s => reH m q2 s.2.2.2.2 (plH p q s.2.2.2.2 ((bl3, [.int .i64 1, .int .i64 room]) :: (s.2.2.1 ++ s.2.2.2.1.flatMap OD.blk)))) (fun s => s.1 ≤ acts.length ∧ s.2.2.2.1.length = s.1 ∧ Acc 4 s.1 s.2.1 s.2.2.1 (s.2.2.2.1.flatMap OD.val) ∧ (∀ o ∈ s.2.2.2.1, o.ok) ∧ s.2.2.2.2.length = 12 ∧ NN s.2.2.2.2) (fun s => acts.length - s.1) (0, .nils, [], [], ws) ⟨⟨Nat.zero_le _, rfl, .nil, (fun o h => by cases h), hl, hn⟩, ⟨rfl, rfl, rfl, rfl, rfl, rfl, rfl, rfl, trivial⟩, rfl⟩ ?_
        clear hl hn
        rintro ⟨k2, v, acc, L, us⟩ g ⟨hk20, hLl0, hacc0, hok, hl, hn⟩
        have hk2 : k2 ≤ acts.length := hk20
        have hLl : L.length = k2 := hLl0
        have hacc : Acc 4 k2 v acc (L.flatMap OD.val) := hacc0
        have hl : us.length = 12 := hl
        have hn : NN us := hn
        clear hk20 hLl0 hacc0
        refine bcond_dec (fun hlt => ?_) (fun hge => ?_)
        · have hlt : (k2 : Int) < acts.length := hlt
          have hlt : k2 < acts.length := by omega
          obtain ⟨a, haE⟩ : ∃ a, a = acts[k2] := ⟨_, rfl⟩
          obtain ⟨ak, an, as_, au⟩ := a
          have haR := ha acts[k2] (List.getElem_mem hlt)
          rw [← haE] at haR
          refine With.mk rfl (IdxF.mk (ak, an, as_, au) (by omega) ((get_some hlt).trans (congrArg some haE.symm)) ?_)
          intro ba
          refine StoreAt.mk 0 _ _ rfl rfl ?_
          refine LoadAt.mk 0 _ _ rfl rfl ?_
          refine LoadAt.mk 5 _ _ rfl rfl ?_
          refine .perm _ (List.Perm.refl _) (aBegin27 ak an as_ 1 room _ haR.1) ?_
          rintro _ _ ⟨o, hoo, hx, rfl⟩
          obtain ⟨a1, a2, a3, a4, hv⟩ : ∃ a1 a2 a3 a4, o.val = [a1, a2, a3, a4] := by unfold OD.val; split; exact ⟨_, _, _, _, rfl⟩; split <;> exact ⟨_, _, _, _, rfl⟩
          rw [hv] at hx
          subst hx
          refine ⟨(ba, [.int .i64 ak, .int .u64 an, .int .u8 as_]) :: reH m q2 us (plH p q us ((bl3, [.int .i64 1, .int .i64 room]) :: (acc ++ (L.flatMap OD.blk ++ o.blk)))), base_perm [_, _, _, _, _, _] acc (L.flatMap OD.blk) o.blk, ?_⟩
          intro bo
          refine append_acc [_, _, _, _, _, _, _] hacc (.mref 0 bo 0 1 _ rfl (Nat.le_of_ble_eq_true rfl)) rfl (by omega) (by decide) (by decide) (fun v' acc' h' => ?_)
          obtain ⟨L1, hL1⟩ : ∃ L1, L1 = L ++ [o] := ⟨_, rfl⟩
          have hL1l : L1.length = k2 + 1 := by rw [hL1]; simp [hLl]
          have hv1 : L.flatMap OD.val ++ [a1, a2, a3, a4] = L1.flatMap OD.val := by rw [hL1, List.flatMap_append]; simp [hv]
          have hb1 : L.flatMap OD.blk ++ o.blk = L1.flatMap OD.blk := by rw [hL1, List.flatMap_append]; simp
          have hok1 : ∀ o ∈ L1, o.ok := by
            intro o' ho'
            rw [hL1] at ho'
            rcases List.mem_append.1 ho' with h | h
            · exact hok o' h
            · obtain rfl := List.mem_singleton.1 h; exact hoo
          have h' : Acc 4 (k2 + 1) v' acc' (L1.flatMap OD.val) := hv1 ▸ h'
          rw [hb1]
          generalize hcs : L1.flatMap OD.val = cs at h'
          cases h' with
          | mref lb _ _ hlen =>
            subst hcs
            refine LoadAt.mk 1 _ _ rfl rfl ?_
            refine With.mk (by omega) ?_
            refine .shed (.drop 0 2 (.pull [3, 3] (.refl _))) ?_
            obtain ⟨e8, he8, h8⟩ : ∃ e8 : Nat, IntKind.i64.wrap (as_.tmod 8) = e8 ∧ e8 < 8 := by
              obtain ⟨_, h1, h2⟩ := haR
              have h1 : 0 ≤ as_ := h1
              have h2 : as_ ≤ 255 := h2
              rw [Int.tmod_eq_emod_of_nonneg h1, IntKind.wrap_i64]
              exact ⟨(as_ % 8).toNat, by omega, by omega⟩
            refine loopS (S := Nat × List Int × List OD) (fun s => [(0, .int .i64 room), (7, .ptr bl3 0), (8, .ptr p 0), (9, .ptr m 0), (12, .via (.mref lb 0 (k2 + 1) 4)), (48, .fsl (.field (.int .i64) (.field (.int .u64) (.field (.int .u8) .nil))) acts), (49, .int .i64 acts.length), (50, .int .i64 k2), (63, .int .i64 (IntKind.i64.wrap (as_.tmod 8))), (64, .int .i64 s.1)])
              (fun s => plH p q s.2.1 (reH m q2 s.2.1 ((bl3, [.int .i64 1, .int .i64 room]) :: (lb, L1.flatMap OD.val) :: s.2.2.flatMap OD.blk))) (fun s => s.1 ≤ e8 ∧ s.2.1.length = 12 ∧ NN s.2.1 ∧ s.2.2.map OD.val = L1.map OD.val ∧ ∀ o ∈ s.2.2, o.ok) (fun s => e8 - s.1) (0, us, L1) ⟨⟨Nat.zero_le _, hl, hn, rfl, hok1⟩, ⟨rfl, rfl, rfl, rfl, rfl, rfl, rfl, rfl, rfl, rfl, trivial⟩, rfl⟩ ?_
            rintro ⟨i, us2, L2⟩ g ⟨hi, hl2, hn2, hval, hok2⟩
            have hi : i ≤ e8 := hi
            have hl2 : us2.length = 12 := hl2
            have hn2 : NN us2 := hn2
            have hval : L2.map OD.val = L1.map OD.val := hval
            have hL2l : L2.length = k2 + 1 := by have := congrArg List.length hval; simp only [List.length_map] at this; omega
            refine bcond_dec (fun hlt2 => ?_) (fun hge2 => ?_)
            · have hlt2 : (i : Int) < IntKind.i64.wrap (as_.tmod 8) := hlt2
              rw [he8] at hlt2
              have hlt2 : i < e8 := by omega
              refine With.mk (by omega) ?_
              obtain ⟨j, hj, hjn⟩ := idx_mod (k := k2) (i := i) (by omega) (by omega)
              have hjl : j < L2.length := by omega
              refine With.mk ⟨rfl, by rw [hj]; omega, by rw [hj]; omega⟩ ?_
              refine LoadAt.mk 5 _ _ rfl (readElemD rfl rfl hval hjl hj) ?_
              refine .perm _ ((front_perm' [_, _, _, _, _, _] L2[j].blk _).trans (List.Perm.append_left [_, _, _, _, _, _] (flatM_perm (f := OD.blk) hjl).symm)) (aStep27 L2[j] p q m q2 us2 ((bl3, [.int .i64 1, .int .i64 room]) :: (lb, L1.flatMap OD.val) :: (L2.eraseIdx j).flatMap OD.blk) (hok2 _ (List.getElem_mem hjl)) hn2) ?_
              rintro _ _ ⟨q', us', h1, h2, h3, rfl, rfl⟩
              refine ⟨plH p q us' (reH m q2 us' ((bl3, [.int .i64 1, .int .i64 room]) :: (lb, L1.flatMap OD.val) :: (L2.set j ⟨L2[j].k, L2[j].r, L2[j].rr, q'⟩).flatMap OD.blk)), (List.Perm.append_left [_, _, _, _, _, _] (flatM_set (f := OD.blk) hjl _)).trans (front_perm' [_, _, _, _, _, _] (OD.blk ⟨L2[j].k, L2[j].r, L2[j].rr, q'⟩) _).symm, ?_⟩
              refine nextS (i + 1, us', L2.set j ⟨L2[j].k, L2[j].r, L2[j].rr, q'⟩) ?_ ⟨hlt2, h3.trans hl2, h2, (valD_set hjl q').trans hval, ?_⟩ ⟨rfl, rfl, rfl, rfl, rfl, rfl, rfl, rfl, rfl, inc64 (by omega), trivial⟩ (shed_eq rfl)
              · show e8 - (i + 1) < e8 - i; omega
              · intro o' hmem
                rcases List.mem_or_eq_of_mem_set hmem with h | h
                · exact hok2 o' h
                · exact h ▸ h1
            · have hge2 : ¬ (i : Int) < IntKind.i64.wrap (as_.tmod 8) := hge2
              refine nextS (k2 + 1, .mref lb 0 (k2 + 1) 4, [(lb, L1.flatMap OD.val)], L2, us2) ?_ ⟨hlt, hL2l, ?_, hok2, hl2, hn2⟩ ⟨rfl, rfl, rfl, rfl, rfl, rfl, rfl, inc64 (by omega), trivial⟩ (.pull [3, 3] (shed_eq rfl))
              · show acts.length - (k2 + 1) < acts.length - k2; omega
              · show Acc 4 (k2 + 1) _ _ (L2.flatMap OD.val)
                have e : L2.flatMap OD.val = L1.flatMap OD.val := by rw [List.flatMap_def, List.flatMap_def, hval]
                rw [e]
                exact .mref lb (k2 + 1) _ hlen
        · have hge : ¬ (k2 : Int) < acts.length := hge
          have hkl : k2 = acts.length := by omega
          generalize hcs : L.flatMap OD.val = cs at hacc
          cases hacc with
          | nil =>
            obtain rfl := List.length_eq_zero_iff.1 hLl
            refine loopS (S := Unit) (fun s => [(0, .int .i64 room), (7, .ptr bl3 0), (8, .ptr p 0), (9, .ptr m 0), (86, .via .nils), (87, .int .i64 0), (88, .int .i64 0)])
              (fun s => reH m q2 us (plH p q us [(bl3, [.int .i64 1, .int .i64 room])])) (fun s => True) (fun s => 0) () ⟨trivial, ⟨rfl, rfl, rfl, rfl, rfl, rfl, rfl, trivial⟩, rfl⟩ ?_
            intro _ g _
            refine .quiet (by kernel_rfl) ?_
            refine callQ [3, 3] (aAll p q us _ (by omega)) ?_
            refine LoadAt.mk 0 _ _ rfl rfl ?_
            refine callQ [1] (same10m us us q2 _ (by omega)) ?_
            rw [show (decide (us = us)) = true from decide_eq_true rfl]
            refine LoadAt.mk 4 _ _ rfl rfl ?_
            refine callQ [3, 3] (aListD p q us 1 room _) ?_
            refine callQ [] (aListR27 m q2 us 1 room _) ?_
            refine callQ [] (same10 _ _ _ (lenD_le _ _ _)) ?_
            rw [show (decide (listD 1 room us = listD 1 room us)) = true from decide_eq_true rfl]
            refine LoadAt.mk 4 _ _ rfl rfl ?_
            refine callQ [3, 3] (aTopD p q us 1 room _) ?_
            refine callQ [] (aRLoad m q2 us _ _) ?_
            refine bcond_dec (fun _ => ?_) (fun h => absurd rfl h)
            refine LoadAt.mk 4 _ _ rfl rfl ?_
            refine callQ [3, 3] (aBottomD p q us 1 room _) ?_
            refine callQ [] (aRLoad m q2 us _ _) ?_
            refine bcond_dec (fun _ => ?_) (fun h => absurd rfl h)
            exact .done rfl
          | mref lb k2 cs hlen =>
            subst hcs
            refine loopS (S := Nat × List Int × List OD) (fun s => [(0, .int .i64 room), (7, .ptr bl3 0), (8, .ptr p 0), (9, .ptr m 0), (86, .via (.mref lb 0 k2 4)), (87, .int .i64 k2), (88, .int .i64 s.1)])
              (fun s => reH m q2 s.2.1 (plH p q s.2.1 ((bl3, [.int .i64 1, .int .i64 room]) :: (lb, L.flatMap OD.val) :: s.2.2.flatMap OD.blk))) (fun s => s.1 ≤ k2 ∧ s.2.1.length = 12 ∧ NN s.2.1 ∧ s.2.2.map OD.val = L.map OD.val ∧ ∀ o ∈ s.2.2, o.ok) (fun s => k2 - s.1) (0, us, L) ⟨⟨Nat.zero_le _, hl, hn, rfl, hok⟩, ⟨rfl, rfl, rfl, rfl, rfl, rfl, rfl, trivial⟩, rfl⟩ ?_
            rintro ⟨j, us2, L2⟩ g ⟨hj, hl2, hn2, hval, hok2⟩
            have hj : j ≤ k2 := hj
            have hl2 : us2.length = 12 := hl2
            have hn2 : NN us2 := hn2
            have hval : L2.map OD.val = L.map OD.val := hval
            have hL2l : L2.length = k2 := by have := congrArg List.length hval; simp only [List.length_map] at this; omega
            refine bcond_dec (fun hlt2 => ?_) (fun hge2 => ?_)
            · have hlt2 : (j : Int) < k2 := hlt2
              have hjl : j < L2.length := by omega
              refine With.mk ⟨rfl, by omega, by omega⟩ ?_
              obtain ⟨a1, a2, a3, a4, hv⟩ : ∃ a1 a2 a3 a4, L2[j].val = [a1, a2, a3, a4] := by unfold OD.val; split; exact ⟨_, _, _, _, rfl⟩; split <;> exact ⟨_, _, _, _, rfl⟩
              refine LoadAt.mk 5 _ (.agg [a1, a2, a3, a4]) rfl (by rw [← hv]; exact readElemD rfl rfl hval hjl rfl) ?_
              intro bz
              refine StoreAt.mk 0 _ _ rfl rfl ?_
              refine .shed (.pull [4, 4, 2, 2] (.refl _)) ?_
              refine loopS (S := Nat × List Int × List OD) (fun s => [(0, .int .i64 room), (7, .ptr bl3 0), (8, .ptr p 0), (9, .ptr m 0), (17, .ptr bz 0), (86, .via (.mref lb 0 k2 4)), (87, .int .i64 k2), (88, .int .i64 j), (92, .int .i64 s.1)])
                (fun s => plH p q s.2.1 (reH m q2 s.2.1 ((bz, [a1, a2, a3, a4]) :: (bl3, [.int .i64 1, .int .i64 room]) :: (lb, L.flatMap OD.val) :: s.2.2.flatMap OD.blk))) (fun s => s.1 ≤ 7 ∧ s.2.1.length = 12 ∧ NN s.2.1 ∧ s.2.2.map OD.val = L2.map OD.val ∧ ∀ o ∈ s.2.2, o.ok) (fun s => 7 - s.1) (0, us2, L2) ⟨⟨Nat.zero_le _, hl2, hn2, rfl, hok2⟩, ⟨rfl, rfl, rfl, rfl, rfl, rfl, rfl, rfl, rfl, trivial⟩, rfl⟩ ?_
              rintro ⟨i, us3, L3⟩ g ⟨hi, hl3, hn3, hval3, hok3⟩
              have hi : i ≤ 7 := hi
              have hl3 : us3.length = 12 := hl3
              have hn3 : NN us3 := hn3
              have hval3 : L3.map OD.val = L2.map OD.val := hval3
              have hj3 : j < L3.length := by have := congrArg List.length hval3; simp only [List.length_map] at this; omega
              have hv3 : L3[j].val = [a1, a2, a3, a4] := (val_of hval3 hj3 hjl).trans hv
              refine bcond_dec (fun hlt3 => ?_) (fun hge3 => ?_)
              · have hlt3 : (i : Int) < 7 := hlt3
                refine LoadAt.mk 4 _ _ rfl rfl ?_
                have hc := aStep27 L3[j] p q m q2 us3 ((bz, [a1, a2, a3, a4]) :: (bl3, [.int .i64 1, .int .i64 room]) :: (lb, L.flatMap OD.val) :: (L3.eraseIdx j).flatMap OD.blk) (hok3 _ (List.getElem_mem hj3)) hn3
                rw [hv3] at hc
                refine .perm _ ((front_perm' [_, _, _, _, _, _, _] L3[j].blk _).trans (List.Perm.append_left [_, _, _, _, _, _, _] (flatM_perm (f := OD.blk) hj3).symm)) hc ?_
                rintro _ _ ⟨q', us', h1, h2, h3, rfl, rfl⟩
                refine ⟨plH p q us' (reH m q2 us' ((bz, [a1, a2, a3, a4]) :: (bl3, [.int .i64 1, .int .i64 room]) :: (lb, L.flatMap OD.val) :: (L3.set j ⟨L3[j].k, L3[j].r, L3[j].rr, q'⟩).flatMap OD.blk)), (List.Perm.append_left [_, _, _, _, _, _, _] (flatM_set (f := OD.blk) hj3 _)).trans (front_perm' [_, _, _, _, _, _, _] (OD.blk ⟨L3[j].k, L3[j].r, L3[j].rr, q'⟩) _).symm, ?_⟩
                refine nextS (i + 1, us', L3.set j ⟨L3[j].k, L3[j].r, L3[j].rr, q'⟩) ?_ ⟨by show i + 1 ≤ 7; omega, h3.trans hl3, h2, (valD_set hj3 q').trans hval3, ?_⟩ ⟨rfl, rfl, rfl, rfl, rfl, rfl, rfl, rfl, inc64 (by omega), trivial⟩ (shed_eq rfl)
                · show 7 - (i + 1) < 7 - i; omega
                · intro o' hmem
                  rcases List.mem_or_eq_of_mem_set hmem with h | h
                  · exact hok3 o' h
                  · exact h ▸ h1
              · have hge3 : ¬ (i : Int) < 7 := hge3
                refine nextS (j + 1, us3, L3) ?_ ⟨by show j + 1 ≤ k2; omega, hl3, hn3, hval3.trans hval, hok3⟩ ⟨rfl, rfl, rfl, rfl, rfl, rfl, inc64 (by omega), trivial⟩ (.pull [3, 3, 1, 1] (.drop 4 1 (shed_eq rfl)))
                show k2 - (j + 1) < k2 - j; omega
            · have hge2 : ¬ (j : Int) < k2 := hge2
              refine .quiet (by kernel_rfl) ?_
              refine callQ [3, 3] (aAll p q us2 _ (by omega)) ?_
              refine LoadAt.mk 0 _ _ rfl rfl ?_
              refine callQ [1] (same10m us2 us2 q2 _ (by omega)) ?_
              rw [show (decide (us2 = us2)) = true from decide_eq_true rfl]
              refine LoadAt.mk 4 _ _ rfl rfl ?_
              refine callQ [3, 3] (aListD p q us2 1 room _) ?_
              refine callQ [] (aListR27 m q2 us2 1 room _) ?_
              refine callQ [] (same10 _ _ _ (lenD_le _ _ _)) ?_
              rw [show (decide (listD 1 room us2 = listD 1 room us2)) = true from decide_eq_true rfl]
              refine LoadAt.mk 4 _ _ rfl rfl ?_
              refine callQ [3, 3] (aTopD p q us2 1 room _) ?_
              refine callQ [] (aRLoad m q2 us2 _ _) ?_
              refine bcond_dec (fun _ => ?_) (fun h => absurd rfl h)
              refine LoadAt.mk 4 _ _ rfl rfl ?_
              refine callQ [3, 3] (aBottomD p q us2 1 room _) ?_
              refine callQ [] (aRLoad m q2 us2 _ _) ?_
              refine bcond_dec (fun _ => ?_) (fun h => absurd rfl h)
              exact .done rfl
end Go.Proofs.Ytldiocdjgbehcaa
