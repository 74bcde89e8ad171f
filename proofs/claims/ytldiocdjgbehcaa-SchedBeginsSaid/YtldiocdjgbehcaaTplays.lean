/-
  soughlaw31: awake, and the walk of TicketPlays.
-/
import Derived.Test.YtldiocdjgbehcaaTmove
namespace Go.Proofs.Ytldiocdjgbehcaa
open Go.RowKit
set_option maxRecDepth 100000
theorem aMove (o : OT) (p q m q2 : Nat) (ws : List Int) (σ : Hp) (h : o.ok) : ACalls Try.prog 45 [.agg o.val, .ptr p 0, .ptr m 0] (o.blk ++ plH p q ws (reH m q2 ws σ)) (MovePost o p q m q2 ws σ) := by
  cases o with
  | tk r rr t u => exact aMoveT r rr p q m q2 t u ws σ h
  | ck r rr t u => exact aMoveC r rr p q m q2 t u ws σ h
  | rk r rr t u => exact aMoveR r rr p q m q2 t u ws σ h
  | qk r rr t u => exact aMoveQ r rr p q m q2 t u ws σ h

theorem aBegin (k v f c : Int) (σ : Hp) : ACalls Try.prog 44 [.agg [.int .i64 k, .int .i64 v], .agg [.int .i64 f, .int .i64 c]] σ (fun x σ' => ∃ o : OT, o.ok ∧ x = .agg o.val ∧ σ' = o.blk ++ σ) := by
  refine okF Try.func44 (by kernel_rfl) ?_
  intro b2 b3 b4
  refine LoadAt.mk 2 _ _ rfl rfl ?_
  refine LoadAt.mk 2 _ _ rfl rfl ?_
  refine LoadAt.mk 1 _ _ rfl rfl ?_
  refine LoadAt.mk 1 _ _ rfl rfl ?_
  intro rr b5
  refine StoreAt.mk 0 _ _ rfl rfl ?_
  refine LoadAt.mk 4 _ _ rfl rfl ?_
  refine bcond_dec (fun h1 => ?_) (fun h1 => ?_)
  · have h1 : k = 1 := h1
    refine LoadAt.mk 3 _ _ rfl rfl ?_
    refine LoadAt.mk 4 _ _ rfl rfl ?_
    intro r
    refine StoreAt.mk 1 _ _ rfl rfl ?_
    refine LoadAt.mk 1 _ _ rfl rfl ?_
    refine StoreAt.mk 3 _ _ rfl rfl ?_
    refine LoadAt.mk 3 _ _ rfl rfl ?_
    refine .drop 1 1 (.drop 2 3 (.done ?_))
    exact ⟨.tk r rr ⟨f, c, v, false, false, false⟩ ⟨k, v, f, c, 0, false, false, false, 0⟩, ⟨h1, rfl, rfl, rfl, rfl, rfl, fun _ => ⟨rfl, fun _ => rfl⟩⟩, rfl, rfl⟩
  have h1 : ¬ k = 1 := h1
  refine bcond_dec (fun h2 => ?_) (fun h2 => ?_)
  · have h2 : k = 2 := h2
    refine LoadAt.mk 3 _ _ rfl rfl ?_
    refine LoadAt.mk 4 _ _ rfl rfl ?_
    intro r
    refine StoreAt.mk 1 _ _ rfl rfl ?_
    refine LoadAt.mk 1 _ _ rfl rfl ?_
    refine StoreAt.mk 3 _ _ rfl rfl ?_
    refine LoadAt.mk 3 _ _ rfl rfl ?_
    refine .drop 1 1 (.drop 2 3 (.done ?_))
    exact ⟨.ck r rr ⟨f, c, v, false⟩ ⟨k, v, f, c, 0, false, false, false, 0⟩, ⟨h2, rfl, rfl, rfl⟩, rfl, rfl⟩
  have h2 : ¬ k = 2 := h2
  refine bcond_dec (fun h3 => ?_) (fun h3 => ?_)
  · have h3 : k = 3 := h3
    refine LoadAt.mk 3 _ _ rfl rfl ?_
    intro r
    refine StoreAt.mk 1 _ _ rfl rfl ?_
    refine LoadAt.mk 1 _ _ rfl rfl ?_
    refine StoreAt.mk 3 _ _ rfl rfl ?_
    refine LoadAt.mk 3 _ _ rfl rfl ?_
    refine .drop 1 1 (.drop 2 3 (.done ?_))
    exact ⟨.rk r rr ⟨f, c, 0, false⟩ ⟨k, v, f, c, 0, false, false, false, 0⟩, ⟨h3, rfl, rfl, rfl⟩, rfl, rfl⟩
  have h3 : ¬ k = 3 := h3
  refine LoadAt.mk 3 _ _ rfl rfl ?_
  intro r
  refine StoreAt.mk 1 _ _ rfl rfl ?_
  refine LoadAt.mk 1 _ _ rfl rfl ?_
  refine StoreAt.mk 3 _ _ rfl rfl ?_
  refine LoadAt.mk 3 _ _ rfl rfl ?_
  refine .drop 1 1 (.drop 2 3 (.done ?_))
  exact ⟨.qk r rr ⟨f, c, false, false⟩ ⟨k, v, f, c, 0, false, false, false, 0⟩, ⟨⟨h1, h2, h3⟩, rfl, rfl, rfl⟩, rfl, rfl⟩

theorem awake31a : ACalls Try.prog 42 [] [] (Ret (.bool true) []) := by
  refine okF Try.func42 (by kernel_rfl) ?_
  refine .mk [] _ (aNew 3 []) ?_
  rintro _ _ ⟨p, q, rfl, rfl⟩
  intro bb
  refine StoreAt.mk 0 _ _ rfl rfl ?_
  refine LoadAt.mk 0 _ _ rfl rfl ?_
  intro t
  refine LoadAt.mk 1 _ _ rfl rfl ?_
  intro u
  have t1 := fun σ => ofMPost (aTake (plainM p q) t ⟨0, 2, 1, false, false, false⟩ [0, 0, 0] 0 σ trivial) (x' := ⟨0, 2, 1, true, false, true⟩) (ws' := [0, 1, 0]) (b := false) rfl
  have t2 := fun σ => ofMPost (aTake (plainM p q) t ⟨0, 2, 1, true, false, true⟩ [0, 1, 0] 0 σ trivial) (x' := ⟨0, 2, 1, true, true, true⟩) (ws' := [0, 1, 1]) (b := true) rfl
  have t3 := fun σ => ofMPost (aTake (plainM p q) u ⟨0, 2, 1, false, false, false⟩ [0, 1, 1] 0 σ trivial) (x' := ⟨0, 2, 1, false, true, true⟩) (ws' := [0, 1, 1]) (b := true) rfl
  refine callR [3, 4, 4] (t1 _) ?_
  refine callR [] (t2 _) ?_
  refine LoadAt.mk 0 _ _ rfl rfl ?_
  refine callR [3, 2, 2] (t3 _) ?_
  refine LoadAt.mk 0 _ _ rfl rfl ?_
  refine LoadAt.mk 4 _ _ rfl rfl ?_
  refine callR [2, 2] (aWaitsP 0 2 1 p q [0, 1, 1] _) ?_
  refine LoadAt.mk 4 _ _ rfl rfl ?_
  refine callR [] (aNumberP 0 2 p q [0, 1, 1] _) ?_
  exact .drop 0 5 (.done ⟨rfl, rfl⟩)

theorem flat_elem {α : Type} {f : α → List AV} {n : Nat} (hf : ∀ x, (f x).length = n) {l : List α} {j : Nat} (h : j < l.length) : ((l.flatMap f).drop (j * n)).take n = f l[j] := by
  induction l generalizing j with
  | nil => simp at h
  | cons x l ih =>
    cases j with
    | zero => simp [hf]
    | succ j =>
      rw [List.flatMap_cons, List.drop_append, hf, Nat.succ_mul, Nat.add_sub_cancel, List.drop_of_length_le (by rw [hf]; omega), List.nil_append]
      simpa using ih (by simpa using h)

theorem OT.val_len (o : OT) : o.val.length = 5 := by cases o <;> rfl
theorem flatM_perm {α : Type} {f : α → Hp} {l : List α} {j : Nat} (h : j < l.length) : (l.flatMap f).Perm (f l[j] ++ (l.eraseIdx j).flatMap f) := by
  induction l generalizing j with
  | nil => simp at h
  | cons x l ih =>
    cases j with
    | zero => exact List.Perm.refl _
    | succ j =>
      rw [List.flatMap_cons]
      have := ih (j := j) (by simpa using h)
      refine (List.Perm.append_left _ this).trans ?_
      simp only [List.getElem_cons_succ, List.eraseIdx_cons_succ, List.flatMap_cons, ← List.append_assoc]
      exact List.Perm.append_right _ List.perm_append_comm
theorem flatM_set {α : Type} {f : α → Hp} {l : List α} {j : Nat} (h : j < l.length) (y : α) : ((l.set j y).flatMap f).Perm (f y ++ (l.eraseIdx j).flatMap f) := by
  have := flatM_perm (f := f) (l := l.set j y) (j := j) (by simpa using h)
  rw [List.getElem_set_self, List.eraseIdx_set_eq] at this
  exact this
theorem mset {ws : List Int} {k : Nat} (x : Int) : ws.set k x = mStore ws k x := (store_hit x).symm

theorem base_perm (base acc F B : Hp) : (base ++ (acc ++ (F ++ B))).Perm (B ++ (base ++ (acc ++ F))) := by
  rw [← List.append_assoc acc, ← List.append_assoc base]
  exact List.perm_append_comm
/-- Two rows of blocks change places, and one from the front goes behind all. -/
theorem list_perm_aux (o a b c F : Hp) : (o ++ (a ++ (b ++ (c ++ F)))).Perm (b ++ (a ++ (c ++ (o ++ F)))) := by
  have h1 : (o ++ (a ++ (b ++ (c ++ F)))).Perm (o ++ (b ++ (a ++ (c ++ F)))) := List.Perm.append_left _ (front_perm' b a _)
  refine h1.trans ?_
  have h2 := front_perm' (b ++ (a ++ c)) o F
  simpa only [List.append_assoc] using h2
theorem readElem {i : TI} (hi : i.wide = true) (hs : i.size = 5) {l : List OT} {j : Nat} (h : j < l.length) {x : Int} (hx : x = j) : readAs i (l.flatMap OT.val) (0 + x.toNat * 5) = some (.agg l[j].val) := by
  subst hx
  have hl := flat_length (f := OT.val) (es := 5) OT.val_len l
  have hb : Nat.ble (0 + j * 5 + 5) (l.flatMap OT.val).length = true := Nat.ble_eq_true_of_le (by rw [hl]; omega)
  unfold readAs
  rw [hi, hs]
  show (match Nat.ble (0 + j * 5 + 5) (l.flatMap OT.val).length with | true => some (AV.agg (((l.flatMap OT.val).drop (0 + j * 5)).take 5)) | false => none) = _
  rw [hb]
  show some (AV.agg (((l.flatMap OT.val).drop (0 + j * 5)).take 5)) = _
  rw [Nat.zero_add, flat_elem OT.val_len h]
theorem pick_mod {z : Int} {n : Nat} (hz : 0 ≤ z ∧ z ≤ 255) (hn : 0 < n) : ∃ j : Nat, (IntKind.i64.wrap z).tmod n = j ∧ j < n := by
  rw [show IntKind.i64.wrap z = z by rw [IntKind.wrap_i64]; omega, Int.tmod_eq_emod_of_nonneg hz.1]
  have h1 := Int.emod_nonneg z (show (n : Int) ≠ 0 by omega)
  have h2 := Int.emod_lt_of_pos z (show (0 : Int) < n by omega)
  exact ⟨(z % n).toNat, by omega, by omega⟩

theorem ticketPlays_walk (ks ns os ws0 : List Int) (ho : ∀ z ∈ os, 0 ≤ z ∧ z ≤ 255) : ACalls Try.prog 7 [.fsl (.int .i64) ks, .fsl (.int .i64) ns, .fsl (.int .u8) os, .fsl (.int .u64) ws0] [] (fun r _ => r = .bool true) := by
  refine okF Try.func7 (by kernel_rfl) ?_
  refine callR [] awake31a ?_
  refine bcond_dec (fun h => ?_) (fun h1 => ?_)
  · exact .done rfl
  have h1 : ¬ 20 < (ks.length : Int) := h1
  refine bcond_dec (fun h => ?_) (fun h2 => ?_)
  · exact .done rfl
  have h2 : ¬ 80 < (os.length : Int) := h2
  refine bcond_dec (fun h => ?_) (fun h3 => ?_)
  · exact .done rfl
  have h3 : ¬ 9 < (ws0.length : Int) := h3
  intro bb
  refine StoreAt.mk 0 _ _ rfl rfl ?_
  refine .mk [] _ (aNew 8 _) ?_
  rintro _ _ ⟨p, q, rfl, rfl⟩
  refine .mk [] _ (aRNew 8 _) ?_
  rintro _ _ ⟨m, q2, rfl, rfl⟩
  refine loopS (S := Nat × List Int) (fun s => [(0, .fsl (.int .i64) ks), (1, .fsl (.int .i64) ns), (2, .fsl (.int .u8) os), (9, .ptr bb 0), (10, .ptr p 0), (11, .ptr m 0), (38, .fsl (.int .u64) ws0), (39, .int .i64 ws0.length), (40, .int .i64 s.1)])
    (fun s => reH m q2 s.2 (plH p q s.2 [(bb, [.int .i64 1, .int .i64 6])])) (fun s => s.1 ≤ ws0.length ∧ s.2.length = 8) (fun s => ws0.length - s.1) (0, [0, 0, 0, 0, 0, 0, 0, 0]) ⟨⟨Nat.zero_le _, rfl⟩, ⟨rfl, rfl, rfl, rfl, rfl, rfl, rfl, rfl, rfl, trivial⟩, rfl⟩ ?_
  rintro ⟨k, ws⟩ g ⟨hk, hw⟩
  have hk : k ≤ ws0.length := hk
  have hw : ws.length = 8 := hw
  refine bcond_dec (fun hlt => ?_) (fun hge => ?_)
  · have hlt : (k : Int) < ws0.length := hlt
    have hlt : k < ws0.length := by omega
    refine With.mk rfl (IdxF.mk ws0[k] (by omega) (get_some hlt) ?_)
    refine callR [3, 3] (aStore p q ws k ws0[k] _) ?_
    refine LoadAt.mk 2 _ _ rfl rfl ?_
    refine bcond_dec (fun hc => ?_) (fun hc => ?_)
    · have hc : (k : Int) < ws.length := hc
      have hc' : k < ws.length := by omega
      refine LoadAt.mk 2 _ _ rfl rfl ?_
      refine With.mk ⟨rfl, by omega, hc⟩ ?_
      refine StoreAt.mk 3 _ _ rfl (woC_put _ hc') ?_
      refine nextS (k + 1, mStore ws k ws0[k]) ?_ ⟨hlt, by rw [mStore_length]; exact hw⟩ ⟨rfl, rfl, rfl, rfl, rfl, rfl, rfl, rfl, inc64 (by omega), trivial⟩ (.pull [3, 3] (shed_eq ?_))
      · show ws0.length - (k + 1) < ws0.length - k; omega
      · rw [mset]
        show (m, [AV.mref q2 0 ws.length 1]) :: _ = (m, [AV.mref q2 0 (mStore ws k ws0[k]).length 1]) :: _
        rw [mStore_length]; rfl
    · have hc : ¬ (k : Int) < ws.length := hc
      have e : mStore ws k ws0[k] = ws := store_miss (by omega)
      rw [e]
      refine nextS (k + 1, ws) ?_ ⟨hlt, hw⟩ ⟨rfl, rfl, rfl, rfl, rfl, rfl, rfl, rfl, inc64 (by omega), trivial⟩ (.pull [3, 3] (shed_eq rfl))
      show ws0.length - (k + 1) < ws0.length - k; omega
  refine .wrap 14 _ rfl rfl ?_
  refine loopS (S := Nat × AV × Hp × List OT) (fun s => [(0, .fsl (.int .i64) ks), (1, .fsl (.int .i64) ns), (2, .fsl (.int .u8) os), (9, .ptr bb 0), (10, .ptr p 0), (11, .ptr m 0), (14, .via s.2.1), (64, .fsl (.int .i64) ks), (65, .int .i64 ks.length), (66, .int .i64 s.1)])
    (fun s => reH m q2 ws (plH p q ws ((bb, [.int .i64 1, .int .i64 6]) :: (s.2.2.1 ++ s.2.2.2.flatMap OT.blk)))) (fun s => s.1 ≤ ks.length ∧ s.2.2.2.length = s.1 ∧ Acc 5 s.1 s.2.1 s.2.2.1 (s.2.2.2.flatMap OT.val) ∧ ∀ o ∈ s.2.2.2, o.ok) (fun s => ks.length - s.1) (0, .nils, [], []) ⟨⟨Nat.zero_le _, rfl, .nil, fun o h => by cases h⟩, ⟨rfl, rfl, rfl, rfl, rfl, rfl, rfl, rfl, rfl, rfl, trivial⟩, rfl⟩ ?_
  rintro ⟨k, v, acc, l⟩ g ⟨hk, hll, hacc, hok⟩
  have hk : k ≤ ks.length := hk
  have hll : l.length = k := hll
  have hacc : Acc 5 k v acc (l.flatMap OT.val) := hacc
  refine bcond_dec (fun hlt => ?_) (fun hge => ?_)
  · have hlt : (k : Int) < ks.length := hlt
    have hlt : k < ks.length := by omega
    refine With.mk rfl (IdxF.mk ks[k] (by omega) (get_some hlt) ?_)
    refine bcond_dec (fun hc => ?_) (fun hc => ?_)
    · have hc : (k : Int) < ns.length := hc
      have hc' : k < ns.length := by omega
      refine With.mk rfl (IdxF.mk ns[k] (by omega) (get_some hc') ?_)
      refine LoadAt.mk 4 _ _ rfl rfl ?_
      refine .perm _ (List.Perm.refl _) (aBegin ks[k] ns[k] 1 6 _) ?_
      rintro _ _ ⟨o, hoo, hx, rfl⟩
      obtain ⟨a1, a2, a3, a4, a5, hv⟩ : ∃ a1 a2 a3 a4 a5, o.val = [a1, a2, a3, a4, a5] := by cases o <;> exact ⟨_, _, _, _, _, rfl⟩
      rw [hv] at hx
      subst hx
      refine ⟨reH m q2 ws (plH p q ws ((bb, [.int .i64 1, .int .i64 6]) :: (acc ++ (l.flatMap OT.blk ++ o.blk)))), base_perm [_, _, _, _, _] acc (l.flatMap OT.blk) o.blk, ?_⟩
      intro b1
      refine append_acc [_, _, _, _, _, _] hacc (.mref 0 b1 0 1 _ rfl (Nat.le_of_ble_eq_true rfl)) rfl (by omega) (by decide) (by decide) (fun v' acc' h' => ?_)
      refine nextS (k + 1, v', acc', l ++ [o]) ?_ ⟨hlt, ?_, ?_, ?_⟩ ⟨rfl, rfl, rfl, rfl, rfl, rfl, rfl, rfl, rfl, inc64 (by omega), trivial⟩ (.drop 0 1 (shed_eq ?_))
      · show ks.length - (k + 1) < ks.length - k; omega
      · simp [hll]
      · have e : (l ++ [o]).flatMap OT.val = l.flatMap OT.val ++ [a1, a2, a3, a4, a5] := by rw [List.flatMap_append]; simp [hv]
        show Acc 5 (k + 1) v' acc' ((l ++ [o]).flatMap OT.val)
        rw [e]; exact h'
      · intro o' ho'
        rcases List.mem_append.1 ho' with h | h
        · exact hok o' h
        · obtain rfl := List.mem_singleton.1 h; exact hoo
      · show _ = reH m q2 ws (plH p q ws ((bb, [.int .i64 1, .int .i64 6]) :: (acc' ++ (l ++ [o]).flatMap OT.blk)))
        rw [List.flatMap_append, show [o].flatMap OT.blk = o.blk by simp]
        rfl
    · refine LoadAt.mk 4 _ _ rfl rfl ?_
      refine .perm _ (List.Perm.refl _) (aBegin ks[k] 0 1 6 _) ?_
      rintro _ _ ⟨o, hoo, hx, rfl⟩
      obtain ⟨a1, a2, a3, a4, a5, hv⟩ : ∃ a1 a2 a3 a4 a5, o.val = [a1, a2, a3, a4, a5] := by cases o <;> exact ⟨_, _, _, _, _, rfl⟩
      rw [hv] at hx
      subst hx
      refine ⟨reH m q2 ws (plH p q ws ((bb, [.int .i64 1, .int .i64 6]) :: (acc ++ (l.flatMap OT.blk ++ o.blk)))), base_perm [_, _, _, _, _] acc (l.flatMap OT.blk) o.blk, ?_⟩
      intro b1
      refine append_acc [_, _, _, _, _, _] hacc (.mref 0 b1 0 1 _ rfl (Nat.le_of_ble_eq_true rfl)) rfl (by omega) (by decide) (by decide) (fun v' acc' h' => ?_)
      refine nextS (k + 1, v', acc', l ++ [o]) ?_ ⟨hlt, ?_, ?_, ?_⟩ ⟨rfl, rfl, rfl, rfl, rfl, rfl, rfl, rfl, rfl, inc64 (by omega), trivial⟩ (.drop 0 1 (shed_eq ?_))
      · show ks.length - (k + 1) < ks.length - k; omega
      · simp [hll]
      · have e : (l ++ [o]).flatMap OT.val = l.flatMap OT.val ++ [a1, a2, a3, a4, a5] := by rw [List.flatMap_append]; simp [hv]
        show Acc 5 (k + 1) v' acc' ((l ++ [o]).flatMap OT.val)
        rw [e]; exact h'
      · intro o' ho'
        rcases List.mem_append.1 ho' with h | h
        · exact hok o' h
        · obtain rfl := List.mem_singleton.1 h; exact hoo
      · show _ = reH m q2 ws (plH p q ws ((bb, [.int .i64 1, .int .i64 6]) :: (acc' ++ (l ++ [o]).flatMap OT.blk)))
        rw [List.flatMap_append, show [o].flatMap OT.blk = o.blk by simp]
        rfl
  have hge : ¬ (k : Int) < ks.length := hge
  have hkl : k = ks.length := by omega
  generalize hcs : l.flatMap OT.val = cs at hacc
  cases hacc with
  | nil =>
    obtain rfl := List.length_eq_zero_iff.1 hll
    refine loopS (S := Nat) (fun s => [(9, .ptr bb 0), (10, .ptr p 0), (11, .ptr m 0), (14, .via .nils), (88, .fsl (.int .u8) os), (89, .int .i64 os.length), (90, .int .i64 s)])
      (fun s => reH m q2 ws (plH p q ws [(bb, [.int .i64 1, .int .i64 6])])) (fun s => s ≤ os.length) (fun s => os.length - s) 0 ⟨Nat.zero_le _, ⟨rfl, rfl, rfl, rfl, rfl, rfl, rfl, trivial⟩, rfl⟩ ?_
    intro k2 g hk2
    refine bcond_dec (fun hlt => ?_) (fun hge2 => ?_)
    · have hlt : k2 < os.length := by have hlt : (k2 : Int) < os.length := hlt; omega
      refine With.mk rfl (IdxF.mk os[k2] (by omega) (get_some hlt) ?_)
      refine next (k2 + 1) ?_ hlt ⟨rfl, rfl, rfl, rfl, rfl, rfl, inc64 (by omega), trivial⟩ rfl
      show os.length - (k2 + 1) < os.length - k2; omega
    · obtain ⟨us, hus, hue⟩ : ∃ us : List Int, us.length = 8 ∧ us = ws := ⟨ws, hw, rfl⟩
      subst hue
      refine .quiet (by kernel_rfl) ?_
      refine callQ [3, 3] (aAll p q us _ (by omega)) ?_
      refine LoadAt.mk 0 _ _ rfl rfl ?_
      refine callQ [1] (same10m us us q2 _ (by omega)) ?_
      rw [show (decide (us = us)) = true from decide_eq_true rfl]
      refine LoadAt.mk 4 _ _ rfl rfl ?_
      refine callQ [3, 3] (aNumberP 1 6 p q us _) ?_
      refine LoadAt.mk 0 _ _ rfl rfl ?_
      refine With.mk ⟨rfl, by decide, by omega⟩ ?_
      refine LoadAt.mk 1 _ _ rfl (woC_get (k := 6) (by omega)) ?_
      refine bcond_dec (fun _ => ?_) (fun h => absurd rfl h)
      refine LoadAt.mk 4 _ _ rfl rfl ?_
      refine callQ [3, 3] (aWaitsP 1 6 2 p q us _) ?_
      refine LoadAt.mk 0 _ _ rfl rfl ?_
      refine With.mk ⟨rfl, by decide, by omega⟩ ?_
      refine LoadAt.mk 1 _ _ rfl (woC_get (k := 3) (by omega)) ?_
      have e3 : mLoad us (wr (1 + 2)) = us.getD 3 0 := load_hit (a := 3)
      refine bcond_dec (fun h3 => ?_) (fun h3 => ?_)
      · have hb : (decide ((0 : Int) ≤ 2) && decide (mLoad us (wr (1 + 2)) = 1)) = true := by rw [e3, h3]; rfl
        refine bcond_split (fun _ => ?_) (fun h => by rw [hb] at h; cases h)
        refine LoadAt.mk 4 _ _ rfl rfl ?_
        refine callQ [3, 3] (aWaitsP 1 6 (-1) p q us _) ?_
        exact .done rfl
      · have hb : (decide ((0 : Int) ≤ 2) && decide (mLoad us (wr (1 + 2)) = 1)) = false := by rw [e3, decide_eq_false h3]; rfl
        refine bcond_split (fun _ => ?_) (fun h => by rw [hb] at h; cases h)
        refine LoadAt.mk 4 _ _ rfl rfl ?_
        refine callQ [3, 3] (aWaitsP 1 6 (-1) p q us _) ?_
        exact .done rfl
  | mref lb k cs hlen =>
    subst hcs
    refine loopS (S := Nat × List Int × List OT) (fun s => [(9, .ptr bb 0), (10, .ptr p 0), (11, .ptr m 0), (14, .via (.mref lb 0 k 5)), (88, .fsl (.int .u8) os), (89, .int .i64 os.length), (90, .int .i64 s.1)])
      (fun s => reH m q2 s.2.1 (plH p q s.2.1 ((bb, [.int .i64 1, .int .i64 6]) :: (lb, l.flatMap OT.val) :: s.2.2.flatMap OT.blk))) (fun s => s.1 ≤ os.length ∧ s.2.1.length = 8 ∧ s.2.2.length = k ∧ s.2.2.map OT.val = l.map OT.val ∧ ∀ o ∈ s.2.2, o.ok) (fun s => os.length - s.1) (0, ws, l) ⟨⟨Nat.zero_le _, hw, hll, rfl, hok⟩, ⟨rfl, rfl, rfl, rfl, rfl, rfl, rfl, trivial⟩, rfl⟩ ?_
    rintro ⟨k2, us, l2⟩ g ⟨hk2, hus, hl2, hval, hok2⟩
    have hk2 : k2 ≤ os.length := hk2
    have hus : us.length = 8 := hus
    have hl2 : l2.length = k := hl2
    have hval : l2.map OT.val = l.map OT.val := hval
    refine bcond_dec (fun hlt => ?_) (fun hge2 => ?_)
    · have hlt : k2 < os.length := by have hlt : (k2 : Int) < os.length := hlt; omega
      refine With.mk rfl (IdxF.mk os[k2] (by omega) (get_some hlt) ?_)
      refine bcond_dec (fun hn => ?_) (fun hn => ?_)
      · have hn : (0 : Int) < k := hn
        obtain ⟨j, hj, hjn⟩ := pick_mod (ho os[k2] (List.getElem_mem hlt)) (show 0 < k by omega)
        refine With.mk (by omega) ?_
        refine With.mk ⟨rfl, by rw [hj]; omega, by rw [hj]; omega⟩ ?_
        refine LoadAt.mk 5 _ _ rfl (readElem rfl rfl (l := l) (j := j) (by omega) hj) ?_
        have hjl : j < l2.length := by omega
        have e : l[j].val = l2[j].val := by
          have h1 : (l.map OT.val)[j]? = (l2.map OT.val)[j]? := by rw [hval]
          simpa [hjl, show j < l.length by omega] using h1
        rw [e]
        refine .perm _ ?_ (aMove l2[j] p q m q2 us ((bb, [.int .i64 1, .int .i64 6]) :: (lb, l.flatMap OT.val) :: (l2.eraseIdx j).flatMap OT.blk) (hok2 _ (List.getElem_mem hjl))) ?_
        · refine (list_perm_aux l2[j].blk [_, _] [_, _] [_, _] _).trans ?_
          exact List.Perm.append_left [_, _, _, _, _, _] (flatM_perm hjl).symm
        rintro _ _ ⟨o', us', h1, h2, h3, rfl, rfl⟩
        refine ⟨reH m q2 us' (plH p q us' ((bb, [.int .i64 1, .int .i64 6]) :: (lb, l.flatMap OT.val) :: (l2.set j o').flatMap OT.blk)), ?_, ?_⟩
        · refine List.Perm.trans ?_ (list_perm_aux o'.blk [_, _] [_, _] [_, _] _).symm
          exact List.Perm.append_left [_, _, _, _, _, _] (flatM_set hjl o')
        refine next (k2 + 1, us', l2.set j o') ?_ ⟨hlt, h3.trans hus, by simpa using hl2, ?_, ?_⟩ ⟨rfl, rfl, rfl, rfl, rfl, rfl, inc64 (by omega), trivial⟩ rfl
        · show os.length - (k2 + 1) < os.length - k2; omega
        · rw [← hval, List.map_set, h2]
          refine List.ext_getElem (by simp) fun n h1 h2 => ?_
          rw [List.getElem_set]
          split
          · rename_i hn; subst hn; simp
          · rfl
        · intro o hmem
          rcases List.mem_or_eq_of_mem_set hmem with h | h
          · exact hok2 o h
          · exact h ▸ h1
      · refine next (k2 + 1, us, l2) ?_ ⟨hlt, hus, hl2, hval, hok2⟩ ⟨rfl, rfl, rfl, rfl, rfl, rfl, inc64 (by omega), trivial⟩ rfl
        show os.length - (k2 + 1) < os.length - k2; omega
    · refine .quiet (by kernel_rfl) ?_
      refine callQ [3, 3] (aAll p q us _ (by omega)) ?_
      refine LoadAt.mk 0 _ _ rfl rfl ?_
      refine callQ [1] (same10m us us q2 _ (by omega)) ?_
      rw [show (decide (us = us)) = true from decide_eq_true rfl]
      refine LoadAt.mk 4 _ _ rfl rfl ?_
      refine callQ [3, 3] (aNumberP 1 6 p q us _) ?_
      refine LoadAt.mk 0 _ _ rfl rfl ?_
      refine With.mk ⟨rfl, by decide, by omega⟩ ?_
      refine LoadAt.mk 1 _ _ rfl (woC_get (k := 6) (by omega)) ?_
      refine bcond_dec (fun _ => ?_) (fun h => absurd rfl h)
      refine LoadAt.mk 4 _ _ rfl rfl ?_
      refine callQ [3, 3] (aWaitsP 1 6 2 p q us _) ?_
      refine LoadAt.mk 0 _ _ rfl rfl ?_
      refine With.mk ⟨rfl, by decide, by omega⟩ ?_
      refine LoadAt.mk 1 _ _ rfl (woC_get (k := 3) (by omega)) ?_
      have e3 : mLoad us (wr (1 + 2)) = us.getD 3 0 := load_hit (a := 3)
      refine bcond_dec (fun h3 => ?_) (fun h3 => ?_)
      · have hb : (decide ((0 : Int) ≤ 2) && decide (mLoad us (wr (1 + 2)) = 1)) = true := by rw [e3, h3]; rfl
        refine bcond_split (fun _ => ?_) (fun h => by rw [hb] at h; cases h)
        refine LoadAt.mk 4 _ _ rfl rfl ?_
        refine callQ [3, 3] (aWaitsP 1 6 (-1) p q us _) ?_
        exact .done rfl
      · have hb : (decide ((0 : Int) ≤ 2) && decide (mLoad us (wr (1 + 2)) = 1)) = false := by rw [e3, decide_eq_false h3]; rfl
        refine bcond_split (fun _ => ?_) (fun h => by rw [hb] at h; cases h)
        refine LoadAt.mk 4 _ _ rfl rfl ?_
        refine callQ [3, 3] (aWaitsP 1 6 (-1) p q us _) ?_
        exact .done rfl
end Go.Proofs.Ytldiocdjgbehcaa
