/-
  Qr: what the claim uses of them.
-/
import Derived.Test.YtacacplipaeokaaBn47
namespace Go.Proofs.Ytacacplipaeokaa
open Go.RowKit
set_option maxRecDepth 100000
set_option maxHeartbeats 4000000
theorem aRNewP (cap : Int) (σ : Hp) (h1 : 1 ≤ cap) (h2 : cap ≤ 64) : ACalls Try.prog 9 [.int .i64 (IntKind.i64.wrap (2 + cap))] σ (fun r σ' => ∃ m q, r = .ptr m 0 ∧ σ' = reH m q (List.replicate (2 + rm cap) 0) σ) := by
  have e : cutN (IntKind.i64.wrap (2 + cap)) = 2 + rm cap := by unfold cutN rm; rw [IntKind.wrap_i64]; omega
  rw [← e]
  exact aRNew _ σ
theorem aRResetP (cap : Int) (m q : Nat) (σ : Hp) : ACalls Try.prog 44 [.ptr m 0, .int .i64 0, .int .u64 1] (reH m q (List.replicate (2 + rm cap) 0) σ) (Ret (.tup []) (reH m q ((List.replicate (2 + rm cap) (0 : Int)).set 0 1) σ)) := by
  have h := aRStore m q (List.replicate (2 + rm cap) 0) 0 1 σ
  have e : mStore (List.replicate (2 + rm cap) 0) 0 1 = (List.replicate (2 + rm cap) (0 : Int)).set 0 1 := pd_st _ 0 1
  rw [e] at h; exact h
theorem aRResetQ (cap : Int) (m q : Nat) (σ : Hp) : ACalls Try.prog 44 [.ptr m 0, .int .i64 1, .int .u64 1] (reH m q ((List.replicate (2 + rm cap) (0 : Int)).set 0 1) σ) (Ret (.tup []) (reH m q (ws0P cap) σ)) := by
  have h := aRStore m q ((List.replicate (2 + rm cap) (0 : Int)).set 0 1) 1 1 σ
  have e : mStore ((List.replicate (2 + rm cap) (0 : Int)).set 0 1) 1 1 = ws0P cap := pd_st _ 1 1
  rw [e] at h; exact h
/-- The document's worker. -/
def nrP (r : Nat) : Option (Int × DQ) → AV
  | none => .nilp
  | some _ => .ptr r 0
def brP (r : Nat) : Option (Int × DQ) → Hp
  | none => []
  | some (k, q) => [(r, rqC k q)]
def wrC (i : Nat) (t : List Int) (nv : AV) (op : Nat) : List AV := [.int .i64 i, .fsl (.int .i64) t, nv, .int .i64 op]
def zR (z : (Nat × Nat) × (Nat × PW)) : Hp := (z.1.2, wrC z.1.1 z.2.2.todo (nrP z.2.1 z.2.2.now) z.2.2.op) :: brP z.2.1 z.2.2.now
def zRs (I : List (Nat × Nat)) (Z : List (Nat × PW)) : Hp := (I.zip Z).flatMap zR
theorem zRs_at {I : List (Nat × Nat)} {Z : List (Nat × PW)} {i : Nat} (hi : i < I.length) (hz : i < Z.length) : (zRs I Z).Perm (zR (I[i], Z[i]) ++ ((I.zip Z).eraseIdx i).flatMap zR) := by
  have h : i < (I.zip Z).length := by simp; omega
  have h1 := flatM_perm (f := zR) h
  have e : (I.zip Z)[i] = (I[i], Z[i]) := by simp
  rw [e] at h1
  exact h1
theorem zRs_set {I : List (Nat × Nat)} {Z : List (Nat × PW)} {i : Nat} (hi : i < I.length) (hz : i < Z.length) (y : Nat × PW) : (zRs I (Z.set i y)).Perm (zR (I[i], y) ++ ((I.zip Z).eraseIdx i).flatMap zR) := by
  have h : i < (I.zip Z).length := by simp; omega
  have h1 := flatM_set (f := zR) h (I[i], y)
  rw [← zip_set _ _ _ _ hi] at h1
  exact h1
theorem zr_snoc {ow th : List Int} {k : Nat} {W : List Nat} (h : k < th.length) (hW : W.length = k + 1) (bw : Nat) : zRs (idsP (W ++ [bw])) (zsP ow th (k + 1)) = zRs (idsP W) (zsP ow th k) ++ [(bw, wrC (k + 1) (List.replicate th[k].toNat 0) .nilp 0)] := by
  have hz : (zsP ow th k).length = k + 1 := by simp [zsP, todosP]; omega
  have e1 : idsP (W ++ [bw]) = idsP W ++ [(k + 1, bw)] := by
    unfold idsP
    rw [List.length_append, hW, List.length_singleton, List.range_succ, List.zip_append (by simp [hW])]; rfl
  have e2 : zsP ow th (k + 1) = zsP ow th k ++ [(0, ⟨List.replicate th[k].toNat 0, none, 0⟩)] := by
    unfold zsP todosP
    rw [List.take_succ_eq_append_getElem h]
    simp only [List.map_append, List.map_cons, List.map_nil, List.cons_append]
  unfold zRs
  rw [e1, e2, List.zip_append (by rw [hz]; simp [idsP, hW]), List.flatMap_append]
  rfl
theorem nr_shed {ow th : List Int} {k : Nat} {W : List Nat} (h : k < th.length) (hW : W.length = k + 1) (bw lb : Nat) (a b : Nat × List AV) (σ : Hp) {C M M' : List AV} (hC : C = wrC (k + 1) (List.replicate th[k].toNat 0) .nilp 0) (hM : M = M') :
    Shed ((bw, C) :: (lb, M) :: a :: b :: (zRs (idsP W) (zsP ow th k) ++ σ)) ((lb, M') :: a :: b :: (zRs (idsP (W ++ [bw])) (zsP ow th (k + 1)) ++ σ)) := by
  subst hC hM
  rw [zr_snoc h hW]
  exact .perm (np_perm _ [_, _, _] _ _) (.refl _)
theorem nr_cells {k m n : Nat} (h : k < 1000000) (hn : m = n) : [AV.int .i64 (IntKind.i64.wrap ((k : Int) + 1)), .fsl (.int .i64) (List.replicate m (0 : Int)), .nilp, .int .i64 0] = wrC (k + 1) (List.replicate n 0) .nilp 0 := by
  subst hn
  rw [show IntKind.i64.wrap ((k : Int) + 1) = ((k + 1 : Nat) : Int) by rw [IntKind.wrap_i64]; omega]
  rfl
def ptW (w : Nat) : AV := .ptr w 0
theorem nr_map (W : List Nat) (w : Nat) : W.map ptW ++ [ptW w] = (W ++ [w]).map ptW := by rw [List.map_append]; rfl
theorem r_front {I : List (Nat × Nat)} {Z : List (Nat × PW)} {i : Nat} (hi : i < I.length) (hz : i < Z.length) (fr acc σ : Hp) : (fr ++ (zR (I[i], Z[i]) ++ (acc ++ (((I.zip Z).eraseIdx i).flatMap zR ++ σ)))).Perm (fr ++ (acc ++ (zRs I Z ++ σ))) := by
  refine List.Perm.append_left fr ?_
  refine (front_perm' acc (zR (I[i], Z[i])) _).trans (List.Perm.append_left acc ?_)
  rw [← List.append_assoc]
  exact (zRs_at hi hz).symm.append_right σ
theorem r_back {I : List (Nat × Nat)} {Z : List (Nat × PW)} {i : Nat} (hi : i < I.length) (hz : i < Z.length) (y : Nat × PW) (fr acc σ : Hp) : (fr ++ (acc ++ (zRs I (Z.set i y) ++ σ))).Perm (fr ++ (zR (I[i], y) ++ (acc ++ (((I.zip Z).eraseIdx i).flatMap zR ++ σ)))) := by
  refine List.Perm.append_left fr ?_
  refine List.Perm.trans ?_ (front_perm' acc (zR (I[i], y)) _).symm
  refine List.Perm.append_left acc ?_
  rw [← List.append_assoc]
  exact (zRs_set hi hz y).append_right σ
theorem shF (r m q d p l w b : Nat × List AV) (X : Hp) {T : Hp} (h : T.Perm (d :: l :: m :: q :: w :: r :: b :: X)) : Shed (r :: m :: q :: d :: p :: l :: w :: b :: X) T := .drop 4 1 (.pull [6, 6, 4, 4, 6, 1, 6] (.perm h (.refl _)))
theorem shT (r m q d p l w b : Nat × List AV) (X : Hp) {T : Hp} (h : T.Perm (d :: l :: m :: q :: w :: b :: X)) : Shed (r :: m :: q :: d :: p :: l :: w :: b :: X) T := .drop 0 1 (.drop 3 1 (.pull [5, 5, 3, 3, 5, 5] (.perm h (.refl _))))
structure RS where
  ws : List Int
  ops : List OpR
  Z : List (Nat × PW)
  v : AV
  acc : Hp
  st : List Int
  dn : List Bool
  k : Nat
theorem shB (M m q A O d p lb : Nat × List AV) (wi : Nat) {C C' : List AV} (X : Hp) {T : Hp} (hC : C = C') (h : T.Perm (d :: lb :: m :: q :: (wi, C') :: M :: X)) : Shed (M :: m :: q :: A :: O :: d :: p :: lb :: (wi, C) :: X) T := by
  subst hC
  exact .drop 3 2 (.drop 4 1 (.pull [5, 5, 3, 3, 5, 0] (.perm h (.refl _))))
theorem wr_cells {i : Nat} {t l : List Int} {nv : AV} {op' : Int} {op : Nat} (ht : t = l) (ho : op' = (op : Int)) : [AV.int .i64 i, .fsl (.int .i64) t, nv, .int .i64 op'] = wrC i l nv op := by
  subst ht ho; rfl
theorem aRRunP (cap : Int) (ow th : List Int) (scr : List (Int × Int × Unit)) (σ : Hp) (hs : scr.length ≤ 100000) (hr : rightP cap ow th = true) : ACalls Try.prog 21 [.int .i64 cap, .fsl (.int .i64) ow, .fsl (.int .i64) th, .fsl pickSh scr] σ (Ret (.tup [.fsl opSh ((runP cap ow th scr).a.ops.map opT), .fsl (.int .u64) (listD 0 cap (runP cap ow th scr).a.ws)]) σ) := by
  refine okF Try.func21 (by kernel_rfl) ?_
  obtain ⟨hc1, hc2, ho1, ht1, hon, hth⟩ := rightP_get hr
  refine CallAt.mk [] _ (aRNewP cap _ hc1 hc2) ?_
  rintro _ _ ⟨m, q, rfl, rfl⟩
  refine callR [] (aRResetP cap m q _) ?_
  refine callR [] (aRResetQ cap m q _) ?_
  intro w0
  intro lb0
  refine .wrap 12 _ rfl rfl ?_
  refine .shed (.pull [3, 3, 3, 1] (.refl _)) ?_
  refine loopS (S := Nat × List Nat × Nat) (fun s => [(0, .int .i64 cap), (3, .fsl pickSh scr), (10, .ptr m 0), (11, .nils), (12, .via (.mref s.2.2 0 (s.1 + 1) 1)), (31, .fsl (.int .i64) th), (32, .int .i64 th.length), (33, .int .i64 s.1)])
    (fun s => (s.2.2, s.2.1.map ptW) :: reH m q (ws0P cap) (zRs (idsP s.2.1) (zsP ow th s.1) ++ σ))
    (fun s => s.1 ≤ th.length ∧ s.2.1.length = s.1 + 1) (fun s => th.length - s.1) (0, [w0], lb0) ⟨⟨Nat.zero_le _, rfl⟩, ⟨rfl, rfl, rfl, rfl, rfl, rfl, rfl, rfl, trivial⟩, rfl⟩ ?_
  rintro ⟨k, W, lb⟩ g ⟨hk, hW⟩
  have hk : k ≤ th.length := hk
  have hW : W.length = k + 1 := hW
  refine bcond_dec (fun hlt => ?_) (fun hge => ?_)
  · have hlt : (k : Int) < th.length := hlt
    have hlt : k < th.length := by omega
    refine With.mk rfl (IdxF.mk th[k] (by omega) (get_some hlt) ?_)
    have hm : (0 : Int) ≤ (if th[k] < 0 then 0 else th[k]) ∧ (if th[k] < 0 then (0 : Int) else th[k]) ≤ (if th[k] < 0 then 0 else th[k]) ∧ (if th[k] < 0 then (0 : Int) else th[k]) ≤ 1048576 ∧ 8 ≤ 1024 := by
      have := hth th[k] (List.getElem_mem hlt)
      split <;> omega
    refine With.mk hm ?_
    intro bs
    intro bw
    intro ba
    refine append_acc (k := k + 1) (acc := [(lb, W.map ptW)]) [_, _, _] (.mref lb _ _ (by simp [hW])) (.mref 0 ba 0 1 _ rfl (Nat.le_of_ble_eq_true rfl)) rfl (by omega) (by decide) (by decide) (fun v' acc' h' => ?_)
    rcases acc_split h' with ⟨h0, _⟩ | ⟨lb', rfl, rfl⟩
    · omega
    refine .frzc 2 bs 0 (if th[k] < 0 then (0 : Int) else th[k]).toNat 1 _ (.int .i64) (List.replicate (if th[k] < 0 then (0 : Int) else th[k]).toNat (0 : Int)) rfl (by rw [rep_stC]; exact stC_frz List.length_replicate) ⟨List.length_replicate, rfl, by decide⟩ 1 1 bw _ rfl rfl ?_
    refine nextS (k + 1, W ++ [bw], lb') ?_ ⟨hlt, by simp [hW]⟩ ⟨rfl, rfl, rfl, rfl, rfl, rfl, rfl, inc64 (by omega), trivial⟩ (.drop 0 1 (nr_shed hlt hW bw lb' _ _ _ (nr_cells (by omega) (toNat_max _)) (nr_map W bw)))
    show th.length - (k + 1) < th.length - k; omega
  · have hge : ¬ (k : Int) < th.length := hge
    obtain rfl : k = th.length := by omega
    refine With.mk ⟨by omega, by omega, by omega, by decide⟩ ?_
    intro bl1
    obtain ⟨bd, hbd⟩ : ∃ bd, bd = bl1 := ⟨_, rfl⟩
    subst hbd
    have hz : (zsP ow th th.length).map (·.2) = W0P ow th := by unfold zsP W0P; rw [List.take_length, List.map_map]; rfl
    have hf := free0 hr
    obtain ⟨R, hR⟩ : ∃ R, R = runP cap ow th scr := ⟨_, rfl⟩
    rw [← hR]
    refine .wrap 11 _ rfl rfl ?_
    refine loopS (S := RS) (fun s => [(0, .int .i64 cap), (10, .ptr m 0), (11, .via s.v), (12, .via (.mref lb 0 (th.length + 1) 1)), (15, .mref bd 0 (th.length + 1) 1), (52, .fsl pickSh scr), (53, .int .i64 scr.length), (54, .int .i64 s.k)])
      (fun s => (bd, boC s.dn) :: (lb, W.map ptW) :: reH m q s.ws (s.acc ++ (zRs (idsP W) s.Z ++ σ)))
      (fun s => s.k ≤ scr.length ∧ Acc 6 s.ops.length s.v s.acc (s.ops.flatMap opC) ∧ s.dn.length = th.length + 1 ∧ FreeA (th.length + 1) ⟨s.ws, s.k, s.ops, s.Z.map (·.2)⟩ ∧ goP cap (th.length + 1) (scr.drop s.k) ⟨⟨s.ws, s.k, s.ops, s.Z.map (·.2)⟩, s.st, s.dn, s.k⟩ = R)
      (fun s => scr.length - s.k) ⟨ws0P cap, [], zsP ow th th.length, .nils, [], List.replicate (th.length + 1) 0, List.replicate (th.length + 1) false, 0⟩ ⟨⟨Nat.zero_le _, .nil, List.length_replicate, by rw [hz]; exact hf, by rw [hz, hR]; rfl⟩, ⟨rfl, rfl, rfl, rfl, rfl, rfl, rfl, rfl, trivial⟩, by rw [← rep_boC]; rfl⟩ ?_
    clear hf hz
    rintro ⟨ws, ops, Z, v, acc, st, dn, k⟩ g ⟨hk, hacc, hdn, hf, hgo⟩
    have hk : k ≤ scr.length := hk
    have hacc : Acc 6 ops.length v acc (ops.flatMap opC) := hacc
    have hdn : dn.length = th.length + 1 := hdn
    have hf : FreeA (th.length + 1) ⟨ws, k, ops, Z.map (·.2)⟩ := hf
    have hgo : goP cap (th.length + 1) (scr.drop k) ⟨⟨ws, k, ops, Z.map (·.2)⟩, st, dn, k⟩ = R := hgo
    have hA := fun σ => aAllR bd dn σ (by omega)
    rw [hdn] at hA
    refine bcond_dec (fun hlt => ?_) (fun hge => ?_)
    · have hul : (k : Int) < scr.length := hlt
      have hul : k < scr.length := by omega
      obtain ⟨pk, hpk⟩ : ∃ pk, pk = scr[k] := ⟨_, rfl⟩
      obtain ⟨pw, pd, pu⟩ := pk
      refine With.mk rfl (IdxF.mk (pw, pd, pu) (by omega) ((get_some hul).trans (congrArg some hpk.symm)) ?_)
      intro bp
      refine StoreAt.mk 0 _ _ rfl rfl ?_
      refine callR [1] (hA _) ?_
      cases hall : dn.all id with
      | true =>
        have hE : R = ⟨⟨ws, k, ops, Z.map (·.2)⟩, st, dn, k⟩ := by rw [← hgo]; exact goS_all _ hall
        refine callR [4, 4] (aListR27 m q ws 0 cap _) ?_
        rw [hE]
        rcases acc_split hacc with ⟨h0, rfl, rfl⟩ | ⟨b, rfl, rfl⟩
        · refine .drop 0 5 (fin_frontP (zRs (idsP W) Z) (.nil (frz_cons (.nil opSh) (.refl _)) (.done ⟨?_, rfl⟩)))
          obtain rfl : ops = [] := List.length_eq_zero_iff.1 h0
          rfl
        · refine .frz 5 b 0 ops.length 6 _ opSh (ops.map opT) rfl (by rw [List.drop_zero, ops_flat]; exact List.take_of_length_le (by rw [← ops_flat, flat_length (es := 6) opC_len]; exact Nat.le_refl _)) ⟨List.length_map .., rfl, by decide⟩ (frz_cons .here (.refl _)) ?_
          exact .drop 0 5 (fin_frontP (zRs (idsP W) Z) (.done ⟨rfl, rfl⟩))
      | false =>
        obtain ⟨i, hi⟩ : ∃ i, i = whoS pw (th.length + 1) := ⟨_, rfl⟩
        have hin : i < th.length + 1 := by rw [hi]; exact whoS_lt (by omega)
        have hinc : AV.int .i64 (IntKind.i64.wrap ((k : Int) + 1)) = AV.int .i64 ((k + 1 : Nat) : Int) := inc64 (by omega)
        have hWho := fun σ => aWhoR pw pd (th.length + 1) σ (by omega)
        rw [← hi] at hWho
        have hZl : Z.length = th.length + 1 := by
          have := hf.len
          have : (Z.map (·.2)).length = th.length + 1 := this
          simpa using this
        have hiI : i < (idsP W).length := by rw [ids_len, hW]; exact hin
        have hiZ : i < Z.length := by omega
        have hw := ids_fst W i hiI
        have hWi : (idsP W)[i].2 = W[i] := by simp [idsP]
        have hfr := fun fr τ => r_front (I := idsP W) (Z := Z) hiI hiZ fr acc τ
        have hbk := fun y fr τ ac => r_back (I := idsP W) (Z := Z) hiI hiZ y fr ac τ
        have hWm : (PA.W ⟨ws, k, ops, Z.map (·.2)⟩)[i]? = some Z[i].2 := by
          show (Z.map (·.2))[i]? = _
          rw [List.getElem?_map, List.getElem?_eq_getElem hiZ]; rfl
        have hok := hf.ok i _ hWm
        have hset : ∀ (y : Nat × PW), (Z.set i y).map (·.2) = (Z.map (·.2)).set i y.2 := fun y => by rw [List.map_set]
        have hstep := hf.step cap i
        have hlen : ops.length ≤ 100000 := by have : ops.length + _ ≤ 100000 := hf.big; omega
        obtain ⟨⟨r, todo, now, op⟩, hzz⟩ : ∃ z, z = Z[i] := ⟨_, rfl⟩
        rw [← hzz] at hfr hWm hok
        obtain ⟨⟨i', wi⟩, hii⟩ : ∃ ii, ii = (idsP W)[i] := ⟨_, rfl⟩
        rw [← hii] at hfr hbk hw hWi
        have hw : i' = i := hw
        have hWi : wi = W[i] := hWi
        subst hw
        refine LoadAt.mk 1 _ _ rfl rfl ?_
        refine .perm _ (hfr [_, _, _, _, _] σ) (hWho _) ?_
        rintro _ _ ⟨rfl, rfl⟩
        refine ⟨_, .refl _, ?_⟩
        refine With.mk ⟨rfl, by omega, by omega⟩ ?_
        refine LoadAt.mk 2 _ (.ptr wi 0) rfl (by rw [hWi]; exact p_get (rs := W) (i := i') (by omega)) ?_
        have hid : i' < dn.length := by omega
        have hnx : ∀ (ws' : List Int) (ops' : List OpR) (Z' : List (Nat × PW)) (dn' : List Bool) (st' : List Int), goP cap (th.length + 1) (scr.drop (k + 1)) ⟨⟨ws', k + 1, ops', Z'.map (·.2)⟩, st', dn', k + 1⟩ = goP cap (th.length + 1) (scr.drop k) ⟨⟨ws, k, ops, Z.map (·.2)⟩, st, dn, k⟩ → goP cap (th.length + 1) (scr.drop (k + 1)) ⟨⟨ws', k + 1, ops', Z'.map (·.2)⟩, st', dn', k + 1⟩ = R := fun _ _ _ _ _ h => h.trans hgo
        have hZs : Z.set i' (r, ⟨todo, now, op⟩) = Z := by rw [hzz]; exact List.set_getElem_self hiZ
        cases hd : dn[i'] with
        | true =>
          have hgS := goS_skip (step := fun a i _ => stepP cap a i) (tell := tellP) (a := (⟨ws, k, ops, Z.map (·.2)⟩ : PA)) (st := st) hall hul hpk hi hid hd
          have hfk : FreeA (th.length + 1) ⟨ws, k + 1, ops, Z.map (·.2)⟩ := ⟨hf.len, hf.nn, hf.ok, hf.big, hf.one, hf.todo⟩
          refine LoadAt.mk 5 _ _ rfl rfl ?_
          refine With.mk ⟨rfl, Int.natCast_nonneg i', by show ((i' : Nat) : Int) < ((th.length + 1 : Nat) : Int); omega⟩ ?_
          refine LoadAt.mk 0 _ _ rfl (boC_get hid hd) ?_
          refine nextS ⟨ws, ops, Z, v, acc, st, dn, k + 1⟩ ?_ ⟨hul, hacc, hdn, hfk, ?_⟩ ⟨rfl, rfl, rfl, rfl, rfl, rfl, rfl, hinc, trivial⟩ (.drop 1 1 ?_)
          · show scr.length - (k + 1) < scr.length - k; omega
          · exact hgS.symm.trans hgo
          · have hb := hbk (r, ⟨todo, now, op⟩) [(bd, boC dn), (lb, W.map ptW), (m, [.mref q 0 ws.length 1]), (q, woC ws)] σ acc
            rw [hZs] at hb
            exact .perm hb (.refl _)
        | false =>
          have hgS := goS_step (step := fun a i _ => stepP cap a i) (tell := tellP) (a := (⟨ws, k, ops, Z.map (·.2)⟩ : PA)) (st := st) hall hul hpk hi hid hd
          match now, todo, hWm, hok, hZs with
          | none, [], hWm, hok, hZs =>
            refine LoadAt.mk 5 _ _ rfl rfl ?_
            refine With.mk ⟨rfl, Int.natCast_nonneg i', by show ((i' : Nat) : Int) < ((th.length + 1 : Nat) : Int); omega⟩ ?_
            refine LoadAt.mk 0 _ _ rfl (boC_get hid hd) ?_
            refine LoadAt.mk 5 _ _ rfl rfl ?_
            refine LoadAt.mk 5 _ _ rfl rfl ?_
            refine LoadAt.mk 5 _ _ rfl rfl ?_
            refine .sched [] (upto [] 20 0) (by kernel_rfl) ?_
            refine LoadAt.mk 5 _ _ rfl rfl ?_
            refine LoadAt.mk 5 _ _ rfl rfl ?_
            refine LoadAt.mk 5 _ _ rfl rfl ?_
            refine With.mk ⟨rfl, Int.natCast_nonneg i', by show ((i' : Nat) : Int) < ((th.length + 1 : Nat) : Int); omega⟩ ?_
            refine StoreAt.mk 0 _ _ rfl (boC_put _ hid) ?_
            have hst0 : stepP cap ⟨ws, k, ops, Z.map (·.2)⟩ i' = (⟨ws, k, ops, (Z.map (·.2)).set i' ⟨[], none, op⟩⟩, true) := by
              unfold stepP; rw [hWm]; rfl
            rw [hst0] at hgS
            have hfk : FreeA (th.length + 1) ⟨ws, k + 1, ops, Z.map (·.2)⟩ := ⟨hf.len, hf.nn, hf.ok, hf.big, hf.one, hf.todo⟩
            refine nextS ⟨ws, ops, Z, v, acc, st.set i' (wr (st.getD i' 0 + 1)), dn.set i' true, k + 1⟩ ?_ ⟨hul, hacc, (List.length_set ..).trans hdn, hfk, ?_⟩ ⟨rfl, rfl, rfl, rfl, rfl, rfl, rfl, hinc, trivial⟩ (.drop 1 1 ?_)
            · show scr.length - (k + 1) < scr.length - k; omega
            · have e : (Z.map (·.2)).set i' ⟨[], none, op⟩ = Z.map (·.2) := (hset (r, ⟨[], none, op⟩)).symm.trans (by rw [hZs])
              rw [e] at hgS
              exact hgS.symm.trans hgo
            · have hb := hbk (r, ⟨[], none, op⟩) [(bd, boC (dn.set i' true)), (lb, W.map ptW), (m, [.mref q 0 ws.length 1]), (q, woC ws)] σ acc
              rw [hZs] at hb
              exact .perm hb (.refl _)
          | none, n :: l, hWm, hok, hZs =>
            obtain ⟨q', hst⟩ := dqFirst (k := begK i' n) (cap := cap) (n := wu (begN i' n)) ws
            have hq' : q'.ended = false := by have := dq_ended (k := begK i' n) (O := listOps) (a := ws) (q := q0P cap (wu (begN i' n))) rfl; rw [hst] at this; exact this.symm
            have hst0 : stepP cap ⟨ws, k, ops, Z.map (·.2)⟩ i' = (⟨ws, k, ops ++ [⟨i', begK i' n, begN i' n, wr (k + 1), 0, false⟩], (Z.map (·.2)).set i' ⟨l, some (begK i' n, q'), ops.length⟩⟩, false) := by
              unfold stepP; rw [hWm]
              show workP ⟨ws, k, ops, Z.map (·.2)⟩ i' ⟨l, some (begK i' n, q0P cap (wu (begN i' n))), ops.length⟩ (ops ++ [⟨i', begK i' n, begN i' n, wr (k + 1), 0, false⟩]) = _
              unfold workP
              dsimp only
              rw [hst, if_neg (by simp)]
            rw [hst0] at hgS hstep
            have hgood := q0_good cap (wu (begN i' n)) (wu_nn _)
            have hfine : (q0P cap (wu (begN i' n))).fine := ⟨by show 0 ≤ 900; decide, hgood.2.2.1, hgood.2.2.2.1⟩
            have hS := fun bm τ => aRStep27 bm m q (begK i' n) (q0P cap (wu (begN i' n))) ws τ hfine hst
            rw [hq'] at hS
            have etl : (List.take ((((n :: l).length : Nat) : Int).toNat - Int.toNat 1) (List.drop (Int.toNat 1) (n :: l))) = l := List.take_of_length_le (by simp)
            rcases acc_split hacc with ⟨hL0, rfl, rfl⟩ | ⟨b, rfl, rfl⟩
            · skip
              refine LoadAt.mk 5 _ _ rfl rfl ?_
              refine With.mk ⟨rfl, Int.natCast_nonneg i', by show ((i' : Nat) : Int) < ((th.length + 1 : Nat) : Int); omega⟩ ?_
              refine LoadAt.mk 0 _ _ rfl (boC_get hid hd) ?_
              refine LoadAt.mk 5 _ _ rfl rfl ?_
              refine LoadAt.mk 5 _ _ rfl rfl ?_
              refine bcond_dec (fun c1 => ?_) (fun c1 => ?_)
              rotate_left
              · have c1 : ¬ (0 < ((l.length + 1 : Nat) : Int)) := c1
                omega
              refine LoadAt.mk 5 _ _ rfl rfl ?_
              intro bo
              refine StoreAt.mk 0 _ _ rfl rfl ?_
              refine LoadAt.mk 6 _ _ rfl rfl ?_
              refine bcond_dec (fun c2 => ?_) (fun c2 => ?_)
              · have c2 : (↑i' : Int) = 0 := c2
                refine LoadAt.mk 6 _ _ rfl rfl ?_
                refine With.mk rfl ?_
                refine IdxF.mk n (by decide) rfl ?_
                refine bcond_dec (fun c3 => ?_) (fun c3 => ?_)
                · have c3 : 1 ≤ n := c3
                  refine StoreAt.mk 0 _ _ rfl rfl ?_
                  refine LoadAt.mk 6 _ _ rfl rfl ?_
                  refine With.mk rfl ?_
                  refine IdxF.mk n (by decide) rfl ?_
                  refine StoreAt.mk 0 _ _ rfl rfl ?_
                  have e1 : begK i' n = 1 := (if_neg (by omega)).trans (if_pos c3)
                  have e2 : begN i' n = n := (if_neg (by omega)).trans (if_pos c3)
                  rw [e1, e2] at hS hgS hstep
                  refine LoadAt.mk 0 _ _ rfl rfl ?_
                  refine LoadAt.mk 0 _ _ rfl rfl ?_
                  intro bm
                  refine StoreAt.mk 7 _ _ rfl rfl ?_
                  refine StoreAt.mk 7 _ _ rfl rfl ?_
                  refine LoadAt.mk 7 _ _ rfl rfl ?_
                  refine With.mk ⟨by decide, by show (1 : Int) ≤ ((l.length + 1 : Nat) : Int); omega, Int.le_refl _, rfl⟩ ?_
                  refine StoreAt.mk 7 _ _ rfl rfl ?_
                  refine LoadAt.mk 1 _ _ rfl rfl ?_
                  intro ba
                  refine append_acc (i := _) (k := ops.length) (acc := []) (σ := ((idsP W).zip Z).eraseIdx i' |>.flatMap zR |>.append σ) [_, _, _, _, _, _, _, _, _] hacc (.mref 0 ba 0 1 _ rfl (Nat.le_of_ble_eq_true rfl)) rfl (by omega) (by decide) (by decide) (fun v' acc' h' => ?_)
                  refine LoadAt.mk 8 _ _ rfl rfl ?_
                  refine LoadAt.mk 8 _ _ rfl rfl ?_
                  refine callR [3, 7, 7] (hS bm _) ?_
                  refine .sched [] (upto [] 20 0) (by kernel_rfl) ?_
                  refine LoadAt.mk 8 _ _ rfl rfl ?_
                  refine LoadAt.mk 8 _ _ rfl rfl ?_
                  refine With.mk ⟨rfl, Int.natCast_nonneg i', by show ((i' : Nat) : Int) < ((th.length + 1 : Nat) : Int); omega⟩ ?_
                  refine StoreAt.mk 5 _ _ rfl (boC_put _ hid) ?_
                  have hA2 : Acc 6 (ops ++ [OpR.mk i' 1 n (wr (k + 1)) 0 false]).length v' acc' ((ops ++ [OpR.mk i' 1 n (wr (k + 1)) 0 false]).flatMap opC) := by rw [List.length_append, flat_snoc]; exact h'
                  have hb := hbk (bm, ⟨l, some (1, q'), ops.length⟩) [(bd, boC (dn.set i' false)), (lb, W.map ptW), (m, [.mref q 0 ws.length 1]), (q, woC ws)] σ acc'
                  have hfk : FreeA (th.length + 1) ⟨ws, k + 1, ops ++ [⟨i', 1, n, wr (k + 1), 0, false⟩], (Z.set i' (bm, ⟨l, some (1, q'), ops.length⟩)).map (·.2)⟩ := by rw [hset]; exact ⟨hstep.len, hstep.nn, hstep.ok, hstep.big, hstep.one, hstep.todo⟩
                  have hgn : goP cap (th.length + 1) (scr.drop (k + 1)) ⟨⟨ws, k + 1, ops ++ [⟨i', 1, n, wr (k + 1), 0, false⟩], (Z.set i' (bm, ⟨l, some (1, q'), ops.length⟩)).map (·.2)⟩, st.set i' (wr (st.getD i' 0 + 1)), dn.set i' false, k + 1⟩ = R := by rw [hset]; exact hgS.symm.trans hgo
                  refine nextS ⟨ws, ops ++ [⟨i', 1, n, wr (k + 1), 0, false⟩], Z.set i' (bm, ⟨l, some (1, q'), ops.length⟩), v', acc', st.set i' (wr (st.getD i' 0 + 1)), dn.set i' false, k + 1⟩ ?_ ⟨hul, hA2, (List.length_set ..).trans hdn, hfk, hgn⟩ ⟨rfl, rfl, rfl, rfl, rfl, rfl, rfl, hinc, trivial⟩ (shB _ _ _ _ _ _ _ _ wi _ (wr_cells etl (show (0 : Int) = ((ops.length : Nat) : Int) by rw [hL0]; rfl)) hb)
                  show scr.length - (k + 1) < scr.length - k; omega
                · have c3 : ¬ (1 ≤ n) := c3
                  refine LoadAt.mk 6 _ _ rfl rfl ?_
                  refine bcond_dec (fun c6 => ?_) (fun c6 => ?_)
                  · refine StoreAt.mk 0 _ _ rfl rfl ?_
                    have e1 : begK i' n = 2 := (if_neg (by omega)).trans (if_neg c3)
                    have e2 : begN i' n = 0 := (if_neg (by omega)).trans (if_neg c3)
                    rw [e1, e2] at hS hgS hstep
                    refine LoadAt.mk 0 _ _ rfl rfl ?_
                    refine LoadAt.mk 0 _ _ rfl rfl ?_
                    intro bm
                    refine StoreAt.mk 7 _ _ rfl rfl ?_
                    refine StoreAt.mk 7 _ _ rfl rfl ?_
                    refine LoadAt.mk 7 _ _ rfl rfl ?_
                    refine With.mk ⟨by decide, by show (1 : Int) ≤ ((l.length + 1 : Nat) : Int); omega, Int.le_refl _, rfl⟩ ?_
                    refine StoreAt.mk 7 _ _ rfl rfl ?_
                    refine LoadAt.mk 1 _ _ rfl rfl ?_
                    intro ba
                    refine append_acc (i := _) (k := ops.length) (acc := []) (σ := ((idsP W).zip Z).eraseIdx i' |>.flatMap zR |>.append σ) [_, _, _, _, _, _, _, _, _] hacc (.mref 0 ba 0 1 _ rfl (Nat.le_of_ble_eq_true rfl)) rfl (by omega) (by decide) (by decide) (fun v' acc' h' => ?_)
                    refine LoadAt.mk 8 _ _ rfl rfl ?_
                    refine LoadAt.mk 8 _ _ rfl rfl ?_
                    refine callR [3, 7, 7] (hS bm _) ?_
                    refine .sched [] (upto [] 20 0) (by kernel_rfl) ?_
                    refine LoadAt.mk 8 _ _ rfl rfl ?_
                    refine LoadAt.mk 8 _ _ rfl rfl ?_
                    refine With.mk ⟨rfl, Int.natCast_nonneg i', by show ((i' : Nat) : Int) < ((th.length + 1 : Nat) : Int); omega⟩ ?_
                    refine StoreAt.mk 5 _ _ rfl (boC_put _ hid) ?_
                    have hA2 : Acc 6 (ops ++ [OpR.mk i' 2 0 (wr (k + 1)) 0 false]).length v' acc' ((ops ++ [OpR.mk i' 2 0 (wr (k + 1)) 0 false]).flatMap opC) := by rw [List.length_append, flat_snoc]; exact h'
                    have hb := hbk (bm, ⟨l, some (2, q'), ops.length⟩) [(bd, boC (dn.set i' false)), (lb, W.map ptW), (m, [.mref q 0 ws.length 1]), (q, woC ws)] σ acc'
                    have hfk : FreeA (th.length + 1) ⟨ws, k + 1, ops ++ [⟨i', 2, 0, wr (k + 1), 0, false⟩], (Z.set i' (bm, ⟨l, some (2, q'), ops.length⟩)).map (·.2)⟩ := by rw [hset]; exact ⟨hstep.len, hstep.nn, hstep.ok, hstep.big, hstep.one, hstep.todo⟩
                    have hgn : goP cap (th.length + 1) (scr.drop (k + 1)) ⟨⟨ws, k + 1, ops ++ [⟨i', 2, 0, wr (k + 1), 0, false⟩], (Z.set i' (bm, ⟨l, some (2, q'), ops.length⟩)).map (·.2)⟩, st.set i' (wr (st.getD i' 0 + 1)), dn.set i' false, k + 1⟩ = R := by rw [hset]; exact hgS.symm.trans hgo
                    refine nextS ⟨ws, ops ++ [⟨i', 2, 0, wr (k + 1), 0, false⟩], Z.set i' (bm, ⟨l, some (2, q'), ops.length⟩), v', acc', st.set i' (wr (st.getD i' 0 + 1)), dn.set i' false, k + 1⟩ ?_ ⟨hul, hA2, (List.length_set ..).trans hdn, hfk, hgn⟩ ⟨rfl, rfl, rfl, rfl, rfl, rfl, rfl, hinc, trivial⟩ (shB _ _ _ _ _ _ _ _ wi _ (wr_cells etl (show (0 : Int) = ((ops.length : Nat) : Int) by rw [hL0]; rfl)) hb)
                    show scr.length - (k + 1) < scr.length - k; omega
                  · exact absurd c2 c6
              · have c2 : ¬ ((↑i' : Int) = 0) := c2
                refine LoadAt.mk 6 _ _ rfl rfl ?_
                refine bcond_dec (fun c6 => ?_) (fun c6 => ?_)
                · exact absurd c6 c2
                · have e1 : begK i' n = 3 := if_pos (by omega)
                  have e2 : begN i' n = 0 := if_pos (by omega)
                  rw [e1, e2] at hS hgS hstep
                  refine LoadAt.mk 0 _ _ rfl rfl ?_
                  refine LoadAt.mk 0 _ _ rfl rfl ?_
                  intro bm
                  refine StoreAt.mk 7 _ _ rfl rfl ?_
                  refine StoreAt.mk 7 _ _ rfl rfl ?_
                  refine LoadAt.mk 7 _ _ rfl rfl ?_
                  refine With.mk ⟨by decide, by show (1 : Int) ≤ ((l.length + 1 : Nat) : Int); omega, Int.le_refl _, rfl⟩ ?_
                  refine StoreAt.mk 7 _ _ rfl rfl ?_
                  refine LoadAt.mk 1 _ _ rfl rfl ?_
                  intro ba
                  refine append_acc (i := _) (k := ops.length) (acc := []) (σ := ((idsP W).zip Z).eraseIdx i' |>.flatMap zR |>.append σ) [_, _, _, _, _, _, _, _, _] hacc (.mref 0 ba 0 1 _ rfl (Nat.le_of_ble_eq_true rfl)) rfl (by omega) (by decide) (by decide) (fun v' acc' h' => ?_)
                  refine LoadAt.mk 8 _ _ rfl rfl ?_
                  refine LoadAt.mk 8 _ _ rfl rfl ?_
                  refine callR [3, 7, 7] (hS bm _) ?_
                  refine .sched [] (upto [] 20 0) (by kernel_rfl) ?_
                  refine LoadAt.mk 8 _ _ rfl rfl ?_
                  refine LoadAt.mk 8 _ _ rfl rfl ?_
                  refine With.mk ⟨rfl, Int.natCast_nonneg i', by show ((i' : Nat) : Int) < ((th.length + 1 : Nat) : Int); omega⟩ ?_
                  refine StoreAt.mk 5 _ _ rfl (boC_put _ hid) ?_
                  have hA2 : Acc 6 (ops ++ [OpR.mk i' 3 0 (wr (k + 1)) 0 false]).length v' acc' ((ops ++ [OpR.mk i' 3 0 (wr (k + 1)) 0 false]).flatMap opC) := by rw [List.length_append, flat_snoc]; exact h'
                  have hb := hbk (bm, ⟨l, some (3, q'), ops.length⟩) [(bd, boC (dn.set i' false)), (lb, W.map ptW), (m, [.mref q 0 ws.length 1]), (q, woC ws)] σ acc'
                  have hfk : FreeA (th.length + 1) ⟨ws, k + 1, ops ++ [⟨i', 3, 0, wr (k + 1), 0, false⟩], (Z.set i' (bm, ⟨l, some (3, q'), ops.length⟩)).map (·.2)⟩ := by rw [hset]; exact ⟨hstep.len, hstep.nn, hstep.ok, hstep.big, hstep.one, hstep.todo⟩
                  have hgn : goP cap (th.length + 1) (scr.drop (k + 1)) ⟨⟨ws, k + 1, ops ++ [⟨i', 3, 0, wr (k + 1), 0, false⟩], (Z.set i' (bm, ⟨l, some (3, q'), ops.length⟩)).map (·.2)⟩, st.set i' (wr (st.getD i' 0 + 1)), dn.set i' false, k + 1⟩ = R := by rw [hset]; exact hgS.symm.trans hgo
                  refine nextS ⟨ws, ops ++ [⟨i', 3, 0, wr (k + 1), 0, false⟩], Z.set i' (bm, ⟨l, some (3, q'), ops.length⟩), v', acc', st.set i' (wr (st.getD i' 0 + 1)), dn.set i' false, k + 1⟩ ?_ ⟨hul, hA2, (List.length_set ..).trans hdn, hfk, hgn⟩ ⟨rfl, rfl, rfl, rfl, rfl, rfl, rfl, hinc, trivial⟩ (shB _ _ _ _ _ _ _ _ wi _ (wr_cells etl (show (0 : Int) = ((ops.length : Nat) : Int) by rw [hL0]; rfl)) hb)
                  show scr.length - (k + 1) < scr.length - k; omega
            · skip
              refine LoadAt.mk 5 _ _ rfl rfl ?_
              refine With.mk ⟨rfl, Int.natCast_nonneg i', by show ((i' : Nat) : Int) < ((th.length + 1 : Nat) : Int); omega⟩ ?_
              refine LoadAt.mk 0 _ _ rfl (boC_get hid hd) ?_
              refine LoadAt.mk 5 _ _ rfl rfl ?_
              refine LoadAt.mk 5 _ _ rfl rfl ?_
              refine bcond_dec (fun c1 => ?_) (fun c1 => ?_)
              rotate_left
              · have c1 : ¬ (0 < ((l.length + 1 : Nat) : Int)) := c1
                omega
              refine LoadAt.mk 5 _ _ rfl rfl ?_
              intro bo
              refine StoreAt.mk 0 _ _ rfl rfl ?_
              refine LoadAt.mk 6 _ _ rfl rfl ?_
              refine bcond_dec (fun c2 => ?_) (fun c2 => ?_)
              · have c2 : (↑i' : Int) = 0 := c2
                refine LoadAt.mk 6 _ _ rfl rfl ?_
                refine With.mk rfl ?_
                refine IdxF.mk n (by decide) rfl ?_
                refine bcond_dec (fun c3 => ?_) (fun c3 => ?_)
                · have c3 : 1 ≤ n := c3
                  refine StoreAt.mk 0 _ _ rfl rfl ?_
                  refine LoadAt.mk 6 _ _ rfl rfl ?_
                  refine With.mk rfl ?_
                  refine IdxF.mk n (by decide) rfl ?_
                  refine StoreAt.mk 0 _ _ rfl rfl ?_
                  have e1 : begK i' n = 1 := (if_neg (by omega)).trans (if_pos c3)
                  have e2 : begN i' n = n := (if_neg (by omega)).trans (if_pos c3)
                  rw [e1, e2] at hS hgS hstep
                  refine LoadAt.mk 0 _ _ rfl rfl ?_
                  refine LoadAt.mk 0 _ _ rfl rfl ?_
                  intro bm
                  refine StoreAt.mk 7 _ _ rfl rfl ?_
                  refine StoreAt.mk 7 _ _ rfl rfl ?_
                  refine LoadAt.mk 7 _ _ rfl rfl ?_
                  refine With.mk ⟨by decide, by show (1 : Int) ≤ ((l.length + 1 : Nat) : Int); omega, Int.le_refl _, rfl⟩ ?_
                  refine StoreAt.mk 7 _ _ rfl rfl ?_
                  refine LoadAt.mk 1 _ _ rfl rfl ?_
                  intro ba
                  refine append_acc (i := _) (k := ops.length) (acc := [(b, ops.flatMap opC)]) (σ := ((idsP W).zip Z).eraseIdx i' |>.flatMap zR |>.append σ) [_, _, _, _, _, _, _, _, _] hacc (.mref 0 ba 0 1 _ rfl (Nat.le_of_ble_eq_true rfl)) rfl (by omega) (by decide) (by decide) (fun v' acc' h' => ?_)
                  refine LoadAt.mk 8 _ _ rfl rfl ?_
                  refine LoadAt.mk 8 _ _ rfl rfl ?_
                  refine callR [3, 7, 7] (hS bm _) ?_
                  refine .sched [] (upto [] 20 0) (by kernel_rfl) ?_
                  refine LoadAt.mk 8 _ _ rfl rfl ?_
                  refine LoadAt.mk 8 _ _ rfl rfl ?_
                  refine With.mk ⟨rfl, Int.natCast_nonneg i', by show ((i' : Nat) : Int) < ((th.length + 1 : Nat) : Int); omega⟩ ?_
                  refine StoreAt.mk 5 _ _ rfl (boC_put _ hid) ?_
                  have hA2 : Acc 6 (ops ++ [OpR.mk i' 1 n (wr (k + 1)) 0 false]).length v' acc' ((ops ++ [OpR.mk i' 1 n (wr (k + 1)) 0 false]).flatMap opC) := by rw [List.length_append, flat_snoc]; exact h'
                  have hb := hbk (bm, ⟨l, some (1, q'), ops.length⟩) [(bd, boC (dn.set i' false)), (lb, W.map ptW), (m, [.mref q 0 ws.length 1]), (q, woC ws)] σ acc'
                  have hfk : FreeA (th.length + 1) ⟨ws, k + 1, ops ++ [⟨i', 1, n, wr (k + 1), 0, false⟩], (Z.set i' (bm, ⟨l, some (1, q'), ops.length⟩)).map (·.2)⟩ := by rw [hset]; exact ⟨hstep.len, hstep.nn, hstep.ok, hstep.big, hstep.one, hstep.todo⟩
                  have hgn : goP cap (th.length + 1) (scr.drop (k + 1)) ⟨⟨ws, k + 1, ops ++ [⟨i', 1, n, wr (k + 1), 0, false⟩], (Z.set i' (bm, ⟨l, some (1, q'), ops.length⟩)).map (·.2)⟩, st.set i' (wr (st.getD i' 0 + 1)), dn.set i' false, k + 1⟩ = R := by rw [hset]; exact hgS.symm.trans hgo
                  refine nextS ⟨ws, ops ++ [⟨i', 1, n, wr (k + 1), 0, false⟩], Z.set i' (bm, ⟨l, some (1, q'), ops.length⟩), v', acc', st.set i' (wr (st.getD i' 0 + 1)), dn.set i' false, k + 1⟩ ?_ ⟨hul, hA2, (List.length_set ..).trans hdn, hfk, hgn⟩ ⟨rfl, rfl, rfl, rfl, rfl, rfl, rfl, hinc, trivial⟩ (shB _ _ _ _ _ _ _ _ wi _ (wr_cells etl (show ((ops.length : Nat) : Int) = ((ops.length : Nat) : Int) from rfl)) hb)
                  show scr.length - (k + 1) < scr.length - k; omega
                · have c3 : ¬ (1 ≤ n) := c3
                  refine LoadAt.mk 6 _ _ rfl rfl ?_
                  refine bcond_dec (fun c6 => ?_) (fun c6 => ?_)
                  · refine StoreAt.mk 0 _ _ rfl rfl ?_
                    have e1 : begK i' n = 2 := (if_neg (by omega)).trans (if_neg c3)
                    have e2 : begN i' n = 0 := (if_neg (by omega)).trans (if_neg c3)
                    rw [e1, e2] at hS hgS hstep
                    refine LoadAt.mk 0 _ _ rfl rfl ?_
                    refine LoadAt.mk 0 _ _ rfl rfl ?_
                    intro bm
                    refine StoreAt.mk 7 _ _ rfl rfl ?_
                    refine StoreAt.mk 7 _ _ rfl rfl ?_
                    refine LoadAt.mk 7 _ _ rfl rfl ?_
                    refine With.mk ⟨by decide, by show (1 : Int) ≤ ((l.length + 1 : Nat) : Int); omega, Int.le_refl _, rfl⟩ ?_
                    refine StoreAt.mk 7 _ _ rfl rfl ?_
                    refine LoadAt.mk 1 _ _ rfl rfl ?_
                    intro ba
                    refine append_acc (i := _) (k := ops.length) (acc := [(b, ops.flatMap opC)]) (σ := ((idsP W).zip Z).eraseIdx i' |>.flatMap zR |>.append σ) [_, _, _, _, _, _, _, _, _] hacc (.mref 0 ba 0 1 _ rfl (Nat.le_of_ble_eq_true rfl)) rfl (by omega) (by decide) (by decide) (fun v' acc' h' => ?_)
                    refine LoadAt.mk 8 _ _ rfl rfl ?_
                    refine LoadAt.mk 8 _ _ rfl rfl ?_
                    refine callR [3, 7, 7] (hS bm _) ?_
                    refine .sched [] (upto [] 20 0) (by kernel_rfl) ?_
                    refine LoadAt.mk 8 _ _ rfl rfl ?_
                    refine LoadAt.mk 8 _ _ rfl rfl ?_
                    refine With.mk ⟨rfl, Int.natCast_nonneg i', by show ((i' : Nat) : Int) < ((th.length + 1 : Nat) : Int); omega⟩ ?_
                    refine StoreAt.mk 5 _ _ rfl (boC_put _ hid) ?_
                    have hA2 : Acc 6 (ops ++ [OpR.mk i' 2 0 (wr (k + 1)) 0 false]).length v' acc' ((ops ++ [OpR.mk i' 2 0 (wr (k + 1)) 0 false]).flatMap opC) := by rw [List.length_append, flat_snoc]; exact h'
                    have hb := hbk (bm, ⟨l, some (2, q'), ops.length⟩) [(bd, boC (dn.set i' false)), (lb, W.map ptW), (m, [.mref q 0 ws.length 1]), (q, woC ws)] σ acc'
                    have hfk : FreeA (th.length + 1) ⟨ws, k + 1, ops ++ [⟨i', 2, 0, wr (k + 1), 0, false⟩], (Z.set i' (bm, ⟨l, some (2, q'), ops.length⟩)).map (·.2)⟩ := by rw [hset]; exact ⟨hstep.len, hstep.nn, hstep.ok, hstep.big, hstep.one, hstep.todo⟩
                    have hgn : goP cap (th.length + 1) (scr.drop (k + 1)) ⟨⟨ws, k + 1, ops ++ [⟨i', 2, 0, wr (k + 1), 0, false⟩], (Z.set i' (bm, ⟨l, some (2, q'), ops.length⟩)).map (·.2)⟩, st.set i' (wr (st.getD i' 0 + 1)), dn.set i' false, k + 1⟩ = R := by rw [hset]; exact hgS.symm.trans hgo
                    refine nextS ⟨ws, ops ++ [⟨i', 2, 0, wr (k + 1), 0, false⟩], Z.set i' (bm, ⟨l, some (2, q'), ops.length⟩), v', acc', st.set i' (wr (st.getD i' 0 + 1)), dn.set i' false, k + 1⟩ ?_ ⟨hul, hA2, (List.length_set ..).trans hdn, hfk, hgn⟩ ⟨rfl, rfl, rfl, rfl, rfl, rfl, rfl, hinc, trivial⟩ (shB _ _ _ _ _ _ _ _ wi _ (wr_cells etl (show ((ops.length : Nat) : Int) = ((ops.length : Nat) : Int) from rfl)) hb)
                    show scr.length - (k + 1) < scr.length - k; omega
                  · exact absurd c2 c6
              · have c2 : ¬ ((↑i' : Int) = 0) := c2
                refine LoadAt.mk 6 _ _ rfl rfl ?_
                refine bcond_dec (fun c6 => ?_) (fun c6 => ?_)
                · exact absurd c6 c2
                · have e1 : begK i' n = 3 := if_pos (by omega)
                  have e2 : begN i' n = 0 := if_pos (by omega)
                  rw [e1, e2] at hS hgS hstep
                  refine LoadAt.mk 0 _ _ rfl rfl ?_
                  refine LoadAt.mk 0 _ _ rfl rfl ?_
                  intro bm
                  refine StoreAt.mk 7 _ _ rfl rfl ?_
                  refine StoreAt.mk 7 _ _ rfl rfl ?_
                  refine LoadAt.mk 7 _ _ rfl rfl ?_
                  refine With.mk ⟨by decide, by show (1 : Int) ≤ ((l.length + 1 : Nat) : Int); omega, Int.le_refl _, rfl⟩ ?_
                  refine StoreAt.mk 7 _ _ rfl rfl ?_
                  refine LoadAt.mk 1 _ _ rfl rfl ?_
                  intro ba
                  refine append_acc (i := _) (k := ops.length) (acc := [(b, ops.flatMap opC)]) (σ := ((idsP W).zip Z).eraseIdx i' |>.flatMap zR |>.append σ) [_, _, _, _, _, _, _, _, _] hacc (.mref 0 ba 0 1 _ rfl (Nat.le_of_ble_eq_true rfl)) rfl (by omega) (by decide) (by decide) (fun v' acc' h' => ?_)
                  refine LoadAt.mk 8 _ _ rfl rfl ?_
                  refine LoadAt.mk 8 _ _ rfl rfl ?_
                  refine callR [3, 7, 7] (hS bm _) ?_
                  refine .sched [] (upto [] 20 0) (by kernel_rfl) ?_
                  refine LoadAt.mk 8 _ _ rfl rfl ?_
                  refine LoadAt.mk 8 _ _ rfl rfl ?_
                  refine With.mk ⟨rfl, Int.natCast_nonneg i', by show ((i' : Nat) : Int) < ((th.length + 1 : Nat) : Int); omega⟩ ?_
                  refine StoreAt.mk 5 _ _ rfl (boC_put _ hid) ?_
                  have hA2 : Acc 6 (ops ++ [OpR.mk i' 3 0 (wr (k + 1)) 0 false]).length v' acc' ((ops ++ [OpR.mk i' 3 0 (wr (k + 1)) 0 false]).flatMap opC) := by rw [List.length_append, flat_snoc]; exact h'
                  have hb := hbk (bm, ⟨l, some (3, q'), ops.length⟩) [(bd, boC (dn.set i' false)), (lb, W.map ptW), (m, [.mref q 0 ws.length 1]), (q, woC ws)] σ acc'
                  have hfk : FreeA (th.length + 1) ⟨ws, k + 1, ops ++ [⟨i', 3, 0, wr (k + 1), 0, false⟩], (Z.set i' (bm, ⟨l, some (3, q'), ops.length⟩)).map (·.2)⟩ := by rw [hset]; exact ⟨hstep.len, hstep.nn, hstep.ok, hstep.big, hstep.one, hstep.todo⟩
                  have hgn : goP cap (th.length + 1) (scr.drop (k + 1)) ⟨⟨ws, k + 1, ops ++ [⟨i', 3, 0, wr (k + 1), 0, false⟩], (Z.set i' (bm, ⟨l, some (3, q'), ops.length⟩)).map (·.2)⟩, st.set i' (wr (st.getD i' 0 + 1)), dn.set i' false, k + 1⟩ = R := by rw [hset]; exact hgS.symm.trans hgo
                  refine nextS ⟨ws, ops ++ [⟨i', 3, 0, wr (k + 1), 0, false⟩], Z.set i' (bm, ⟨l, some (3, q'), ops.length⟩), v', acc', st.set i' (wr (st.getD i' 0 + 1)), dn.set i' false, k + 1⟩ ?_ ⟨hul, hA2, (List.length_set ..).trans hdn, hfk, hgn⟩ ⟨rfl, rfl, rfl, rfl, rfl, rfl, rfl, hinc, trivial⟩ (shB _ _ _ _ _ _ _ _ wi _ (wr_cells etl (show ((ops.length : Nat) : Int) = ((ops.length : Nat) : Int) from rfl)) hb)
                  show scr.length - (k + 1) < scr.length - k; omega
          | some (kd, q1), todo, hWm, hok, hZs =>
            obtain ⟨h1, h2, h3, h4, h5, h6⟩ := hok
            have h1 : op < ops.length := h1
            obtain ⟨q', ws', e, hst⟩ : ∃ q' ws' e, dqStep kd listOps q1 ws = (q', ws', e) := ⟨_, _, _, rfl⟩
            have hee : e = q'.ended := by have := dq_ended (k := kd) (O := listOps) (a := ws) h6; rw [hst] at this; exact this
            have hoa : ops[op]? = some ops[op] := List.getElem?_eq_getElem h1
            have hst0 : stepP cap ⟨ws, k, ops, Z.map (·.2)⟩ i' = if e = true then (⟨ws', k, ops.set op (endP ops[op] k q'), (Z.map (·.2)).set i' ⟨todo, none, op⟩⟩, todo.isEmpty) else (⟨ws', k, ops, (Z.map (·.2)).set i' ⟨todo, some (kd, q'), op⟩⟩, false) := by
              unfold stepP; rw [hWm]
              show workP ⟨ws, k, ops, Z.map (·.2)⟩ i' ⟨todo, some (kd, q1), op⟩ ops = _
              unfold workP
              dsimp only
              rw [hst, hoa]
            rcases acc_split hacc with ⟨h0, _⟩ | ⟨b, rfl, rfl⟩
            · omega
            have hA1 : ∀ o, Acc 6 (ops.set op o).length (.mref b 0 ops.length 6) [(b, (ops.set op o).flatMap opC)] ((ops.set op o).flatMap opC) := fun o => by
              have := Acc.mref (e := 6) b (ops.set op o).length ((ops.set op o).flatMap opC) (flat_length (es := 6) opC_len _)
              rw [List.length_set] at this ⊢
              exact this
            have hfine : q1.fine := ⟨by have := h2.1; omega, h2.2.2.1, h2.2.2.2.1⟩
            have hS := fun τ => aRStep27 r m q kd q1 ws τ hfine hst
            rw [← hee] at hS
            refine LoadAt.mk 5 _ _ rfl rfl ?_
            refine With.mk ⟨rfl, Int.natCast_nonneg i', by show ((i' : Nat) : Int) < ((th.length + 1 : Nat) : Int); omega⟩ ?_
            refine LoadAt.mk 0 _ _ rfl (boC_get hid hd) ?_
            refine LoadAt.mk 5 _ _ rfl rfl ?_
            refine LoadAt.mk 5 _ _ rfl rfl ?_
            refine LoadAt.mk 5 _ _ rfl rfl ?_
            cases e with
            | true =>
              rw [if_pos rfl] at hst0
              rw [hst0] at hgS hstep
              refine callR [6, 4, 4] (hS _) ?_
              refine LoadAt.mk 6 _ _ rfl rfl ?_
              refine With.mk ⟨rfl, Int.natCast_nonneg op, by show ((op : Nat) : Int) < ((ops.length : Nat) : Int); omega⟩ ?_
              refine StoreAt.mk 7 _ _ rfl (op_put1 h1) ?_
              refine .sched [] (upto [] 15 0) (by kernel_rfl) ?_
              refine LoadAt.mk 6 _ _ rfl rfl ?_
              refine LoadAt.mk 6 _ _ rfl rfl ?_
              refine LoadAt.mk 0 _ _ rfl rfl ?_
              refine With.mk ⟨rfl, Int.natCast_nonneg op, by show ((op : Nat) : Int) < ((ops.length : Nat) : Int); omega⟩ ?_
              refine StoreAt.mk 7 _ _ rfl (op_put2 h1) ?_
              refine .sched [] (upto [] 16 0) (by kernel_rfl) ?_
              refine LoadAt.mk 6 _ _ rfl rfl ?_
              refine LoadAt.mk 6 _ _ rfl rfl ?_
              refine LoadAt.mk 0 _ _ rfl rfl ?_
              refine With.mk ⟨rfl, Int.natCast_nonneg op, by show ((op : Nat) : Int) < ((ops.length : Nat) : Int); omega⟩ ?_
              refine StoreAt.mk 7 _ _ rfl (op_put3 h1) ?_
              refine StoreAt.mk 6 _ _ rfl rfl ?_
              refine .sched [] (upto [] 20 0) (by kernel_rfl) ?_
              refine LoadAt.mk 6 _ _ rfl rfl ?_
              refine LoadAt.mk 6 _ _ rfl rfl ?_
              refine LoadAt.mk 6 _ _ rfl rfl ?_
              have hb := hbk (r, ⟨todo, none, op⟩) [(bd, boC (dn.set i' todo.isEmpty)), (lb, W.map ptW), (m, [.mref q 0 ws'.length 1]), (q, woC ws')] σ [(b, (ops.set op (endP ops[op] k q')).flatMap opC)]
              have hfk : FreeA (th.length + 1) ⟨ws', k + 1, ops.set op (endP ops[op] k q'), (Z.set i' (r, ⟨todo, none, op⟩)).map (·.2)⟩ := by rw [hset]; exact ⟨hstep.len, hstep.nn, hstep.ok, hstep.big, hstep.one, hstep.todo⟩
              have hgn : goP cap (th.length + 1) (scr.drop (k + 1)) ⟨⟨ws', k + 1, ops.set op (endP ops[op] k q'), (Z.set i' (r, ⟨todo, none, op⟩)).map (·.2)⟩, st.set i' (wr (st.getD i' 0 + 1)), dn.set i' todo.isEmpty, k + 1⟩ = R := by rw [hset]; exact hgS.symm.trans hgo
              cases todo with
              | nil =>
                refine With.mk ⟨rfl, Int.natCast_nonneg i', by show ((i' : Nat) : Int) < ((th.length + 1 : Nat) : Int); omega⟩ ?_
                refine StoreAt.mk 3 _ _ rfl (boC_put _ hid) ?_
                refine nextS ⟨ws', ops.set op (endP ops[op] k q'), Z.set i' (r, ⟨[], none, op⟩), _, _, st.set i' (wr (st.getD i' 0 + 1)), dn.set i' true, k + 1⟩ ?_ ⟨hul, hA1 _, (List.length_set ..).trans hdn, hfk, hgn⟩ ⟨rfl, rfl, rfl, rfl, rfl, rfl, rfl, hinc, trivial⟩ (shT _ _ _ _ _ _ _ _ _ hb)
                show scr.length - (k + 1) < scr.length - k; omega
              | cons z todo =>
                refine With.mk ⟨rfl, Int.natCast_nonneg i', by show ((i' : Nat) : Int) < ((th.length + 1 : Nat) : Int); omega⟩ ?_
                refine StoreAt.mk 3 _ _ rfl (boC_put _ hid) ?_
                refine nextS ⟨ws', ops.set op (endP ops[op] k q'), Z.set i' (r, ⟨z :: todo, none, op⟩), _, _, st.set i' (wr (st.getD i' 0 + 1)), dn.set i' false, k + 1⟩ ?_ ⟨hul, hA1 _, (List.length_set ..).trans hdn, hfk, hgn⟩ ⟨rfl, rfl, rfl, rfl, rfl, rfl, rfl, hinc, trivial⟩ (shT _ _ _ _ _ _ _ _ _ hb)
                show scr.length - (k + 1) < scr.length - k; omega
            | false =>
              rw [if_neg (by simp)] at hst0
              rw [hst0] at hgS hstep
              refine callR [6, 4, 4] (hS _) ?_
              refine .sched [] (upto [] 20 0) (by kernel_rfl) ?_
              refine LoadAt.mk 6 _ _ rfl rfl ?_
              refine LoadAt.mk 6 _ _ rfl rfl ?_
              refine With.mk ⟨rfl, Int.natCast_nonneg i', by show ((i' : Nat) : Int) < ((th.length + 1 : Nat) : Int); omega⟩ ?_
              refine StoreAt.mk 3 _ _ rfl (boC_put _ hid) ?_
              have hb := hbk (r, ⟨todo, some (kd, q'), op⟩) [(bd, boC (dn.set i' false)), (lb, W.map ptW), (m, [.mref q 0 ws'.length 1]), (q, woC ws')] σ [(b, ops.flatMap opC)]
              have hfk : FreeA (th.length + 1) ⟨ws', k + 1, ops, (Z.set i' (r, ⟨todo, some (kd, q'), op⟩)).map (·.2)⟩ := by rw [hset]; exact ⟨hstep.len, hstep.nn, hstep.ok, hstep.big, hstep.one, hstep.todo⟩
              have hgn : goP cap (th.length + 1) (scr.drop (k + 1)) ⟨⟨ws', k + 1, ops, (Z.set i' (r, ⟨todo, some (kd, q'), op⟩)).map (·.2)⟩, st.set i' (wr (st.getD i' 0 + 1)), dn.set i' false, k + 1⟩ = R := by rw [hset]; exact hgS.symm.trans hgo
              refine nextS ⟨ws', ops, Z.set i' (r, ⟨todo, some (kd, q'), op⟩), _, _, st.set i' (wr (st.getD i' 0 + 1)), dn.set i' false, k + 1⟩ ?_ ⟨hul, hacc, (List.length_set ..).trans hdn, hfk, hgn⟩ ⟨rfl, rfl, rfl, rfl, rfl, rfl, rfl, hinc, trivial⟩ (shF _ _ _ _ _ _ _ _ _ hb)
              show scr.length - (k + 1) < scr.length - k; omega
    · have hge : ¬ (k : Int) < scr.length := hge
      have hE : R = ⟨⟨ws, k, ops, Z.map (·.2)⟩, st, dn, k⟩ := by rw [← hgo, show k = scr.length by omega, List.drop_length]; rfl
      refine callR [3, 3] (aListR27 m q ws 0 cap _) ?_
      rw [hE]
      rcases acc_split hacc with ⟨h0, rfl, rfl⟩ | ⟨b, rfl, rfl⟩
      · refine .drop 0 4 (fin_frontP (zRs (idsP W) Z) (.nil (frz_cons (.nil opSh) (.refl _)) (.done ⟨?_, rfl⟩)))
        obtain rfl : ops = [] := List.length_eq_zero_iff.1 h0
        rfl
      · refine .frz 4 b 0 ops.length 6 _ opSh (ops.map opT) rfl (by rw [List.drop_zero, ops_flat]; exact List.take_of_length_le (by rw [← ops_flat, flat_length (es := 6) opC_len]; exact Nat.le_refl _)) ⟨List.length_map .., rfl, by decide⟩ (frz_cons .here (.refl _)) ?_
        exact .drop 0 4 (fin_frontP (zRs (idsP W) Z) (.done ⟨rfl, rfl⟩))
end Go.Proofs.Ytacacplipaeokaa
