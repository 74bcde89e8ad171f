/-
  Yc: what the claim uses of them.
-/
import Derived.Test.YtljbnigceammdaaGreatDoorBn25
namespace Go.Proofs.YtljbnigceammdaaGreatDoor
open Go.RowKit
set_option maxRecDepth 100000
/-- A system that is right. -/
structure Good (s : Sy) : Prop where
  isL : is12 s.what s.w = true
  n1 : 1 ≤ s.n
  n2 : s.n ≤ 256
  el : s.edges.length ≤ 1024
  edge : ∀ e ∈ s.edges, (0 ≤ e.1 ∧ e.1 < s.n) ∧ 0 ≤ e.2.1 ∧ e.2.1 < s.n
  tl : (s.T.length : Int) = s.n
  ent : ∀ v ∈ s.entry, 0 ≤ v ∧ v < s.n
  ini : valL s.what s.w s.init = true
  trs : ∀ t ∈ s.T, checkT s.what s.w t.1 t.2.1 t.2.2.1 = 0
theorem node_iff {n a : Int} : nodeB n a = true ↔ 0 ≤ a ∧ a < n := by unfold nodeB; simp
theorem good_of {s : Sy} (h : checkS s = 0) : Good s := by
  unfold checkS at h
  split at h
  · rename_i h1
    split at h
    · rename_i h2
      split at h
      · cases h
      · rename_i h3
        split at h
        · rename_i h4
          split at h
          · cases h
          · rename_i h5
            have h3 : (s.entry.any fun v => !nodeB s.n v) = false := by simpa using h3
            have h5 : (s.T.any fun t => !decide (checkT s.what s.w t.1 t.2.1 t.2.2.1 = 0)) = false := by simpa using h5
            have hr := h2.1
            unfold rightE at hr
            simp only [Bool.and_eq_true, decide_eq_true_eq] at hr
            refine ⟨h1, hr.1.1.1, hr.1.1.2, hr.1.2, fun e he => ?_, h2.2, fun v hv => ?_, h4, fun t ht => ?_⟩
            · have := List.all_eq_true.1 hr.2 e he
              rw [Bool.and_eq_true, node_iff, node_iff] at this
              exact this
            · have := List.any_eq_false.1 h3 v hv
              exact node_iff.1 (by simpa using this)
            · have := List.any_eq_false.1 h5 t ht
              simpa using this
        · cases h
    · cases h
  · cases h
theorem good_zero {s : Sy} (h : Good s) : checkS s = 0 := by
  refine (chkS0 h.isL ⟨?_, h.tl⟩ (List.any_eq_false.2 fun v hv => ?_) h.ini (List.any_eq_false.2 fun t ht => ?_)).symm
  · unfold rightE
    simp only [Bool.and_eq_true, decide_eq_true_eq]
    refine ⟨⟨⟨h.n1, h.n2⟩, h.el⟩, List.all_eq_true.2 fun e he => ?_⟩
    rw [Bool.and_eq_true, node_iff, node_iff]; exact h.edge e he
  · rw [node_iff.2 (h.ent v hv)]; decide
  · rw [h.trs t ht]; decide
/-- What goes through a node. -/
def outS (s : Sy) (x : List Int) (v : Nat) : List Int := applyR s.what (s.T.getD v ([], [], [], ())).1 (s.T.getD v ([], [], [], ())).2.1 (s.T.getD v ([], [], [], ())).2.2.1 x
def joinE (s : Sy) (a : List (List Int)) (v : Nat) (x : List Int) (e : EdgeT) : List Int := if e.2.1 = v then join12 s.what x (outS s (a.getD e.1.toNat []) e.1.toNat) else x
def stepV (s : Sy) (a : List (List Int)) (k v : Nat) : List Int := (s.edges.take k).foldl (joinE s a v) (startS s v)
def stepK (s : Sy) (a : List (List Int)) (k : Nat) : List (List Int) := (List.range s.n.toNat).map (stepV s a k)
/-- One Step. -/
def stepS (s : Sy) (a : List (List Int)) : List (List Int) := stepK s a s.edges.length
theorem stepK_length (s : Sy) (a : List (List Int)) (k : Nat) : (stepK s a k).length = s.n.toNat := by unfold stepK; simp
theorem stepV_succ (s : Sy) (a : List (List Int)) {k : Nat} (h : k < s.edges.length) (v : Nat) : stepV s a (k + 1) v = joinE s a v (stepV s a k v) s.edges[k] := by
  unfold stepV; rw [List.take_succ_eq_append_getElem h, List.foldl_append]; rfl
theorem vals_iff {s : Sy} {a : List (List Int)} : valsS s a = true ↔ (a.length : Int) = s.n ∧ ∀ x ∈ a, valL s.what s.w x = true := by
  unfold valsS; rw [Bool.and_eq_true, decide_eq_true_eq, List.all_eq_true]
theorem val_short {what w : Int} {x : List Int} (h : valL what w x = true) : x.length ≤ 1024 := by
  have h1 := val_len h
  have := wordsL_le what w; omega
theorem T_get {s : Sy} (hg : Good s) {v : Nat} (h : (v : Int) < s.n) : ∃ h2 : v < s.T.length, s.T.getD v ([], [], [], ()) = s.T[v] := by
  have h2 : v < s.T.length := by have := hg.tl; omega
  exact ⟨h2, by rw [List.getD_eq_getElem?_getD, List.getElem?_eq_getElem h2]; rfl⟩
theorem out_val {s : Sy} (hf : Fit s) (hg : Good s) {x : List Int} (h64 : A64 x) (hv : valL s.what s.w x = true) {v : Nat} (h : (v : Int) < s.n) : valL s.what s.w (outS s x v) = true ∧ A64 (outS s x v) := by
  obtain ⟨h2, e⟩ := T_get hg h
  unfold outS
  rw [e]
  have ho := hf.ts _ (List.getElem_mem h2)
  exact ⟨apply_val ho.1 ho.2.1 h64 (hg.trs _ (List.getElem_mem h2)) hv, applyR_64 h64⟩
theorem start_val {s : Sy} (hf : Fit s) (hg : Good s) (v : Int) : valL s.what s.w (startS s v) = true ∧ A64 (startS s v) := by
  unfold startS; split
  · exact ⟨hg.ini, hf.i64⟩
  · exact ⟨bot_val hg.isL, bot_64 _ _⟩
theorem stepV_val {s : Sy} (hf : Fit s) (hg : Good s) {a : List (List Int)} (ha : okLL a) (hv : valsS s a = true) (v : Nat) : ∀ k, k ≤ s.edges.length → valL s.what s.w (stepV s a k v) = true ∧ A64 (stepV s a k v)
  | 0, _ => by
    show valL s.what s.w (startS s v) = true ∧ A64 (startS s v)
    exact start_val hf hg v
  | k + 1, h => by
    have ih := stepV_val hf hg ha hv v k (by omega)
    rw [stepV_succ s a (by omega)]
    unfold joinE
    split
    · have he := hg.edge _ (List.getElem_mem (show k < s.edges.length by omega))
      have hva := vals_iff.1 hv
      generalize s.edges[k] = e at he
      have hl : e.1.toNat < a.length := by omega
      have hm : a.getD e.1.toNat [] ∈ a := by rw [List.getD_eq_getElem?_getD, List.getElem?_eq_getElem hl]; exact List.getElem_mem hl
      have ho := out_val hf hg (ha.2 _ hm).1 (hva.2 _ hm) (v := e.1.toNat) (by omega)
      exact ⟨join_val ih.2 ho.2 ih.1 ho.1, join_64 ih.2 ho.2⟩
    · exact ih
theorem stepS_vals {s : Sy} (hf : Fit s) (hg : Good s) {a : List (List Int)} (ha : okLL a) (hv : valsS s a = true) : valsS s (stepS s a) = true ∧ okLL (stepS s a) := by
  have hx : ∀ x ∈ stepS s a, valL s.what s.w x = true ∧ A64 x := fun x hx => by
    obtain ⟨v, _, rfl⟩ := List.mem_map.1 hx
    exact stepV_val hf hg ha hv v _ (Nat.le_refl _)
  have hn := hg.n1
  have hn2 := hg.n2
  have hl : (stepS s a).length = s.n.toNat := stepK_length _ _ _
  exact ⟨vals_iff.2 ⟨by omega, fun x h => (hx x h).1⟩, by omega, fun x h => ⟨(hx x h).2, by have := val_short (hx x h).1; omega⟩⟩
/-- Lists' slices, in cells. -/
def uC (x : List Int) : AV := .fsl (.int .u64) x
def uuC (l : List (List Int)) : List AV := l.map uC
theorem uuC_flat : ∀ l : List (List Int), uuC l = l.flatMap (Sh.cells (.slice (.int .u64)))
  | [] => rfl
  | x :: l => congrArg (uC x :: ·) (uuC_flat l)
theorem uuC_length (l : List (List Int)) : (uuC l).length = l.length := by unfold uuC; simp
theorem uuC_get (l : List (List Int)) {i : Nat} (h : i < l.length) : (uuC l)[i]? = some (uC l[i]) := by unfold uuC; rw [List.getElem?_map, List.getElem?_eq_getElem h]; rfl
theorem write1 {i : TI} (hs : i.size = 1) {cs : List AV} {o : Nat} {v : AV} (hv : v.cells? = some [v]) (ho : o < cs.length) : writeAs i cs o v = some (cs.set o v) := by
  unfold writeAs
  rw [hv]
  simp only
  have e1 : Nat.beq ([v] : List AV).length i.size = true := by rw [hs]; rfl
  have e2 : Nat.ble (o + i.size) cs.length = true := Nat.ble_eq_true_of_le (by omega)
  rw [e1, e2]
  rfl
theorem read1 {i : TI} (hw : i.wide = false) {cs : List AV} {o : Nat} {v : AV} (h : cs[o]? = some v) : readAs i cs o = some v := by unfold readAs; rw [hw]; exact h
theorem repN (n : Nat) : repC [.nils] n = List.replicate n AV.nils := by
  induction n with
  | zero => rfl
  | succ n ih => simp [repC, ih, List.replicate_succ]
/-- A row of rows that is being filled. -/
def filC (f : Nat → List Int) (n k : Nat) : List AV := uuC ((List.range k).map f) ++ List.replicate (n - k) AV.nils
theorem filC_zero (f : Nat → List Int) (n : Nat) : filC f n 0 = repC [.nils] n := by rw [repN]; rfl
theorem filC_all (f : Nat → List Int) (n : Nat) : filC f n n = uuC ((List.range n).map f) := by unfold filC; simp
theorem filC_length (f : Nat → List Int) {n k : Nat} (h : k ≤ n) : (filC f n k).length = n := by unfold filC; simp [uuC_length]; omega
theorem filC_set (f : Nat → List Int) {n k : Nat} (h : k < n) : (filC f n k).set k (uC (f k)) = filC f n (k + 1) := by
  unfold filC uuC
  rw [List.set_append_right _ _ (by simp)]
  have e : n - k = (n - (k + 1)) + 1 := by omega
  rw [e, List.replicate_succ]
  simp [List.range_succ]
theorem uuC_set (l : List (List Int)) (i : Nat) (x : List Int) : (uuC l).set i (uC x) = uuC (l.set i x) := by unfold uuC; rw [List.map_set]
theorem stepK_succ (s : Sy) (a : List (List Int)) {k : Nat} (h : k < s.edges.length) {to : Nat} (ht : s.edges[k].2.1 = to) : stepK s a (k + 1) = (stepK s a k).set to (join12 s.what (stepV s a k to) (outS s (a.getD s.edges[k].1.toNat []) s.edges[k].1.toNat)) := by
  refine List.ext_getElem (by simp [stepK_length]) fun i h1 h2 => ?_
  rw [stepK_length] at h1
  rw [List.getElem_set]
  simp only [stepK, List.getElem_map, List.getElem_range]
  rw [stepV_succ s a h]
  unfold joinE
  by_cases hi : to = i
  · subst hi
    rw [if_pos rfl, if_pos ht]
  · rw [if_neg hi, if_neg (by omega)]
def okG (e : Int) (l : List (List Int)) : List (List Int) := if e = 0 then l else []
/-- What Step tells. -/
def errS (s : Sy) (a : List (List Int)) : Int := if checkS s = 0 then (if valsS s a = true then 0 else 2) else checkS s
theorem aSysStep (s : Sy) (a : List (List Int)) (σ : Hp) (hf : Fit s) (ha : okLL a) : ACalls Tryz.prog 101 [.agg (sysC s), .fsl (.slice (.int .u64)) a] σ (Ret (.tup [.fsl (.slice (.int .u64)) (okG (errS s a) (stepS s a)), .int .i64 (errS s a)]) σ) := by
  refine okF Tryz.func101 (by kernel_rfl) ?_
  intro bl1
  refine LoadAt.mk 0 _ _ rfl rfl ?_
  refine callR [] (aSysCheck s _ hf) ?_
  refine bcond_split (fun c1 => ?_) (fun c1 => ?_)
  · have c1 : (!decide (checkS s = 0)) = true := c1
    have c1 : ¬ checkS s = 0 := by simpa using c1
    have e : errS s a = checkS s := if_neg c1
    exact .nil (frz_cons (.nil _) (.refl _)) (.drop 0 1 (.done ⟨by rw [e]; unfold okG; rw [if_neg c1]; rfl, rfl⟩))
  · have c1 : (!decide (checkS s = 0)) = false := c1
    have c1 : checkS s = 0 := by simpa using c1
    have hg := good_of c1
    refine LoadAt.mk 0 _ _ rfl rfl ?_
    refine callB [] (aValues s a _ ha) (fun c2 => ?_) (fun c2 => ?_)
    · have e : errS s a = 0 := by unfold errS; rw [if_pos c1, if_pos c2]
      obtain ⟨N, hN⟩ : ∃ N : Nat, s.n = N := ⟨s.n.toNat, by have := hg.n1; omega⟩
      have hN1 := hg.n1
      have hN2 := hg.n2
      have hva := vals_iff.1 c2
      refine LoadAt.mk 0 _ _ rfl rfl ?_
      rw [hN]
      refine With.mk ⟨by omega, by omega, by omega, by decide⟩ ?_
      intro bo
      have hbo : (bo, repC [.nils] ((N : Int)).toNat) = (bo, filC (fun v => startS s v) N 0) := by rw [filC_zero]; rfl
      refine loopS (S := Nat) (fun k => [(1, .fsl (.slice (.int .u64)) a), (2, .ptr bl1 0), (7, .mref bo 0 N 1), (26, .int .i64 N), (27, .int .i64 k)]) (fun k => (bo, filC (fun v => startS s v) N k) :: (bl1, sysC s) :: σ) (fun k => k ≤ N) (fun k => N - k) 0 ⟨Nat.zero_le _, ⟨rfl, rfl, rfl, rfl, rfl, trivial⟩, congrArg (· :: (bl1, sysC s) :: σ) hbo⟩ ?_
      intro k t hk0
      have hk : k ≤ N := hk0
      clear hk0
      refine bcond_dec (fun hlt => ?_) (fun hge => ?_)
      · have hlt : k < N := by have hlt : (k : Int) < N := hlt; omega
        refine LoadAt.mk 1 _ _ rfl rfl ?_
        refine callR [] (aStart s k _ hf) ?_
        refine With.mk ⟨rfl, by omega, by omega⟩ ?_
        refine StoreAt.mk 0 _ _ rfl ((write1 rfl rfl (by rw [filC_length _ hk]; omega)).trans (congrArg some (show (filC (fun v => startS s v) N k).set (0 + ((k : Int)).toNat * 1) (uC (startS s k)) = filC (fun v => startS s v) N (k + 1) by rw [Nat.zero_add, Nat.mul_one, Int.toNat_natCast]; exact filC_set _ hlt))) ?_
        exact nextS (k + 1) (by show N - (k + 1) < N - k; omega) hlt ⟨rfl, rfl, rfl, rfl, inc64 (by omega), trivial⟩ (.refl _)
      · have hge : k = N := by have hge : ¬ (k : Int) < N := hge; omega
        subst hge
        refine LoadAt.mk 1 _ _ rfl rfl ?_
        have hb0 : (bo, filC (fun v => startS s v) k k) = (bo, uuC (stepK s a 0)) := by
          rw [filC_all]
          have : stepK s a 0 = (List.range k).map (fun v : Nat => startS s v) := by
            unfold stepK
            rw [hN, Int.toNat_natCast]; rfl
          rw [this]
        have hel := hg.el
        refine loopS (S := Nat) (fun j => [(1, .fsl (.slice (.int .u64)) a), (2, .ptr bl1 0), (7, .mref bo 0 k 1), (38, .fsl edgeSh s.edges), (39, .int .i64 s.edges.length), (40, .int .i64 j)]) (fun j => (bo, uuC (stepK s a j)) :: (bl1, sysC s) :: σ) (fun j => j ≤ s.edges.length) (fun j => s.edges.length - j) 0 ⟨Nat.zero_le _, ⟨rfl, rfl, rfl, rfl, rfl, rfl, trivial⟩, congrArg (· :: (bl1, sysC s) :: σ) hb0⟩ ?_
        intro j t hj0
        have hj : j ≤ s.edges.length := hj0
        clear hj0
        refine bcond_dec (fun hlt => ?_) (fun hge => ?_)
        · have hlt : j < s.edges.length := by have hlt : (j : Int) < s.edges.length := hlt; omega
          have he := hg.edge _ (List.getElem_mem hlt)
          have hsu := fun {to : Nat} (h : s.edges[j].2.1 = to) => stepK_succ s a hlt h
          obtain ⟨d, hd⟩ : ∃ d : EdgeT, s.edges[j] = d := ⟨_, rfl⟩
          rw [hd] at he hsu
          refine With.mk rfl (IdxF.mk d (by omega) ((get_some hlt).trans (congrArg some hd)) ?_)
          obtain ⟨from_, hfr⟩ : ∃ i : Nat, d.1 = i := ⟨d.1.toNat, by omega⟩
          obtain ⟨to, hto⟩ : ∃ i : Nat, d.2.1 = i := ⟨d.2.1.toNat, by omega⟩
          have hsu := hsu hto
          obtain ⟨hT, hTe⟩ := T_get hg (v := from_) (by omega)
          have hA : from_ < a.length := by omega
          have hAe : a.getD d.1.toNat [] = a[from_] := by rw [hfr, Int.toNat_natCast, List.getD_eq_getElem?_getD, List.getElem?_eq_getElem hA]; rfl
          have hv := stepV_val hf hg ha c2 to j hj
          have hxa := ha.2 _ (List.getElem_mem hA)
          have hva2 := hva.2 _ (List.getElem_mem hA)
          have ho := out_val hf hg hxa.1 hva2 (v := from_) (by omega)
          have htr := hf.ts _ (List.getElem_mem hT)
          have htc := hg.trs _ (List.getElem_mem hT)
          intro bl2
          refine StoreAt.mk 0 _ _ rfl rfl ?_
          refine .quiet (by kernel_rfl) ?_
          refine LoadAt.mk 2 _ _ rfl rfl ?_
          refine LoadAt.mk 2 _ _ rfl rfl ?_
          refine LoadAt.mk 2 _ _ rfl rfl ?_
          refine LoadAt.mk 0 _ _ rfl rfl ?_
          refine With.mk rfl ?_
          refine IdxF.mk s.T[from_] (by omega) (by rw [hfr, Int.toNat_natCast]; exact List.getElem?_eq_getElem hT) ?_
          refine LoadAt.mk 0 _ _ rfl rfl ?_
          refine With.mk rfl ?_
          refine IdxF.mk a[from_] (by omega) (by rw [hfr, Int.toNat_natCast]; exact List.getElem?_eq_getElem hA) ?_
          have hoe : applyR s.what s.T[from_].1 s.T[from_].2.1 s.T[from_].2.2.1 a[from_] = outS s (a.getD d.1.toNat []) d.1.toNat := by
            unfold outS
            rw [hAe, hfr, Int.toNat_natCast, hTe]
          have hOe : outS s (a.getD d.1.toNat []) d.1.toNat = outS s a[from_] from_ := by rw [hAe, hfr, Int.toNat_natCast]
          refine callQ [] (acalls_eq (aTApplyOk s.what s.w s.T[from_].1 s.T[from_].2.1 s.T[from_].2.2.1 a[from_] _ htr.1 htr.2.1 hxa.1 htr.2.2.1 htr.2.2.2.1 hxa.2 (Nat.le_trans htr.2.2.2.2 (by decide)) htc hva2) (congrArg (fun x => AV.tup [.fsl (.int .u64) x, .int .i64 0]) (hoe.trans hOe))) ?_
          generalize outS s a[from_] from_ = o at hOe ho
          refine .sched [13] (upto [13] 19 0) (by kernel_rfl) ?_
          refine LoadAt.mk 0 _ _ rfl rfl ?_
          refine LoadAt.mk 2 _ _ rfl rfl ?_
          refine LoadAt.mk 2 _ _ rfl rfl ?_
          refine LoadAt.mk 0 _ _ rfl rfl ?_
          refine With.mk ⟨rfl, by omega, by omega⟩ ?_
          have hgk : (uuC (stepK s a j))[0 + d.2.1.toNat * 1]? = some (uC (stepV s a j to)) := by
            rw [hto, Int.toNat_natCast, Nat.zero_add, Nat.mul_one, uuC_get _ (by rw [stepK_length]; omega)]
            simp [stepK]
          refine LoadAt.mk 1 _ _ rfl (read1 rfl hgk) ?_
          refine callQ [] (aLJoinOk s.what s.w (stepV s a j to) o _ hv.2 ho.2 (Nat.le_trans (val_short hv.1) (by decide)) (Nat.le_trans (val_short ho.1) (by decide)) hv.1 ho.1) ?_
          refine With.mk ⟨rfl, by omega, by omega⟩ ?_
          have hset : (uuC (stepK s a j)).set (0 + d.2.1.toNat * 1) (uC (join12 s.what (stepV s a j to) o)) = uuC (stepK s a (j + 1)) := by
            rw [hsu, hOe, hto, Int.toNat_natCast, Nat.zero_add, Nat.mul_one, uuC_set]
          refine StoreAt.mk 1 _ _ rfl ((write1 rfl rfl (by rw [uuC_length, stepK_length]; omega)).trans (congrArg some hset)) ?_
          exact nextS (j + 1) (by show s.edges.length - (j + 1) < s.edges.length - j; omega) hlt ⟨rfl, rfl, rfl, rfl, rfl, inc64 (by omega), trivial⟩ (.drop 0 1 (.refl _))
        · have hge : j = s.edges.length := by have hge : ¬ (j : Int) < s.edges.length := hge; omega
          subst hge
          refine .frz 0 bo 0 k 1 _ (.slice (.int .u64)) (stepS s a) rfl ?_ ⟨?_, rfl, by decide⟩ (frz_cons .here (.refl _)) (.drop 0 1 (.done ⟨?_, rfl⟩))
          · rw [List.drop_zero, ← uuC_flat]
            exact List.take_of_length_le (by rw [uuC_length, stepK_length, hN]; omega)
          · exact (stepK_length _ _ _).trans (by rw [hN]; omega)
          · rw [e]; rfl
    · have e : errS s a = 2 := by unfold errS; rw [if_pos c1, c2]; rfl
      exact .nil (frz_cons (.nil _) (.refl _)) (.drop 0 1 (.done ⟨by rw [e]; rfl, rfl⟩))
theorem aEqualUF (xs ys : List Int) (σ : Hp) (h1 : xs.length ≤ 1000000) : ACalls Tryz.prog 139 ([.fsl (.int .u64) xs, .fsl (.int .u64) ys] ++ []) σ (Ret (.bool (decide (xs = ys))) σ) := aEqualU xs ys σ h1
theorem allTwo_eq (a b : List (List Int)) : allTwo (fun x y => decide (x = y)) a b = decide (a = b) := by
  rw [Bool.eq_iff_iff, allTwo_iff, decide_eq_true_eq]
  constructor
  · rintro ⟨h1, h2⟩
    exact List.ext_getElem h1 fun i q1 q2 => of_decide_eq_true (h2 i q1 q2)
  · rintro rfl
    exact ⟨rfl, fun i q1 q2 => decide_eq_true rfl⟩
def bottomS (s : Sy) : List (List Int) := List.replicate s.n.toNat (botL s.what s.w)
theorem bottomS_length (s : Sy) : (bottomS s).length = s.n.toNat := List.length_replicate
theorem aSysBottom (s : Sy) (σ : Hp) (hf : Fit s) : ACalls Tryz.prog 99 [.agg (sysC s)] σ (Ret (.tup [.fsl (.slice (.int .u64)) (okG (checkS s) (bottomS s)), .int .i64 (checkS s)]) σ) := by
  refine okF Tryz.func99 (by kernel_rfl) ?_
  intro bl1
  refine LoadAt.mk 0 _ _ rfl rfl ?_
  refine callR [] (aSysCheck s _ hf) ?_
  refine bcond_split (fun c1 => ?_) (fun c1 => ?_)
  · have c1 : (!decide (checkS s = 0)) = true := c1
    have c1 : ¬ checkS s = 0 := by simpa using c1
    exact .nil (frz_cons (.nil _) (.refl _)) (.drop 0 1 (.done ⟨by unfold okG; rw [if_neg c1]; rfl, rfl⟩))
  · have c1 : (!decide (checkS s = 0)) = false := c1
    have c1 : checkS s = 0 := by simpa using c1
    have hg := good_of c1
    obtain ⟨N, hN⟩ : ∃ N : Nat, s.n = N := ⟨s.n.toNat, by have := hg.n1; omega⟩
    have hN1 := hg.n1
    have hN2 := hg.n2
    refine LoadAt.mk 0 _ _ rfl rfl ?_
    rw [hN]
    refine With.mk ⟨by omega, by omega, by omega, by decide⟩ ?_
    intro bo
    have hbo : (bo, repC [.nils] ((N : Int)).toNat) = (bo, filC (fun _ => botL s.what s.w) N 0) := by rw [filC_zero]; rfl
    refine loopS (S := Nat) (fun k => [(1, .ptr bl1 0), (5, .mref bo 0 N 1), (16, .int .i64 N), (17, .int .i64 k)]) (fun k => (bo, filC (fun _ => botL s.what s.w) N k) :: (bl1, sysC s) :: σ) (fun k => k ≤ N) (fun k => N - k) 0 ⟨Nat.zero_le _, ⟨rfl, rfl, rfl, rfl, trivial⟩, congrArg (· :: (bl1, sysC s) :: σ) hbo⟩ ?_
    intro k t hk0
    have hk : k ≤ N := hk0
    clear hk0
    refine bcond_dec (fun hlt => ?_) (fun hge => ?_)
    · have hlt : k < N := by have hlt : (k : Int) < N := hlt; omega
      refine LoadAt.mk 1 _ _ rfl rfl ?_
      refine LoadAt.mk 1 _ _ rfl rfl ?_
      refine callR [] (aLBottom _ _ _) ?_
      refine With.mk ⟨rfl, by omega, by omega⟩ ?_
      refine StoreAt.mk 0 _ _ rfl ((write1 rfl rfl (by rw [filC_length _ hk]; omega)).trans (congrArg some (show (filC (fun _ => botL s.what s.w) N k).set (0 + ((k : Int)).toNat * 1) (uC (botL s.what s.w)) = filC (fun _ => botL s.what s.w) N (k + 1) by rw [Nat.zero_add, Nat.mul_one, Int.toNat_natCast]; exact filC_set _ hlt))) ?_
      exact nextS (k + 1) (by show N - (k + 1) < N - k; omega) hlt ⟨rfl, rfl, rfl, inc64 (by omega), trivial⟩ (.refl _)
    · have hge : k = N := by have hge : ¬ (k : Int) < N := hge; omega
      subst hge
      have hrep : filC (fun _ => botL s.what s.w) k k = uuC (bottomS s) := by
        rw [filC_all]; unfold bottomS; rw [hN, Int.toNat_natCast, List.map_const', List.length_range]
      refine .frz 0 bo 0 k 1 _ (.slice (.int .u64)) (bottomS s) rfl ?_ ⟨?_, rfl, by decide⟩ (frz_cons .here (.refl _)) (.drop 0 1 (.done ⟨?_, rfl⟩))
      · rw [List.drop_zero, ← uuC_flat, hrep]
        exact List.take_of_length_le (by rw [uuC_length]; unfold bottomS; rw [List.length_replicate, hN]; omega)
      · exact (bottomS_length s).trans (by rw [hN]; omega)
      · unfold okG; rw [c1]; rfl
end Go.Proofs.YtljbnigceammdaaGreatDoor
