/-
  Events: which addresses they touch, which may change something, and whether a new memory would tell them.
-/
import Derived.Test.YtphifpfndhfdfaaRecD
import Derived.Test.YtphifpfndhfdfaaRecX
import Derived.Test.YtphifpfndhfdfaaZs
import Derived.Test.YtphifpfndhfdfaaIn
namespace Go.Proofs.Ytphifpfndhfdfaa
open Go.RowKit
set_option maxRecDepth 100000
def evOf (d : EvT) : Ev := ⟨d.1, d.2.1, d.2.2.1, d.2.2.2.1, d.2.2.2.2.1, d.2.2.2.2.2.1⟩
theorem evOf_map : ∀ B : List EvT, (B.map evOf).map Ev.d = B
  | [] => rfl
  | d :: B => congrArg (d :: ·) (evOf_map B)
theorem fold_pre : ∀ (B : List EvT) (st : List Ev × List Int), ∃ m, (B.foldl rstep st).1 = st.1 ++ m
  | [], st => ⟨[], (List.append_nil _).symm⟩
  | d :: B, st => by
    obtain ⟨m, hm⟩ := fold_pre B (rstep st d)
    refine ⟨(askOp listOps st.2 d.1 d.2.1 d.2.2.1 d.2.2.2.1).1 :: m, ?_⟩
    rw [List.foldl_cons, hm]
    unfold rstep
    rw [List.append_assoc]; rfl
theorem replay_pre (zs : List Int) (B : List EvT) {k : Nat} (hk : k ≤ B.length) : (replay zs B).1.take k = (replay zs (B.take k)).1 := by
  have e : replay zs B = (B.drop k).foldl rstep (replay zs (B.take k)) := by
    unfold replay; rw [← List.foldl_append, List.take_append_drop]
  obtain ⟨m, hm⟩ := fold_pre (B.drop k) (replay zs (B.take k))
  rw [e, hm]
  have hl : (replay zs (B.take k)).1.length = k := by rw [replay_len, List.length_take]; omega
  rw [List.take_append_of_le_length (by omega), List.take_of_length_le (by omega)]
/-- What the k-th event is asked to tell. -/
def tellE (zs : List Int) (B : List EvT) (k : Nat) (d : EvT) : EvT := (askOp listOps (replay zs (B.take k)).2 d.1 d.2.1 d.2.2.1 d.2.2.2.1).1.d
def soFar (zs : List Int) (B : List EvT) (k : Nat) : Prop := (B.take k).all kindB = true ∧ (replay zs (B.take k)).1.map Ev.d = B.take k
theorem soFar_succ {zs : List Int} {B : List EvT} {k : Nat} (h : k < B.length) {d : EvT} (hd : B[k] = d) (hs : soFar zs B k) (hk : kindB d = true) (ht : tellE zs B k d = d) : soFar zs B (k + 1) := by
  constructor
  · rw [List.take_succ_eq_append_getElem h, List.all_append, hs.1, hd]; simp [hk]
  · rw [replay_snoc h, List.take_succ_eq_append_getElem h, hd]
    show List.map Ev.d (_ ++ [_]) = _
    rw [List.map_append, hs.2]
    exact congrArg (fun z => List.take k B ++ [z]) ht
theorem right_kind {n : Int} {B : List EvT} {k : Nat} (h : k < B.length) {d : EvT} (hd : B[k] = d) (hk : kindB d = false) : false = rightB n B := by
  have : B.all kindB = false := List.all_eq_false.2 ⟨d, hd ▸ List.getElem_mem h, by rw [hk]; decide⟩
  unfold rightB; rw [this]; rfl
theorem right_tell {n : Int} {zs : List Int} (hzs : zs = List.replicate (cutN n) 0) {B : List EvT} {k : Nat} (h : k < B.length) {d : EvT} (hd : B[k] = d) (ht : ¬ tellE zs B k d = d) : false = rightB n B := by
  have hne : ¬ (replay zs B).1.map Ev.d = B := fun e => by
    have e1 := congrArg (List.take (k + 1)) e
    rw [← List.map_take, replay_pre zs B (by omega), replay_snoc h, List.take_succ_eq_append_getElem h, hd] at e1
    have e1 : List.map Ev.d ((replay zs (B.take k)).1 ++ [(askOp listOps (replay zs (B.take k)).2 d.1 d.2.1 d.2.2.1 d.2.2.2.1).1]) = B.take k ++ [d] := e1
    rw [List.map_append] at e1
    have hl : ((replay zs (B.take k)).1.map Ev.d).length = (B.take k).length := by rw [List.length_map, replay_len]
    have := (List.append_inj e1 hl).2
    exact ht (List.cons.inj this).1
  unfold rightB
  rw [← hzs, decide_eq_false hne, Bool.and_false]
theorem right_end {n : Int} {zs : List Int} (hzs : zs = List.replicate (cutN n) 0) {B : List EvT} (h : soFar zs B B.length) : true = rightB n B := by
  unfold soFar at h
  rw [List.take_length] at h
  unfold rightB
  rw [← hzs, h.1, decide_eq_true h.2]; rfl
/-- The addresses, in order, each once. -/
def touchE (B : List EvT) : List Int := compI (B.map fun d => d.2.1)
theorem touch_mem {B : List EvT} {d : EvT} (h : d ∈ B) : d.2.1 ∈ touchE B := by
  unfold touchE compI
  rw [compact_mem, sortI_mem]
  exact List.mem_map.2 ⟨d, h, rfl⟩
theorem touch_inc (B : List EvT) : (touchE B).Pairwise (· < ·) := compact_inc (sortI_sorted _)
theorem touch_len (B : List EvT) : (touchE B).length ≤ B.length := by
  unfold touchE compI
  have h1 := compact_len (sortI (B.map fun d : EvT => d.2.1))
  rw [sortI_length, List.length_map] at h1
  exact h1
theorem aTouched (B : List EvT) (σ : Hp) (hl : B.length ≤ 100000) : ACalls Try.prog 21 [.fsl evSh B] σ (Ret (.fsl (.int .i64) (touchE B)) σ) := by
  refine okF Try.func21 (by kernel_rfl) ?_
  refine .wrap 3 _ rfl rfl ?_
  refine loopS (S := Nat × AV × Hp) (fun s => [(3, .via s.2.1), (6, .fsl evSh B), (7, .int .i64 B.length), (8, .int .i64 s.1)]) (fun s => s.2.2 ++ σ) (fun s => s.1 ≤ B.length ∧ Acc 1 s.1 s.2.1 s.2.2 (inC ((B.take s.1).map fun d => d.2.1))) (fun s => B.length - s.1) (0, .nils, []) ⟨⟨Nat.zero_le _, .nil⟩, ⟨rfl, rfl, rfl, rfl, trivial⟩, rfl⟩ ?_
  rintro ⟨k, v, acc⟩ g ⟨hk0, hacc0⟩
  have hk : k ≤ B.length := hk0
  have hacc : Acc 1 k v acc (inC ((B.take k).map fun d => d.2.1)) := hacc0
  clear hk0 hacc0
  refine bcond_dec (fun hlt => ?_) (fun hge => ?_)
  · have hlt : k < B.length := by have hlt : (k : Int) < B.length := hlt; omega
    obtain ⟨d, hd⟩ : ∃ d : EvT, B[k] = d := ⟨_, rfl⟩
    refine With.mk rfl (IdxF.mk d (by omega) ((get_some hlt).trans (congrArg some hd)) ?_)
    intro bl1
    refine StoreAt.mk 0 _ _ rfl rfl ?_
    refine LoadAt.mk 0 _ _ rfl rfl ?_
    intro bl2
    refine append_acc [_, _] hacc (.mref 0 bl2 0 1 _ rfl (Nat.le_of_ble_eq_true rfl)) rfl (by omega) (by decide) (by decide) (fun v' acc' h' => ?_)
    refine nextS (k + 1, v', acc') (by show B.length - (k + 1) < B.length - k; omega) ⟨hlt, ?_⟩ ⟨rfl, rfl, rfl, inc64 (by omega), trivial⟩ (.drop 0 2 (shed_eq rfl))
    show Acc 1 (k + 1) v' acc' (inC ((B.take (k + 1)).map fun d => d.2.1))
    rw [List.take_succ_eq_append_getElem hlt, List.map_append, hd, inC, List.map_append]
    exact h'
  · have hge : k = B.length := by have hge : ¬ (k : Int) < B.length := hge; omega
    subst hge
    rw [List.take_length] at hacc
    have hm : (B.map fun d : EvT => d.2.1).length = B.length := List.length_map ..
    unfold touchE
    generalize B.map (fun d : EvT => d.2.1) = zs at hacc hm
    generalize hC : inC zs = C at hacc
    generalize B.length = m at hacc hm hl
    cases hacc with
    | nil =>
      have hz : zs = [] := List.length_eq_zero_iff.1 hm
      subst hz
      refine callR [] (aSortN _) ?_
      refine callR [] (aCompN _) ?_
      exact .nil (.nil (.int .i64)) (.done ⟨by rw [compI_nil]; rfl, rfl⟩)
    | mref b m cs h =>
      subst hC
      refine callR [] (aSortI b zs m σ hm (by omega)) ?_
      refine callR [] (aCompI b (sortI zs) m σ ((sortI_length zs).trans hm) (by omega)) ?_
      refine .frz 0 b 0 _ 1 _ (.int .i64) (compI zs) rfl ?_ ⟨rfl, rfl, by decide⟩ .here (.done ⟨rfl, rfl⟩)
      rw [List.drop_zero, ← inC_flat]
      unfold compI inC
      rw [List.map_append, Nat.mul_one, List.take_append_of_le_length (by rw [List.length_map]; exact Nat.le_refl _)]
      exact List.take_of_length_le (by rw [List.length_map]; exact Nat.le_refl _)
theorem keep_succ {B : List EvT} {k : Nat} (h : k < B.length) {d : EvT} (hd : B[k] = d) : (B.take (k + 1)).filter keepE = (B.take k).filter keepE ++ (if keepE d = true then [d] else []) := by
  rw [List.take_succ_eq_append_getElem h, List.filter_append, hd]
  congr 1
  by_cases hc : keepE d = true
  · rw [if_pos hc]; exact List.filter_cons_of_pos hc
  · rw [if_neg hc]; exact List.filter_cons_of_neg hc
theorem aRWrites (B : List EvT) (σ : Hp) (hl : B.length ≤ 100000) : ACalls Try.prog 25 [.fsl evSh B] σ (Ret (.fsl evSh (B.filter keepE)) σ) := by
  refine okF Try.func25 (by kernel_rfl) ?_
  refine .wrap 3 _ rfl rfl ?_
  refine loopS (S := Nat × AV × Hp) (fun s => [(3, .via s.2.1), (6, .fsl evSh B), (7, .int .i64 B.length), (8, .int .i64 s.1)]) (fun s => s.2.2 ++ σ) (fun s => s.1 ≤ B.length ∧ Acc 6 ((B.take s.1).filter keepE).length s.2.1 s.2.2 (((B.take s.1).filter keepE).flatMap evF)) (fun s => B.length - s.1) (0, .nils, []) ⟨⟨Nat.zero_le _, .nil⟩, ⟨rfl, rfl, rfl, rfl, trivial⟩, rfl⟩ ?_
  rintro ⟨k, v, acc⟩ g ⟨hk0, hacc0⟩
  have hk : k ≤ B.length := hk0
  have hacc : Acc 6 ((B.take k).filter keepE).length v acc (((B.take k).filter keepE).flatMap evF) := hacc0
  clear hk0 hacc0
  have hfl : ((B.take k).filter keepE).length ≤ k := Nat.le_trans (List.length_filter_le _ _) (by rw [List.length_take]; omega)
  refine bcond_dec (fun hlt => ?_) (fun hge => ?_)
  · have hlt : k < B.length := by have hlt : (k : Int) < B.length := hlt; omega
    obtain ⟨d, hd⟩ : ∃ d : EvT, B[k] = d := ⟨_, rfl⟩
    have hs := keep_succ hlt hd
    obtain ⟨dk, dt, dx, dy, dg, dok, du⟩ := d
    have hkd : keepE (dk, dt, dx, dy, dg, dok, du) = (decide (dk = 2) || decide (dk = 4) || (decide (dk = 3) && dok)) := rfl
    rw [hkd] at hs
    refine With.mk rfl (IdxF.mk (dk, dt, dx, dy, dg, dok, du) (by omega) ((get_some hlt).trans (congrArg some hd)) ?_)
    intro bl1
    refine StoreAt.mk 0 _ _ rfl rfl ?_
    refine LoadAt.mk 0 _ _ rfl rfl ?_
    refine bcond_dec (p := dk = 2) (fun c1 => ?_) (fun c1 => ?_)
    · rw [decide_eq_true c1, Bool.true_or, Bool.true_or] at hs
      refine LoadAt.mk 0 _ _ rfl rfl ?_
      intro bl2
      refine append_acc [_, _] hacc (.mref 0 bl2 0 1 _ rfl (Nat.le_of_ble_eq_true rfl)) rfl (by omega) (by decide) (by decide) (fun v' acc' h' => ?_)
      refine nextS (k + 1, v', acc') (by show B.length - (k + 1) < B.length - k; omega) ⟨hlt, ?_⟩ ⟨rfl, rfl, rfl, inc64 (by omega), trivial⟩ (.drop 0 2 (shed_eq rfl))
      show Acc 6 ((B.take (k + 1)).filter keepE).length v' acc' (((B.take (k + 1)).filter keepE).flatMap evF)
      rw [hs, if_pos rfl, List.length_append, List.flatMap_append]
      exact h'
    refine LoadAt.mk 0 _ _ rfl rfl ?_
    refine bcond_dec (p := dk = 4) (fun c2 => ?_) (fun c2 => ?_)
    · rw [decide_eq_true c2, Bool.or_true, Bool.true_or] at hs
      refine LoadAt.mk 0 _ _ rfl rfl ?_
      intro bl2
      refine append_acc [_, _] hacc (.mref 0 bl2 0 1 _ rfl (Nat.le_of_ble_eq_true rfl)) rfl (by omega) (by decide) (by decide) (fun v' acc' h' => ?_)
      refine nextS (k + 1, v', acc') (by show B.length - (k + 1) < B.length - k; omega) ⟨hlt, ?_⟩ ⟨rfl, rfl, rfl, inc64 (by omega), trivial⟩ (.drop 0 2 (shed_eq rfl))
      show Acc 6 ((B.take (k + 1)).filter keepE).length v' acc' (((B.take (k + 1)).filter keepE).flatMap evF)
      rw [hs, if_pos rfl, List.length_append, List.flatMap_append]
      exact h'
    rw [decide_eq_false c1, decide_eq_false c2, Bool.false_or, Bool.false_or] at hs
    refine LoadAt.mk 0 _ _ rfl rfl ?_
    refine bcond_dec (p := dk = 3) (fun c3 => ?_) (fun c3 => ?_)
    · rw [decide_eq_true c3, Bool.true_and] at hs
      refine LoadAt.mkB 0 _ _ rfl rfl (fun c4 => ?_) (fun c4 => ?_)
      · have c4 : dok = true := c4
        refine LoadAt.mk 0 _ _ rfl rfl ?_
        intro bl2
        refine append_acc [_, _] hacc (.mref 0 bl2 0 1 _ rfl (Nat.le_of_ble_eq_true rfl)) rfl (by omega) (by decide) (by decide) (fun v' acc' h' => ?_)
        refine nextS (k + 1, v', acc') (by show B.length - (k + 1) < B.length - k; omega) ⟨hlt, ?_⟩ ⟨rfl, rfl, rfl, inc64 (by omega), trivial⟩ (.drop 0 2 (shed_eq rfl))
        show Acc 6 ((B.take (k + 1)).filter keepE).length v' acc' (((B.take (k + 1)).filter keepE).flatMap evF)
        rw [hs, if_pos c4, List.length_append, List.flatMap_append]
        exact h'
      · have c4 : dok = false := c4
        exact nextS (k + 1, v, acc) (by show B.length - (k + 1) < B.length - k; omega) ⟨hlt, by show Acc 6 ((B.take (k + 1)).filter keepE).length v acc (((B.take (k + 1)).filter keepE).flatMap evF); rw [hs, if_neg (by rw [c4]; decide), List.append_nil]; exact hacc⟩ ⟨rfl, rfl, rfl, inc64 (by omega), trivial⟩ (.drop 0 1 (shed_eq rfl))
    · rw [decide_eq_false c3, Bool.false_and] at hs
      exact nextS (k + 1, v, acc) (by show B.length - (k + 1) < B.length - k; omega) ⟨hlt, by show Acc 6 ((B.take (k + 1)).filter keepE).length v acc (((B.take (k + 1)).filter keepE).flatMap evF); rw [hs, if_neg (by decide), List.append_nil]; exact hacc⟩ ⟨rfl, rfl, rfl, inc64 (by omega), trivial⟩ (.drop 0 1 (shed_eq rfl))
  · have hge : k = B.length := by have hge : ¬ (k : Int) < B.length := hge; omega
    subst hge
    rw [List.take_length] at hacc
    exact fin_acc (s := evSh) (l := B.filter keepE) [] hacc rfl rfl (by decide) (.done ⟨rfl, rfl⟩)
theorem aRRight23 (n : Int) (B : List EvT) (σ : Hp) (hB : B.length ≤ 100000) : ACalls Try.prog 23 [.int .i64 n, .fsl evSh B] σ (Ret (.bool (rightB n B)) σ) := by
  refine okF Try.func23 (by kernel_rfl) ?_
  refine .mk [] _ (aRNew n _) ?_
  rintro _ _ ⟨m, q, rfl, rfl⟩
  obtain ⟨zs, hzs⟩ : ∃ zs, zs = List.replicate (cutN n) (0 : Int) := ⟨_, rfl⟩
  rw [← hzs]
  refine loopS (S := Nat) (fun k => [(5, .ptr m 0), (10, .fsl evSh B), (11, .int .i64 B.length), (12, .int .i64 k)]) (fun k => reH m q (replay zs (B.take k)).2 σ) (fun k => k ≤ B.length ∧ soFar zs B k) (fun k => B.length - k) 0 ⟨⟨Nat.zero_le _, rfl, rfl⟩, ⟨rfl, rfl, rfl, rfl, trivial⟩, rfl⟩ ?_
  rintro k g ⟨hk0, hs0⟩
  have hk : k ≤ B.length := hk0
  have hs : soFar zs B k := hs0
  clear hk0 hs0
  refine bcond_dec (fun hlt => ?_) (fun hge => ?_)
  · have hlt : k < B.length := by have hlt : (k : Int) < B.length := hlt; omega
    obtain ⟨d, hd⟩ : ∃ d : EvT, B[k] = d := ⟨_, rfl⟩
    have hno := fun h => right_kind (n := n) hlt hd h
    have hne := fun h => right_tell hzs hlt hd h
    have hsu := fun h1 h2 => soFar_succ hlt hd hs h1 h2
    have hrs := replay_snoc (ws := zs) hlt
    rw [hd] at hrs
    have hte : tellE zs B k d = (askOp listOps (replay zs (B.take k)).2 d.1 d.2.1 d.2.2.1 d.2.2.2.1).1.d := rfl
    generalize hws : (replay zs (B.take k)).2 = ws at hte ⊢
    obtain ⟨dk, dt, dx, dy, dg, dok, du⟩ := d
    refine With.mk rfl (IdxF.mk (dk, dt, dx, dy, dg, dok, du) (by omega) ((get_some hlt).trans (congrArg some hd)) ?_)
    intro bl1
    refine StoreAt.mk 0 _ _ rfl rfl ?_
    have hkb : kindB (dk, dt, dx, dy, dg, dok, du) = (decide (1 ≤ dk) && decide (dk ≤ 4)) := rfl
    refine .sched [] (.one 0 false (.one 1 false (.one 2 false (.one 3 false (.one 4 false (.one 5 false (.one 6 false (.one 7 false (.one 8 false (.one 9 false (.one 10 false (.one 11 false (.one 12 false (.one 13 false (.one 14 false (.one 15 false (.one 16 false (.one 17 false (.one 18 false (.alt 19 (.one 20 false (.one 21 false (.one 22 false .stop))) (.one 20 false (.one 19 false (.one 21 false (.one 22 false .stop)))))))))))))))))))))))) (by kernel_rfl) ?_
    refine LoadAt.mk 0 _ _ rfl rfl ?_
    refine bcond_dec (p := dk < 1) (fun c1 => ?_) (fun c1 => ?_)
    · have hf := av_bool (hno (by rw [hkb, decide_eq_false (by omega), Bool.false_and]))
      refine And.intro ?_ ?_
      · exact .drop 0 3 (.done ⟨hf, rfl⟩)
      · exact .drop 0 3 (.done ⟨hf, rfl⟩)
    refine LoadAt.mk 0 _ _ rfl rfl ?_
    refine bcond_dec (p := 4 < dk) (fun c2 => ?_) (fun c2 => ?_)
    · have hf := av_bool (hno (by rw [hkb, decide_eq_false (p := dk ≤ 4) (by omega), Bool.and_false]))
      refine And.intro ?_ ?_
      · exact .drop 0 3 (.done ⟨hf, rfl⟩)
      · exact .drop 0 3 (.done ⟨hf, rfl⟩)
    have hkk : 1 ≤ dk ∧ dk ≤ 4 := by omega
    refine LoadAt.mk 0 _ _ rfl rfl ?_
    refine LoadAt.mk 0 _ _ rfl rfl ?_
    refine LoadAt.mk 0 _ _ rfl rfl ?_
    refine LoadAt.mk 0 _ _ rfl rfl ?_
    have hA := fun σ => aRAsk m q ws dk dt dx dy σ hkk
    have hw2 : (replay zs (B.take (k + 1))).2 = (askOp listOps ws dk dt dx dy).2 := by rw [hrs]; unfold rstep; rw [hws]
    have hte : tellE zs B k (dk, dt, dx, dy, dg, dok, du) = (askOp listOps ws dk dt dx dy).1.d := hte
    have hk1 : kindB (dk, dt, dx, dy, dg, dok, du) = true := by rw [hkb, decide_eq_true hkk.1, decide_eq_true hkk.2]; rfl
    generalize askOp listOps ws dk dt dx dy = E at hA hw2 hte
    refine And.intro ?_ ?_
    · refine callR [2, 2] (hA _) ?_
      refine LoadAt.mk 2 _ _ rfl rfl ?_
      refine .mk (by kernel_rfl) (by kernel_rfl) ?_
      refine bcond_split (fun h => ?_) (fun h => ?_)
      · have h : (!decide (E.1.d = ((dk, dt, dx, dy, dg, dok, du) : EvT))) = true := (congrArg not (allB_iff E.1.d (dk, dt, dx, dy, dg, dok, du))).symm.trans h
        have h : ¬ E.1.d = (dk, dt, dx, dy, dg, dok, du) := by simpa using h
        exact .drop 0 3 (.done ⟨av_bool (hne (by rw [hte]; exact h)), rfl⟩)
      · have h : (!decide (E.1.d = ((dk, dt, dx, dy, dg, dok, du) : EvT))) = false := (congrArg not (allB_iff E.1.d (dk, dt, dx, dy, dg, dok, du))).symm.trans h
        have h : E.1.d = (dk, dt, dx, dy, dg, dok, du) := by simpa using h
        refine nextS (k + 1) (by show B.length - (k + 1) < B.length - k; omega) ⟨hlt, hsu hk1 (hte.trans h)⟩ ⟨rfl, rfl, rfl, inc64 (by omega), trivial⟩ (.drop 2 1 (shed_eq ?_))
        show reH m q E.2 σ = reH m q (replay zs (B.take (k + 1))).2 σ
        rw [hw2]
    · refine LoadAt.mk 0 _ _ rfl rfl ?_
      refine callR [2, 2] (hA _) ?_
      refine .mk (by kernel_rfl) (by kernel_rfl) ?_
      refine bcond_split (fun h => ?_) (fun h => ?_)
      · have h : (!decide (E.1.d = ((dk, dt, dx, dy, dg, dok, du) : EvT))) = true := (congrArg not (allB_iff E.1.d (dk, dt, dx, dy, dg, dok, du))).symm.trans h
        have h : ¬ E.1.d = (dk, dt, dx, dy, dg, dok, du) := by simpa using h
        exact .drop 0 3 (.done ⟨av_bool (hne (by rw [hte]; exact h)), rfl⟩)
      · have h : (!decide (E.1.d = ((dk, dt, dx, dy, dg, dok, du) : EvT))) = false := (congrArg not (allB_iff E.1.d (dk, dt, dx, dy, dg, dok, du))).symm.trans h
        have h : E.1.d = (dk, dt, dx, dy, dg, dok, du) := by simpa using h
        refine nextS (k + 1) (by show B.length - (k + 1) < B.length - k; omega) ⟨hlt, hsu hk1 (hte.trans h)⟩ ⟨rfl, rfl, rfl, inc64 (by omega), trivial⟩ (.drop 2 1 (shed_eq ?_))
        show reH m q E.2 σ = reH m q (replay zs (B.take (k + 1))).2 σ
        rw [hw2]
  · have hge : k = B.length := by have hge : ¬ (k : Int) < B.length := hge; omega
    subst hge
    exact .drop 0 2 (.done ⟨av_bool (right_end hzs hs), rfl⟩)
theorem aEvsB (B : List EvT) (σ : Hp) (hl : B.length ≤ 1000) : ACalls Try.prog 20 [.fsl evSh B] σ (Ret (.fsl evSh B) σ) := by
  obtain ⟨C, rfl⟩ : ∃ C : List Ev, C.map Ev.d = B := ⟨B.map evOf, evOf_map B⟩
  exact aEvs C σ (by rw [List.length_map] at hl; exact hl)
theorem aSameB (B : List EvT) (σ : Hp) (hl : B.length ≤ 1000) : ACalls Try.prog 12 [.fsl evSh B, .fsl evSh B] σ (Ret (.bool true) σ) := by
  obtain ⟨C, rfl⟩ : ∃ C : List Ev, C.map Ev.d = B := ⟨B.map evOf, evOf_map B⟩
  exact aSameE C σ (by rw [List.length_map] at hl; exact hl)
theorem inc_get {l : List Int} (h : l.Pairwise (· < ·)) {i : Nat} (hi : i + 1 < l.length) : l[i] < l[i + 1] := List.pairwise_iff_getElem.1 h i (i + 1) (by omega) hi (by omega)
theorem recordRight_walk (n : Int) (B : List EvT) : ACalls Try.prog 4 [.int .i64 n, .fsl evSh B] [] (fun r _ => r = .bool true) := by
  refine okF Try.func4 (by kernel_rfl) ?_
  refine callR [] awake23a ?_
  refine bcond_dec (p := 50 < n) (fun h => ?_) (fun h1 => ?_)
  · exact .done rfl
  refine bcond_dec (p := 40 < (B.length : Int)) (fun h => ?_) (fun h2 => ?_)
  · exact .done rfl
  have hB : B.length ≤ 40 := by omega
  have hev := fun σ => aEvsB B σ (by omega)
  have hsm := fun σ => aSameB (B.filter keepE) σ (Nat.le_trans (List.length_filter_le _ _) (by omega))
  have hto := fun σ => aTouched B σ (by omega)
  have hinc := touch_inc B
  have htl := touch_len B
  have hmem := fun d h => touch_mem (B := B) (d := d) h
  have hR := fun σ => aRight n B σ (by omega)
  have hR2 := fun σ => aRRight23 n B σ (by omega)
  generalize rightB n B = b at hR hR2
  generalize touchE B = T at hto hinc htl hmem
  refine callR [] (hev _) ?_
  refine callR [] (hto _) ?_
  refine loopS (S := Nat) (fun k => [(0, .int .i64 n), (1, .fsl evSh B), (5, .fsl evSh B), (6, .fsl (.int .i64) T), (24, .fsl (.int .i64) T), (25, .int .i64 T.length), (26, .int .i64 k)]) (fun _ => []) (fun k => k ≤ T.length) (fun k => T.length - k) 0 ⟨Nat.zero_le _, ⟨rfl, rfl, rfl, rfl, rfl, rfl, rfl, trivial⟩, rfl⟩ ?_
  intro k g hk0
  have hk : k ≤ T.length := hk0
  clear hk0
  refine bcond_dec (fun hlt => ?_) (fun _ => ?_)
  · have hlt : k < T.length := by have hlt : (k : Int) < T.length := hlt; omega
    refine With.mk rfl (IdxF.mk T[k] (by omega) (get_some hlt) ?_)
    refine bcond_dec (p := (0 : Int) < (k : Int)) (fun c1 => ?_) (fun c1 => ?_)
    · obtain ⟨j, rfl⟩ : ∃ j, k = j + 1 := ⟨k - 1, by omega⟩
      have hw : IntKind.i64.wrap (((j + 1 : Nat) : Int) - 1) = (j : Int) := by rw [IntKind.wrap_i64]; omega
      have hj : j < T.length := by omega
      refine With.mk rfl (IdxF.mk T[j] (Int.le_trans (Int.natCast_nonneg j) (Int.le_of_eq hw.symm)) ((congrArg (fun i : Int => T[i.toNat]?) hw).trans (get_some hj)) ?_)
      refine bcond_dec (p := T[j + 1] ≤ T[j]) (fun c2 => ?_) (fun _ => ?_)
      · exact absurd (inc_get hinc hlt) (by omega)
      · exact nextS (j + 1 + 1) (by show T.length - (j + 1 + 1) < T.length - (j + 1); omega) hlt ⟨rfl, rfl, rfl, rfl, rfl, rfl, inc64 (by omega), trivial⟩ (.refl _)
    · exact nextS (k + 1) (by show T.length - (k + 1) < T.length - k; omega) hlt ⟨rfl, rfl, rfl, rfl, rfl, rfl, inc64 (by omega), trivial⟩ (.refl _)
  · refine loopS (S := Nat) (fun k => [(0, .int .i64 n), (1, .fsl evSh B), (5, .fsl evSh B), (6, .fsl (.int .i64) T), (43, .fsl evSh B), (44, .int .i64 B.length), (45, .int .i64 k)]) (fun _ => []) (fun k => k ≤ B.length) (fun k => B.length - k) 0 ⟨Nat.zero_le _, ⟨rfl, rfl, rfl, rfl, rfl, rfl, rfl, trivial⟩, rfl⟩ ?_
    intro k g hk0
    have hk : k ≤ B.length := hk0
    clear hk0
    refine bcond_dec (fun hlt => ?_) (fun _ => ?_)
    · have hlt : k < B.length := by have hlt : (k : Int) < B.length := hlt; omega
      have hd := hmem B[k] (List.getElem_mem hlt)
      refine With.mk rfl (IdxF.mk B[k] (by omega) (get_some hlt) ?_)
      intro bl1
      refine StoreAt.mk 0 _ _ rfl rfl ?_
      refine LoadAt.mk 0 _ _ rfl rfl ?_
      refine callR [] (acalls_eq (aRIn T B[k].2.1 _ (by omega)) (av_bool (List.any_eq_true.2 ⟨B[k].2.1, hd, decide_eq_true rfl⟩))) ?_
      exact nextS (k + 1) (by show B.length - (k + 1) < B.length - k; omega) hlt ⟨rfl, rfl, rfl, rfl, rfl, rfl, inc64 (by omega), trivial⟩ (.drop 0 1 (shed_eq rfl))
    · refine callR [] (hR _) ?_
      refine callR [] (hR2 _) ?_
      refine bcond_split (fun _ => ?_) (fun h => absurd h (by cases b <;> decide))
      refine callR [] (aWritesE B _ (by omega)) ?_
      refine callR [] (aRWrites B _ (by omega)) ?_
      refine callR [] (hsm _) ?_
      refine bcond_dec (p := (T.length : Int) ≤ (B.length : Int)) (fun _ => ?_) (fun h => absurd (by omega) h)
      exact .done rfl
end Go.Proofs.Ytphifpfndhfdfaa
