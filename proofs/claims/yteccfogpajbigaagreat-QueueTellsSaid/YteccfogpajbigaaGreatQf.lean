/-
  soughref07.In of a list that is open; soughref19.Solve.
-/
import Derived.Test.YteccfogpajbigaaGreatQe
namespace Go.Proofs.YteccfogpajbigaaGreat
open Go.RowKit
set_option maxRecDepth 100000
theorem aRInO (b : Nat) (l : List Int) (x : Int) (m : Nat) (σ : Hp) (hm : l.length = m) (hl : m ≤ 1000000) : ACalls Tryz.prog 61 [.mref b 0 m 1, .int .i64 x] ((b, inC l) :: σ) (Ret (.bool (decide (x ∈ l))) ((b, inC l) :: σ)) := by
  subst hm
  refine okF Tryz.func61 (by kernel_rfl) ?_
  refine loopS (S := Nat) (fun k => [(1, .int .i64 x), (7, .mref b 0 l.length 1), (8, .int .i64 l.length), (9, .int .i64 k)]) (fun _ => (b, inC l) :: σ) (fun k => k ≤ l.length ∧ x ∉ l.take k) (fun k => l.length - k) 0 ⟨⟨Nat.zero_le _, by simp⟩, ⟨rfl, rfl, rfl, rfl, trivial⟩, rfl⟩ ?_
  rintro k g ⟨hk0, ha0⟩
  have hk : k ≤ l.length := hk0
  have ha : x ∉ l.take k := ha0
  clear hk0 ha0
  refine bcond_dec (fun hlt => ?_) (fun hge => ?_)
  · have hlt : k < l.length := by have hlt : (k : Int) < l.length := hlt; omega
    refine With.mk ⟨rfl, by omega, by omega⟩ ?_
    refine LoadAt.mk 0 _ _ rfl (inC_read hlt) ?_
    refine bcond_dec (p := l[k] = x) (fun d1 => ?_) (fun d1 => ?_)
    · exact .done ⟨av_bool (decide_eq_true (d1 ▸ List.getElem_mem hlt)).symm, rfl⟩
    · refine nextS (k + 1) (by show l.length - (k + 1) < l.length - k; omega) ⟨hlt, fun h => ?_⟩ ⟨rfl, rfl, rfl, inc64 (by omega), trivial⟩ (.refl _)
      rcases (take_mem hlt x).1 h with h2 | h2
      · exact ha h2
      · exact d1 h2.symm
  · have hge : k = l.length := by have hge : ¬ (k : Int) < l.length := hge; omega
    subst hge
    rw [List.take_length] at ha
    exact .done ⟨av_bool (decide_eq_false ha).symm, rfl⟩
theorem aRInN (x : Int) (σ : Hp) : ACalls Tryz.prog 61 [.nils, .int .i64 x] σ (Ret (.bool false) σ) := by
  refine okF Tryz.func61 (by kernel_rfl) ?_
  refine loopS (S := Unit) (fun _ => [(1, .int .i64 x), (7, .nils), (8, .int .i64 0), (9, .int .i64 0)]) (fun _ => σ) (fun _ => True) (fun _ => 0) () ⟨trivial, ⟨rfl, rfl, rfl, rfl, trivial⟩, rfl⟩ ?_
  rintro ⟨⟩ g -
  exact .done ⟨rfl, rfl⟩
/-- In of a list that was made by append. -/
theorem aRInA (fr : Hp) {k : Nat} {v : AV} {acc : Hp} {l : List Int} (x : Int) (σ : Hp) (h : Acc 1 k v acc (inC l)) (hl : l.length = k) (hk : k ≤ 1000000) : ACalls Tryz.prog 61 [v, .int .i64 x] (fr ++ (acc ++ σ)) (Ret (.bool (decide (x ∈ l))) (fr ++ (acc ++ σ))) := by
  obtain ⟨cs, hcs⟩ : ∃ cs, cs = inC l := ⟨_, rfl⟩
  rw [← hcs] at h
  cases h with
  | nil =>
    obtain rfl := List.length_eq_zero_iff.1 hl
    exact acalls_eq (aRInN x _) rfl
  | mref b k cs h =>
    subst hcs
    refine ((aRInO b l x k (fr ++ σ) hl hk).perm (mid_perm fr [(b, inC l)] σ)).fin ?_
    rintro r σ' ⟨rfl, rfl⟩
    exact .perm (mid_perm fr [(b, inC l)] σ).symm (.done ⟨rfl, rfl⟩)
theorem aRQSolve (s : Sy) (first : List Int) (σ : Hp) (hf : Fit s) (hg : Good s) (ho : IsOrd s.n first) (hb : s.n + s.n * heightL s.what s.w < 100000) : ACalls Tryz.prog 16 [.agg (sysC s), .fsl (.int .i64) first] σ (fun r σ' => σ' = σ ∧ ∃ k, (qIter s k (q0 s first)).wait = [] ∧ r = .agg [.fsl (.slice (.int .u64)) (qIter s k (q0 s first)).vals, .int .i64 (qIter s k (q0 s first)).ev, .int .i64 (qIter s k (q0 s first)).jo]) := by
  obtain ⟨N, hN⟩ : ∃ N : Nat, s.n = N := ⟨s.n.toNat, by have := hg.n1; omega⟩
  have hn1 := hg.n1
  have hn2 := hg.n2
  refine okF Tryz.func16 (by kernel_rfl) ?_
  intro bl1
  intro bl2
  intro bl3
  have hst := fun (v : Nat) σ => aRStart17 s v σ hf hg
  refine loopS (S := Nat × AV × Hp) (fun x => [(1, .fsl (.int .i64) first), (2, .ptr bl1 0), (4, .ptr bl2 0), (5, .ptr bl3 0), (6, .int .i64 x.1)]) (fun x => (bl3, [x.2.1, .int .i64 0, .int .i64 0]) :: (bl2, [.nils, .int .i64 0, .int .i64 0]) :: (bl1, sysC s) :: (x.2.2 ++ σ)) (fun x => x.1 ≤ N ∧ Acc 1 x.1 x.2.1 x.2.2 (uuC ((startsS s).take x.1))) (fun x => N - x.1) (0, .nils, []) ⟨⟨Nat.zero_le _, .nil⟩, ⟨rfl, rfl, rfl, rfl, rfl, trivial⟩, rfl⟩ ?_
  rintro ⟨k, v, acc⟩ g ⟨hk0, hacc0⟩
  have hk : k ≤ N := hk0
  have hacc : Acc 1 k v acc (uuC ((startsS s).take k)) := hacc0
  clear hk0 hacc0
  have hsl : (startsS s).length = N := by unfold startsS; rw [List.length_map, List.length_range, hN]; rfl
  refine LoadAt.mk 2 _ _ rfl rfl ?_
  refine bcond_dec (p := (k : Int) < s.n) (fun hlt => ?_) (fun hge => ?_)
  · have hlt : k < N := by omega
    have htk : uuC ((startsS s).take (k + 1)) = uuC ((startsS s).take k) ++ [uC (startS s k)] := by
      have e : (startsS s)[k]'(by omega) = startS s k := by unfold startsS; simp
      rw [List.take_succ_eq_append_getElem (by omega), e]; unfold uuC; rw [List.map_append]; rfl
    obtain ⟨cs, hcs⟩ : ∃ cs, cs = uuC ((startsS s).take k) := ⟨_, rfl⟩
    rw [← hcs] at hacc htk
    cases hacc with
    | nil =>
      refine .sched [4] (.one 0 false (.one 2 false (.one 3 false (.one 4 true (.alt 1 (.one 5 false (.one 6 false (.one 7 false (.one 8 false .stop)))) (.one 5 false (.one 1 false (.one 6 false (.one 7 false (.one 8 false .stop)))))))))) (by kernel_rfl) ?_
      refine LoadAt.mk 2 _ _ rfl rfl ?_
      refine callQ [] (hst _ _) ?_
      refine And.intro ?_ ?_
      · refine LoadAt.mk 0 _ _ rfl rfl ?_
        intro bl1
        refine AppendAt.fresh 1 _ (.inl rfl) (.mref 0 bl1 0 1 _ rfl (Nat.le_of_ble_eq_true rfl)) (by decide) (by decide) (by decide) (fun _ b => ?_) (fun e => by cases e)
        refine StoreAt.mk 2 _ _ rfl rfl ?_
        exact nextS (0 + 1, .mref b 0 1 1, [(b, [uC (startS s 0)])]) (by show N - (0 + 1) < N - 0; omega) ⟨hlt, by show Acc 1 (0 + 1) (.mref b 0 1 1) [(b, [uC (startS s 0)])] (uuC ((startsS s).take (0 + 1))); rw [htk]; exact .mref b 1 _ rfl⟩ ⟨rfl, rfl, rfl, rfl, inc64 (k := 0) (by omega), trivial⟩ (.drop 1 1 (.pull [3, 3, 3] (.refl _)))
      · intro bl2
        refine LoadAt.mk 1 _ _ rfl rfl ?_
        refine AppendAt.fresh 1 _ (.inl rfl) (.mref 0 bl2 0 1 _ rfl (Nat.le_of_ble_eq_true rfl)) (by decide) (by decide) (by decide) (fun _ b => ?_) (fun e => by cases e)
        refine StoreAt.mk 2 _ _ rfl rfl ?_
        exact nextS (0 + 1, .mref b 0 1 1, [(b, [uC (startS s 0)])]) (by show N - (0 + 1) < N - 0; omega) ⟨hlt, by show Acc 1 (0 + 1) (.mref b 0 1 1) [(b, [uC (startS s 0)])] (uuC ((startsS s).take (0 + 1))); rw [htk]; exact .mref b 1 _ rfl⟩ ⟨rfl, rfl, rfl, rfl, inc64 (k := 0) (by omega), trivial⟩ (.drop 1 1 (.pull [3, 3, 3] (.refl _)))
    | mref b k cs h =>
      refine .sched [4] (.one 0 false (.one 2 false (.one 3 false (.one 4 true (.alt 1 (.one 5 false (.one 6 false (.one 7 false (.one 8 false .stop)))) (.one 5 false (.one 1 false (.one 6 false (.one 7 false (.one 8 false .stop)))))))))) (by kernel_rfl) ?_
      refine LoadAt.mk 2 _ _ rfl rfl ?_
      refine callQ [] (hst _ _) ?_
      refine And.intro ?_ ?_
      · refine LoadAt.mk 0 _ _ rfl rfl ?_
        intro bl1
        refine AppendAt.more 4 b k 1 cs _ rfl rfl (by rw [h]; exact Nat.le_refl _) (.mref 0 bl1 0 1 _ rfl (Nat.le_of_ble_eq_true rfl)) (show k + 1 ≤ 1048576 by omega) (by decide) (by decide) (fun b' => ?_)
        refine StoreAt.mk 2 _ _ rfl rfl ?_
        exact nextS (k + 1, .mref b' 0 (k + 1) 1, [(b', cs.take (k * 1) ++ [uC (startS s k)])]) (by show N - (k + 1) < N - k; omega) ⟨hlt, by show Acc 1 (k + 1) (.mref b' 0 (k + 1) 1) [(b', cs.take (k * 1) ++ [uC (startS s k)])] (uuC ((startsS s).take (k + 1))); rw [htk, List.take_of_length_le (Nat.le_of_eq h)]; exact .mref b' (k + 1) _ (by rw [List.length_append, h]; rfl)⟩ ⟨rfl, rfl, rfl, rfl, inc64 (by omega), trivial⟩ (.drop 1 1 (.pull [3, 3, 3] (.refl _)))
      · intro bl2
        refine LoadAt.mk 1 _ _ rfl rfl ?_
        refine AppendAt.more 4 b k 1 cs _ rfl rfl (by rw [h]; exact Nat.le_refl _) (.mref 0 bl2 0 1 _ rfl (Nat.le_of_ble_eq_true rfl)) (show k + 1 ≤ 1048576 by omega) (by decide) (by decide) (fun b' => ?_)
        refine StoreAt.mk 2 _ _ rfl rfl ?_
        exact nextS (k + 1, .mref b' 0 (k + 1) 1, [(b', cs.take (k * 1) ++ [uC (startS s k)])]) (by show N - (k + 1) < N - k; omega) ⟨hlt, by show Acc 1 (k + 1) (.mref b' 0 (k + 1) 1) [(b', cs.take (k * 1) ++ [uC (startS s k)])] (uuC ((startsS s).take (k + 1))); rw [htk, List.take_of_length_le (Nat.le_of_eq h)]; exact .mref b' (k + 1) _ (by rw [List.length_append, h]; rfl)⟩ ⟨rfl, rfl, rfl, rfl, inc64 (by omega), trivial⟩ (.drop 1 1 (.pull [3, 3, 3] (.refl _)))
  · have hge : k = N := by omega
    subst hge
    rw [← hsl, List.take_length, hsl] at hacc
    obtain ⟨cs, hcs⟩ : ∃ cs, cs = uuC (startsS s) := ⟨_, rfl⟩
    rw [← hcs] at hacc
    cases hacc with
    | nil => omega
    | mref bv k cs h =>
      subst hcs
      intro bl4
      refine AppendAt.more 0 bl4 0 first.length [] _ rfl rfl (Nat.le_of_ble_eq_true rfl) (.fsl (.int .i64) first rfl) (show 0 + first.length ≤ 1048576 by have := ho.len; omega) (by decide) (by decide) (fun b' => ?_)
      have hb0 : (b', ([] : List AV) ++ first.flatMap (Sh.cells (.int .i64))) = (b', inC first) := by rw [inC_flat]; rfl
      refine .shed (.pull [4, 4, 4, 4] (shed_eq (σ2 := (bl3, [.mref bv 0 k 1, .int .i64 (q0 s first).ev, .int .i64 (q0 s first).jo]) :: (bl2, [.nils, .int .i64 0, .int .i64 0]) :: (bl1, sysC s) :: (bv, uuC (q0 s first).vals) :: ([(b', inC first)] ++ σ)) (by rw [← hb0]; rfl))) ?_
      refine .wrap 7 (.mref b' 0 first.length 1) (congrArg (fun n => AV.mref b' 0 n 1) (Nat.zero_add _)) rfl ?_
      refine loopS (S := QS × AV × Hp × Int) (fun x => [(2, .ptr bl1 0), (4, .ptr bl2 0), (5, .ptr bl3 0), (7, .via x.2.1)]) (fun x => (bl3, [.mref bv 0 k 1, .int .i64 x.2.2.2, .int .i64 x.1.jo]) :: (bl2, [.nils, .int .i64 0, .int .i64 0]) :: (bl1, sysC s) :: (bv, uuC x.1.vals) :: (x.2.2.1 ++ σ)) (fun x => (QQ s x.1 ∧ (∃ m, x.1 = qIter s m (q0 s first)) ∧ x.2.2.2 = x.1.ev) ∧ Acc 1 x.1.wait.length x.2.1 x.2.2.1 (inC x.1.wait)) (fun x => qMu s x.1) (q0 s first, .mref b' 0 first.length 1, [(b', inC first)], 0) ⟨⟨⟨q0_inv hf hg ho, ⟨0, rfl⟩, rfl⟩, .mref _ _ _ (by show (inC first).length = first.length * 1; simp [inC])⟩, ⟨rfl, rfl, rfl, rfl, trivial⟩, rfl⟩ ?_
      rintro ⟨q, v, acc, E⟩ g ⟨⟨hp, ⟨m, hm⟩, hE⟩, hacc0⟩
      have hE : E = q.ev := hE
      have hp : QQ s q := hp
      have hm : q = qIter s m (q0 s first) := hm
      have hacc : Acc 1 q.wait.length v acc (inC q.wait) := hacc0
      clear hacc0
      have hln : q.vals.length = k := by have := hp.qi.va.len; omega
      cases hw : q.wait with
      | nil =>
        rw [hw] at hacc
        have hfin : ∀ (v : AV) (acc : Hp), Acc 1 ([] : List Int).length v acc (inC []) → (v = .nils ∨ ∃ b, v = .mref b 0 0 1) := fun v acc h => by
          obtain ⟨kk, hkk⟩ : ∃ kk, kk = ([] : List Int).length := ⟨_, rfl⟩
          rw [← hkk] at h
          cases h with
          | nil => exact .inl rfl
          | mref b kk cs => subst hkk; exact .inr ⟨b, rfl⟩
        have hend : Fin (fun r σ' => σ' = σ ∧ ∃ k, (qIter s k (q0 s first)).wait = [] ∧ r = .agg [.fsl (.slice (.int .u64)) (qIter s k (q0 s first)).vals, .int .i64 (qIter s k (q0 s first)).ev, .int .i64 (qIter s k (q0 s first)).jo]) (.agg [.mref bv 0 k 1, .int .i64 E, .int .i64 q.jo]) ((bl3, [.mref bv 0 k 1, .int .i64 E, .int .i64 q.jo]) :: (bl2, [.mref bv 0 k 1, .int .i64 E, .int .i64 q.jo]) :: (bl1, sysC s) :: (bv, uuC q.vals) :: (acc ++ σ)) := by
          refine .frz 3 bv 0 k 1 _ (.slice (.int .u64)) q.vals rfl ?_ ⟨hln, rfl, by decide⟩ (frz_agg (frz_cons .here (frz_cons (.refl _) (frz_cons (.refl _) frz_nil))) rfl) (.drop 0 3 (fin_drop (acc := acc) (σ := σ) (.done ⟨rfl, m, by rw [← hm]; exact hw, by rw [← hm, hE]⟩)))
          rw [List.drop_zero, ← uuC_flat]
          exact List.take_of_length_le (by rw [uuC_length]; omega)
        rcases hfin v acc hacc with rfl | ⟨b, rfl⟩
        · refine LoadAt.mk 0 _ _ rfl rfl ?_
          refine StoreAt.mk 1 _ _ rfl rfl ?_
          refine LoadAt.mk 1 _ _ rfl rfl ?_
          exact hend
        · refine LoadAt.mk 0 _ _ rfl rfl ?_
          refine StoreAt.mk 1 _ _ rfl rfl ?_
          refine LoadAt.mk 1 _ _ rfl rfl ?_
          exact hend
      | cons u r =>
        rw [hw] at hacc
        obtain ⟨kk, hkk⟩ : ∃ kk, kk = (u :: r).length := ⟨_, rfl⟩
        obtain ⟨cs, hcs⟩ : ∃ cs, cs = inC (u :: r) := ⟨_, rfl⟩
        rw [← hkk, ← hcs] at hacc
        have hu := hp.qi.wr u (hw ▸ List.mem_cons_self ..)
        obtain ⟨U, rfl⟩ : ∃ U : Nat, u = U := ⟨u.toNat, by omega⟩
        have hUl : U < q.vals.length := by omega
        have hvv := hp.qi.va.get (i := U) (by omega)
        have hev2 : E < 100000 := by
          rw [hE]
          have := hp.qi.e1
          have := jo_most hg hp.qi
          omega
        cases hacc with
        | nil => cases hkk
        | mref b kk _ h =>
          subst hkk
          have hcl : r.length + 1 ≤ cs.length := by rw [hcs]; simp [inC]
          have hc0 : cs[0]? = some (.int .i64 (U : Int)) := by rw [hcs]; rfl
          refine bcond_dec (p := 0 < ((r.length + 1 : Nat) : Int)) (fun c1 => ?_) (fun c1 => ?_)
          rotate_left
          · exact absurd (Int.natCast_pos.2 (Nat.succ_pos _)) c1
          refine LoadAt.mk 0 _ _ rfl rfl ?_
          refine bcond_dec (p := E < 100000) (fun c2 => ?_) (fun c2 => ?_)
          rotate_left
          · exact absurd hev2 c2
          refine With.mk ⟨rfl, by omega, by omega⟩ ?_
          refine LoadAt.mk 4 _ _ rfl (show readAs ⟨.int .i64, 1, 8, [.int .i64 0]⟩ cs (0 + Int.toNat 0 * 1) = some (.int .i64 U) from hc0) ?_
          intro bl5
          refine With.mk ⟨by omega, by omega, by omega, rfl⟩ ?_
          refine AppendAt.more 0 bl5 0 r.length [] _ rfl rfl (Nat.le_of_ble_eq_true rfl) (.mref 5 b 1 r.length cs rfl (show 1 + r.length * 1 ≤ cs.length by omega)) (show 0 + r.length ≤ 1048576 by have := wait_small hg hp.qi; rw [hw, List.length_cons] at this; omega) (by decide) (by decide) (fun b2 => ?_)
          refine LoadAt.mk 1 _ _ rfl rfl ?_
          refine StoreAt.mk 1 _ _ rfl rfl ?_
          refine .quiet (by kernel_rfl) ?_
          refine LoadAt.mk 3 _ _ rfl rfl ?_
          refine LoadAt.mk 1 _ _ rfl rfl ?_
          refine With.mk ⟨rfl, by omega, by omega⟩ ?_
          have hO := fun σ => aROut17 s U (q.vals.getD U []) σ hf hg (by omega) hvv
          have hN' := fun σ => aRNextI s.n s.edges U σ (by have := hg.el; omega) (by omega) (by omega)
          refine LoadAt.mk 4 _ _ rfl (read1 rfl (uuC_at hUl)) ?_
          refine callQ [] (hO _) ?_
          refine LoadAt.mk 3 _ _ rfl rfl ?_
          refine LoadAt.mk 3 _ _ rfl rfl ?_
          refine callR [] (hN' _) ?_
          have hr2 : List.take (r.length * 1) (List.drop 1 cs) = inC r := by
            rw [hcs, Nat.mul_one]
            exact List.take_of_length_le (by simp [inC])
          have hb2 : (b2, ([] : List AV) ++ List.take (r.length * 1) (List.drop 1 cs)) = (b2, inC r) := by rw [hr2]; rfl
          have hev : q.ev < 1000000000 := ev_small hg hp.qi
          have hE1 : AV.int .i64 (IntKind.i64.wrap (E + 1)) = AV.int .i64 ((q.ev + 1 : Nat) : Int) := by have h3 : E = q.ev := hE; rw [h3]; exact inc64 hev
          refine .shed (.drop 5 1 (.pull [4, 4, 4, 4] (shed_eq (σ2 := (bl3, [.mref bv 0 k 1, .int .i64 (q.ev + 1 : Nat), .int .i64 q.jo]) :: (bl2, [.nils, .int .i64 0, .int .i64 0]) :: (bl1, sysC s) :: (bv, uuC q.vals) :: ([(b2, inC r)] ++ σ)) (by rw [← hb2, ← hE1]; rfl)))) ?_
          refine .wrap 7 (.mref b2 0 r.length 1) (congrArg (fun n => AV.mref b2 0 n 1) (Nat.zero_add _)) rfl ?_
          have hml := toS_length s.n s.edges U
          have hmem : ∀ z ∈ toS s.n s.edges U, 0 ≤ z ∧ z < s.n := fun z hz => (mem_toS.1 hz).1
          have hmid := fun j => qMid_QI hf hg hp hw j
          have hmidS := fun (j : Nat) (h : j < (toS s.n s.edges U).length) => qMid_succ s q U r h
          have hmidE := qMid_all (s := s) hw
          have hout := (q_out_ok hf hg hp.qi hu).1
          obtain ⟨out, ho2⟩ : ∃ out, out = qOut s q U := ⟨_, rfl⟩
          have ho3 : outS s (q.vals.getD U []) U = out := by rw [ho2]; rfl
          rw [← ho2] at hout hmidS
          obtain ⟨M, hM⟩ : ∃ M, M = toS s.n s.edges U := ⟨_, rfl⟩
          rw [← hM] at hml hmem hmidS hmidE
          refine loopS (S := Nat × AV × Hp) (fun x => [(2, .ptr bl1 0), (4, .ptr bl2 0), (5, .ptr bl3 0), (7, .via x.2.1), (9, .fsl (.int .u64) out), (62, .fsl (.int .i64) M), (63, .int .i64 M.length), (64, .int .i64 x.1)]) (fun x => (bl3, [.mref bv 0 k 1, .int .i64 (q.ev + 1 : Nat), .int .i64 (qMid s q U r x.1).jo]) :: (bl2, [.nils, .int .i64 0, .int .i64 0]) :: (bl1, sysC s) :: (bv, uuC (qMid s q U r x.1).vals) :: (x.2.2 ++ σ)) (fun x => x.1 ≤ M.length ∧ Acc 1 (qMid s q U r x.1).wait.length x.2.1 x.2.2 (inC (qMid s q U r x.1).wait)) (fun x => M.length - x.1) (0, .mref b2 0 r.length 1, [(b2, inC r)]) ⟨⟨Nat.zero_le _, .mref _ _ _ (by show (inC r).length = r.length * 1; simp [inC])⟩, ⟨rfl, rfl, rfl, rfl, by rw [← ho3]; rfl, by rw [hM]; rfl, by rw [hM]; rfl, rfl, trivial⟩, rfl⟩ ?_
          rintro ⟨j, v, acc⟩ g ⟨hj0, hacc0⟩
          have hj : j ≤ M.length := hj0
          have hacc : Acc 1 (qMid s q U r j).wait.length v acc (inC (qMid s q U r j).wait) := hacc0
          clear hj0 hacc0
          have hmj := hmid j
          refine bcond_dec (fun hlt => ?_) (fun hge => ?_)
          · have hlt : j < M.length := by have hlt : (j : Int) < M.length := hlt; omega
            obtain ⟨z, hz⟩ : ∃ z, M[j] = z := ⟨_, rfl⟩
            have hzn := hmem z (hz ▸ List.getElem_mem hlt)
            have hsc := hmidS j hlt
            rw [hz] at hsc
            obtain ⟨V, rfl⟩ : ∃ V : Nat, z = V := ⟨z.toNat, by omega⟩
            obtain ⟨Q, hQ⟩ : ∃ Q, Q = qMid s q U r j := ⟨_, rfl⟩
            rw [← hQ] at hacc hmj hsc
            have hVl : V < Q.vals.length := by have := hmj.va.len; omega
            have hVv := hmj.va.get (i := V) (by omega)
            have hJ := fun σ => aRJoin12 s.what (Q.vals.getD V []) out σ hVv.w64 hout.w64 (val_eqlen hVv.v hout.v) (by have := val_short hVv.v; omega)
            have hEq := fun σ => same10 (join12 s.what (Q.vals.getD V []) out) (Q.vals.getD V []) σ (by have := val_short (hVv.join hout).v; omega)
            have hat : (uuC (qMid s q U r j).vals)[0 + ((V : Int)).toNat * 1]? = some (uC (Q.vals.getD V [])) := by rw [← hQ]; exact uuC_at hVl
            have hws := wait_small hg hmj
            have hIn := aRInA [(bl3, [.mref bv 0 k 1, .int .i64 (q.ev + 1 : Nat), .int .i64 (qMid s q U r (j + 1)).jo]), (bl2, [.nils, .int .i64 0, .int .i64 0]), (bl1, sysC s), (bv, uuC (qMid s q U r (j + 1)).vals)] (V : Int) σ hacc rfl (by omega)
            have hk2 : Q.vals.length = k := by have := hmj.va.len; omega
            refine With.mk rfl (IdxF.mk (V : Int) (by omega) ((get_some hlt).trans (congrArg some hz)) ?_)
            refine .quiet (by kernel_rfl) ?_
            refine LoadAt.mk 2 _ _ rfl rfl ?_
            refine LoadAt.mk 0 _ _ rfl rfl ?_
            refine With.mk ⟨rfl, by omega, by omega⟩ ?_
            refine LoadAt.mk 3 _ _ rfl (read1 rfl hat) ?_
            refine callQ [] (hJ _) ?_
            refine LoadAt.mk 0 _ _ rfl rfl ?_
            refine With.mk ⟨rfl, by omega, by omega⟩ ?_
            refine LoadAt.mk 3 _ _ rfl (read1 rfl hat) ?_
            refine callR [] (hEq _) ?_
            refine bcond_split (fun c => ?_) (fun c => ?_)
            · have c : (!decide (join12 s.what (Q.vals.getD V []) out = Q.vals.getD V [])) = true := c
              have c : ¬ join12 s.what (Q.vals.getD V []) out = Q.vals.getD V [] := by simpa using c
              have hqv : qV s out Q V = ⟨Q.vals.set V (join12 s.what (Q.vals.getD V []) out), qPut Q.wait V, Q.ev, Q.jo + 1⟩ := if_neg c
              have hset : (uuC (qMid s q U r j).vals).set (0 + ((V : Int)).toNat * 1) (uC (join12 s.what (Q.vals.getD V []) out)) = uuC (qMid s q U r (j + 1)).vals := by
                rw [hsc, hqv, ← hQ, Nat.zero_add, Nat.mul_one, Int.toNat_natCast, uuC_set]
              have hjo : AV.int .i64 (IntKind.i64.wrap (((qMid s q U r j).jo : Int) + 1)) = AV.int .i64 ((qMid s q U r (j + 1)).jo : Nat) := by
                rw [hsc, hqv, ← hQ]; exact inc64 (jo_small hg hmj)
              have hwait : (qMid s q U r (j + 1)).wait = qPut Q.wait V := by rw [hsc, hqv]
              have hVm : V < (uuC (qMid s q U r j).vals).length := by rw [uuC_length, ← hQ]; exact hVl
              refine LoadAt.mk 0 _ _ rfl rfl ?_
              refine With.mk ⟨rfl, by omega, by omega⟩ ?_
              refine StoreAt.mk 3 _ _ rfl ((write1 rfl rfl (by rw [Nat.zero_add, Nat.mul_one, Int.toNat_natCast]; exact hVm)).trans (congrArg some hset)) ?_
              refine LoadAt.mk 0 _ _ rfl rfl ?_
              refine StoreAt.mk 0 _ _ rfl (Eq.trans rfl (congrArg (fun x => some [AV.mref bv 0 k 1, AV.int .i64 (q.ev + 1 : Nat), x]) hjo)) ?_
              refine callR [] hIn ?_
              refine bcond_split (fun d => ?_) (fun d => ?_)
              · have d : (!decide ((V : Int) ∈ Q.wait)) = true := d
                have d : ¬ (V : Int) ∈ Q.wait := by simpa using d
                have hqp : qPut Q.wait V = Q.wait ++ [(V : Int)] := if_neg d
                intro bl6
                refine append_acc (n := 1) [_, _, _, _, _] hacc (.mref 0 bl6 0 1 _ rfl (Nat.le_of_ble_eq_true rfl)) rfl (show Q.wait.length + 1 ≤ 1048576 by omega) (by decide) (by decide) (fun v' acc' h' => ?_)
                refine nextS (j + 1, v', acc') (by show M.length - (j + 1) < M.length - j; omega) ⟨hlt, ?_⟩ ⟨rfl, rfl, rfl, rfl, rfl, rfl, rfl, inc64 (by omega), trivial⟩ (.drop 0 1 (.refl _))
                show Acc 1 (qMid s q U r (j + 1)).wait.length v' acc' (inC (qMid s q U r (j + 1)).wait)
                rw [hwait, hqp, List.length_append, show inC (Q.wait ++ [(V : Int)]) = inC Q.wait ++ [.int .i64 V] from List.map_append]
                exact h'
              · have d : (!decide ((V : Int) ∈ Q.wait)) = false := d
                have d : (V : Int) ∈ Q.wait := by simpa using d
                have hqp : qPut Q.wait V = Q.wait := if_pos d
                exact nextS (j + 1, v, acc) (by show M.length - (j + 1) < M.length - j; omega) ⟨hlt, by show Acc 1 (qMid s q U r (j + 1)).wait.length v acc (inC (qMid s q U r (j + 1)).wait); rw [hwait, hqp]; exact hacc⟩ ⟨rfl, rfl, rfl, rfl, rfl, rfl, rfl, inc64 (by omega), trivial⟩ (.refl _)
            · have c : (!decide (join12 s.what (Q.vals.getD V []) out = Q.vals.getD V [])) = false := c
              have c : join12 s.what (Q.vals.getD V []) out = Q.vals.getD V [] := by simpa using c
              have hqv : qV s out Q V = Q := if_pos c
              have hsame : qMid s q U r j = qMid s q U r (j + 1) := by rw [hsc, hqv, ← hQ]
              exact nextS (j + 1, v, acc) (by show M.length - (j + 1) < M.length - j; omega) ⟨hlt, by show Acc 1 (qMid s q U r (j + 1)).wait.length v acc (inC (qMid s q U r (j + 1)).wait); rw [← hsame, ← hQ]; exact hacc⟩ ⟨rfl, rfl, rfl, rfl, rfl, rfl, rfl, inc64 (by omega), trivial⟩ (shed_eq (congrArg (fun Q' : QS => (bl3, [AV.mref bv 0 k 1, AV.int .i64 (q.ev + 1 : Nat), AV.int .i64 Q'.jo]) :: (bl2, [AV.nils, AV.int .i64 0, AV.int .i64 0]) :: (bl1, sysC s) :: (bv, uuC Q'.vals) :: (acc ++ σ)) hsame))
          · have hge : j = M.length := by have hge : ¬ (j : Int) < M.length := hge; omega
            subst hge
            have e2 := qStep_ev (s := s) hw
            rw [hmidE] at hacc
            have e3 : ∀ Q : QS, Q = qStep s q → (bl3, [AV.mref bv 0 k 1, AV.int .i64 (q.ev + 1 : Nat), AV.int .i64 Q.jo]) :: (bl2, [AV.nils, AV.int .i64 0, AV.int .i64 0]) :: (bl1, sysC s) :: (bv, uuC Q.vals) :: (acc ++ σ) = (bl3, [AV.mref bv 0 k 1, AV.int .i64 (((qStep s q).ev : Nat) : Int), AV.int .i64 (qStep s q).jo]) :: (bl2, [AV.nils, AV.int .i64 0, AV.int .i64 0]) :: (bl1, sysC s) :: (bv, uuC (qStep s q).vals) :: (acc ++ σ) := fun Q h => by subst h; rw [e2]
            exact nextS (qStep s q, v, acc, ((qStep s q).ev : Nat)) (qStep_mu hf hg hp hw) ⟨⟨qStep_inv hf hg hp, ⟨m + 1, by have h3 : q = qIter s m (q0 s first) := hm; show qStep s q = _; rw [qIter_succ, ← h3]⟩, rfl⟩, hacc⟩ ⟨rfl, rfl, rfl, rfl, trivial⟩ (shed_eq (e3 _ hmidE))

theorem small_most {s : Sy} (h : SmallS s) (hg : Good s) : s.n + s.n * heightL s.what s.w < 100000 := by
  have hn2 := hg.n2
  have hn1 := hg.n1
  have hw : s.w ≤ 1024 := by
    have := hg.isL
    unfold is12 at this
    simp only [Bool.and_eq_true, decide_eq_true_eq] at this
    omega
  have hw0 : 0 ≤ s.w := by
    have := hg.isL
    unfold is12 at this
    simp only [Bool.and_eq_true, decide_eq_true_eq] at this
    omega
  have hz : s.n ≤ 7 ∧ s.w ≤ 10 := by rcases h.sz with h | h | h <;> omega
  have hh : 0 ≤ heightL s.what s.w ∧ heightL s.what s.w ≤ 20 := by
    unfold heightL
    split
    · split <;> omega
    · omega
  have : s.n * heightL s.what s.w ≤ 7 * 20 := Int.mul_le_mul hz.1 hh.2 hh.1 (by decide)
  omega
theorem queueTells_walk (s : Sy) (first : List Int) (hi : A64 s.init) (ht : ∀ t ∈ s.T, A64 t.1 ∧ A64 t.2.1) : ACalls Tryz.prog 3 [.agg (sysC s), .fsl (.int .i64) first] [] (fun r _ => r = .bool true) := by
  refine okF Tryz.func3 (by kernel_rfl) ?_
  intro bl1
  refine callR [] (aAwake19 _) ?_
  refine LoadAt.mk 0 _ _ rfl rfl ?_
  refine callS [] (aSmall17 s _) (fun hsm => ?_) ?_
  rotate_left
  · exact .done rfl
  have hf := fit_of hsm hi ht
  refine bcond_dec (p := 20 < (first.length : Int)) (fun hl => ?_) (fun hl => ?_)
  · exact .done rfl
  have hl : first.length ≤ 100000 := by omega
  refine LoadAt.mk 0 _ _ rfl rfl ?_
  obtain ⟨z, hz⟩ : ∃ z : Int, z = 0 := ⟨0, rfl⟩
  have hw0 : ∀ a : Int, a = 0 → IntKind.i64.wrap a = 0 := fun a h => by rw [h]; decide
  by_cases c : checkS s = 0
  · have hg := good_of c
    have hn1 := hg.n1
    have hn2 := hg.n2
    refine .mk [] _ (aQSolveOk s first _ hf hg hl) ?_
    rintro r σ' ⟨rfl, ⟨ho, rfl⟩ | ⟨ho, k, hw, rfl⟩⟩
    · unfold qBad
      rw [← hz]
      intro bl1
      refine StoreAt.mk 0 _ _ rfl rfl ?_
      refine LoadAt.mk 1 _ _ rfl rfl ?_
      refine callR [] (aRCheck17 s _ hf) ?_
      refine bcond_split (fun c2 => ?_) (fun c2 => ?_)
      · have c2 : ¬ (checkS s = z) := by simpa using c2
        exact absurd (c.trans hz.symm) c2
      · have c2 : checkS s = z := by simpa using c2
        refine LoadAt.mk 1 _ _ rfl rfl ?_
        refine callI [] (aRIs14 s.n first _ hl (by omega)) (fun ho2 => absurd ho2 ho) (fun _ => ?_)
        refine LoadAt.mk 0 _ _ rfl rfl ?_
        refine LoadAt.mk 0 _ _ rfl rfl ?_
        refine LoadAt.mk 0 _ _ rfl rfl ?_
        refine bcond_dec (fun c5 => ?_) (fun c5 => ?_)
        · have c5 : IntKind.i64.wrap (IntKind.i64.wrap (0 + z) + z) = z := c5
          exact .done rfl
        · have c5 : ¬ (IntKind.i64.wrap (IntKind.i64.wrap (0 + z) + z) = z) := c5
          exact absurd (by rw [hz]; decide) c5
    · have hR := (aRQSolve s first · hf hg ho (small_most hsm hg))
      have hR : ∀ σ, ACalls Tryz.prog 16 [.agg (sysC s), .fsl (.int .i64) first] σ (Ret (.agg [.fsl (.slice (.int .u64)) (qIter s k (q0 s first)).vals, .int .i64 (qIter s k (q0 s first)).ev, .int .i64 (qIter s k (q0 s first)).jo]) σ) := fun σ => (hR σ).mono fun r σ' h => by
        obtain ⟨h1, k2, h2, h3⟩ := h
        rw [qIter_eq h2 hw] at h3
        exact ⟨h3, h1⟩
      have hq := qIter_inv hf hg k (q0_inv hf hg ho)
      generalize qIter s k (q0 s first) = q at hw hq hR ⊢
      have hva := hq.qi.va.ok hg
      have hS := fun σ => acalls_eq (aRSame17 q.vals q.vals σ hva) (av_bool (decide_eq_true rfl))
      unfold qOk
      rw [← hz]
      intro bl1
      refine StoreAt.mk 0 _ _ rfl rfl ?_
      refine LoadAt.mk 1 _ _ rfl rfl ?_
      refine callR [] (aRCheck17 s _ hf) ?_
      refine bcond_split (fun c2 => ?_) (fun c2 => ?_)
      · have c2 : ¬ (checkS s = z) := by simpa using c2
        exact absurd (c.trans hz.symm) c2
      · have c2 : checkS s = z := by simpa using c2
        refine LoadAt.mk 1 _ _ rfl rfl ?_
        refine callI [] (aRIs14 s.n first _ hl (by omega)) (fun _ => ?_) (fun ho2 => absurd ho ho2)
        refine LoadAt.mk 1 _ _ rfl rfl ?_
        refine callR [] (hR _) ?_
        intro bl1
        refine StoreAt.mk 0 _ _ rfl rfl ?_
        refine bcond_dec (fun c2 => ?_) (fun c2 => ?_)
        · have c2 : z = z := c2
          refine LoadAt.mk 1 _ _ rfl rfl ?_
          refine LoadAt.mk 0 _ _ rfl rfl ?_
          refine bcond_dec (fun c3 => ?_) (fun c3 => ?_)
          · have c3 : (↑q.ev : Int) = (↑q.ev : Int) := c3
            refine LoadAt.mk 1 _ _ rfl rfl ?_
            refine LoadAt.mk 0 _ _ rfl rfl ?_
            refine bcond_dec (fun c4 => ?_) (fun c4 => ?_)
            · have c4 : (↑q.jo : Int) = (↑q.jo : Int) := c4
              refine LoadAt.mk 1 _ _ rfl rfl ?_
              refine LoadAt.mk 0 _ _ rfl rfl ?_
              refine callR [] (hS _) ?_
              exact .done rfl
            · have c4 : ¬ ((↑q.jo : Int) = (↑q.jo : Int)) := c4
              exact absurd rfl c4
          · have c3 : ¬ ((↑q.ev : Int) = (↑q.ev : Int)) := c3
            exact absurd rfl c3
        · have c2 : ¬ (z = z) := c2
          exact absurd rfl c2
  · refine callR [] (acalls_eq (aQSolveBad s first _ hf c) (y := .tup [.agg [.nils, .int .i64 z, .int .i64 z], .int .i64 (checkS s)]) (by rw [hz]; rfl)) ?_
    intro bl1
    refine StoreAt.mk 0 _ _ rfl rfl ?_
    refine LoadAt.mk 1 _ _ rfl rfl ?_
    refine callR [] (aRCheck17 s _ hf) ?_
    refine bcond_split (fun c2 => ?_) (fun c2 => ?_)
    · have c2 : ¬ (checkS s = 0) := by simpa using c2
      refine bcond_dec (fun c3 => ?_) (fun c3 => ?_)
      · have c3 : checkS s = checkS s := c3
        refine LoadAt.mk 0 _ _ rfl rfl ?_
        refine LoadAt.mk 0 _ _ rfl rfl ?_
        refine LoadAt.mk 0 _ _ rfl rfl ?_
        refine bcond_dec (fun c4 => ?_) (fun c4 => ?_)
        · have c4 : IntKind.i64.wrap (IntKind.i64.wrap (0 + z) + z) = 0 := c4
          exact .done rfl
        · have c4 : ¬ (IntKind.i64.wrap (IntKind.i64.wrap (0 + z) + z) = 0) := c4
          exact absurd (by rw [hz]; decide) c4
      · have c3 : ¬ (checkS s = checkS s) := c3
        exact absurd rfl c3
    · have c2 : checkS s = 0 := by simpa using c2
      exact absurd c2 c
end Go.Proofs.YteccfogpajbigaaGreat
