/-
  Lh: what the claim uses of them.
-/
import Derived.Test.YtacacplipaeokaaBn45
namespace Go.Proofs.Ytacacplipaeokaa
open Go.RowKit
set_option maxRecDepth 100000
set_option maxHeartbeats 4000000
theorem aRAhead29 (a b : OpR) (σ : Hp) : ACalls Try.prog 53 [.agg (opC a), .agg (opC b)] σ (Ret (.bool (aheadP a b)) σ) := by
  refine okF Try.func53 (by kernel_rfl) ?_
  intro bl1
  intro bl2
  refine LoadAt.mk 1 _ _ rfl rfl ?_
  refine bcond_dec (fun c3 => ?_) (fun c3 => ?_)
  · have c3 : 0 < a.en := c3
    refine LoadAt.mk 1 _ _ rfl rfl ?_
    refine LoadAt.mk 0 _ _ rfl rfl ?_
    refine bcond_dec (fun c4 => ?_) (fun c4 => ?_)
    · have c4 : a.en < b.bg := c4
      exact .drop 0 2 (.done ⟨congrArg AV.bool (show true = aheadP a b by unfold aheadP; rw [decide_eq_true c3, decide_eq_true c4]; rfl), rfl⟩)
    · have c4 : ¬ (a.en < b.bg) := c4
      exact .drop 0 2 (.done ⟨congrArg AV.bool (show false = aheadP a b by unfold aheadP; rw [decide_eq_true c3, decide_eq_false c4]; rfl), rfl⟩)
  · have c3 : ¬ (0 < a.en) := c3
    exact .drop 0 2 (.done ⟨congrArg AV.bool (show false = aheadP a b by unfold aheadP; rw [decide_eq_false c3]; rfl), rfl⟩)
theorem cutc {off : Nat} {l : List Int} {all : List AV} (h : (all.drop off).take (l.length * 1) = inC l) : (0 + l.length) * 1 ≤ ((all.drop off).take (l.length * 1)).length := by rw [h]; simp [inC]
theorem push_acc {off : Nat} {l : List Int} {all : List AV} {n : Int} {b : Nat} (h : (all.drop off).take (l.length * 1) = inC l) : AccO 1 (l ++ [n]).length (.mref b 0 (0 + l.length + 1) 1) [(b, ((all.drop off).take (l.length * 1)).take ((0 + l.length) * 1) ++ [AV.int .i64 n])] (inC (l ++ [n])) := by
  rw [h, List.take_of_length_le (by simp [inC]), show inC l ++ [AV.int .i64 n] = inC (l ++ [n]) by simp [inC], show (l ++ [n]).length = 0 + l.length + 1 by simp]
  refine .mref b 0 _ _ _ ?_ ?_
  · rw [List.drop_zero]; exact List.take_of_length_le (by simp [inC])
  · simp [inC]
abbrev wkL (l : List Int) : Nat := (IntKind.i64.wrap ((l.length : Int) - 1)).toNat - (0 : Int).toNat
theorem wkL_eq {l : List Int} (hl : l.length ≤ 1000000) : wkL l = l.length - 1 := by
  show (IntKind.i64.wrap ((l.length : Int) - 1)).toNat - (0 : Int).toNat = _
  rw [w64 (by omega) (by omega)]; omega
theorem xs_slice {l : List Int} (hl : l.length ≤ 1000000) (h0 : 0 < l.length) : (0 : Int) ≤ 0 ∧ 0 ≤ IntKind.i64.wrap ((l.length : Int) - 1) ∧ IntKind.i64.wrap ((l.length : Int) - 1) ≤ (l.length : Int) ∧ 1 = 1 := by
  rw [w64 (by omega) (by omega)]; omega
theorem srcT {off : Nat} {l : List Int} {all : List AV} (h2 : off + l.length * 1 ≤ all.length) (hl : l.length ≤ 1000000) : off + (0 : Int).toNat * 1 + wkL l * 1 ≤ all.length := by
  rw [wkL_eq hl]
  show off + 0 * 1 + _ ≤ _
  omega
theorem lenT {l : List Int} (hl : l.length ≤ 1000000) : 0 + wkL l ≤ 1048576 := by rw [wkL_eq hl]; omega
theorem takeAcc {off b : Nat} {l : List Int} {all : List AV} (h : (all.drop off).take (l.length * 1) = inC l) (hl : l.length ≤ 1000000) : AccO 1 (l.take (l.length - 1)).length (.mref b 0 (0 + wkL l) 1) [(b, (all.drop (off + (0 : Int).toNat * 1)).take (wkL l * 1))] (inC (l.take (l.length - 1))) := by
  have e : (all.drop (off + (0 : Int).toNat * 1)).take (wkL l * 1) = inC (l.take (l.length - 1)) := by
    rw [wkL_eq hl, ← win_take (n := l.length - 1) h]
    show (all.drop (off + 0 * 1)).take _ = _
    rw [Nat.zero_mul, Nat.add_zero, List.length_take, Nat.min_eq_left (by omega)]
  rw [e, show 0 + wkL l = (l.take (l.length - 1)).length by rw [wkL_eq hl, List.length_take]; omega]
  refine .mref b 0 _ _ _ ?_ ?_
  · rw [List.drop_zero]; exact List.take_of_length_le (by simp [inC])
  · simp [inC]
abbrev dkL (l : List Int) : Nat := (l.length : Int).toNat - (1 : Int).toNat
theorem srcG {off : Nat} {l : List Int} {all : List AV} (h2 : off + l.length * 1 ≤ all.length) (h0 : 0 < l.length) : off + (1 : Int).toNat * 1 + dkL l * 1 ≤ all.length := by
  show off + 1 * 1 + (l.length - 1) * 1 ≤ _
  omega
theorem lenG {l : List Int} (hl : l.length ≤ 1000000) : 0 + dkL l ≤ 1048576 := by
  show 0 + (l.length - 1) ≤ _
  omega
theorem dropAcc {off b : Nat} {l : List Int} {all : List AV} (h : (all.drop off).take (l.length * 1) = inC l) : AccO 1 (l.drop 1).length (.mref b 0 (0 + dkL l) 1) [(b, (all.drop (off + (1 : Int).toNat * 1)).take (dkL l * 1))] (inC (l.drop 1)) := by
  have e : (all.drop (off + (1 : Int).toNat * 1)).take (dkL l * 1) = inC (l.drop 1) := by
    rw [← win_drop (n := 1) h, List.length_drop]; rfl
  rw [e, show 0 + dkL l = (l.drop 1).length by rw [List.length_drop]; show 0 + (l.length - 1) = _; omega]
  refine .mref b 0 _ _ _ ?_ ?_
  · rw [List.drop_zero]; exact List.take_of_length_le (by simp [inC])
  · simp [inC]
theorem aRdA (R who kd n bg en : Int) (b off : Nat) (all : List AV) (l : List Int) (hk : kd = 1 ∧ 0 < en ∧ R ≤ (l.length : Int)) (h : (all.drop off).take (l.length * 1) = inC l) (h2 : off + l.length * 1 ≤ all.length) (_hl : l.length ≤ 1000000) (σ : Hp) : ACalls Try.prog 74 [.mref b off l.length 1, .int .i64 R, .agg (opC ⟨who, kd, n, bg, en, false⟩)] ((b, all) :: σ) (DoR R l ⟨who, kd, n, bg, en, false⟩ σ) := by
  refine okF Try.func74 (by kernel_rfl) ?_
  intro bl1
  refine LoadAt.mk 0 _ _ rfl rfl ?_
  refine bcond_dec (fun _ => ?_) (fun c => absurd (show kd = 1 by omega) c)
  refine LoadAt.mk 0 _ _ rfl rfl ?_
  refine bcond_dec (fun _ => ?_) (fun c => absurd (show 0 < en by omega) c)
  refine LoadAt.mk 0 _ _ rfl rfl ?_
  refine bcond_dec (fun _ => ?_) (fun c => absurd (show R ≤ (l.length : Int) by omega) c)
  exact .drop 0 1 (.done (DoR.win (l' := l) (off := off) (by simp [doP, hk]; try omega) rfl rfl h h2))
theorem aRdB (R who kd n bg en : Int) (b off : Nat) (all : List AV) (l : List Int) (hk : kd = 1 ∧ (l.length : Int) < R) (h : (all.drop off).take (l.length * 1) = inC l) (h2 : off + l.length * 1 ≤ all.length) (hl : l.length ≤ 1000000) (σ : Hp) : ACalls Try.prog 74 [.mref b off l.length 1, .int .i64 R, .agg (opC ⟨who, kd, n, bg, en, true⟩)] ((b, all) :: σ) (DoR R l ⟨who, kd, n, bg, en, true⟩ σ) := by
  refine okF Try.func74 (by kernel_rfl) ?_
  intro bl1
  refine LoadAt.mk 0 _ _ rfl rfl ?_
  refine bcond_dec (fun _ => ?_) (fun c => absurd (show kd = 1 by omega) c)
  refine LoadAt.mk 0 _ _ rfl rfl ?_
  refine bcond_dec (fun c2 => ?_) (fun c2 => ?_)
  · have c2 : 0 < en := c2
    refine LoadAt.mk 0 _ _ rfl rfl ?_
    refine .sched [] (.one 1 false (.one 3 false (.one 7 false (.one 8 false (.one 9 false (.alt 0 (.alt 2 (.one 4 false (.one 5 false (.one 6 false (.one 10 false (.one 11 false .stop))))) (.one 4 false (.alt 2 (.one 5 false (.one 6 false (.one 10 false (.one 11 false .stop)))) (.one 5 false (.one 2 false (.one 6 false (.one 10 false (.one 11 false .stop)))))))) (.one 4 false (.alt 0 (.alt 2 (.one 5 false (.one 6 false (.one 10 false (.one 11 false .stop)))) (.one 5 false (.one 2 false (.one 6 false (.one 10 false (.one 11 false .stop)))))) (.one 5 false (.one 0 false (.one 2 false (.one 6 false (.one 10 false (.one 11 false .stop)))))))))))))) (by kernel_rfl) ?_
    repeat' first
      | exact .drop 1 3 (.done (DoR.put (l' := l ++ [n]) (v := .mref _ 0 (0 + l.length + 1) 1) (by simp [doP, hk]; try omega) (push_acc h)))
      | refine And.intro ?_ ?_
      | refine bcond_dec (fun _ => ?_) (fun c => absurd (show (l.length : Int) < R by omega) c)
      | refine LoadAt.mk 0 _ _ rfl rfl ?_
      | refine LoadAt.mk 1 _ _ rfl rfl ?_
      | refine LoadAt.mk 2 _ _ rfl rfl ?_
      | refine AppendAt.more 0 _ 0 l.length [] _ rfl rfl (Nat.le_of_ble_eq_true rfl) (.mem (b := b) (cs := all) (by simp) h2) (by omega) (by decide) (by decide) (fun b' => ?_)
      | refine AppendAt.more 1 _ 0 l.length [] _ rfl rfl (Nat.le_of_ble_eq_true rfl) (.mem (b := b) (cs := all) (by simp) h2) (by omega) (by decide) (by decide) (fun b' => ?_)
      | refine AppendAt.more 1 b' (0 + l.length) 1 _ _ rfl rfl (cutc h) (.mref 0 _ 0 1 _ rfl (Nat.le_of_ble_eq_true rfl)) (by omega) (by decide) (by decide) (fun b8 => ?_)
      | refine AppendAt.more 0 b' (0 + l.length) 1 _ _ rfl rfl (cutc h) (.mref 1 _ 0 1 _ rfl (Nat.le_of_ble_eq_true rfl)) (by omega) (by decide) (by decide) (fun b8 => ?_)
      | (intro b9)
  · have c2 : ¬ (0 < en) := c2
    refine .sched [] (.one 1 false (.one 3 false (.one 7 false (.one 8 false (.one 9 false (.alt 0 (.alt 2 (.one 4 false (.one 5 false (.one 6 false (.one 10 false (.one 11 false .stop))))) (.one 4 false (.alt 2 (.one 5 false (.one 6 false (.one 10 false (.one 11 false .stop)))) (.one 5 false (.one 2 false (.one 6 false (.one 10 false (.one 11 false .stop)))))))) (.one 4 false (.alt 0 (.alt 2 (.one 5 false (.one 6 false (.one 10 false (.one 11 false .stop)))) (.one 5 false (.one 2 false (.one 6 false (.one 10 false (.one 11 false .stop)))))) (.one 5 false (.one 0 false (.one 2 false (.one 6 false (.one 10 false (.one 11 false .stop)))))))))))))) (by kernel_rfl) ?_
    repeat' first
      | exact .drop 1 3 (.done (DoR.put (l' := l ++ [n]) (v := .mref _ 0 (0 + l.length + 1) 1) (by simp [doP, hk]; try omega) (push_acc h)))
      | refine And.intro ?_ ?_
      | refine bcond_dec (fun _ => ?_) (fun c => absurd (show (l.length : Int) < R by omega) c)
      | refine LoadAt.mk 0 _ _ rfl rfl ?_
      | refine LoadAt.mk 1 _ _ rfl rfl ?_
      | refine LoadAt.mk 2 _ _ rfl rfl ?_
      | refine AppendAt.more 0 _ 0 l.length [] _ rfl rfl (Nat.le_of_ble_eq_true rfl) (.mem (b := b) (cs := all) (by simp) h2) (by omega) (by decide) (by decide) (fun b' => ?_)
      | refine AppendAt.more 1 _ 0 l.length [] _ rfl rfl (Nat.le_of_ble_eq_true rfl) (.mem (b := b) (cs := all) (by simp) h2) (by omega) (by decide) (by decide) (fun b' => ?_)
      | refine AppendAt.more 1 b' (0 + l.length) 1 _ _ rfl rfl (cutc h) (.mref 0 _ 0 1 _ rfl (Nat.le_of_ble_eq_true rfl)) (by omega) (by decide) (by decide) (fun b8 => ?_)
      | refine AppendAt.more 0 b' (0 + l.length) 1 _ _ rfl rfl (cutc h) (.mref 1 _ 0 1 _ rfl (Nat.le_of_ble_eq_true rfl)) (by omega) (by decide) (by decide) (fun b8 => ?_)
      | (intro b9)
theorem aRdB0 (R who kd n bg en : Int) (b off : Nat) (all : List AV) (l : List Int) (hk : kd = 1 ∧ en = 0 ∧ (l.length : Int) < R) (h : (all.drop off).take (l.length * 1) = inC l) (h2 : off + l.length * 1 ≤ all.length) (hl : l.length ≤ 1000000) (σ : Hp) : ACalls Try.prog 74 [.mref b off l.length 1, .int .i64 R, .agg (opC ⟨who, kd, n, bg, en, false⟩)] ((b, all) :: σ) (DoR R l ⟨who, kd, n, bg, en, false⟩ σ) := by
  refine okF Try.func74 (by kernel_rfl) ?_
  intro bl1
  refine LoadAt.mk 0 _ _ rfl rfl ?_
  refine bcond_dec (fun _ => ?_) (fun c => absurd (show kd = 1 by omega) c)
  refine LoadAt.mk 0 _ _ rfl rfl ?_
  refine bcond_dec (fun c => absurd c (show ¬ 0 < en by omega)) (fun _ => ?_)
  refine .sched [] (.one 1 false (.one 3 false (.one 7 false (.one 8 false (.one 9 false (.alt 0 (.alt 2 (.one 4 false (.one 5 false (.one 6 false (.one 10 false (.one 11 false .stop))))) (.one 4 false (.alt 2 (.one 5 false (.one 6 false (.one 10 false (.one 11 false .stop)))) (.one 5 false (.one 2 false (.one 6 false (.one 10 false (.one 11 false .stop)))))))) (.one 4 false (.alt 0 (.alt 2 (.one 5 false (.one 6 false (.one 10 false (.one 11 false .stop)))) (.one 5 false (.one 2 false (.one 6 false (.one 10 false (.one 11 false .stop)))))) (.one 5 false (.one 0 false (.one 2 false (.one 6 false (.one 10 false (.one 11 false .stop)))))))))))))) (by kernel_rfl) ?_
  repeat' first
    | exact .drop 1 3 (.done (DoR.put (l' := l ++ [n]) (v := .mref _ 0 (0 + l.length + 1) 1) (by simp [doP, hk]; try omega) (push_acc h)))
    | refine And.intro ?_ ?_
    | refine bcond_dec (fun _ => ?_) (fun c => absurd (show (l.length : Int) < R by omega) c)
    | refine LoadAt.mk 0 _ _ rfl rfl ?_
    | refine LoadAt.mk 1 _ _ rfl rfl ?_
    | refine LoadAt.mk 2 _ _ rfl rfl ?_
    | refine AppendAt.more 0 _ 0 l.length [] _ rfl rfl (Nat.le_of_ble_eq_true rfl) (.mem (b := b) (cs := all) (by simp) h2) (by omega) (by decide) (by decide) (fun b' => ?_)
    | refine AppendAt.more 1 _ 0 l.length [] _ rfl rfl (Nat.le_of_ble_eq_true rfl) (.mem (b := b) (cs := all) (by simp) h2) (by omega) (by decide) (by decide) (fun b' => ?_)
    | refine AppendAt.more 1 b' (0 + l.length) 1 _ _ rfl rfl (cutc h) (.mref 0 _ 0 1 _ rfl (Nat.le_of_ble_eq_true rfl)) (by omega) (by decide) (by decide) (fun b8 => ?_)
    | refine AppendAt.more 0 b' (0 + l.length) 1 _ _ rfl rfl (cutc h) (.mref 1 _ 0 1 _ rfl (Nat.le_of_ble_eq_true rfl)) (by omega) (by decide) (by decide) (fun b8 => ?_)
    | (intro b9)
theorem aRdD (R who kd n bg en : Int) (b off : Nat) (all : List AV) (l : List Int) (hk : kd = 2 ∧ 0 < en ∧ l.length = 0) (h : (all.drop off).take (l.length * 1) = inC l) (h2 : off + l.length * 1 ≤ all.length) (_hl : l.length ≤ 1000000) (σ : Hp) : ACalls Try.prog 74 [.mref b off l.length 1, .int .i64 R, .agg (opC ⟨who, kd, n, bg, en, false⟩)] ((b, all) :: σ) (DoR R l ⟨who, kd, n, bg, en, false⟩ σ) := by
  refine okF Try.func74 (by kernel_rfl) ?_
  intro bl1
  refine LoadAt.mk 0 _ _ rfl rfl ?_
  refine bcond_dec (fun c => absurd c (show ¬ kd = 1 by omega)) (fun _ => ?_)
  refine LoadAt.mk 0 _ _ rfl rfl ?_
  refine bcond_dec (fun _ => ?_) (fun c => absurd (show kd = 2 by omega) c)
  refine LoadAt.mk 0 _ _ rfl rfl ?_
  refine bcond_dec (fun _ => ?_) (fun c => absurd (show 0 < en by omega) c)
  refine LoadAt.mk 0 _ _ rfl rfl ?_
  refine bcond_dec (fun _ => ?_) (fun c => absurd (show (l.length : Int) = 0 by omega) c)
  exact .drop 0 1 (.done (DoR.win (l' := l) (off := off) (by simp [doP, hk]; try omega) rfl rfl h h2))
theorem aRdZ (R who kd n bg en : Int) (b off : Nat) (all : List AV) (l : List Int) (hk : kd = 2 ∧ en = 0 ∧ l.length = 0) (h : (all.drop off).take (l.length * 1) = inC l) (h2 : off + l.length * 1 ≤ all.length) (_hl : l.length ≤ 1000000) (σ : Hp) : ACalls Try.prog 74 [.mref b off l.length 1, .int .i64 R, .agg (opC ⟨who, kd, n, bg, en, true⟩)] ((b, all) :: σ) (DoR R l ⟨who, kd, n, bg, en, true⟩ σ) := by
  refine okF Try.func74 (by kernel_rfl) ?_
  intro bl1
  refine LoadAt.mk 0 _ _ rfl rfl ?_
  refine bcond_dec (fun c => absurd c (show ¬ kd = 1 by omega)) (fun _ => ?_)
  refine LoadAt.mk 0 _ _ rfl rfl ?_
  refine bcond_dec (fun _ => ?_) (fun c => absurd (show kd = 2 by omega) c)
  refine LoadAt.mk 0 _ _ rfl rfl ?_
  refine bcond_dec (fun c => absurd c (show ¬ 0 < en by omega)) (fun _ => ?_)
  refine bcond_dec (fun _ => ?_) (fun c => absurd (show (l.length : Int) = 0 by omega) c)
  refine .quiet (by kernel_rfl) ?_
  refine LoadAt.mk 0 _ _ rfl rfl ?_
  refine bcond_dec (fun _ => ?_) (fun c => absurd (show en = 0 by omega) c)
  exact .drop 0 1 (.done (DoR.win (l' := l.take (l.length - 1)) (off := off) (by simp [doP, hk]) rfl (by rw [List.length_take]; omega) (win_take h) (by rw [List.length_take]; omega)))
theorem aRdZ0 (R who kd n bg en : Int) (b off : Nat) (all : List AV) (l : List Int) (hk : kd = 2 ∧ en = 0 ∧ l.length = 0) (h : (all.drop off).take (l.length * 1) = inC l) (h2 : off + l.length * 1 ≤ all.length) (_hl : l.length ≤ 1000000) (σ : Hp) : ACalls Try.prog 74 [.mref b off l.length 1, .int .i64 R, .agg (opC ⟨who, kd, n, bg, en, false⟩)] ((b, all) :: σ) (DoR R l ⟨who, kd, n, bg, en, false⟩ σ) := by
  refine okF Try.func74 (by kernel_rfl) ?_
  intro bl1
  refine LoadAt.mk 0 _ _ rfl rfl ?_
  refine bcond_dec (fun c => absurd c (show ¬ kd = 1 by omega)) (fun _ => ?_)
  refine LoadAt.mk 0 _ _ rfl rfl ?_
  refine bcond_dec (fun _ => ?_) (fun c => absurd (show kd = 2 by omega) c)
  refine LoadAt.mk 0 _ _ rfl rfl ?_
  refine bcond_dec (fun c => absurd c (show ¬ 0 < en by omega)) (fun _ => ?_)
  refine bcond_dec (fun _ => ?_) (fun c => absurd (show (l.length : Int) = 0 by omega) c)
  refine .quiet (by kernel_rfl) ?_
  refine LoadAt.mk 0 _ _ rfl rfl ?_
  refine bcond_dec (fun _ => ?_) (fun c => absurd (show en = 0 by omega) c)
  exact .drop 0 1 (.done (DoR.win (l' := l.take (l.length - 1)) (off := off) (by simp [doP, hk]) rfl (by rw [List.length_take]; omega) (win_take h) (by rw [List.length_take]; omega)))
theorem aRdT (R who kd n bg en : Int) (b off : Nat) (all : List AV) (l : List Int) (hk : kd = 2 ∧ en = 0 ∧ 0 < l.length) (h : (all.drop off).take (l.length * 1) = inC l) (h2 : off + l.length * 1 ≤ all.length) (hl : l.length ≤ 1000000) (σ : Hp) : ACalls Try.prog 74 [.mref b off l.length 1, .int .i64 R, .agg (opC ⟨who, kd, n, bg, en, true⟩)] ((b, all) :: σ) (DoR R l ⟨who, kd, n, bg, en, true⟩ σ) := by
  refine okF Try.func74 (by kernel_rfl) ?_
  intro bl1
  refine LoadAt.mk 0 _ _ rfl rfl ?_
  refine bcond_dec (fun c => absurd c (show ¬ kd = 1 by omega)) (fun _ => ?_)
  refine LoadAt.mk 0 _ _ rfl rfl ?_
  refine bcond_dec (fun _ => ?_) (fun c => absurd (show kd = 2 by omega) c)
  refine LoadAt.mk 0 _ _ rfl rfl ?_
  refine bcond_dec (fun c => absurd c (show ¬ 0 < en by omega)) (fun _ => ?_)
  refine bcond_dec (fun c => absurd c (show ¬ (l.length : Int) = 0 by omega)) (fun _ => ?_)
  refine .sched [] (.one 1 false (.one 2 false (.one 3 false (.one 4 false (.one 6 false (.alt 0 (.alt 5 (.one 7 false (.one 8 false (.one 9 false (.one 10 false (.one 11 false (.one 12 false (.one 13 false (.one 14 false (.one 15 false (.one 16 false (.one 17 false (.one 18 false (.one 19 false (.one 20 false .stop)))))))))))))) (.one 7 false (.one 8 false (.one 5 false (.one 9 false (.one 10 false (.one 11 false (.one 12 false (.one 13 false (.one 14 false (.one 15 false (.one 16 false (.one 17 false (.one 18 false (.one 19 false (.one 20 false .stop)))))))))))))))) (.one 7 false (.one 8 false (.one 0 false (.one 5 false (.one 9 false (.one 10 false (.one 11 false (.one 12 false (.one 13 false (.one 14 false (.one 15 false (.one 16 false (.one 17 false (.one 18 false (.one 19 false (.one 20 false .stop)))))))))))))))))))))) (by kernel_rfl) ?_
  have hl0 : 0 < l.length := by omega
  repeat' first
    | exact .drop 1 2 (.done (DoR.put (l' := l.take (l.length - 1)) (v := .mref _ 0 (0 + wkL l) 1) (by simp [doP, hk]; try omega) (takeAcc h hl)))
    | refine And.intro ?_ ?_
    | refine With.mk (xs_slice hl hl0) ?_
    | refine With.mk (xmL_with (n := l.length) hl hl0) ?_
    | refine bcond_dec (fun _ => ?_) (fun c => absurd (show en = 0 by omega) c)
    | refine bcond_dec (fun c => absurd c (show ¬ en = 0 by omega)) (fun _ => ?_)
    | refine LoadAt.mk 0 _ _ rfl rfl ?_
    | refine LoadAt.mk 1 _ _ rfl rfl ?_
    | refine LoadAt.mk 2 _ _ rfl rfl ?_
    | refine LoadAt.mk 1 _ _ rfl (win_rdm (all := all) rfl h hl hl0) ?_
    | refine LoadAt.mk 2 _ _ rfl (win_rdm (all := all) rfl h hl hl0) ?_
    | refine LoadAt.mk 3 _ _ rfl (win_rdm (all := all) rfl h hl hl0) ?_
    | refine AppendAt.more 0 _ 0 (wkL l) [] _ rfl rfl (Nat.le_of_ble_eq_true rfl) (.mem (b := b) (cs := all) (by simp) (srcT h2 hl)) (lenT hl) (by decide) (by decide) (fun b' => ?_)
    | refine AppendAt.more 1 _ 0 (wkL l) [] _ rfl rfl (Nat.le_of_ble_eq_true rfl) (.mem (b := b) (cs := all) (by simp) (srcT h2 hl)) (lenT hl) (by decide) (by decide) (fun b' => ?_)
    | (intro b9)
theorem aRdT0 (R who kd n bg en : Int) (b off : Nat) (all : List AV) (l : List Int) (hk : kd = 2 ∧ en = 0 ∧ 0 < l.length) (h : (all.drop off).take (l.length * 1) = inC l) (h2 : off + l.length * 1 ≤ all.length) (hl : l.length ≤ 1000000) (σ : Hp) : ACalls Try.prog 74 [.mref b off l.length 1, .int .i64 R, .agg (opC ⟨who, kd, n, bg, en, false⟩)] ((b, all) :: σ) (DoR R l ⟨who, kd, n, bg, en, false⟩ σ) := by
  refine okF Try.func74 (by kernel_rfl) ?_
  intro bl1
  refine LoadAt.mk 0 _ _ rfl rfl ?_
  refine bcond_dec (fun c => absurd c (show ¬ kd = 1 by omega)) (fun _ => ?_)
  refine LoadAt.mk 0 _ _ rfl rfl ?_
  refine bcond_dec (fun _ => ?_) (fun c => absurd (show kd = 2 by omega) c)
  refine LoadAt.mk 0 _ _ rfl rfl ?_
  refine bcond_dec (fun c => absurd c (show ¬ 0 < en by omega)) (fun _ => ?_)
  refine bcond_dec (fun c => absurd c (show ¬ (l.length : Int) = 0 by omega)) (fun _ => ?_)
  refine .sched [] (.one 1 false (.one 2 false (.one 3 false (.one 4 false (.one 6 false (.alt 0 (.alt 5 (.one 7 false (.one 8 false (.one 9 false (.one 10 false (.one 11 false (.one 12 false (.one 13 false (.one 14 false (.one 15 false (.one 16 false (.one 17 false (.one 18 false (.one 19 false (.one 20 false .stop)))))))))))))) (.one 7 false (.one 8 false (.one 5 false (.one 9 false (.one 10 false (.one 11 false (.one 12 false (.one 13 false (.one 14 false (.one 15 false (.one 16 false (.one 17 false (.one 18 false (.one 19 false (.one 20 false .stop)))))))))))))))) (.one 7 false (.one 8 false (.one 0 false (.one 5 false (.one 9 false (.one 10 false (.one 11 false (.one 12 false (.one 13 false (.one 14 false (.one 15 false (.one 16 false (.one 17 false (.one 18 false (.one 19 false (.one 20 false .stop)))))))))))))))))))))) (by kernel_rfl) ?_
  have hl0 : 0 < l.length := by omega
  repeat' first
    | exact .drop 1 2 (.done (DoR.put (l' := l.take (l.length - 1)) (v := .mref _ 0 (0 + wkL l) 1) (by simp [doP, hk]; try omega) (takeAcc h hl)))
    | refine And.intro ?_ ?_
    | refine With.mk (xs_slice hl hl0) ?_
    | refine With.mk (xmL_with (n := l.length) hl hl0) ?_
    | refine bcond_dec (fun _ => ?_) (fun c => absurd (show en = 0 by omega) c)
    | refine bcond_dec (fun c => absurd c (show ¬ en = 0 by omega)) (fun _ => ?_)
    | refine LoadAt.mk 0 _ _ rfl rfl ?_
    | refine LoadAt.mk 1 _ _ rfl rfl ?_
    | refine LoadAt.mk 2 _ _ rfl rfl ?_
    | refine LoadAt.mk 1 _ _ rfl (win_rdm (all := all) rfl h hl hl0) ?_
    | refine LoadAt.mk 2 _ _ rfl (win_rdm (all := all) rfl h hl hl0) ?_
    | refine LoadAt.mk 3 _ _ rfl (win_rdm (all := all) rfl h hl hl0) ?_
    | refine AppendAt.more 0 _ 0 (wkL l) [] _ rfl rfl (Nat.le_of_ble_eq_true rfl) (.mem (b := b) (cs := all) (by simp) (srcT h2 hl)) (lenT hl) (by decide) (by decide) (fun b' => ?_)
    | refine AppendAt.more 1 _ 0 (wkL l) [] _ rfl rfl (Nat.le_of_ble_eq_true rfl) (.mem (b := b) (cs := all) (by simp) (srcT h2 hl)) (lenT hl) (by decide) (by decide) (fun b' => ?_)
    | (intro b9)
theorem aRdT1 (R who kd n bg en : Int) (b off : Nat) (all : List AV) (l : List Int) (hk : kd = 2 ∧ 0 < en ∧ 0 < l.length ∧ l.getD (l.length - 1) 0 = n) (h : (all.drop off).take (l.length * 1) = inC l) (h2 : off + l.length * 1 ≤ all.length) (hl : l.length ≤ 1000000) (σ : Hp) : ACalls Try.prog 74 [.mref b off l.length 1, .int .i64 R, .agg (opC ⟨who, kd, n, bg, en, true⟩)] ((b, all) :: σ) (DoR R l ⟨who, kd, n, bg, en, true⟩ σ) := by
  refine okF Try.func74 (by kernel_rfl) ?_
  intro bl1
  refine LoadAt.mk 0 _ _ rfl rfl ?_
  refine bcond_dec (fun c => absurd c (show ¬ kd = 1 by omega)) (fun _ => ?_)
  refine LoadAt.mk 0 _ _ rfl rfl ?_
  refine bcond_dec (fun _ => ?_) (fun c => absurd (show kd = 2 by omega) c)
  refine LoadAt.mk 0 _ _ rfl rfl ?_
  refine bcond_dec (fun _ => ?_) (fun c => absurd (show 0 < en by omega) c)
  refine LoadAt.mk 0 _ _ rfl rfl ?_
  refine bcond_dec (fun c => absurd c (show ¬ (l.length : Int) = 0 by omega)) (fun _ => ?_)
  refine .sched [] (.one 1 false (.one 2 false (.one 3 false (.one 4 false (.one 6 false (.alt 0 (.alt 5 (.one 7 false (.one 8 false (.one 9 false (.one 10 false (.one 11 false (.one 12 false (.one 13 false (.one 14 false (.one 15 false (.one 16 false (.one 17 false (.one 18 false (.one 19 false (.one 20 false .stop)))))))))))))) (.one 7 false (.one 8 false (.one 5 false (.one 9 false (.one 10 false (.one 11 false (.one 12 false (.one 13 false (.one 14 false (.one 15 false (.one 16 false (.one 17 false (.one 18 false (.one 19 false (.one 20 false .stop)))))))))))))))) (.one 7 false (.one 8 false (.one 0 false (.one 5 false (.one 9 false (.one 10 false (.one 11 false (.one 12 false (.one 13 false (.one 14 false (.one 15 false (.one 16 false (.one 17 false (.one 18 false (.one 19 false (.one 20 false .stop)))))))))))))))))))))) (by kernel_rfl) ?_
  have hl0 : 0 < l.length := by omega
  repeat' first
    | exact .drop 1 2 (.done (DoR.put (l' := l.take (l.length - 1)) (v := .mref _ 0 (0 + wkL l) 1) ((doP_E ⟨hk.1, by omega⟩).trans (congrArg (Prod.mk (l.take (l.length - 1))) (by rw [decide_eq_true hl0, decide_eq_true hk.2.2.2]; rfl))) (takeAcc h hl)))
    | refine And.intro ?_ ?_
    | refine With.mk (xs_slice hl hl0) ?_
    | refine With.mk (xmL_with (n := l.length) hl hl0) ?_
    | refine bcond_dec (fun _ => ?_) (fun c => absurd (show en = 0 by omega) c)
    | refine bcond_dec (fun c => absurd c (show ¬ en = 0 by omega)) (fun _ => ?_)
    | refine bcond_dec (fun _ => ?_) (fun c => absurd (show l.getD (l.length - 1) 0 = n from hk.2.2.2) c)
    | refine LoadAt.mk 0 _ _ rfl rfl ?_
    | refine LoadAt.mk 1 _ _ rfl rfl ?_
    | refine LoadAt.mk 2 _ _ rfl rfl ?_
    | refine LoadAt.mk 1 _ _ rfl (win_rdm (all := all) rfl h hl hl0) ?_
    | refine LoadAt.mk 2 _ _ rfl (win_rdm (all := all) rfl h hl hl0) ?_
    | refine LoadAt.mk 3 _ _ rfl (win_rdm (all := all) rfl h hl hl0) ?_
    | refine AppendAt.more 0 _ 0 (wkL l) [] _ rfl rfl (Nat.le_of_ble_eq_true rfl) (.mem (b := b) (cs := all) (by simp) (srcT h2 hl)) (lenT hl) (by decide) (by decide) (fun b' => ?_)
    | refine AppendAt.more 1 _ 0 (wkL l) [] _ rfl rfl (Nat.le_of_ble_eq_true rfl) (.mem (b := b) (cs := all) (by simp) (srcT h2 hl)) (lenT hl) (by decide) (by decide) (fun b' => ?_)
    | (intro b9)
theorem aRdF (R who kd n bg en : Int) (b off : Nat) (all : List AV) (l : List Int) (hk : kd = 3) (h : (all.drop off).take (l.length * 1) = inC l) (h2 : off + l.length * 1 ≤ all.length) (_hl : l.length ≤ 1000000) (σ : Hp) : ACalls Try.prog 74 [.mref b off l.length 1, .int .i64 R, .agg (opC ⟨who, kd, n, bg, en, false⟩)] ((b, all) :: σ) (DoR R l ⟨who, kd, n, bg, en, false⟩ σ) := by
  refine okF Try.func74 (by kernel_rfl) ?_
  intro bl1
  refine LoadAt.mk 0 _ _ rfl rfl ?_
  refine bcond_dec (fun c => absurd c (show ¬ kd = 1 by omega)) (fun _ => ?_)
  refine LoadAt.mk 0 _ _ rfl rfl ?_
  refine bcond_dec (fun c => absurd c (show ¬ kd = 2 by omega)) (fun _ => ?_)
  refine LoadAt.mk 0 _ _ rfl rfl ?_
  refine bcond_dec (fun _ => ?_) (fun c => absurd (show kd = 3 by omega) c)
  refine LoadAt.mk 0 _ _ rfl rfl ?_
  refine bcond_dec (fun c2 => ?_) (fun c2 => ?_)
  · have c2 : en = 0 := c2
    exact .drop 0 1 (.done (DoR.win (l' := l) (off := off) (by simp [doP, hk]; try omega) rfl rfl h h2))
  · have c2 : ¬ (en = 0) := c2
    refine LoadAt.mk 0 _ _ rfl rfl ?_
    exact .drop 0 1 (.done (DoR.win (l' := l) (off := off) (by simp [doP, hk]; try omega) rfl rfl h h2))
theorem aRdF0 (R who kd n bg en : Int) (b off : Nat) (all : List AV) (l : List Int) (hk : kd = 3 ∧ en = 0) (h : (all.drop off).take (l.length * 1) = inC l) (h2 : off + l.length * 1 ≤ all.length) (_hl : l.length ≤ 1000000) (σ : Hp) : ACalls Try.prog 74 [.mref b off l.length 1, .int .i64 R, .agg (opC ⟨who, kd, n, bg, en, true⟩)] ((b, all) :: σ) (DoR R l ⟨who, kd, n, bg, en, true⟩ σ) := by
  refine okF Try.func74 (by kernel_rfl) ?_
  intro bl1
  refine LoadAt.mk 0 _ _ rfl rfl ?_
  refine bcond_dec (fun c => absurd c (show ¬ kd = 1 by omega)) (fun _ => ?_)
  refine LoadAt.mk 0 _ _ rfl rfl ?_
  refine bcond_dec (fun c => absurd c (show ¬ kd = 2 by omega)) (fun _ => ?_)
  refine LoadAt.mk 0 _ _ rfl rfl ?_
  refine bcond_dec (fun _ => ?_) (fun c => absurd (show kd = 3 by omega) c)
  refine LoadAt.mk 0 _ _ rfl rfl ?_
  refine bcond_dec (fun _ => ?_) (fun c => absurd (show en = 0 by omega) c)
  exact .drop 0 1 (.done (DoR.win (l' := l) (off := off) (by simp [doP, hk]; try omega) rfl rfl h h2))
theorem aRdG (R who kd n bg en : Int) (b off : Nat) (all : List AV) (l : List Int) (hk : kd = 3 ∧ 0 < en ∧ 0 < l.length ∧ l.getD 0 0 = n) (h : (all.drop off).take (l.length * 1) = inC l) (h2 : off + l.length * 1 ≤ all.length) (hl : l.length ≤ 1000000) (σ : Hp) : ACalls Try.prog 74 [.mref b off l.length 1, .int .i64 R, .agg (opC ⟨who, kd, n, bg, en, true⟩)] ((b, all) :: σ) (DoR R l ⟨who, kd, n, bg, en, true⟩ σ) := by
  refine okF Try.func74 (by kernel_rfl) ?_
  intro bl1
  refine LoadAt.mk 0 _ _ rfl rfl ?_
  refine bcond_dec (fun c => absurd c (show ¬ kd = 1 by omega)) (fun _ => ?_)
  refine LoadAt.mk 0 _ _ rfl rfl ?_
  refine bcond_dec (fun c => absurd c (show ¬ kd = 2 by omega)) (fun _ => ?_)
  refine LoadAt.mk 0 _ _ rfl rfl ?_
  refine bcond_dec (fun _ => ?_) (fun c => absurd (show kd = 3 by omega) c)
  refine LoadAt.mk 0 _ _ rfl rfl ?_
  refine bcond_dec (fun c => absurd c (show ¬ en = 0 by omega)) (fun _ => ?_)
  refine LoadAt.mk 0 _ _ rfl rfl ?_
  refine bcond_dec (fun c => absurd c (show ¬ (l.length : Int) = 0 by omega)) (fun _ => ?_)
  refine .sched [] (.one 1 false (.one 2 false (.one 4 false (.one 5 false (.one 7 false (.alt 0 (.alt 3 (.one 6 false (.one 8 false (.one 9 false (.one 10 false (.one 11 false .stop))))) (.alt 6 (.alt 3 (.one 8 false (.one 9 false (.one 10 false (.one 11 false .stop)))) (.one 8 false (.one 9 false (.one 3 false (.one 10 false (.one 11 false .stop)))))) (.one 8 false (.alt 3 (.one 6 false (.one 9 false (.one 10 false (.one 11 false .stop)))) (.one 6 false (.one 9 false (.one 3 false (.one 10 false (.one 11 false .stop))))))))) (.alt 6 (.alt 0 (.alt 3 (.one 8 false (.one 9 false (.one 10 false (.one 11 false .stop)))) (.one 8 false (.one 9 false (.one 3 false (.one 10 false (.one 11 false .stop)))))) (.one 8 false (.one 9 false (.one 0 false (.one 3 false (.one 10 false (.one 11 false .stop))))))) (.one 8 false (.alt 0 (.alt 3 (.one 6 false (.one 9 false (.one 10 false (.one 11 false .stop)))) (.one 6 false (.one 9 false (.one 3 false (.one 10 false (.one 11 false .stop)))))) (.one 6 false (.one 9 false (.one 0 false (.one 3 false (.one 10 false (.one 11 false .stop))))))))))))))) (by kernel_rfl) ?_
  have hl0 : 0 < l.length := by omega
  repeat' first
    | exact .drop 1 2 (.done (DoR.put (l' := l.drop 1) (v := .mref _ 0 (0 + dkL l) 1) ((doP_G ⟨hk.1, by omega⟩).trans (congrArg (Prod.mk (l.drop 1)) (by rw [decide_eq_true hl0, decide_eq_true hk.2.2.2]; rfl))) (dropAcc h)))
    | refine And.intro ?_ ?_
    | refine With.mk ⟨by omega, by omega, by omega, rfl⟩ ?_
    | refine With.mk ⟨rfl, by omega, by omega⟩ ?_
    | refine bcond_dec (fun _ => ?_) (fun c => absurd (show l.getD 0 0 = n from hk.2.2.2) c)
    | refine LoadAt.mk 0 _ _ rfl rfl ?_
    | refine LoadAt.mk 1 _ _ rfl rfl ?_
    | refine LoadAt.mk 2 _ _ rfl rfl ?_
    | refine LoadAt.mk 1 _ _ rfl (win_rd (j := 0) (all := all) rfl h hl0) ?_
    | refine LoadAt.mk 2 _ _ rfl (win_rd (j := 0) (all := all) rfl h hl0) ?_
    | refine LoadAt.mk 3 _ _ rfl (win_rd (j := 0) (all := all) rfl h hl0) ?_
    | refine AppendAt.more 0 _ 0 (dkL l) [] _ rfl rfl (Nat.le_of_ble_eq_true rfl) (.mem (b := b) (cs := all) (by simp) (srcG h2 hl0)) (lenG hl) (by decide) (by decide) (fun b' => ?_)
    | refine AppendAt.more 1 _ 0 (dkL l) [] _ rfl rfl (Nat.le_of_ble_eq_true rfl) (.mem (b := b) (cs := all) (by simp) (srcG h2 hl0)) (lenG hl) (by decide) (by decide) (fun b' => ?_)
    | (intro b9)
end Go.Proofs.Ytacacplipaeokaa
