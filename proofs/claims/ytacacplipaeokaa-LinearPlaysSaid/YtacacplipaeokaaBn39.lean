/-
  La: what the claim uses of them.
-/
import Derived.Test.YtacacplipaeokaaBn26
import Derived.Test.YtacacplipaeokaaBn38
namespace Go.Proofs.Ytacacplipaeokaa
open Go.RowKit
set_option maxRecDepth 100000
set_option maxHeartbeats 4000000
theorem aAheadL (a b : OpR) (σ : Hp) : ACalls Try.prog 80 [.agg (opC a), .agg (opC b)] σ (Ret (.bool (aheadP a b)) σ) := by
  refine okF Try.func80 (by kernel_rfl) ?_
  intro bl1
  intro bl2
  refine LoadAt.mk 1 _ _ rfl rfl ?_
  refine bcond_dec (fun c3 => ?_) (fun c3 => ?_)
  · have c3 : 0 < a.en := c3
    refine LoadAt.mk 1 _ _ rfl rfl ?_
    refine LoadAt.mk 0 _ _ rfl rfl ?_
    refine bcond_dec (fun c4 => ?_) (fun c4 => ?_)
    · have c4 : a.en < b.bg := c4
      exact .drop 0 2 (.done ⟨congrArg AV.bool (show true = aheadP a b by unfold aheadP; rw [decide_eq_true c3, decide_eq_true c4]; rfl), rfl⟩)
    · have c4 : ¬ (a.en < b.bg) := c4
      exact .drop 0 2 (.done ⟨congrArg AV.bool (show false = aheadP a b by unfold aheadP; rw [decide_eq_true c3, decide_eq_false c4]; rfl), rfl⟩)
  · have c3 : ¬ (0 < a.en) := c3
    exact .drop 0 2 (.done ⟨congrArg AV.bool (show false = aheadP a b by unfold aheadP; rw [decide_eq_false c3]; rfl), rfl⟩)
/-- What do hands back: a list, open still, and whether it could be done. -/
def DoR (R : Int) (l : List Int) (o : OpR) (σ : Hp) : AV → Hp → Prop := fun x σ' => ∃ v acc, x = .tup [v, .bool (doP R l o).2] ∧ AccO 1 (doP R l o).1.length v acc (inC (doP R l o).1) ∧ σ' = acc ++ σ
theorem append_accOW {i : TI} {K : AV → Hp → Prop} (fr : Hp) {acc σ : Hp} {k n : Nat} {v x : AV} {cs new : List AV} (h : AccO i.size k v acc cs) (hx : SrcAt (fr ++ (acc ++ σ)) i.size x n new) (hnew : new.length = n * i.size) (hn : k + n ≤ 1048576) (hb : i.bytes ≤ 1024) (h0 : 0 < i.size)
    (go : ∀ v' acc', AccO i.size (k + n) v' acc' (cs ++ new) → K v' (fr ++ (acc' ++ σ))) : AppendAt i (fr ++ (acc ++ σ)) v x K := by
  cases h with
  | nil =>
    refine .perm _ (front_perm' fr [] σ) (.fresh n new (.inl rfl) (hx.perm (front_perm' fr [] σ)) (by omega) hb h0 (K := fun v σ3 => (n = 0 ∧ v = .nils ∧ σ3 = [] ++ (fr ++ σ)) ∨ (n ≠ 0 ∧ ∃ b, v = .mref b 0 n i.size ∧ σ3 = (b, new) :: ([] ++ (fr ++ σ)))) (fun hne b => .inr ⟨hne, b, rfl, rfl⟩) (fun h0 => .inl ⟨h0, rfl, rfl⟩)) ?_
    rintro v σ3 (⟨hz, rfl, rfl⟩ | ⟨hz, b, rfl, rfl⟩)
    · subst hz
      obtain rfl : new = [] := List.length_eq_zero_iff.1 (by simpa using hnew)
      exact ⟨_, (front_perm' fr [] σ).symm, .inl (go _ _ .nil)⟩
    · refine ⟨_, (front_perm' fr [(b, new)] σ).symm, .inl (go _ _ ?_)⟩
      have := AccO.mref (e := i.size) b 0 (0 + n) new new (by rw [List.drop_zero, Nat.zero_add, ← hnew, List.take_length]) (by rw [hnew, Nat.zero_add, Nat.zero_add]; exact Nat.le_refl _)
      rw [Nat.zero_add] at this ⊢
      exact this
  | mref b off k cs all h h2 =>
    have hl : cs.length = k * i.size := by rw [← h]; simp; omega
    refine .perm _ (front_perm' fr [(b, all)] σ) (.moreO 0 b off k n all new rfl rfl h2 (hx.perm (front_perm' fr [(b, all)] σ)) hn hb h0 (K := fun v σ3 => (v = .mref b off (k + n) i.size ∧ σ3 = (b, all.take (off + k * i.size) ++ new) :: (fr ++ σ)) ∨ ∃ b', v = .mref b' 0 (k + n) i.size ∧ σ3 = (b', cs ++ new) :: (fr ++ σ)) (.inl ⟨rfl, rfl⟩) (fun b' => .inr ⟨b', rfl, by rw [h]; rfl⟩)) ?_
    rintro v σ3 (⟨rfl, rfl⟩ | ⟨b', rfl, rfl⟩)
    · refine ⟨_, (front_perm' fr [(b, all.take (off + k * i.size) ++ new)] σ).symm, .inl (go _ _ (.mref _ _ _ _ _ ?_ ?_))⟩
      · have e1 : (all.take (off + k * i.size) ++ new).drop off = cs ++ new := by
          rw [List.drop_append_of_le_length (by simp; omega), List.drop_take, ← h]
          congr 2
          omega
        rw [e1]
        exact List.take_of_length_le (by rw [List.length_append, hl, hnew, Nat.add_mul]; exact Nat.le_refl _)
      · rw [List.length_append, List.length_take, hnew, Nat.add_mul]; omega
    · refine ⟨_, (front_perm' fr [(b', cs ++ new)] σ).symm, .inl (go _ _ (.mref _ _ _ _ _ ?_ ?_))⟩
      · rw [List.drop_zero]
        exact List.take_of_length_le (by rw [List.length_append, hl, hnew, Nat.add_mul]; exact Nat.le_refl _)
      · rw [List.length_append, hl, hnew, Nat.add_mul]; omega
theorem accO_posL {k : Nat} {v : AV} {acc : Hp} {cs : List AV} (h : AccO 1 (k + 1) v acc cs) : ∃ b off all, v = .mref b off (k + 1) 1 ∧ acc = [(b, all)] := by
  cases h with
  | mref b off _ _ all => exact ⟨b, off, all, rfl, rfl⟩
theorem w64 {x : Int} (h1 : -1000000000 ≤ x) (h2 : x ≤ 1000000000) : IntKind.i64.wrap x = x := by
  rw [IntKind.wrap_i64]; omega
def mxL (n : Int) : Int := if IntKind.i64.wrap (n - 1) < 0 then 0 else IntKind.i64.wrap (n - 1)
theorem mxL_eq {n : Nat} (h : n ≤ 1000000) : mxL n = ((n - 1 : Nat) : Int) := by
  unfold mxL
  rw [w64 (by omega) (by omega)]
  split <;> omega
theorem mxL_with {n : Nat} (h : n ≤ 1000000) : (0 : Int) ≤ 0 ∧ 0 ≤ mxL n ∧ mxL n ≤ (n : Int) ∧ 1 = 1 := by
  rw [mxL_eq h]
  exact ⟨by omega, by omega, by omega, rfl⟩
theorem mx_x (off : Nat) : off + (0 : Int).toNat * 1 = off := by simp
theorem mx_y (l : List Int) (h : l.length ≤ 1000000) : (mxL l.length).toNat - (0 : Int).toNat = (l.take (l.length - 1)).length := by
  rw [mxL_eq h, List.length_take]
  omega
theorem xmL_with {n : Nat} (h : n ≤ 1000000) (h0 : 0 < n) : 1 = 1 ∧ 0 ≤ IntKind.i64.wrap ((n : Int) - 1) ∧ IntKind.i64.wrap ((n : Int) - 1) < (n : Int) := by
  rw [w64 (by omega) (by omega)]
  omega
def mnL (n : Int) : Int := if 1 < n then 1 else n
theorem mnL_eq {n : Nat} : mnL n = ((min n 1 : Nat) : Int) := by
  unfold mnL
  split <;> omega
theorem mn_x (off : Nat) (n : Nat) : off + (mnL n).toNat * 1 = off + min n 1 := by
  rw [mnL_eq]
  omega
theorem mn_y (l : List Int) : (l.length : Int).toNat - (mnL l.length).toNat = (l.drop 1).length := by
  rw [mnL_eq, List.length_drop]
  omega
theorem doP_D {R : Int} {l : List Int} {who kd n bg en : Int} (hk : kd = 2 ∧ ¬ en = 0) : doP R l ⟨who, kd, n, bg, en, false⟩ = (l, decide (l.length = 0)) := by
  unfold doP
  simp [hk.1, hk.2]
theorem doP_E {R : Int} {l : List Int} {who kd n bg en : Int} (hk : kd = 2 ∧ ¬ en = 0) : doP R l ⟨who, kd, n, bg, en, true⟩ = (l.take (l.length - 1), decide (0 < l.length) && decide (l.getD (l.length - 1) 0 = n)) := by
  unfold doP
  simp [hk.1, hk.2]
theorem doP_G {R : Int} {l : List Int} {who kd n bg en : Int} (hk : kd = 3 ∧ ¬ en = 0) : doP R l ⟨who, kd, n, bg, en, true⟩ = (l.drop 1, decide (0 < l.length) && decide (l.getD 0 0 = n)) := by
  unfold doP
  simp [hk.1, hk.2]
theorem DoR.win {R : Int} {l l' : List Int} {o : OpR} {σ : Hp} {p : Bool} {b X Y off : Nat} {all : List AV} (e : doP R l o = (l', p)) (hX : X = off) (hY : Y = l'.length) (h : (all.drop off).take (l'.length * 1) = inC l') (h2 : off + l'.length * 1 ≤ all.length) : DoR R l o σ (.tup [.mref b X Y 1, .bool p]) ((b, all) :: σ) := by
  subst hX; subst hY
  exact ⟨.mref b X l'.length 1, [(b, all)], by rw [e], by rw [e]; exact .mref b X l'.length (inC l') all h h2, rfl⟩
theorem win_rd {i : TI} (hw : i.wide = false) {off j : Nat} {l : List Int} {all : List AV} (h : (all.drop off).take (l.length * 1) = inC l) (hj : j < l.length) : readAs i all (off + j * 1) = some (.int .i64 (l.getD j 0)) := by
  unfold readAs
  rw [hw]
  have e : (inC l)[j]? = some (.int .i64 (l.getD j 0)) := by
    unfold inC; rw [List.getElem?_map, List.getElem?_eq_getElem hj, List.getD_eq_getElem?_getD, List.getElem?_eq_getElem hj]; rfl
  rw [← h, List.getElem?_take_of_lt (by omega), List.getElem?_drop] at e
  rw [Nat.mul_one]; exact e
theorem win_rdm {i : TI} (hw : i.wide = false) {off : Nat} {l : List Int} {all : List AV} (h : (all.drop off).take (l.length * 1) = inC l) (hl : l.length ≤ 1000000) (hj : 0 < l.length) : readAs i all (off + (IntKind.i64.wrap ((l.length : Int) - 1)).toNat * 1) = some (.int .i64 (l.getD (l.length - 1) 0)) := by
  rw [w64 (by omega) (by omega), show ((l.length : Int) - 1).toNat = l.length - 1 by omega]
  exact win_rd hw h (by omega)
theorem DoR.put {R : Int} {l l' : List Int} {o : OpR} {σ acc : Hp} {p : Bool} {v : AV} (e : doP R l o = (l', p)) (h : AccO 1 l'.length v acc (inC l')) : DoR R l o σ (.tup [v, .bool p]) (acc ++ σ) := ⟨v, acc, by rw [e], by rw [e]; exact h, rfl⟩
theorem win_take {off n : Nat} {l : List Int} {all : List AV} (h : (all.drop off).take (l.length * 1) = inC l) : (all.drop off).take ((l.take n).length * 1) = inC (l.take n) := by
  rw [Nat.mul_one] at h ⊢
  unfold inC at h ⊢
  rw [List.map_take, ← h, List.take_take, List.length_take]
theorem win_drop {off n : Nat} {l : List Int} {all : List AV} (h : (all.drop off).take (l.length * 1) = inC l) : (all.drop (off + n)).take ((l.drop n).length * 1) = inC (l.drop n) := by
  rw [Nat.mul_one] at h ⊢
  unfold inC at h ⊢
  rw [List.map_drop, ← h, List.drop_take, List.drop_drop, List.length_drop]
theorem win_dropm {off : Nat} {l : List Int} {all : List AV} (h : (all.drop off).take (l.length * 1) = inC l) : (all.drop (off + min l.length 1)).take ((l.drop 1).length * 1) = inC (l.drop 1) := by
  cases l with
  | nil => simp [inC]
  | cons x l => rw [show min (x :: l).length 1 = 1 by simp; ]; exact win_drop h
theorem aDoA (R who kd n bg en : Int) (hk : kd = 1 ∧ 0 < en) (b off : Nat) (all : List AV) (l : List Int) (h : (all.drop off).take (l.length * 1) = inC l) (h2 : off + l.length * 1 ≤ all.length) (_hl : l.length ≤ 1000000) (σ : Hp) : ACalls Try.prog 79 [.mref b off l.length 1, .int .i64 R, .agg (opC ⟨who, kd, n, bg, en, false⟩)] ((b, all) :: σ) (DoR R l ⟨who, kd, n, bg, en, false⟩ σ) := by
  refine okF Try.func79 (by kernel_rfl) ?_
  intro bl1
  refine LoadAt.mk 0 _ _ rfl rfl ?_
  refine bcond_dec (fun _ => ?_) (fun c => absurd (show kd = 1 by omega) c)
  refine LoadAt.mk 0 _ _ rfl rfl ?_
  refine bcond_dec (fun _ => ?_) (fun c => absurd (show 0 < en by omega) c)
  refine LoadAt.mk 0 _ _ rfl rfl ?_
  refine bcond_dec (fun c2 => ?_) (fun c2 => ?_)
  · have c2 : R ≤ (↑l.length : Int) := c2
    exact .drop 0 1 (.done (DoR.win (l' := l) (off := off) (by simp [doP, hk]; try omega) rfl rfl h h2))
  · have c2 : ¬ (R ≤ (↑l.length : Int)) := c2
    exact .drop 0 1 (.done (DoR.win (l' := l) (off := off) (by simp [doP, hk]; try omega) rfl rfl h h2))
theorem aDoB (R who kd n bg en : Int) (hk : kd = 1) (b off : Nat) (all : List AV) (l : List Int) (h : (all.drop off).take (l.length * 1) = inC l) (h2 : off + l.length * 1 ≤ all.length) (hl : l.length ≤ 1000000) (σ : Hp) : ACalls Try.prog 79 [.mref b off l.length 1, .int .i64 R, .agg (opC ⟨who, kd, n, bg, en, true⟩)] ((b, all) :: σ) (DoR R l ⟨who, kd, n, bg, en, true⟩ σ) := by
  refine okF Try.func79 (by kernel_rfl) ?_
  intro bl1
  refine LoadAt.mk 0 _ _ rfl rfl ?_
  refine bcond_dec (fun _ => ?_) (fun c => absurd (show kd = 1 by omega) c)
  refine LoadAt.mk 0 _ _ rfl rfl ?_
  refine bcond_dec (fun c2 => ?_) (fun c2 => ?_)
  · have c2 : 0 < en := c2
    refine LoadAt.mk 0 _ _ rfl rfl ?_
    refine LoadAt.mk 0 _ _ rfl rfl ?_
    refine bcond_dec (fun _ => ?_) (fun c => absurd (show kd = 1 by omega) c)
    refine LoadAt.mk 0 _ _ rfl rfl ?_
    intro bl3
    refine append_accOW [_, _] (acc := [(b, all)]) (σ := σ) (.mref b off l.length (inC l) all h h2) (.mref 0 bl3 0 1 _ rfl (Nat.le_of_ble_eq_true rfl)) rfl (by omega) (by decide) (by decide) (fun v' acc' h' => ?_)
    obtain ⟨b', off', all', rfl, rfl⟩ := accO_posL h'
    refine bcond_dec (fun d => ?_) (fun d => ?_)
    · have d : ((l.length : Int) < R) := d
      exact .drop 0 2 (.done (DoR.put (l' := l ++ [n]) (v := .mref b' off' (l.length + 1) 1) (by simp [doP, hk, d]) (by have h' : AccO 1 (l.length + 1) (.mref b' off' (l.length + 1) 1) [(b', all')] (inC l ++ [.int .i64 n]) := h'; simpa [inC] using h')))
    · have d : ¬ ((l.length : Int) < R) := d
      exact .drop 0 2 (.done (DoR.put (l' := l ++ [n]) (v := .mref b' off' (l.length + 1) 1) (by simp [doP, hk, d]) (by have h' : AccO 1 (l.length + 1) (.mref b' off' (l.length + 1) 1) [(b', all')] (inC l ++ [.int .i64 n]) := h'; simpa [inC] using h')))
  · have c2 : ¬ (0 < en) := c2
    refine LoadAt.mk 0 _ _ rfl rfl ?_
    refine bcond_dec (fun _ => ?_) (fun c => absurd (show kd = 1 by omega) c)
    refine LoadAt.mk 0 _ _ rfl rfl ?_
    intro bl4
    refine append_accOW [_, _] (acc := [(b, all)]) (σ := σ) (.mref b off l.length (inC l) all h h2) (.mref 0 bl4 0 1 _ rfl (Nat.le_of_ble_eq_true rfl)) rfl (by omega) (by decide) (by decide) (fun v' acc' h' => ?_)
    obtain ⟨b', off', all', rfl, rfl⟩ := accO_posL h'
    refine bcond_dec (fun d => ?_) (fun d => ?_)
    · have d : ((l.length : Int) < R) := d
      exact .drop 0 2 (.done (DoR.put (l' := l ++ [n]) (v := .mref b' off' (l.length + 1) 1) (by simp [doP, hk, d]) (by have h' : AccO 1 (l.length + 1) (.mref b' off' (l.length + 1) 1) [(b', all')] (inC l ++ [.int .i64 n]) := h'; simpa [inC] using h')))
    · have d : ¬ ((l.length : Int) < R) := d
      exact .drop 0 2 (.done (DoR.put (l' := l ++ [n]) (v := .mref b' off' (l.length + 1) 1) (by simp [doP, hk, d]) (by have h' : AccO 1 (l.length + 1) (.mref b' off' (l.length + 1) 1) [(b', all')] (inC l ++ [.int .i64 n]) := h'; simpa [inC] using h')))
theorem aDoB0 (R who kd n bg en : Int) (hk : kd = 1 ∧ ¬ 0 < en) (b off : Nat) (all : List AV) (l : List Int) (h : (all.drop off).take (l.length * 1) = inC l) (h2 : off + l.length * 1 ≤ all.length) (hl : l.length ≤ 1000000) (σ : Hp) : ACalls Try.prog 79 [.mref b off l.length 1, .int .i64 R, .agg (opC ⟨who, kd, n, bg, en, false⟩)] ((b, all) :: σ) (DoR R l ⟨who, kd, n, bg, en, false⟩ σ) := by
  refine okF Try.func79 (by kernel_rfl) ?_
  intro bl1
  refine LoadAt.mk 0 _ _ rfl rfl ?_
  refine bcond_dec (fun _ => ?_) (fun c => absurd (show kd = 1 by omega) c)
  refine LoadAt.mk 0 _ _ rfl rfl ?_
  refine bcond_dec (fun c => absurd c (show ¬ 0 < en by omega)) (fun _ => ?_)
  refine LoadAt.mk 0 _ _ rfl rfl ?_
  refine bcond_dec (fun _ => ?_) (fun c => absurd (show kd = 1 by omega) c)
  refine LoadAt.mk 0 _ _ rfl rfl ?_
  intro bl2
  refine append_accOW [_, _] (acc := [(b, all)]) (σ := σ) (.mref b off l.length (inC l) all h h2) (.mref 0 bl2 0 1 _ rfl (Nat.le_of_ble_eq_true rfl)) rfl (by omega) (by decide) (by decide) (fun v' acc' h' => ?_)
  obtain ⟨b', off', all', rfl, rfl⟩ := accO_posL h'
  refine bcond_dec (fun d => ?_) (fun d => ?_)
  · have d : ((l.length : Int) < R) := d
    exact .drop 0 2 (.done (DoR.put (l' := l ++ [n]) (v := .mref b' off' (l.length + 1) 1) (by simp [doP, hk, d]) (by have h' : AccO 1 (l.length + 1) (.mref b' off' (l.length + 1) 1) [(b', all')] (inC l ++ [.int .i64 n]) := h'; simpa [inC] using h')))
  · have d : ¬ ((l.length : Int) < R) := d
    exact .drop 0 2 (.done (DoR.put (l' := l ++ [n]) (v := .mref b' off' (l.length + 1) 1) (by simp [doP, hk, d]) (by have h' : AccO 1 (l.length + 1) (.mref b' off' (l.length + 1) 1) [(b', all')] (inC l ++ [.int .i64 n]) := h'; simpa [inC] using h')))
theorem aDoC (R who kd n bg en : Int) (ok : Bool) (hk : kd = 2 ∧ en = 0) (b off : Nat) (all : List AV) (l : List Int) (h : (all.drop off).take (l.length * 1) = inC l) (h2 : off + l.length * 1 ≤ all.length) (hl : l.length ≤ 1000000) (σ : Hp) : ACalls Try.prog 79 [.mref b off l.length 1, .int .i64 R, .agg (opC ⟨who, kd, n, bg, en, ok⟩)] ((b, all) :: σ) (DoR R l ⟨who, kd, n, bg, en, ok⟩ σ) := by
  refine okF Try.func79 (by kernel_rfl) ?_
  intro bl1
  refine LoadAt.mk 0 _ _ rfl rfl ?_
  refine bcond_dec (fun c => absurd c (show ¬ kd = 1 by omega)) (fun _ => ?_)
  refine LoadAt.mk 0 _ _ rfl rfl ?_
  refine bcond_dec (fun c => absurd c (show ¬ kd = 1 by omega)) (fun _ => ?_)
  refine LoadAt.mk 0 _ _ rfl rfl ?_
  refine bcond_dec (fun _ => ?_) (fun c => absurd (show kd = 2 by omega) c)
  refine LoadAt.mk 0 _ _ rfl rfl ?_
  refine bcond_dec (fun _ => ?_) (fun c => absurd (show en = 0 by omega) c)
  refine With.mk (mxL_with (n := l.length) hl) ?_
  exact .drop 0 1 (.done (DoR.win (l' := l.take (l.length - 1)) (off := off) (by simp [doP, hk]; try omega) (mx_x off) (mx_y l hl) (win_take h) (by rw [List.length_take]; omega)))
theorem aDoD (R who kd n bg en : Int) (hk : kd = 2 ∧ ¬ en = 0) (b off : Nat) (all : List AV) (l : List Int) (h : (all.drop off).take (l.length * 1) = inC l) (h2 : off + l.length * 1 ≤ all.length) (_hl : l.length ≤ 1000000) (σ : Hp) : ACalls Try.prog 79 [.mref b off l.length 1, .int .i64 R, .agg (opC ⟨who, kd, n, bg, en, false⟩)] ((b, all) :: σ) (DoR R l ⟨who, kd, n, bg, en, false⟩ σ) := by
  refine okF Try.func79 (by kernel_rfl) ?_
  intro bl1
  refine LoadAt.mk 0 _ _ rfl rfl ?_
  refine bcond_dec (fun c => absurd c (show ¬ kd = 1 by omega)) (fun _ => ?_)
  refine LoadAt.mk 0 _ _ rfl rfl ?_
  refine bcond_dec (fun c => absurd c (show ¬ kd = 1 by omega)) (fun _ => ?_)
  refine LoadAt.mk 0 _ _ rfl rfl ?_
  refine bcond_dec (fun _ => ?_) (fun c => absurd (show kd = 2 by omega) c)
  refine LoadAt.mk 0 _ _ rfl rfl ?_
  refine bcond_dec (fun c => absurd c (show ¬ en = 0 by omega)) (fun _ => ?_)
  refine LoadAt.mk 0 _ _ rfl rfl ?_
  refine bcond_dec (fun _ => ?_) (fun c => absurd (show kd = 2 by omega) c)
  refine LoadAt.mk 0 _ _ rfl rfl ?_
  refine bcond_dec (fun c2 => ?_) (fun c2 => ?_)
  · have c2 : (↑l.length : Int) = 0 := c2
    exact .drop 0 1 (.done (DoR.win (l' := l) (off := off) ((doP_D hk).trans (congrArg (Prod.mk l) (decide_eq_true (by omega)))) rfl rfl h h2))
  · have c2 : ¬ ((↑l.length : Int) = 0) := c2
    exact .drop 0 1 (.done (DoR.win (l' := l) (off := off) ((doP_D hk).trans (congrArg (Prod.mk l) (decide_eq_false (by omega)))) rfl rfl h h2))
theorem aDoE (R who kd n bg en : Int) (hk : kd = 2 ∧ ¬ en = 0) (b off : Nat) (all : List AV) (l : List Int) (h : (all.drop off).take (l.length * 1) = inC l) (h2 : off + l.length * 1 ≤ all.length) (hl : l.length ≤ 1000000) (σ : Hp) : ACalls Try.prog 79 [.mref b off l.length 1, .int .i64 R, .agg (opC ⟨who, kd, n, bg, en, true⟩)] ((b, all) :: σ) (DoR R l ⟨who, kd, n, bg, en, true⟩ σ) := by
  refine okF Try.func79 (by kernel_rfl) ?_
  intro bl1
  refine LoadAt.mk 0 _ _ rfl rfl ?_
  refine bcond_dec (fun c => absurd c (show ¬ kd = 1 by omega)) (fun _ => ?_)
  refine LoadAt.mk 0 _ _ rfl rfl ?_
  refine bcond_dec (fun c => absurd c (show ¬ kd = 1 by omega)) (fun _ => ?_)
  refine LoadAt.mk 0 _ _ rfl rfl ?_
  refine bcond_dec (fun _ => ?_) (fun c => absurd (show kd = 2 by omega) c)
  refine LoadAt.mk 0 _ _ rfl rfl ?_
  refine bcond_dec (fun c => absurd c (show ¬ en = 0 by omega)) (fun _ => ?_)
  refine LoadAt.mk 0 _ _ rfl rfl ?_
  refine bcond_dec (fun _ => ?_) (fun c => absurd (show kd = 2 by omega) c)
  refine LoadAt.mk 0 _ _ rfl rfl ?_
  refine LoadAt.mk 0 _ _ rfl rfl ?_
  refine bcond_dec (fun _ => ?_) (fun c => absurd (show kd = 2 by omega) c)
  refine .quiet (by kernel_rfl) ?_
  refine With.mk (mxL_with (n := l.length) hl) ?_
  refine bcond_dec (fun c1 => ?_) (fun c1 => ?_)
  · have c1 : 0 < (↑l.length : Int) := c1
    refine With.mk (xmL_with (n := l.length) hl (by omega)) ?_
    refine LoadAt.mk 1 _ _ rfl (win_rdm rfl h hl (by omega)) ?_
    refine LoadAt.mk 0 _ _ rfl rfl ?_
    refine bcond_dec (fun c1 => ?_) (fun c1 => ?_)
    · have c1 : l.getD (l.length - 1) 0 = n := c1
      exact .drop 0 1 (.done (DoR.win (l' := l.take (l.length - 1)) (off := off) ((doP_E hk).trans (congrArg (Prod.mk (l.take (l.length - 1))) (by rw [decide_eq_true (show 0 < l.length by omega), decide_eq_true c1]; rfl))) (mx_x off) (mx_y l hl) (win_take h) (by rw [List.length_take]; omega)))
    · have c1 : ¬ (l.getD (l.length - 1) 0 = n) := c1
      exact .drop 0 1 (.done (DoR.win (l' := l.take (l.length - 1)) (off := off) ((doP_E hk).trans (congrArg (Prod.mk (l.take (l.length - 1))) (by rw [decide_eq_true (show 0 < l.length by omega), decide_eq_false c1]; rfl))) (mx_x off) (mx_y l hl) (win_take h) (by rw [List.length_take]; omega)))
  · have c1 : ¬ (0 < (↑l.length : Int)) := c1
    exact .drop 0 1 (.done (DoR.win (l' := l.take (l.length - 1)) (off := off) ((doP_E hk).trans (congrArg (Prod.mk (l.take (l.length - 1))) (by rw [decide_eq_false (show ¬ 0 < l.length by omega)]; rfl))) (mx_x off) (mx_y l hl) (win_take h) (by rw [List.length_take]; omega)))
theorem aDoF (R who kd n bg en : Int) (hk : kd = 3) (b off : Nat) (all : List AV) (l : List Int) (h : (all.drop off).take (l.length * 1) = inC l) (h2 : off + l.length * 1 ≤ all.length) (_hl : l.length ≤ 1000000) (σ : Hp) : ACalls Try.prog 79 [.mref b off l.length 1, .int .i64 R, .agg (opC ⟨who, kd, n, bg, en, false⟩)] ((b, all) :: σ) (DoR R l ⟨who, kd, n, bg, en, false⟩ σ) := by
  refine okF Try.func79 (by kernel_rfl) ?_
  intro bl1
  refine LoadAt.mk 0 _ _ rfl rfl ?_
  refine bcond_dec (fun c => absurd c (show ¬ kd = 1 by omega)) (fun _ => ?_)
  refine LoadAt.mk 0 _ _ rfl rfl ?_
  refine bcond_dec (fun c => absurd c (show ¬ kd = 1 by omega)) (fun _ => ?_)
  refine LoadAt.mk 0 _ _ rfl rfl ?_
  refine bcond_dec (fun c => absurd c (show ¬ kd = 2 by omega)) (fun _ => ?_)
  refine LoadAt.mk 0 _ _ rfl rfl ?_
  refine bcond_dec (fun c => absurd c (show ¬ kd = 2 by omega)) (fun _ => ?_)
  refine LoadAt.mk 0 _ _ rfl rfl ?_
  refine bcond_dec (fun c => absurd c (show ¬ kd = 2 by omega)) (fun _ => ?_)
  refine LoadAt.mk 0 _ _ rfl rfl ?_
  refine bcond_dec (fun _ => ?_) (fun c => absurd (show kd = 3 by omega) c)
  refine LoadAt.mk 0 _ _ rfl rfl ?_
  exact .drop 0 1 (.done (DoR.win (l' := l) (off := off) (by simp [doP, hk]; try omega) rfl rfl h h2))
theorem aDoF0 (R who kd n bg en : Int) (hk : kd = 3 ∧ en = 0) (b off : Nat) (all : List AV) (l : List Int) (h : (all.drop off).take (l.length * 1) = inC l) (h2 : off + l.length * 1 ≤ all.length) (_hl : l.length ≤ 1000000) (σ : Hp) : ACalls Try.prog 79 [.mref b off l.length 1, .int .i64 R, .agg (opC ⟨who, kd, n, bg, en, true⟩)] ((b, all) :: σ) (DoR R l ⟨who, kd, n, bg, en, true⟩ σ) := by
  refine okF Try.func79 (by kernel_rfl) ?_
  intro bl1
  refine LoadAt.mk 0 _ _ rfl rfl ?_
  refine bcond_dec (fun c => absurd c (show ¬ kd = 1 by omega)) (fun _ => ?_)
  refine LoadAt.mk 0 _ _ rfl rfl ?_
  refine bcond_dec (fun c => absurd c (show ¬ kd = 1 by omega)) (fun _ => ?_)
  refine LoadAt.mk 0 _ _ rfl rfl ?_
  refine bcond_dec (fun c => absurd c (show ¬ kd = 2 by omega)) (fun _ => ?_)
  refine LoadAt.mk 0 _ _ rfl rfl ?_
  refine bcond_dec (fun c => absurd c (show ¬ kd = 2 by omega)) (fun _ => ?_)
  refine LoadAt.mk 0 _ _ rfl rfl ?_
  refine bcond_dec (fun c => absurd c (show ¬ kd = 2 by omega)) (fun _ => ?_)
  refine LoadAt.mk 0 _ _ rfl rfl ?_
  refine bcond_dec (fun _ => ?_) (fun c => absurd (show kd = 3 by omega) c)
  refine LoadAt.mk 0 _ _ rfl rfl ?_
  refine LoadAt.mk 0 _ _ rfl rfl ?_
  refine bcond_dec (fun _ => ?_) (fun c => absurd (show en = 0 by omega) c)
  exact .drop 0 1 (.done (DoR.win (l' := l) (off := off) (by simp [doP, hk]; try omega) rfl rfl h h2))
theorem aDoG (R who kd n bg en : Int) (hk : kd = 3 ∧ ¬ en = 0) (b off : Nat) (all : List AV) (l : List Int) (h : (all.drop off).take (l.length * 1) = inC l) (h2 : off + l.length * 1 ≤ all.length) (hl : l.length ≤ 1000000) (σ : Hp) : ACalls Try.prog 79 [.mref b off l.length 1, .int .i64 R, .agg (opC ⟨who, kd, n, bg, en, true⟩)] ((b, all) :: σ) (DoR R l ⟨who, kd, n, bg, en, true⟩ σ) := by
  refine okF Try.func79 (by kernel_rfl) ?_
  intro bl1
  refine LoadAt.mk 0 _ _ rfl rfl ?_
  refine bcond_dec (fun c => absurd c (show ¬ kd = 1 by omega)) (fun _ => ?_)
  refine LoadAt.mk 0 _ _ rfl rfl ?_
  refine bcond_dec (fun c => absurd c (show ¬ kd = 1 by omega)) (fun _ => ?_)
  refine LoadAt.mk 0 _ _ rfl rfl ?_
  refine bcond_dec (fun c => absurd c (show ¬ kd = 2 by omega)) (fun _ => ?_)
  refine LoadAt.mk 0 _ _ rfl rfl ?_
  refine bcond_dec (fun c => absurd c (show ¬ kd = 2 by omega)) (fun _ => ?_)
  refine LoadAt.mk 0 _ _ rfl rfl ?_
  refine bcond_dec (fun c => absurd c (show ¬ kd = 2 by omega)) (fun _ => ?_)
  refine LoadAt.mk 0 _ _ rfl rfl ?_
  refine bcond_dec (fun _ => ?_) (fun c => absurd (show kd = 3 by omega) c)
  refine LoadAt.mk 0 _ _ rfl rfl ?_
  refine LoadAt.mk 0 _ _ rfl rfl ?_
  refine bcond_dec (fun c => absurd c (show ¬ en = 0 by omega)) (fun _ => ?_)
  refine LoadAt.mk 0 _ _ rfl rfl ?_
  refine bcond_dec (fun _ => ?_) (fun c => absurd (show kd = 3 by omega) c)
  refine .quiet (by kernel_rfl) ?_
  refine With.mk ⟨by omega, by omega, by omega, rfl⟩ ?_
  refine bcond_dec (fun c2 => ?_) (fun c2 => ?_)
  · have c2 : 0 < (↑l.length : Int) := c2
    refine With.mk ⟨rfl, by omega, by omega⟩ ?_
    refine LoadAt.mk 1 _ _ rfl (win_rd (j := 0) rfl h (by omega)) ?_
    refine LoadAt.mk 0 _ _ rfl rfl ?_
    refine bcond_dec (fun c1 => ?_) (fun c1 => ?_)
    · have c1 : l.getD 0 0 = n := c1
      exact .drop 0 1 (.done (DoR.win (l' := l.drop 1) (off := off + min l.length 1) ((doP_G hk).trans (congrArg (Prod.mk (l.drop 1)) (by rw [decide_eq_true (show 0 < l.length by omega), decide_eq_true c1]; rfl))) (mn_x off l.length) (mn_y l) (win_dropm h) (by rw [List.length_drop]; omega)))
    · have c1 : ¬ (l.getD 0 0 = n) := c1
      exact .drop 0 1 (.done (DoR.win (l' := l.drop 1) (off := off + min l.length 1) ((doP_G hk).trans (congrArg (Prod.mk (l.drop 1)) (by rw [decide_eq_true (show 0 < l.length by omega), decide_eq_false c1]; rfl))) (mn_x off l.length) (mn_y l) (win_dropm h) (by rw [List.length_drop]; omega)))
  · have c2 : ¬ (0 < (↑l.length : Int)) := c2
    exact .drop 0 1 (.done (DoR.win (l' := l.drop 1) (off := off + min l.length 1) ((doP_G hk).trans (congrArg (Prod.mk (l.drop 1)) (by rw [decide_eq_false (show ¬ 0 < l.length by omega)]; rfl))) (mn_x off l.length) (mn_y l) (win_dropm h) (by rw [List.length_drop]; omega)))
theorem aDoH (R who kd n bg en : Int) (ok : Bool) (hk : ¬ kd = 1 ∧ ¬ kd = 2 ∧ ¬ kd = 3) (b off : Nat) (all : List AV) (l : List Int) (h : (all.drop off).take (l.length * 1) = inC l) (h2 : off + l.length * 1 ≤ all.length) (_hl : l.length ≤ 1000000) (σ : Hp) : ACalls Try.prog 79 [.mref b off l.length 1, .int .i64 R, .agg (opC ⟨who, kd, n, bg, en, ok⟩)] ((b, all) :: σ) (DoR R l ⟨who, kd, n, bg, en, ok⟩ σ) := by
  refine okF Try.func79 (by kernel_rfl) ?_
  intro bl1
  refine LoadAt.mk 0 _ _ rfl rfl ?_
  refine bcond_dec (fun c => absurd c (show ¬ kd = 1 by omega)) (fun _ => ?_)
  refine LoadAt.mk 0 _ _ rfl rfl ?_
  refine bcond_dec (fun c => absurd c (show ¬ kd = 1 by omega)) (fun _ => ?_)
  refine LoadAt.mk 0 _ _ rfl rfl ?_
  refine bcond_dec (fun c => absurd c (show ¬ kd = 2 by omega)) (fun _ => ?_)
  refine LoadAt.mk 0 _ _ rfl rfl ?_
  refine bcond_dec (fun c => absurd c (show ¬ kd = 2 by omega)) (fun _ => ?_)
  refine LoadAt.mk 0 _ _ rfl rfl ?_
  refine bcond_dec (fun c => absurd c (show ¬ kd = 2 by omega)) (fun _ => ?_)
  refine LoadAt.mk 0 _ _ rfl rfl ?_
  refine bcond_dec (fun c => absurd c (show ¬ kd = 3 by omega)) (fun _ => ?_)
  refine LoadAt.mk 0 _ _ rfl rfl ?_
  refine bcond_dec (fun c => absurd c (show ¬ kd = 3 by omega)) (fun _ => ?_)
  exact .drop 0 1 (.done (DoR.win (l' := l) (off := off) (by simp [doP, hk]; try omega) rfl rfl h h2))
theorem aDoM (R : Int) (o : OpR) (b off : Nat) (all : List AV) (l : List Int) (h : (all.drop off).take (l.length * 1) = inC l) (h2 : off + l.length * 1 ≤ all.length) (hl : l.length ≤ 1000000) (σ : Hp) : ACalls Try.prog 79 [.mref b off l.length 1, .int .i64 R, .agg (opC o)] ((b, all) :: σ) (DoR R l o σ) := by
  obtain ⟨who, kd, n, bg, en, ok⟩ := o
  by_cases h1 : kd = 1
  · by_cases he : 0 < en
    · cases ok
      · exact aDoA R who kd n bg en ⟨h1, he⟩ b off all l h h2 hl σ
      · exact aDoB R who kd n bg en h1 b off all l h h2 hl σ
    · cases ok
      · exact aDoB0 R who kd n bg en ⟨h1, he⟩ b off all l h h2 hl σ
      · exact aDoB R who kd n bg en h1 b off all l h h2 hl σ
  · by_cases h3 : kd = 2
    · by_cases he : en = 0
      · exact aDoC R who kd n bg en ok ⟨h3, he⟩ b off all l h h2 hl σ
      · cases ok
        · exact aDoD R who kd n bg en ⟨h3, he⟩ b off all l h h2 hl σ
        · exact aDoE R who kd n bg en ⟨h3, he⟩ b off all l h h2 hl σ
    · by_cases h4 : kd = 3
      · cases ok
        · exact aDoF R who kd n bg en h4 b off all l h h2 hl σ
        · by_cases he : en = 0
          · exact aDoF0 R who kd n bg en ⟨h4, he⟩ b off all l h h2 hl σ
          · exact aDoG R who kd n bg en ⟨h4, he⟩ b off all l h h2 hl σ
      · exact aDoH R who kd n bg en ok ⟨h1, h3, h4⟩ b off all l h h2 hl σ
end Go.Proofs.Ytacacplipaeokaa
