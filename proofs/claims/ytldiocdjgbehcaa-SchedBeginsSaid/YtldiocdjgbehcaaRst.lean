/-
  soughref24: Get, Set, Done, Step, by the abstract walk; soughlaw24: instrs, same; soughref10.Same over an open row.
-/
import Derived.Test.YtldiocdjgbehcaaPstep
import Derived.Test.YtldiocdjgbehcaaSameTest
namespace Go.Proofs.Ytldiocdjgbehcaa
open Go.RowKit
set_option maxRecDepth 100000
theorem flat_take {α : Type} {f : α → List AV} {l : List α} {k : Nat} (h : k < l.length) : (l.take (k + 1)).flatMap f = (l.take k).flatMap f ++ f l[k] := by
  rw [List.take_succ_eq_append_getElem h, List.flatMap_append]; simp
theorem tmod_nat (R : Int) (m : Nat) : ∃ k : Nat, (R = k ∧ R.tmod m = ((k % m : Nat) : Int)) ∨ (R = -(k : Int) ∧ R.tmod m = -((k % m : Nat) : Int)) := by
  obtain ⟨k, h | h⟩ := R.eq_nat_or_neg
  · exact ⟨k, .inl ⟨h, by rw [h]; rfl⟩⟩
  · exact ⟨k, .inr ⟨h, by rw [h, Int.neg_tmod]; rfl⟩⟩
theorem tmod4 (R : Int) : -4 < R.tmod 4 ∧ R.tmod 4 < 4 ∧ (R.tmod 4) % 4 = R % 4 := by
  obtain ⟨k, ⟨h, e⟩ | ⟨h, e⟩⟩ := tmod_nat R 4 <;> rw [show ((4 : Nat) : Int) = 4 from rfl] at e <;> rw [e] <;> omega
theorem mod4a (R : Int) : (IntKind.i64.wrap (R.tmod 4 + 4)).tmod 4 = R % 4 := by
  obtain ⟨h1, h2, h3⟩ := tmod4 R
  rw [IntKind.wrap_i64, Int.tmod_eq_emod_of_nonneg (by omega)]
  omega

theorem aRGet (r : Nat) (l : List Ins) (s : PS) (i : Int) (σ : Hp) : ACalls Try.prog 154 [.ptr r 0, .int .i64 i] ((r, pgC l s) :: σ) (Ret (.int .u64 (s.get (i % 4))) ((r, pgC l s) :: σ)) := by
  refine okF Try.func154 (by kernel_rfl) ?_
  refine With.mk (by decide) ?_
  refine With.mk (by decide) ?_
  refine bcond_dec (fun h0 => ?_) (fun h0 => ?_)
  · rw [mod4a] at h0
    refine LoadAt.mk 0 _ _ rfl rfl ?_
    exact .done ⟨by rw [h0]; rfl, rfl⟩
  rw [mod4a] at h0
  refine bcond_dec (fun h1 => ?_) (fun h1 => ?_)
  · rw [mod4a] at h1
    refine LoadAt.mk 0 _ _ rfl rfl ?_
    exact .done ⟨by rw [h1]; rfl, rfl⟩
  rw [mod4a] at h1
  refine bcond_dec (fun h2 => ?_) (fun h2 => ?_)
  · rw [mod4a] at h2
    refine LoadAt.mk 0 _ _ rfl rfl ?_
    exact .done ⟨by rw [h2]; rfl, rfl⟩
  rw [mod4a] at h2
  refine LoadAt.mk 0 _ _ rfl rfl ?_
  exact .done ⟨by rw [show i % 4 = 3 by omega]; rfl, rfl⟩

theorem aRSet (r : Nat) (l : List Ins) (s : PS) (i x : Int) (σ : Hp) : ACalls Try.prog 155 [.ptr r 0, .int .i64 i, .int .u64 x] ((r, pgC l s) :: σ) (Ret (.tup []) ((r, pgC l (s.set (i % 4) x)) :: σ)) := by
  refine okF Try.func155 (by kernel_rfl) ?_
  refine With.mk (by decide) ?_
  refine With.mk (by decide) ?_
  refine bcond_dec (fun h0 => ?_) (fun h0 => ?_)
  · rw [mod4a] at h0
    refine StoreAt.mk 0 _ _ rfl rfl ?_
    exact .done ⟨rfl, by rw [h0]; rfl⟩
  rw [mod4a] at h0
  refine bcond_dec (fun h1 => ?_) (fun h1 => ?_)
  · rw [mod4a] at h1
    refine StoreAt.mk 0 _ _ rfl rfl ?_
    exact .done ⟨rfl, by rw [h1]; rfl⟩
  rw [mod4a] at h1
  refine bcond_dec (fun h2 => ?_) (fun h2 => ?_)
  · rw [mod4a] at h2
    refine StoreAt.mk 0 _ _ rfl rfl ?_
    exact .done ⟨rfl, by rw [h2]; rfl⟩
  rw [mod4a] at h2
  refine StoreAt.mk 0 _ _ rfl rfl ?_
  exact .done ⟨rfl, by rw [show i % 4 = 3 by omega]; rfl⟩

theorem aRDone (r : Nat) (l : List Ins) (s : PS) (σ : Hp) : ACalls Try.prog 153 [.ptr r 0] ((r, pgC l s) :: σ) (Ret (.bool (psDone l s.at_)) ((r, pgC l s) :: σ)) := by
  refine okF Try.func153 (by kernel_rfl) ?_
  refine .quiet (by kernel_rfl) ?_
  refine LoadAt.mk 0 _ _ rfl rfl ?_
  refine bcond_dec (fun h0 => ?_) (fun h0 => ?_)
  · exact .done ⟨av_bool (by simp [psDone, h0]), rfl⟩
  refine LoadAt.mk 0 _ _ rfl rfl ?_
  refine LoadAt.mk 0 _ _ rfl rfl ?_
  refine bcond_dec (fun h1 => ?_) (fun h1 => ?_)
  · have h1 : (l.length : Int) ≤ s.at_ := h1
    exact .done ⟨av_bool (by simp [psDone, h1]), rfl⟩
  have h1 : ¬ (l.length : Int) ≤ s.at_ := h1
  refine LoadAt.mk 0 _ _ rfl rfl ?_
  refine LoadAt.mk 0 _ _ rfl rfl ?_
  have hlt : s.at_.toNat < l.length := by omega
  refine With.mk rfl (IdxF.mk l[s.at_.toNat] (by omega) (List.getElem?_eq_getElem hlt) ?_)
  refine bcond_dec (fun h2 => ?_) (fun h2 => ?_)
  · have h2 : (l[s.at_.toNat]).1 = 0 := h2
    exact .done ⟨av_bool (by simp [psDone, hlt, h2]), rfl⟩
  · have h2 : ¬ (l[s.at_.toNat]).1 = 0 := h2
    exact .done ⟨av_bool (by simp [psDone, hlt, h0, h1, h2]), rfl⟩

/-- soughlaw24.instrs: the same instructions. -/
theorem aInstrs (l : List Ins) (σ : Hp) (hl : l.length ≤ 1000) : ACalls Try.prog 63 [.fsl instrSh l] σ (Ret (.fsl instrSh l) σ) := by
  refine okF Try.func63 (by kernel_rfl) ?_
  refine .wrap 3 _ rfl rfl ?_
  refine loopS (S := Nat × AV × Hp) (fun s => [(3, .via s.2.1), (6, .fsl instrSh l), (7, .int .i64 l.length), (8, .int .i64 s.1)]) (fun s => s.2.2 ++ σ) (fun s => s.1 ≤ l.length ∧ Acc 4 s.1 s.2.1 s.2.2 ((l.take s.1).flatMap insC)) (fun s => l.length - s.1) (0, .nils, []) ⟨⟨Nat.zero_le _, .nil⟩, ⟨rfl, rfl, rfl, rfl, trivial⟩, rfl⟩ ?_
  rintro ⟨k, v, acc⟩ g ⟨hk, hs⟩
  have hk : k ≤ l.length := hk
  have hs : Acc 4 k v acc ((l.take k).flatMap insC) := hs
  refine bcond_dec (fun hlt => ?_) (fun hge => ?_)
  · have hlt : (k : Int) < l.length := hlt
    have hlt : k < l.length := by omega
    refine With.mk rfl (IdxF.mk l[k] (by omega) (get_some hlt) ?_)
    intro b
    refine StoreAt.mk 0 _ _ rfl rfl ?_
    refine LoadAt.mk 0 _ _ rfl rfl ?_
    refine LoadAt.mk 0 _ _ rfl rfl ?_
    refine LoadAt.mk 0 _ _ rfl rfl ?_
    refine LoadAt.mk 0 _ _ rfl rfl ?_
    intro b1
    refine append_acc [_, _] hs (.mref 0 b1 0 1 _ rfl (Nat.le_of_ble_eq_true rfl)) rfl (by omega) (by decide) (by decide) (fun v' acc' h' => ?_)
    refine nextS (k + 1, v', acc') ?_ ⟨hlt, ?_⟩ ⟨rfl, rfl, rfl, inc64 (by omega), trivial⟩ (.drop 0 2 (shed_eq rfl))
    · show l.length - (k + 1) < l.length - k; omega
    · show Acc 4 (k + 1) v' acc' ((l.take (k + 1)).flatMap insC)
      rw [flat_take hlt]; exact h'
  · have hge : ¬ (k : Int) < l.length := hge
    obtain rfl : k = l.length := by omega
    rw [List.take_length] at hs
    exact fin_acc (s := instrSh) [] hs rfl rfl (by decide) (.done ⟨rfl, rfl⟩)

/-- soughref10.Same, of a list and an open row. -/
theorem same10m (xs ys : List Int) (q : Nat) (σ : Hp) (h1 : xs.length ≤ 1000000) : ACalls Try.prog 36 [.fsl (.int .u64) xs, .mref q 0 ys.length 1] ((q, woC ys) :: σ) (Ret (.bool (decide (xs = ys))) ((q, woC ys) :: σ)) := by
  refine okF Try.func36 (by kernel_rfl) ?_
  refine bcond_split (fun hl => ?_) (fun hl => ?_)
  · have : xs ≠ ys := by rintro rfl; simp at hl; exact hl rfl
    exact .done ⟨av_bool (by simp [this]), rfl⟩
  · have hl : (!decide ((xs.length : Int) = (ys.length : Int))) = false := hl
    have hlen : xs.length = ys.length := by simp at hl; omega
    refine loopS (S := Nat) (fun k => [(0, .fsl (.int .u64) xs), (1, .mref q 0 ys.length 1), (12, .int .i64 xs.length), (13, .int .i64 k)]) (fun _ => (q, woC ys) :: σ) (fun k => k ≤ xs.length ∧ xs.take k = ys.take k) (fun k => xs.length - k) 0 ⟨⟨Nat.zero_le _, rfl⟩, ⟨rfl, rfl, rfl, rfl, trivial⟩, rfl⟩ ?_
    rintro k g ⟨hk, htk⟩
    refine bcond_dec (fun hlt => ?_) (fun hge => ?_)
    · have hlt : (k : Int) < xs.length := hlt
      have hk' : k < xs.length := by omega
      have hk'' : k < ys.length := by omega
      refine DrawW.quiet (by kernel_rfl) ?_
      refine With.mk rfl (IdxF.mk xs[k] (by omega) (get_some hk') ?_)
      refine With.mk ⟨rfl, by omega, by omega⟩ ?_
      refine LoadAt.mk 0 _ _ rfl (woC_get hk'') ?_
      have e : ys.getD k 0 = ys[k] := by simp [List.getD, hk'']
      refine bcond_split (fun hx => ?_) (fun hx => ?_)
      · rw [e] at hx
        have : xs ≠ ys := by rintro rfl; exact absurd hx (by simp)
        exact .done ⟨av_bool (by simp [this]), rfl⟩
      · rw [e] at hx
        have hx' : xs[k] = ys[k] := by simpa using hx
        refine next (k + 1) (Nat.sub_lt_sub_left hk' (Nat.lt_succ_self k)) ⟨hk', ?_⟩ ⟨rfl, rfl, rfl, inc64 (by omega), trivial⟩ rfl
        rw [List.take_succ_eq_append_getElem hk', List.take_succ_eq_append_getElem hk'', htk, hx']
    · have hge : ¬ (k : Int) < xs.length := hge
      obtain rfl : k = xs.length := by omega
      have : xs = ys := by
        rw [List.take_length] at htk
        rw [htk, hlen, List.take_length]
      exact .done ⟨av_bool (by simp [this]), rfl⟩
end Go.Proofs.Ytldiocdjgbehcaa
