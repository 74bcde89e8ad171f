/-
  soughref24: Get, Set, Done, Step, by the abstract walk; soughlaw24: instrs, same; soughref10.Same over an open row.
-/
import Derived.Test.YtphifpfndhfdfaaPstep
import Derived.Test.YtphifpfndhfdfaaSameTest
namespace Go.Proofs.Ytphifpfndhfdfaa
open Go.RowKit
set_option maxRecDepth 100000
theorem flat_take {α : Type} {f : α → List AV} {l : List α} {k : Nat} (h : k < l.length) : (l.take (k + 1)).flatMap f = (l.take k).flatMap f ++ f l[k] := by
  rw [List.take_succ_eq_append_getElem h, List.flatMap_append]; simp
theorem tmod_nat (R : Int) (m : Nat) : ∃ k : Nat, (R = k ∧ R.tmod m = ((k % m : Nat) : Int)) ∨ (R = -(k : Int) ∧ R.tmod m = -((k % m : Nat) : Int)) := by
  obtain ⟨k, h | h⟩ := R.eq_nat_or_neg
  · exact ⟨k, .inl ⟨h, by rw [h]; rfl⟩⟩
  · exact ⟨k, .inr ⟨h, by rw [h, Int.neg_tmod]; rfl⟩⟩
theorem tmod4 (R : Int) : -4 < R.tmod 4 ∧ R.tmod 4 < 4 ∧ (R.tmod 4) % 4 = R % 4 := by
  obtain ⟨k, ⟨h, e⟩ | ⟨h, e⟩⟩ := tmod_nat R 4 <;> rw [show ((4 : Nat) : Int) = 4 from rfl] at e <;> rw [e] <;> omega
theorem mod4a (R : Int) : (IntKind.i64.wrap (R.tmod 4 + 4)).tmod 4 = R % 4 := by
  obtain ⟨h1, h2, h3⟩ := tmod4 R
  rw [IntKind.wrap_i64, Int.tmod_eq_emod_of_nonneg (by omega)]
  omega

/-- soughref10.Same, of a list and an open row. -/
theorem same10m (xs ys : List Int) (q : Nat) (σ : Hp) (h1 : xs.length ≤ 1000000) : ACalls Try.prog 18 [.fsl (.int .u64) xs, .mref q 0 ys.length 1] ((q, woC ys) :: σ) (Ret (.bool (decide (xs = ys))) ((q, woC ys) :: σ)) := by
  refine okF Try.func18 (by kernel_rfl) ?_
  refine bcond_split (fun hl => ?_) (fun hl => ?_)
  · have : xs ≠ ys := by rintro rfl; simp at hl; exact hl rfl
    exact .done ⟨av_bool (by simp [this]), rfl⟩
  · have hl : (!decide ((xs.length : Int) = (ys.length : Int))) = false := hl
    have hlen : xs.length = ys.length := by simp at hl; omega
    refine loopS (S := Nat) (fun k => [(0, .fsl (.int .u64) xs), (1, .mref q 0 ys.length 1), (12, .int .i64 xs.length), (13, .int .i64 k)]) (fun _ => (q, woC ys) :: σ) (fun k => k ≤ xs.length ∧ xs.take k = ys.take k) (fun k => xs.length - k) 0 ⟨⟨Nat.zero_le _, rfl⟩, ⟨rfl, rfl, rfl, rfl, trivial⟩, rfl⟩ ?_
    rintro k g ⟨hk, htk⟩
    refine bcond_dec (fun hlt => ?_) (fun hge => ?_)
    · have hlt : (k : Int) < xs.length := hlt
      have hk' : k < xs.length := by omega
      have hk'' : k < ys.length := by omega
      refine DrawW.quiet (by kernel_rfl) ?_
      refine With.mk rfl (IdxF.mk xs[k] (by omega) (get_some hk') ?_)
      refine With.mk ⟨rfl, by omega, by omega⟩ ?_
      refine LoadAt.mk 0 _ _ rfl (woC_get hk'') ?_
      have e : ys.getD k 0 = ys[k] := by simp [List.getD, hk'']
      refine bcond_split (fun hx => ?_) (fun hx => ?_)
      · rw [e] at hx
        have : xs ≠ ys := by rintro rfl; exact absurd hx (by simp)
        exact .done ⟨av_bool (by simp [this]), rfl⟩
      · rw [e] at hx
        have hx' : xs[k] = ys[k] := by simpa using hx
        refine next (k + 1) (Nat.sub_lt_sub_left hk' (Nat.lt_succ_self k)) ⟨hk', ?_⟩ ⟨rfl, rfl, rfl, inc64 (by omega), trivial⟩ rfl
        rw [List.take_succ_eq_append_getElem hk', List.take_succ_eq_append_getElem hk'', htk, hx']
    · have hge : ¬ (k : Int) < xs.length := hge
      obtain rfl : k = xs.length := by omega
      have : xs = ys := by
        rw [List.take_length] at htk
        rw [htk, hlen, List.take_length]
      exact .done ⟨av_bool (by simp [this]), rfl⟩
end Go.Proofs.Ytphifpfndhfdfaa
