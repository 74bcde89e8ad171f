/-
  soughlaw27: finish; the walk of DequeList.
-/
import Derived.Test.YtiihcgmnmcdcfaaDqlp
import Derived.Test.YtiihcgmnmcdcfaaDqp
import Derived.Test.YtiihcgmnmcdcfaaSonce
namespace Go.Proofs.Ytiihcgmnmcdcfaa
open Go.RowKit
set_option maxRecDepth 100000
set_option maxHeartbeats 4000000
theorem mPush_ : Meth Try.prog 51 "Step" 75 := fun a w => by kernel_rfl
theorem mPop_ : Meth Try.prog 57 "Step" 180 := fun a w => by kernel_rfl
theorem mSteal_ : Meth Try.prog 59 "Step" 181 := fun a w => by kernel_rfl
theorem aFinishD (T : TypeId) (g : FuncId) (hM : Meth Try.prog T "Step" g) (kk : Int) (p q r : Nat)
    (hS : ∀ (x : DQ) (ws : List Int) (σ : Hp), x.good → ∀ {x' : DQ} {ws' : List Int} {b : Bool}, dqStep kk listOps x ws = (x', ws', b) → ACalls Try.prog g [.ptr r 0, plI p, .int .i64 0] ((r, dqC x) :: plH p q ws σ) (Ret (.bool b) ((r, dqC x') :: plH p q ws' σ)))
    (x0 : DQ) (ws0 : List Int) (σ : Hp) (hx : x0.good) (hw : NN ws0) (ho : okE kk x0) : ACalls Try.prog 28 [.iface T (.ptr r 0), .ptr p 0] ((r, dqC x0) :: plH p q ws0 σ) (Ret (.tup []) ((r, dqC (iterD kk 7 (x0, ws0)).1) :: plH p q (iterD kk 7 (x0, ws0)).2 σ)) := by
  refine okF Try.func28 (by kernel_rfl) ?_
  refine loopS (S := Nat × DQ × List Int) (fun s => [(0, .iface T (.ptr r 0)), (1, .ptr p 0), (4, .int .i64 s.1)]) (fun s => (r, dqC s.2.1) :: plH p q s.2.2 σ) (fun s => s.1 ≤ 7 ∧ s.2.1.good ∧ NN s.2.2 ∧ okE kk s.2.1 ∧ iterD kk (7 - s.1) (s.2.1, s.2.2) = iterD kk 7 (x0, ws0)) (fun s => 7 - s.1) (0, x0, ws0) ⟨⟨Nat.zero_le _, hx, hw, ho, rfl⟩, ⟨rfl, rfl, rfl, trivial⟩, rfl⟩ ?_
  rintro ⟨k, x, ws⟩ g' ⟨hk, hx, hw, ho, hi⟩
  have hk : k ≤ 7 := hk
  have hx : x.good := hx
  have hw : NN ws := hw
  have ho : okE kk x := ho
  have hi : iterD kk (7 - k) (x, ws) = iterD kk 7 (x0, ws0) := hi
  refine bcond_dec (fun c1 => ?_) (fun c1 => ?_)
  · have c1 : (k : Int) < 7 := c1
    obtain ⟨x', ws', b, hst⟩ : ∃ x' ws' b, dqStep kk listOps x ws = (x', ws', b) := ⟨_, _, _, rfl⟩
    obtain ⟨g1, g2, g3, g4⟩ := dq_keeps hx hw ho hst
    refine InvAt.mk g hM ?_
    refine callR [] (hS x ws σ hx hst) ?_
    refine nextS (k + 1, x', ws') ?_ ⟨by show k + 1 ≤ 7; omega, g1, g2, g4, ?_⟩ ⟨rfl, rfl, inc64 (by omega), trivial⟩ (shed_eq rfl)
    · show 7 - (k + 1) < 7 - k; omega
    · rw [← hi]
      show iterD kk (7 - (k + 1)) (x', ws') = iterD kk (7 - k) (x, ws)
      rw [show 7 - k = (7 - (k + 1)) + 1 by omega, iter_next hst]
  · have c1 : ¬ (k : Int) < 7 := c1
    obtain rfl : k = 7 := by omega
    rw [← hi]
    exact .done ⟨rfl, rfl⟩
theorem accO_at {off : Nat} {all : List AV} {l : List Int} (h : (all.drop off).take (l.length * 1) = woC l) {k : Nat} (hk : k < l.length) : all[off + k * 1]? = some (.int .u64 (l.getD k 0)) := by
  have e := congrArg (fun x => x[k]?) h
  simp only [List.getElem?_take, List.getElem?_drop] at e
  rw [if_pos (by omega)] at e
  rw [Nat.mul_one, e]
  unfold woC
  rw [List.getElem?_map, List.getElem?_eq_getElem hk, List.getD_eq_getElem?_getD, List.getElem?_eq_getElem hk]
  rfl
theorem accO_read {off : Nat} {all : List AV} {l : List Int} (h : (all.drop off).take (l.length * 1) = woC l) {k : Nat} (hk : k < l.length) {n : Int} (hn : n = k) : readAs ⟨.int .u64, 1, 8, [.int .u64 0]⟩ all (off + n.toNat * 1) = some (.int .u64 (l.getD k 0)) := by
  subst hn
  exact accO_at h hk
theorem accO_cut {off : Nat} {all : List AV} {l : List Int} (h : (all.drop off).take (l.length * 1) = woC l) (h2 : off + l.length * 1 ≤ all.length) (b : Nat) {lo hi : Int} {a n : Nat} (hlo : lo = a) (hhi : hi = (a + n : Nat)) (hn : a + n ≤ l.length) : AccO 1 n (.mref b (off + lo.toNat * 1) (hi.toNat - lo.toNat) 1) [(b, all)] (woC ((l.drop a).take n)) := by
  subst hlo hhi
  have e : ((a + n : Nat) : Int).toNat - ((a : Nat) : Int).toNat = n := by omega
  rw [e]
  have e2 : off + ((a : Nat) : Int).toNat * 1 = off + a := by omega
  rw [e2]
  refine .mref b _ n _ _ ?_ (by omega)
  have := congrArg (fun x => (x.drop a).take n) h
  simp only [List.drop_take, List.drop_drop, List.take_take] at this
  rw [show min n (l.length * 1 - a) = n * 1 by omega] at this
  rw [this]
  unfold woC
  rw [List.map_take, List.map_drop]
theorem same10o (xs ys : List Int) (b off : Nat) (all : List AV) (σ : Hp) (h1 : xs.length ≤ 1000000) (h : (all.drop off).take (ys.length * 1) = woC ys) : ACalls Try.prog 20 [.fsl (.int .u64) xs, .mref b off ys.length 1] ((b, all) :: σ) (Ret (.bool (decide (xs = ys))) ((b, all) :: σ)) := by
  refine okF Try.func20 (by kernel_rfl) ?_
  refine bcond_split (fun hl => ?_) (fun hl => ?_)
  · have : xs ≠ ys := by rintro rfl; simp at hl; exact hl rfl
    exact .done ⟨av_bool (by simp [this]), rfl⟩
  · have hl : (!decide ((xs.length : Int) = (ys.length : Int))) = false := hl
    have hlen : xs.length = ys.length := by simp at hl; omega
    refine loopS (S := Nat) (fun k => [(0, .fsl (.int .u64) xs), (1, .mref b off ys.length 1), (12, .int .i64 xs.length), (13, .int .i64 k)]) (fun _ => (b, all) :: σ) (fun k => k ≤ xs.length ∧ xs.take k = ys.take k) (fun k => xs.length - k) 0 ⟨⟨Nat.zero_le _, rfl⟩, ⟨rfl, rfl, rfl, rfl, trivial⟩, rfl⟩ ?_
    rintro k g ⟨hk, htk⟩
    refine bcond_dec (fun hlt => ?_) (fun hge => ?_)
    · have hlt : (k : Int) < xs.length := hlt
      have hk' : k < xs.length := by omega
      have hk'' : k < ys.length := by omega
      refine DrawW.quiet (by kernel_rfl) ?_
      refine With.mk rfl (IdxF.mk xs[k] (by omega) (get_some hk') ?_)
      refine With.mk ⟨rfl, by omega, by omega⟩ ?_
      refine LoadAt.mk 0 _ _ rfl (accO_read h hk'' rfl) ?_
      have e : ys.getD k 0 = ys[k] := by simp [List.getD, hk'']
      refine bcond_split (fun hx => ?_) (fun hx => ?_)
      · rw [e] at hx
        have : xs ≠ ys := by rintro rfl; exact absurd hx (by simp)
        exact .done ⟨av_bool (by simp [this]), rfl⟩
      · rw [e] at hx
        have hx' : xs[k] = ys[k] := by simpa using hx
        refine next (k + 1) (Nat.sub_lt_sub_left hk' (Nat.lt_succ_self k)) ⟨hk', ?_⟩ ⟨rfl, rfl, rfl, inc64 (by omega), trivial⟩ rfl
        rw [List.take_succ_eq_append_getElem hk', List.take_succ_eq_append_getElem hk'', htk, hx']
    · have hge : ¬ (k : Int) < xs.length := hge
      obtain rfl : k = xs.length := by omega
      have : xs = ys := by
        rw [List.take_length] at htk
        rw [htk, hlen, List.take_length]
      exact .done ⟨av_bool (by simp [this]), rfl⟩
theorem same10n (xs : List Int) (σ : Hp) : ACalls Try.prog 20 [.fsl (.int .u64) xs, .nils] σ (Ret (.bool (decide (xs = []))) σ) := by
  refine okF Try.func20 (by kernel_rfl) ?_
  refine bcond_split (fun hl => ?_) (fun hl => ?_)
  · have hl : (!decide ((xs.length : Int) = 0)) = true := hl
    have : xs ≠ [] := by rintro rfl; simp at hl
    exact .done ⟨av_bool (by simp [this]), rfl⟩
  · have hl : (!decide ((xs.length : Int) = 0)) = false := hl
    have hx : xs = [] := List.length_eq_zero_iff.1 (by simp at hl; exact List.length_eq_zero_iff.2 hl)
    subst hx
    refine loopS (S := Unit) (fun _ => [(12, .int .i64 0), (13, .int .i64 0)]) (fun _ => σ) (fun _ => True) (fun _ => 0) () ⟨trivial, ⟨rfl, rfl, trivial⟩, rfl⟩ ?_
    intro _ g _
    exact .done ⟨rfl, rfl⟩
theorem same10O {k : Nat} {v : AV} {acc : Hp} (xs ys : List Int) (fr σ : Hp) (h1 : xs.length ≤ 1000000) (h : AccO 1 k v acc (woC ys)) (hk : k = ys.length) : ACalls Try.prog 20 [.fsl (.int .u64) xs, v] (fr ++ (acc ++ σ)) (Ret (.bool (decide (xs = ys))) (fr ++ (acc ++ σ))) := by
  generalize hc : woC ys = cs at h
  cases h with
  | nil =>
    have hy : ys = [] := List.length_eq_zero_iff.1 hk.symm
    subst hy
    exact same10n xs _
  | mref b off k cs all h h2 =>
    subst hk
    refine (same10o xs ys b off all (fr ++ σ) h1 (h.trans hc.symm)).perm2 (front_perm' fr [(b, all)] σ) (front_perm' fr [(b, all)] σ).symm
theorem aWords27 (n : Int) (σ : Hp) : ACalls Try.prog 26 [.int .i64 n] σ (Ret (.int .i64 (2 + rm n : Nat)) σ) := by
  refine okF Try.func26 (by kernel_rfl) ?_
  have hr := rm_ok n
  refine callR [] (aRoom _ _) ?_
  exact .done ⟨av_int (by show IntKind.i64.wrap (2 + ((rm n : Nat) : Int)) = _; rw [IntKind.wrap_i64]; omega), rfl⟩
end Go.Proofs.Ytiihcgmnmcdcfaa
