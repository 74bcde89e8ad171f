/-
  mem.Or and mem.All of a Plain: its words; soughref10.Same of two slices that read as one list gives true.
-/
import Derived.Test.YtldiocdjgbehcaaMem2
namespace Go.Proofs.Ytldiocdjgbehcaa
open Go.RowKit

set_option maxHeartbeats 400000 in
set_option maxRecDepth 100000 in
theorem same10_any (v u : Value) (zs : List Int) (w : World) (hv : IntRow w .u64 v zs) (hu : IntRow w .u64 u zs) :
    Calls Try.prog 36 #[v, u] w fun e w' => e = .returned (.bool true) ∧ ∃ n, w' = w.drewN n := by
  obtain ⟨a, c, rfl, hm, ha⟩ := hv
  obtain ⟨a', c', rfl, _, ha'⟩ := hu
  unfold maxLen at hm
  by_cases hz : zs = []
  · subst hz
    clear ha ha'
    go_enter Try.func36, Try.ntmps36
    go_wp2
    refine wp_loop_rounds 1 ?_
    rw [rounds_succ]
    go_wp2
    go_ret
    exact ⟨rfl, 0, rfl⟩
  · obtain ⟨b, o, rfl, hc⟩ := ha hz
    obtain ⟨b', o', rfl, hc'⟩ := ha' hz
    clear ha ha' hz
    have HC := hid hc
    have HC' := hid hc'
    clear hc hc'
    go_enter Try.func36, Try.ntmps36
    go_wp2
    go_loopw [5, 13] (fun _ i wr => ∃ k : Nat, k ≤ zs.length ∧ i = .int .i64 k ∧ ∃ n, wr = w.drewN n) (fun _ i _ => zs.length - (intOf i).toNat)
    case atStart => exact ⟨0, Nat.zero_le _, rfl, 0, rfl⟩
    case round =>
      obtain ⟨k, hk, rfl, n, rfl⟩ := hrel
      by_cases hlt : k < zs.length
      · have h1 := HC.out k hlt
        have h2 := HC'.out k hlt
        have i1 : (k : Int) < (zs.length : Int) := by omega
        generalize zs[k] = z at *
        go_wp2
        go_quiet (fail)
        go_wp2
        go_roundw
        case rel => exact ⟨k + 1, by omega, by go_num, _, rfl⟩
        case measure => simp [intOf]; omega
      · go_wp2
        go_ret
        exact ⟨rfl, _, rfl⟩

set_option maxHeartbeats 400000 in
set_option maxRecDepth 100000 in
theorem or_any (t : Nat) (x : Value) (w : World) : Calls Try.prog 41 #[.iface t x] w fun e w' => e = .returned (.iface t x) ∧ w = w' := by
  go_enter Try.func41, Try.ntmps41
  go_wp2_with fail
  go_ret
  exact ⟨rfl, rfl⟩

/-- The first k words, as values (a name, so that the walk leaves it alone). -/
def uTake (ws : List Int) (k : Nat) : List Value := (ws.take k).map (Value.int .u64)
theorem rel_all {B k : Nat} {ws : List Int} {x : Int} {w wr w1 : World} {v v' : Value} {o : Obj} (hk : k < ws.length) (hx : x = ws.getD k 0)
    (hB : B ≤ wr.heap.size) (hown : wr.ownsRow B 32 1 v k (uTake ws k)) (hnx : Below B w wr)
    (hown' : w1.ownsRow B 32 1 v' (k + 1) (uTake ws k ++ [.int .u64 x])) (hgrow : (wr.alloc o).grownBy w1 v.ownBlock) :
    w1.ownsRow B 32 1 v' (k + 1) (uTake ws (k + 1)) ∧ Below B w w1 := by
  refine ⟨?_, (hnx.alloc hB o).grown hgrow (by simp; omega) (fun j hj => (hown.lt j hj).1)⟩
  unfold uTake at *
  rw [List.take_succ_eq_append_getElem hk, List.map_append]
  subst hx
  simpa [List.getD, hk] using hown'

set_option maxHeartbeats 400000 in
set_option maxRecDepth 100000 in
theorem all_any (p q : Nat) (ws : List Int) (w : World) (h : PlainAt w p q ws) :
    Calls Try.prog 37 #[.iface 28 (.pointer (some ⟨p, 0, none⟩))] w fun e w' => ∃ v, e = .returned v ∧ w'.ownsRow w.heap.size 32 1 v ws.length (ws.map (.int .u64)) ∧ Below w.heap.size w w' := by
  obtain ⟨i0, hi, hz0, hz1, hz2⟩ := info_parts infoU
  have hlen := h.2.2
  have H := hid h
  have hp := at_lt h.1
  have hq := at_lt h.2.1.1
  go_enter Try.func37, Try.ntmps37
  go_wp2_with fail
  refine (or_any _ _ _).mono ?_
  rintro e w1 ⟨rfl, rfl⟩
  go_wp2_with fail
  refine (plainLen_any p q ws _ h).mono ?_
  rintro e w1 ⟨rfl, rfl⟩
  clear h
  go_wp2_with fail
  go_loopw [3, 4, 9] (fun v _ i wr => ∃ k : Nat, k ≤ ws.length ∧ i = .int .i64 k ∧ wr.ownsRow w.heap.size 32 1 v k (uTake ws k) ∧ Below w.heap.size w wr) (fun _ _ i _ => ws.length - (intOf i).toNat)
  case atStart => exact ⟨0, Nat.zero_le _, rfl, World.ownsRow_nil _ _ _ _, Below.refl _ _⟩
  case round =>
    obtain ⟨k, hk, rfl, hown, hb⟩ := hrel
    by_cases hlt : k < ws.length
    · have hlt' : (k : Int) < (ws.length : Int) := by omega
      have hB := hb.size
      have hr : PlainAt wr p q ws := ⟨(hb.block p hp).trans H.out.1, ⟨(hb.block q hq).trans H.out.2.1.1, H.out.2.1.2⟩, hlen⟩
      have hld : mLoad ws (k : Int) = ws.getD k 0 := load_hit
      go_wp2_with fail
      refine (plainLoad_any p q ws _ _ hr).mono ?_
      rintro e w1 ⟨rfl, t1⟩
      rw [hld]
      clear hld hr
      obtain ⟨x, hx⟩ : ∃ x, x = ws.getD k 0 := ⟨_, rfl⟩
      rw [← hx]
      have HX := hid hx
      clear hx
      have hs1 := t1.size
      have hown1 : w1.ownsRow w.heap.size 32 1 u3 k (uTake ws k) := hown.kept (row := none) ⟨t1.os, t1.tape, t1.output, t1.size, fun i hi _ => t1.block i hi (by simp)⟩ (by cases hv : u3.ownBlock <;> simp)
      have hb1 : Below w.heap.size w w1 := hb.trans (t1.below hB (by simp))
      clear t1 hown hb
      go_wp2_with (at_builtin; refine wpList_append_own _ rfl (.tmp 12) (.tmp 16) 40 rfl w.heap.size 32 i0 (.int .u64 0) 1 8 Try.underlying40 hi hz0 hz1 hz2 rfl (by decide) _ _ _ rfl (hown1.alloc _) ⟨w1.heap.size, 0, none⟩ 1 1 [.int .u64 x] rfl rfl ?c1 ?c2 ?c3 ?c4 ?c5 ?_)
      case c1 => exact (cell_one_new _ _ _)
      case c2 => intro u hu; simp at hu; subst hu; rfl
      case c3 => unfold maxLen; omega
      case c4 => omega
      case c5 => simp; omega
      intro v' w2 hown' hgrow _
      obtain ⟨hr1, hr2⟩ := rel_all hlt HX.out (by omega) hown1 hb1 hown' hgrow
      clear hown' hgrow hown1 hb1
      go_wp2
      go_roundw
      case rel => exact ⟨k + 1, by omega, by go_num, hr1, hr2⟩
      case measure => simp [intOf]; omega
    · go_wp2
      go_ret
      have hkc : k = ws.length := by omega
      subst hkc
      unfold uTake at hown
      rw [List.take_length] at hown
      exact ⟨_, rfl, hown, hb⟩
end Go.Proofs.Ytldiocdjgbehcaa
