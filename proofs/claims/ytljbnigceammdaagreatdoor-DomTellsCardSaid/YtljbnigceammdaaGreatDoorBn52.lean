/-
  Hs; Dl: what the claim uses of them.
-/
import Derived.Test.YtljbnigceammdaaGreatDoorBn13
import Derived.Test.YtljbnigceammdaaGreatDoorBn51
namespace Go.Proofs.YtljbnigceammdaaGreatDoor
open Go.RowKit
set_option maxRecDepth 100000
theorem aRSame09 (L : List (List Int)) (σ : Hp) (hl : L.length ≤ 1000000) (hw : ∀ w ∈ L, w.length ≤ 1000000) : ACalls Tryz.prog 17 [.fsl (.slice (.int .i64)) L, .fsl (.slice (.int .i64)) L] σ (Ret (.bool true) σ) := by
  refine okF Tryz.func17 (by kernel_rfl) ?_
  refine bcond_split (fun c1 => ?_) (fun c1 => ?_)
  · simp at c1
  refine loopS (S := Nat) (fun k => [(0, .fsl (.slice (.int .i64)) L), (1, .fsl (.slice (.int .i64)) L), (13, .fsl (.slice (.int .i64)) L), (14, .int .i64 L.length), (15, .int .i64 k)]) (fun _ => σ) (fun k => k ≤ L.length) (fun k => L.length - k) 0 ⟨Nat.zero_le _, ⟨rfl, rfl, rfl, rfl, rfl, trivial⟩, rfl⟩ ?_
  intro k g hk0
  have hk : k ≤ L.length := hk0
  clear hk0
  refine bcond_dec (p := (k : Int) < L.length) (fun hlt => ?_) (fun hge => ?_)
  · have hlt : k < L.length := by omega
    obtain ⟨w, hwk⟩ : ∃ w, L[k] = w := ⟨_, rfl⟩
    have hwl := hw w (hwk ▸ List.getElem_mem hlt)
    have hg := (get_some hlt).trans (congrArg some hwk)
    refine With.mk rfl (IdxF.mk w (by omega) hg ?_)
    refine With.mk rfl (IdxF.mk w (by omega) hg ?_)
    refine bcond_split (fun c1 => ?_) (fun c1 => ?_)
    · simp at c1
    refine loopS (S := Nat) (fun j => [(0, .fsl (.slice (.int .i64)) L), (1, .fsl (.slice (.int .i64)) L), (5, .int .i64 k), (6, .fsl (.int .i64) w), (13, .fsl (.slice (.int .i64)) L), (14, .int .i64 L.length), (15, .int .i64 k), (29, .int .i64 w.length), (30, .int .i64 j)]) (fun _ => σ) (fun j => j ≤ w.length) (fun j => w.length - j) 0 ⟨Nat.zero_le _, ⟨rfl, rfl, rfl, rfl, rfl, rfl, rfl, rfl, rfl, trivial⟩, rfl⟩ ?_
    intro j g hj0
    have hj : j ≤ w.length := hj0
    clear hj0
    refine bcond_dec (p := (j : Int) < w.length) (fun hlt2 => ?_) (fun hge2 => ?_)
    · have hlt2 : j < w.length := by omega
      have hgw := get_some hlt2
      generalize w[j] = z at hgw
      refine .quiet (by kernel_rfl) ?_
      refine With.mk rfl (IdxF.mk z (by omega) hgw ?_)
      refine With.mk rfl (IdxF.mk w (by omega) hg ?_)
      refine With.mk rfl (IdxF.mk z (by omega) hgw ?_)
      refine bcond_split (fun c1 => ?_) (fun c1 => ?_)
      · simp at c1
      exact nextS (j + 1) (by show w.length - (j + 1) < w.length - j; omega) hlt2 ⟨rfl, rfl, rfl, rfl, rfl, rfl, rfl, rfl, inc64 (by omega), trivial⟩ (.refl _)
    · exact nextS (k + 1) (by show L.length - (k + 1) < L.length - k; omega) hlt ⟨rfl, rfl, rfl, rfl, inc64 (by omega), trivial⟩ (.refl _)
  · exact .done ⟨rfl, rfl⟩
end Go.Proofs.YtljbnigceammdaaGreatDoor
namespace Go.Proofs.YtljbnigceammdaaGreatDoor
open Go.RowKit
set_option maxRecDepth 100000
theorem aR10Width (N : Nat) (σ : Hp) (h8 : N ≤ 8) : ACalls Tryz.prog 82 [.int .i64 N] σ (Ret (.int .i64 N) σ) := by
  refine okF Tryz.func82 (by kernel_rfl) ?_
  refine .done ⟨av_int ?_, rfl⟩
  show (if (1024 : Int) < (if (N : Int) < 0 then 0 else (N : Int)) then (1024 : Int) else (if (N : Int) < 0 then 0 else (N : Int))) = N
  rw [if_neg (show ¬ ((N : Int) < 0) by omega), if_neg (by omega)]
theorem aR10Size (N : Nat) (σ : Hp) (h1 : 1 ≤ N) (h8 : N ≤ 8) : ACalls Tryz.prog 81 [.int .i64 N] σ (Ret (.int .i64 1) σ) := by
  refine okF Tryz.func81 (by kernel_rfl) ?_
  refine callR [] (aR10Width N _ h8) ?_
  refine With.mk (by omega) ?_
  have e : IntKind.i64.wrap ((IntKind.i64.wrap ((N : Int) + 63)).tdiv 64) = 1 := by
    obtain ⟨q, hq⟩ : ∃ q : Int, (N : Int) + 63 = q := ⟨_, rfl⟩
    have hw : IntKind.i64.wrap q = q := w64 (by omega)
    rw [hq, hw]
    have h : q.tdiv 64 = 1 := by rw [Int.tdiv_eq_ediv_of_nonneg (by omega)]; omega
    rw [h]; decide
  exact .done ⟨av_int e, rfl⟩
theorem aR10With (b z A : Nat) (σ : Hp) (hz : z < 256) (hA : A < 8) : ACalls Tryz.prog 83 [.mref b 0 1 1, .int .i64 A] ((b, woC [(z : Int)]) :: σ) (fun x σ' => ∃ b', x = .mref b' 0 1 1 ∧ σ' = (b', woC [((z ||| 2 ^ A : Nat) : Int)]) :: (b, woC [(z : Int)]) :: σ) := by
  have hd := div64 A (by omega)
  have hd0 : A / 64 = 0 := by omega
  rw [hd0] at hd
  have hm := mod64 A
  have hm0 : A % 64 = A := by omega
  rw [hm0] at hm
  refine okF Tryz.func83 (by kernel_rfl) ?_
  intro b2
  refine AppendAt.more 0 b2 0 1 [] (((woC [(z : Int)]).drop 0).take (1 * 1)) rfl rfl (Nat.le_of_ble_eq_true rfl) (.mem (List.mem_cons_of_mem _ (List.mem_cons_self ..)) (show 0 + 1 * 1 ≤ 1 from Nat.le_refl _)) (by omega) (by decide) (by decide) (fun b' => ?_)
  refine .sched [] (upto [] 14 0) (by kernel_rfl) ?_
  refine With.mk (by omega) ?_
  refine With.mk (by omega) ?_
  refine With.mk ⟨rfl, by omega, by omega⟩ ?_
  refine LoadAt.mk 0 _ _ rfl (get64 (l := [(z : Int)]) (i := 0) (by show 0 < 1; omega) hd) ?_
  have e64 := shl64 A (by omega)
  rw [← hm] at e64
  refine With.mk (by omega) ?_
  refine With.mk (by omega) ?_
  refine With.mk ⟨rfl, by omega, by omega⟩ ?_
  refine StoreAt.mk 0 _ _ rfl (put64 (l := [(z : Int)]) (i := 0) (by show 0 < 1; omega) _ hd) ?_
  have hor := or_w (z := z) (a := A) hz hA
  rw [← e64] at hor
  exact .done ⟨b', rfl, congrArg (fun x : Int => (b', woC [x]) :: (b, woC [(z : Int)]) :: σ) hor⟩
theorem aR10Of (N : Nat) (h1 : 1 ≤ N) (h8 : N ≤ 8) (l : List Int) (σ : Hp) (hl : l.length ≤ 100000) : ACalls Tryz.prog 50 [.int .i64 N, .fsl (.int .i64) l] σ (Ret (.fsl (.int .u64) ([(ofB N l : Int)] : List Int)) σ) := by
  refine okF Tryz.func50 (by kernel_rfl) ?_
  refine callR [] (aR10Size N _ h1 h8) ?_
  refine With.mk ⟨by decide, by decide, by decide, by decide⟩ ?_
  intro bq
  refine loopS (S := Nat × Nat) (fun x => [(0, .int .i64 N), (5, .mref x.2 0 1 1), (11, .fsl (.int .i64) l), (12, .int .i64 l.length), (13, .int .i64 x.1)]) (fun x => (x.2, woC [(ofB N (l.take x.1) : Int)]) :: σ) (fun x => x.1 ≤ l.length) (fun x => l.length - x.1) (0, bq) ⟨Nat.zero_le _, ⟨rfl, rfl, rfl, rfl, rfl, trivial⟩, rfl⟩ ?_
  rintro ⟨k, b⟩ g hk0
  have hk : k ≤ l.length := hk0
  clear hk0
  refine bcond_dec (p := (k : Int) < l.length) (fun hlt => ?_) (fun hge => ?_)
  · have hlt : k < l.length := by omega
    have hst := ofB_take N l hlt
    obtain ⟨a, ha⟩ : ∃ a, l[k] = a := ⟨_, rfl⟩
    rw [ha] at hst
    have hz := ofB_lt h8 (l.take k)
    obtain ⟨z, hzz⟩ : ∃ z, ofB N (l.take k) = z := ⟨_, rfl⟩
    rw [hzz] at hst hz
    refine With.mk rfl (IdxF.mk a (by omega) ((get_some hlt).trans (congrArg some ha)) ?_)
    refine bcond_dec (p := 0 ≤ a) (fun c1 => ?_) (fun c1 => ?_)
    · refine callR [] (aR10Width N _ h8) ?_
      refine bcond_dec (p := a < (N : Int)) (fun c2 => ?_) (fun c2 => ?_)
      · obtain ⟨A, rfl⟩ : ∃ A : Nat, a = A := ⟨a.toNat, by omega⟩
        have hset : setB N z A = z ||| 2 ^ A := by unfold setB; rw [if_pos ⟨c1, c2⟩, Int.toNat_natCast]
        rw [hset] at hst
        have hW := aR10With b z A σ hz (by omega)
        rw [← hzz] at hW
        refine .mk [] _ hW ?_
        rintro _ _ ⟨b', rfl, rfl⟩
        refine nextS (k + 1, b') (by show l.length - (k + 1) < l.length - k; omega) hlt ⟨rfl, rfl, rfl, rfl, inc64 (by omega), trivial⟩ (.drop 1 1 (shed_eq (by rw [hst, hzz]; rfl)))
      · have hset : setB N z a = z := if_neg (by omega)
        exact nextS (k + 1, b) (by show l.length - (k + 1) < l.length - k; omega) hlt ⟨rfl, rfl, rfl, rfl, inc64 (by omega), trivial⟩ (shed_eq (by rw [hst, hset, hzz]; rfl))
    · have hset : setB N z a = z := if_neg (by omega)
      exact nextS (k + 1, b) (by show l.length - (k + 1) < l.length - k; omega) hlt ⟨rfl, rfl, rfl, rfl, inc64 (by omega), trivial⟩ (shed_eq (by rw [hst, hset, hzz]))
  · have hge : k = l.length := by omega
    subst hge
    exact .frz 0 b 0 1 1 _ (.int .u64) ([(ofB N l : Int)] : List Int) rfl (by rw [List.take_length]; rfl) ⟨rfl, rfl, by decide⟩ .here (.done ⟨rfl, rfl⟩)
end Go.Proofs.YtljbnigceammdaaGreatDoor
