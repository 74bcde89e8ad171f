/-
  soughlaw27: awake; the walk of DequePlays.
-/
import Derived.Test.YtiihcgmnmcdcfaaDqm
namespace Go.Proofs.Ytiihcgmnmcdcfaa
open Go.RowKit
set_option maxRecDepth 100000
set_option maxHeartbeats 4000000
def aq27 (k : Nat) : DQ := match k with
  | 0 => ⟨0, 4, 7, false, false, 0, 0, 0, 0⟩
  | 1 => ⟨0, 4, 7, false, false, 1, 1, 0, 0⟩
  | 2 => ⟨0, 4, 7, false, false, 2, 1, 1, 0⟩
  | 3 => ⟨0, 4, 7, false, false, 3, 1, 1, 0⟩
  | _ => ⟨0, 4, 7, true, true, 4, 1, 1, 0⟩
def aw27 (k : Nat) : List Int := match k with
  | 0 | 1 | 2 => [1, 1, 0, 0, 0, 0]
  | 3 => [1, 1, 0, 7, 0, 0]
  | _ => [1, 2, 0, 7, 0, 0]
theorem aq_good (k : Nat) : (aq27 k).good := by
  unfold aq27
  split <;> simp [DQ.good]
theorem awake27a : ACalls Try.prog 25 [] [] (Ret (.bool true) []) := by
  refine okF Try.func25 (by kernel_rfl) ?_
  refine .mk [] _ (aNew 6 []) ?_
  rintro _ _ ⟨p, q, rfl, rfl⟩
  intro bl1
  refine StoreAt.mk 0 _ _ rfl rfl ?_
  refine LoadAt.mk 0 _ _ rfl rfl ?_
  refine callR [2, 2] (aResetD p q [0, 0, 0, 0, 0, 0] 0 4 _) ?_
  refine LoadAt.mk 2 _ _ rfl rfl ?_
  intro bl2
  refine loopS (S := Nat) (fun s => [(1, .ptr p 0), (2, .ptr bl1 0), (3, .ptr bl2 0), (4, .int .i64 (s + 1 : Nat))]) (fun s => (bl2, dqC (aq27 s)) :: plH p q (aw27 s) [(bl1, [.int .i64 0, .int .i64 4])]) (fun s => s ≤ 3) (fun s => 3 - s) 0 ⟨Nat.zero_le _, ⟨rfl, rfl, rfl, rfl, trivial⟩, rfl⟩ ?_
  intro k g hk
  have hk : k ≤ 3 := hk
  match k, hk with
  | 0, _ =>
    refine callR [] (aPushP p q bl2 (aq27 0) (aw27 0) 0 _ (aq_good _) (x' := aq27 (0 + 1)) (ws' := aw27 (0 + 1)) (b := false) (by kernel_rfl)) ?_
    exact next (0 + 1) (by show 3 - (0 + 1) < 3 - 0; decide) (by show 0 + 1 ≤ 3; decide) ⟨rfl, rfl, rfl, rfl, trivial⟩ rfl
  | 1, _ =>
    refine callR [] (aPushP p q bl2 (aq27 1) (aw27 1) 0 _ (aq_good _) (x' := aq27 (1 + 1)) (ws' := aw27 (1 + 1)) (b := false) (by kernel_rfl)) ?_
    exact next (1 + 1) (by show 3 - (1 + 1) < 3 - 1; decide) (by show 1 + 1 ≤ 3; decide) ⟨rfl, rfl, rfl, rfl, trivial⟩ rfl
  | 2, _ =>
    refine callR [] (aPushP p q bl2 (aq27 2) (aw27 2) 0 _ (aq_good _) (x' := aq27 (2 + 1)) (ws' := aw27 (2 + 1)) (b := false) (by kernel_rfl)) ?_
    exact next (2 + 1) (by show 3 - (2 + 1) < 3 - 2; decide) (by show 2 + 1 ≤ 3; decide) ⟨rfl, rfl, rfl, rfl, trivial⟩ rfl
  | 3, _ =>
    refine callR [] (aPushP p q bl2 (aq27 3) (aw27 3) 0 _ (aq_good _) (x' := aq27 4) (ws' := aw27 4) (b := true) (by kernel_rfl)) ?_
    refine LoadAt.mk 0 _ _ rfl rfl ?_
    refine LoadAt.mk 3 _ _ rfl rfl ?_
    refine callR [2, 2] (aListD p q (aw27 4) 0 4 _) ?_
    refine LoadAt.mk 3 _ _ rfl rfl ?_
    refine callR [] (aListD p q (aw27 4) 0 4 _) ?_
    refine With.mk rfl ?_
    refine IdxF.mk (7 : Int) (by decide) (by kernel_rfl) ?_
    exact .drop 0 4 (.done ⟨rfl, rfl⟩)
theorem lenD_le (b c : Int) (ws : List Int) : (listD b c ws).length ≤ 1000000 := by
  have := rm_ok c
  unfold listD
  rw [takeD_length]
  unfold lenD
  omega
theorem val_of {L L2 : List OD} (h : L2.map OD.val = L.map OD.val) {j : Nat} (h2 : j < L2.length) (h1 : j < L.length) : L2[j].val = L[j].val := by
  have := congrArg (fun l => l[j]?) h
  simpa [h1, h2] using this
theorem idx_mod {k i : Nat} (hk : k ≤ 1000) (hi : i < 8) : ∃ j : Nat, (IntKind.i64.wrap (IntKind.i64.wrap (((k + 1 : Nat) : Int) - 1) + IntKind.i64.wrap ((i : Int) * (i : Int)))).tmod ((k + 1 : Nat) : Int) = j ∧ j < k + 1 := by
  have h1 : i * i ≤ 7 * 7 := Nat.mul_le_mul (by omega) (by omega)
  have h2 : (i : Int) * (i : Int) = ((i * i : Nat) : Int) := by rw [Int.natCast_mul]
  obtain ⟨s, hs⟩ : ∃ s, s = i * i := ⟨_, rfl⟩
  rw [h2, ← hs]
  rw [← hs] at h1
  have e : IntKind.i64.wrap (IntKind.i64.wrap (((k + 1 : Nat) : Int) - 1) + IntKind.i64.wrap (s : Int)) = ((k + s : Nat) : Int) := by
    rw [IntKind.wrap_i64, IntKind.wrap_i64, IntKind.wrap_i64]; omega
  rw [e, Int.tmod_eq_emod_of_nonneg (by omega)]
  refine ⟨(k + s) % (k + 1), ?_, Nat.mod_lt _ (by omega)⟩
  rw [Int.natCast_emod]
theorem readElemD {i : TI} (hi : i.wide = true) (hs : i.size = 4) {l l2 : List OD} (hv : l2.map OD.val = l.map OD.val) {j : Nat} (h : j < l2.length) {x : Int} (hx : x = j) : readAs i (l.flatMap OD.val) (0 + x.toNat * 4) = some (.agg l2[j].val) := by
  subst hx
  have e : l.flatMap OD.val = l2.flatMap OD.val := by rw [List.flatMap_def, List.flatMap_def, hv]
  rw [e]
  have hl := flat_length (f := OD.val) (es := 4) OD.val_len l2
  have hb : Nat.ble (0 + j * 4 + 4) (l2.flatMap OD.val).length = true := Nat.ble_eq_true_of_le (by rw [hl]; omega)
  unfold readAs
  rw [hi, hs]
  show (match Nat.ble (0 + j * 4 + 4) (l2.flatMap OD.val).length with | true => some (AV.agg (((l2.flatMap OD.val).drop (0 + j * 4)).take 4)) | false => none) = _
  rw [hb]
  show some (AV.agg (((l2.flatMap OD.val).drop (0 + j * 4)).take 4)) = _
  rw [Nat.zero_add, flat_elem OD.val_len h]
theorem valD_set {L : List OD} {j : Nat} (hj : j < L.length) (q' : DQ) : (L.set j ⟨L[j].k, L[j].r, L[j].rr, q'⟩).map OD.val = L.map OD.val := by
  have e : OD.val ⟨L[j].k, L[j].r, L[j].rr, q'⟩ = L[j].val := rfl
  rw [List.map_set, e]
  refine List.ext_getElem (by simp) fun n h1 h2 => ?_
  rw [List.getElem_set]
  split
  · rename_i hn; subst hn; simp
  · rfl
end Go.Proofs.Ytiihcgmnmcdcfaa
