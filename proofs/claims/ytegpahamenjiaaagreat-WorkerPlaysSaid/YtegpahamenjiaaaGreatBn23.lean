/-
  Rb: what the claim uses of them.
-/
import Derived.Test.YtegpahamenjiaaaGreatBn22
namespace Go.Proofs.YtegpahamenjiaaaGreat
open Go.RowKit
set_option maxRecDepth 100000
def inB (l : List Int) (x : Int) : Bool := l.any fun z => decide (x = z)
theorem inB_iff {l : List Int} {x : Int} : inB l x = true ↔ x ∈ l := by unfold inB; simp
theorem inC_at {l : List Int} {k : Nat} (h : k < l.length) {z : Int} (hz : z = k) : (inC l)[0 + z.toNat * 1]? = some (.int .i64 (l.getD k 0)) := by
  subst hz
  rw [Int.toNat_natCast, Nat.mul_one, Nat.zero_add]
  unfold inC
  rw [List.getElem?_map, List.getElem?_eq_getElem h, List.getD_eq_getElem?_getD, List.getElem?_eq_getElem h]; rfl
theorem inC_len (l : List Int) : (inC l).length = l.length := List.length_map _
theorem inB_take {l : List Int} {x : Int} {k : Nat} (h : k < l.length) : inB (l.take (k + 1)) x = (inB (l.take k) x || decide (x = l.getD k 0)) := by
  unfold inB
  rw [any_take h, List.getD_eq_getElem?_getD, List.getElem?_eq_getElem h]; rfl
/-- A list of numbers that is being made: whether it has a number. -/
theorem aRInA {v : AV} {acc : Hp} (l : List Int) (x : Int) (σ : Hp) (hl : l.length ≤ 1000000) (h : Acc 1 l.length v acc (inC l)) : ACalls Tryz.prog 141 [v, .int .i64 x] (acc ++ σ) (Ret (.bool (inB l x)) (acc ++ σ)) := by
  generalize hn : l.length = n at h
  generalize hc : inC l = cs at h
  cases h with
  | nil =>
    obtain rfl := List.length_eq_zero_iff.1 hn
    exact acalls_nil (frz_cons (.nil _) (frz_cons (.refl _) frz_nil)) (aRIn [] x _ (by decide))
  | mref b k cs h =>
    subst hn
    subst hc
    refine okF Tryz.func141 (by kernel_rfl) ?_
    refine loopS (S := Nat) (fun k => [(1, .int .i64 x), (7, .mref b 0 l.length 1), (8, .int .i64 l.length), (9, .int .i64 k)]) (fun _ => (b, inC l) :: σ) (fun k => k ≤ l.length ∧ inB (l.take k) x = false) (fun k => l.length - k) 0 ⟨⟨Nat.zero_le _, rfl⟩, ⟨rfl, rfl, rfl, rfl, trivial⟩, rfl⟩ ?_
    rintro k g ⟨hk0, ha0⟩
    have hk : k ≤ l.length := hk0
    have ha : inB (l.take k) x = false := ha0
    clear hk0 ha0
    refine bcond_dec (p := (k : Int) < (l.length : Int)) (fun hlt => ?_) (fun hge => ?_)
    · have hlt : k < l.length := by omega
      have hs := inB_take (x := x) hlt
      rw [ha, Bool.false_or] at hs
      refine With.mk ⟨rfl, by omega, by omega⟩ ?_
      refine LoadAt.mk 0 _ _ rfl (read1 rfl (inC_at hlt rfl)) ?_
      refine bcond_dec (p := l.getD k 0 = x) (fun d1 => ?_) (fun d1 => ?_)
      · refine .done ⟨av_bool (inB_iff.2 ?_).symm, rfl⟩
        rw [← d1, List.getD_eq_getElem?_getD, List.getElem?_eq_getElem hlt]; exact List.getElem_mem hlt
      · exact nextS (k + 1) (by show l.length - (k + 1) < l.length - k; omega) ⟨hlt, hs.trans (decide_eq_false fun h => d1 h.symm)⟩ ⟨rfl, rfl, rfl, inc64 (by omega), trivial⟩ (.refl _)
    · have hge : k = l.length := by omega
      subst hge
      rw [List.take_length] at ha
      exact .done ⟨av_bool ha.symm, rfl⟩
theorem callAR {P : Program} {f : FuncId} {xs : List AV} {σ : Hp} {K : AV → Hp → Prop} (fr : Hp) {acc : Hp} {x : AV} (h : ∀ σ, ACalls P f xs (acc ++ σ) (Ret x (acc ++ σ))) (k : K x (fr ++ (acc ++ σ))) : CallAt P f K xs (fr ++ (acc ++ σ)) :=
  .perm _ (mid_perm fr acc σ) (h (fr ++ σ)) fun _ _ ⟨h1, h2⟩ => ⟨_, (mid_perm fr acc σ).symm.trans (h2 ▸ .refl _), h1 ▸ k⟩
theorem callAB {P : Program} {f : FuncId} {xs : List AV} {σ : Hp} {K : AV → Hp → Prop} (fr : Hp) {acc : Hp} {b : Bool} (h : ∀ σ, ACalls P f xs (acc ++ σ) (Ret (.bool b) (acc ++ σ))) (k1 : b = true → K (.bool true) (fr ++ (acc ++ σ))) (k2 : b = false → K (.bool false) (fr ++ (acc ++ σ))) : CallAt P f K xs (fr ++ (acc ++ σ)) :=
  callAR fr h (by cases b; exact k2 rfl; exact k1 rfl)
theorem aRInQ (l : List Int) (x : Int) (σ : Hp) (hl : l.length ≤ 1000000) : ACalls Tryz.prog 141 [.fsl (.int .i64) l, .int .i64 x] σ (Ret (.bool (inB l x)) σ) := aRIn l x σ hl
def toB (n : Int) (l : List EdgeT) (a b : Int) : Bool := inB (reachR n l [a]) b
theorem listB_length (b : List Bool) (k : Nat) : (listB b k).length ≤ k := by unfold listB; rw [List.length_map]; exact Nat.le_trans (List.length_filter_le _ _) (by simp)
theorem reachR_length (n : Nat) (l : List EdgeT) (fr : List Int) : (reachR n l fr).length ≤ n := by
  have := listB_length (reachB n l fr) ((n : Int)).toNat
  rw [Int.toNat_natCast] at this
  exact this
theorem aRTo (n : Nat) (l : List EdgeT) (a b : Int) (σ : Hp) (hl : l.length ≤ 100000) (hn : n ≤ 100000) : ACalls Tryz.prog 239 [.int .i64 n, .fsl edgeSh l, .int .i64 a, .int .i64 b] σ (Ret (.bool (toB n l a b)) σ) := by
  refine okF Tryz.func239 (by kernel_rfl) ?_
  intro bl1
  refine .frz (args' := [.int .i64 n, .fsl edgeSh l, .fsl (.int .i64) [a]]) 0 bl1 0 1 1 _ (.int .i64) [a] rfl rfl ⟨rfl, rfl, by decide⟩ (frz_cons (.refl _) (frz_cons (.refl _) (frz_cons .here frz_nil))) (callR [] (aRReached n l [a] _ hl hn (by show 1 ≤ 100000; omega)) ?_)
  refine callR [] (aRInQ _ _ _ (by have := reachR_length n l [a]; omega)) ?_
  exact .done ⟨rfl, rfl⟩
def partUp (n : Int) (l : List EdgeT) (a : Int) (k : Nat) : List Int := ((List.range k).filter fun b : Nat => toB n l a b && toB n l b a).map fun i : Nat => (i : Int)
def partB (n : Int) (l : List EdgeT) (a : Int) : List Int := partUp n l a n.toNat
theorem partUp_succ (n : Int) (l : List EdgeT) (a : Int) (k : Nat) : partUp n l a (k + 1) = partUp n l a k ++ (if (toB n l a k && toB n l k a) = true then [(k : Int)] else []) := by
  unfold partUp
  rw [List.range_succ, List.filter_append, List.map_append]
  congr 1
  by_cases h : (toB n l a k && toB n l k a) = true
  · rw [if_pos h, List.filter_cons_of_pos (p := fun b : Nat => toB n l a b && toB n l b a) h]; rfl
  · rw [if_neg h, List.filter_cons_of_neg (p := fun b : Nat => toB n l a b && toB n l b a) h]; rfl
theorem partUp_length (n : Int) (l : List EdgeT) (a : Int) (k : Nat) : (partUp n l a k).length ≤ k := by unfold partUp; rw [List.length_map]; exact Nat.le_trans (List.length_filter_le _ _) (by simp)
theorem aRPart (n : Nat) (l : List EdgeT) (a : Int) (σ : Hp) (hl : l.length ≤ 100000) (hn : n ≤ 100000) : ACalls Tryz.prog 212 [.int .i64 n, .fsl edgeSh l, .int .i64 a] σ (Ret (.fsl (.int .i64) (partB n l a)) σ) := by
  refine okF Tryz.func212 (by kernel_rfl) ?_
  refine .wrap 7 _ rfl rfl ?_
  refine loopS (S := Nat × AV × Hp) (fun s => [(0, .int .i64 n), (1, .fsl edgeSh l), (2, .int .i64 a), (7, .via s.2.1), (8, .int .i64 s.1)]) (fun s => s.2.2 ++ σ) (fun s => s.1 ≤ n ∧ Acc 1 (partUp n l a s.1).length s.2.1 s.2.2 (inC (partUp n l a s.1))) (fun s => n - s.1) (0, .nils, []) ⟨⟨Nat.zero_le _, .nil⟩, ⟨rfl, rfl, rfl, rfl, rfl, trivial⟩, rfl⟩ ?_
  rintro ⟨k, v, acc⟩ g ⟨hk0, hacc0⟩
  have hk : k ≤ n := hk0
  have hacc : Acc 1 (partUp n l a k).length v acc (inC (partUp n l a k)) := hacc0
  clear hk0 hacc0
  have hul := partUp_length n l a k
  have hs := partUp_succ n l a k
  refine bcond_dec (p := (k : Int) < n) (fun hlt => ?_) (fun hge => ?_)
  rotate_left
  · have hge : k = n := by omega
    subst hge
    exact fin_acc (s := .int .i64) [] hacc rfl (inC_flat _) (by decide) (.done ⟨by unfold partB; rw [Int.toNat_natCast], rfl⟩)
  have hlt : k < n := by omega
  refine callB [] (aRTo n l a k _ hl hn) (fun c1 => ?_) (fun c1 => ?_)
  · refine callB [] (aRTo n l k a _ hl hn) (fun c2 => ?_) (fun c2 => ?_)
    · rw [c1, c2, if_pos (by rfl)] at hs
      intro bl2
      refine append_acc [_] hacc (.mref 0 bl2 0 1 _ rfl (Nat.le_of_ble_eq_true rfl)) rfl (by omega) (by decide) (by decide) (fun v' acc' h' => ?_)
      refine nextS (k + 1, v', acc') (by show n - (k + 1) < n - k; omega) ⟨hlt, ?_⟩ ⟨rfl, rfl, rfl, rfl, inc64 (by omega), trivial⟩ (.drop 0 1 (shed_eq rfl))
      show Acc 1 (partUp n l a (k + 1)).length v' acc' (inC (partUp n l a (k + 1)))
      rw [hs, List.length_append, inC, List.map_append]
      exact h'
    · rw [c2, Bool.and_false, if_neg (by decide), List.append_nil] at hs
      exact nextS (k + 1, v, acc) (by show n - (k + 1) < n - k; omega) ⟨hlt, by show Acc 1 (partUp n l a (k + 1)).length v acc (inC (partUp n l a (k + 1))); rw [hs]; exact hacc⟩ ⟨rfl, rfl, rfl, rfl, inc64 (by omega), trivial⟩ (.refl _)
  · rw [c1, Bool.false_and, if_neg (by decide), List.append_nil] at hs
    exact nextS (k + 1, v, acc) (by show n - (k + 1) < n - k; omega) ⟨hlt, by show Acc 1 (partUp n l a (k + 1)).length v acc (inC (partUp n l a (k + 1))); rw [hs]; exact hacc⟩ ⟨rfl, rfl, rfl, rfl, inc64 (by omega), trivial⟩ (.refl _)
theorem acc_leaf1 {e k : Nat} {v : AV} {acc : Hp} {cs : List AV} (h : Acc e k v acc cs) : v.leaf = true := by cases h <;> rfl
def freeB (l : List EdgeT) (part told : List Int) : Bool := l.all fun e => !(inB part e.2.1 && !inB part e.1 && !inB told e.1)
theorem aRFree (l : List EdgeT) (part told : List Int) {v : AV} {acc : Hp} (σ : Hp) (hl : l.length ≤ 100000) (hp : part.length ≤ 1000000) (ht : told.length ≤ 1000000) (h : Acc 1 told.length v acc (inC told)) : ACalls Tryz.prog 213 [.fsl edgeSh l, .fsl (.int .i64) part, v] (acc ++ σ) (Ret (.bool (freeB l part told)) (acc ++ σ)) := by
  refine okF Tryz.func213 (by kernel_rfl) ?_
  refine .wrap 2 v rfl (acc_leaf1 h) ?_
  refine loopS (S := Nat) (fun k => [(1, .fsl (.int .i64) part), (2, .via v), (9, .fsl edgeSh l), (10, .int .i64 l.length), (11, .int .i64 k)]) (fun _ => acc ++ σ) (fun k => k ≤ l.length ∧ freeB (l.take k) part told = true) (fun k => l.length - k) 0 ⟨⟨Nat.zero_le _, rfl⟩, ⟨rfl, rfl, rfl, rfl, rfl, trivial⟩, rfl⟩ ?_
  rintro k g ⟨hk0, ha0⟩
  have hk : k ≤ l.length := hk0
  have ha : freeB (l.take k) part told = true := ha0
  clear hk0 ha0
  refine bcond_dec (p := (k : Int) < (l.length : Int)) (fun hlt => ?_) (fun hge => ?_)
  · have hlt : k < l.length := by omega
    obtain ⟨e, hle⟩ : ∃ e : EdgeT, l[k] = e := ⟨_, rfl⟩
    refine With.mk rfl (IdxF.mk e (by omega) ((get_some hlt).trans (congrArg some hle)) ?_)
    intro bl1
    refine StoreAt.mk 0 _ _ rfl rfl ?_
    refine LoadAt.mk 0 _ _ rfl rfl ?_
    have hs : freeB (l.take (k + 1)) part told = !(inB part e.2.1 && !inB part e.1 && !inB told e.1) := by
      unfold freeB at ha ⊢
      rw [List.take_add_one, List.all_append, ha, List.getElem?_eq_getElem hlt, hle]
      simp
    have hno : (!(inB part e.2.1 && !inB part e.1 && !inB told e.1)) = false → freeB l part told = false := fun h => by
      rw [Bool.eq_false_iff]
      intro h2
      unfold freeB at h2
      rw [List.all_eq_true] at h2
      have := h2 e (hle ▸ List.getElem_mem hlt)
      rw [h] at this
      cases this
    refine callB [] (aRInQ part e.2.1 _ hp) (fun c1 => ?_) (fun c1 => ?_)
    rotate_left
    · exact nextS (k + 1) (by show l.length - (k + 1) < l.length - k; omega) ⟨hlt, hs.trans (by rw [c1]; rfl)⟩ ⟨rfl, rfl, rfl, rfl, inc64 (by omega), trivial⟩ (.drop 0 1 (.refl _))
    refine LoadAt.mk 0 _ _ rfl rfl ?_
    refine callB [] (aRInQ part e.1 _ hp) (fun c2 => ?_) (fun c2 => ?_)
    · exact nextS (k + 1) (by show l.length - (k + 1) < l.length - k; omega) ⟨hlt, hs.trans (by rw [c1, c2]; rfl)⟩ ⟨rfl, rfl, rfl, rfl, inc64 (by omega), trivial⟩ (.drop 0 1 (.refl _))
    refine LoadAt.mk 0 _ _ rfl rfl ?_
    refine callAB [_] (fun σ => aRInA told e.1 σ ht h) (fun c3 => ?_) (fun c3 => ?_)
    · exact nextS (k + 1) (by show l.length - (k + 1) < l.length - k; omega) ⟨hlt, hs.trans (by rw [c1, c2, c3]; rfl)⟩ ⟨rfl, rfl, rfl, rfl, inc64 (by omega), trivial⟩ (.drop 0 1 (.refl _))
    · exact .drop 0 1 (.done ⟨av_bool (hno (by rw [c1, c2, c3]; rfl)).symm, rfl⟩)
  · have hge : k = l.length := by omega
    subst hge
    rw [List.take_length] at ha
    exact .done ⟨av_bool ha.symm, rfl⟩
end Go.Proofs.YtegpahamenjiaaaGreat
