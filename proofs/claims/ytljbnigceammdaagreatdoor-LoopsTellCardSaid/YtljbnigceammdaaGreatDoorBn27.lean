/-
  Ra; Rb; Rc; Lays: what the claim uses of them.
-/
import Derived.Test.YtljbnigceammdaaGreatDoorBn15
import Derived.Test.YtljbnigceammdaaGreatDoorBn26
import Derived.Shelf.Slices.CompactI
import Derived.Shelf.Slices.In.SortNone
import Derived.Shelf.Sort.Plain
import Derived.Test.YtljbnigceammdaaGreatDoorBn12
namespace Go.Proofs.YtljbnigceammdaaGreatDoor
open Go.RowKit
set_option maxRecDepth 100000
/-- A row of bools, in cells. -/
def bbC (b : List Bool) : List AV := b.map .bool
theorem bbC_get {b : List Bool} {k : Nat} (h : k < b.length) {z : Int} (hz : z = k) : (bbC b)[0 + z.toNat * 1]? = some (.bool (b.getD k false)) := by
  subst hz
  rw [Int.toNat_natCast, Nat.mul_one, Nat.zero_add]
  unfold bbC
  rw [List.getElem?_map, List.getElem?_eq_getElem h, List.getD_eq_getElem?_getD, List.getElem?_eq_getElem h]; rfl
theorem bbC_set (b : List Bool) (k : Nat) (x : Bool) {z : Int} (hz : z = k) : (bbC b).set (0 + z.toNat * 1) (.bool x) = bbC (b.set k x) := by
  subst hz
  rw [Int.toNat_natCast, Nat.mul_one, Nat.zero_add]
  unfold bbC
  rw [List.map_set]
theorem rep_bbC (n : Nat) : repC [.bool false] n = bbC (List.replicate n false) := by
  induction n with
  | zero => rfl
  | succ n ih => show AV.bool false :: repC [.bool false] n = _; rw [ih]; rfl
/-- A node is marked. -/
def markB (n : Int) (b : List Bool) (a : Int) : List Bool := if 0 ≤ a ∧ a < n then b.set a.toNat true else b
/-- Along an edge. -/
def goB (n : Int) (b : List Bool) (e : EdgeT) : List Bool := if (0 ≤ e.1 ∧ e.1 < n) ∧ (0 ≤ e.2.1 ∧ e.2.1 < n) ∧ b.getD e.1.toNat false = true then b.set e.2.1.toNat true else b
def roundB (n : Int) (l : List EdgeT) (b : List Bool) : List Bool := l.foldl (goB n) b
def roundsB (n : Int) (l : List EdgeT) : Nat → List Bool → List Bool
  | 0, b => b
  | k + 1, b => roundsB n l k (roundB n l b)
/-- The numbers of those that are marked. -/
def listB (b : List Bool) (k : Nat) : List Int := ((List.range k).filter fun i => b.getD i false).map fun i : Nat => (i : Int)
def reachB (n : Int) (l : List EdgeT) (fr : List Int) : List Bool := roundsB n l n.toNat (fr.foldl (markB n) (List.replicate n.toNat false))
def reachR (n : Int) (l : List EdgeT) (fr : List Int) : List Int := listB (reachB n l fr) n.toNat
theorem markB_length (n : Int) (b : List Bool) (a : Int) : (markB n b a).length = b.length := by unfold markB; split; exact List.length_set; rfl
theorem goB_length (n : Int) (b : List Bool) (e : EdgeT) : (goB n b e).length = b.length := by unfold goB; split; exact List.length_set; rfl
theorem drop_cons {α : Type} {l : List α} {k : Nat} (h : k < l.length) : l.drop k = l[k] :: l.drop (k + 1) := List.drop_eq_getElem_cons h
theorem listB_succ (b : List Bool) (k : Nat) : listB b (k + 1) = listB b k ++ (if b.getD k false = true then [(k : Int)] else []) := by
  unfold listB
  rw [List.range_succ, List.filter_append, List.map_append]
  congr 1
  by_cases h : b.getD k false = true
  · rw [if_pos h, List.filter_cons_of_pos (p := fun i => b.getD i false) h]; rfl
  · rw [if_neg h, List.filter_cons_of_neg (p := fun i => b.getD i false) h]; rfl
theorem markB_no {n : Int} {b : List Bool} {a : Int} (h : ¬ (0 ≤ a ∧ a < n)) : markB n b a = b := if_neg h
theorem bbC_len (b : List Bool) : (bbC b).length = b.length := List.length_map _
theorem rounds_succ (n : Int) (l : List EdgeT) (k : Nat) (b : List Bool) : roundsB n l (k + 1) b = roundsB n l k (roundB n l b) := rfl
theorem goB_yes {n : Int} {b : List Bool} {e : EdgeT} (h1 : 0 ≤ e.1 ∧ e.1 < n) (h2 : 0 ≤ e.2.1 ∧ e.2.1 < n) (h3 : b.getD e.1.toNat false = true) : goB n b e = b.set e.2.1.toNat true := if_pos ⟨h1, h2, h3⟩
theorem goB_no {n : Int} {b : List Bool} {e : EdgeT} (h : ¬ ((0 ≤ e.1 ∧ e.1 < n) ∧ (0 ≤ e.2.1 ∧ e.2.1 < n) ∧ b.getD e.1.toNat false = true)) : goB n b e = b := if_neg h
theorem bbC_write {i : TI} (hs : i.size = 1) {b : List Bool} (x : Bool) {a : Int} (h1 : 0 ≤ a) (h2 : a < b.length) : writeAs i (bbC b) (0 + a.toNat * 1) (.bool x) = some (bbC (b.set a.toNat x)) := by
  rw [write1 hs rfl (by rw [bbC_len]; omega), bbC_set b a.toNat x (by omega)]
theorem bbC_read {i : TI} (hw : i.wide = false) {b : List Bool} {a : Int} (h1 : 0 ≤ a) (h2 : a < b.length) : readAs i (bbC b) (0 + a.toNat * 1) = some (.bool (b.getD a.toNat false)) := read1 hw (bbC_get (by omega) (by omega))
theorem aRReached (n : Nat) (l : List EdgeT) (fr : List Int) (σ : Hp) (hl : l.length ≤ 100000) (hn : n ≤ 100000) (hf : fr.length ≤ 100000) : ACalls Tryz.prog 51 [.int .i64 n, .fsl edgeSh l, .fsl (.int .i64) fr] σ (Ret (.fsl (.int .i64) (reachR n l fr)) σ) := by
  refine okF Tryz.func51 (by kernel_rfl) ?_
  refine With.mk ⟨by omega, by omega, by omega, by decide⟩ ?_
  intro bq
  refine loopS (S := Nat × List Bool) (fun s => [(0, .int .i64 n), (1, .fsl edgeSh l), (7, .mref bq 0 n 1), (17, .fsl (.int .i64) fr), (18, .int .i64 fr.length), (19, .int .i64 s.1)]) (fun s => (bq, bbC s.2) :: σ) (fun s => s.1 ≤ fr.length ∧ s.2.length = n ∧ (fr.drop s.1).foldl (markB n) s.2 = fr.foldl (markB n) (List.replicate n false)) (fun s => fr.length - s.1) (0, List.replicate n false) ⟨⟨Nat.zero_le _, by simp, rfl⟩, ⟨rfl, rfl, rfl, rfl, rfl, rfl, trivial⟩, by show _ = (bq, bbC (List.replicate n false)) :: σ; rw [← rep_bbC]; rfl⟩ ?_
  rintro ⟨k, b⟩ g ⟨hk0, hb0, ha0⟩
  have hk : k ≤ fr.length := hk0
  have hb : b.length = n := hb0
  have ha : (fr.drop k).foldl (markB n) b = fr.foldl (markB n) (List.replicate n false) := ha0
  clear hk0 hb0 ha0
  refine bcond_dec (p := (k : Int) < (fr.length : Int)) (fun hlt => ?_) (fun hge => ?_)
  · have hlt : k < fr.length := by omega
    obtain ⟨a, hfa⟩ : ∃ a, fr[k] = a := ⟨_, rfl⟩
    rw [drop_cons hlt, hfa, List.foldl_cons] at ha
    refine With.mk rfl (IdxF.mk a (by omega) ((get_some hlt).trans (congrArg some hfa)) ?_)
    refine bcond_dec (fun c1 => ?_) (fun c1 => ?_)
    · have c1 : 0 ≤ a := c1
      refine bcond_dec (fun c2 => ?_) (fun c2 => ?_)
      · have c2 : a < (↑n : Int) := c2
        refine With.mk ⟨rfl, by omega, by omega⟩ ?_
        have hm : markB n b a = b.set a.toNat true := if_pos ⟨c1, c2⟩
        refine StoreAt.mk 0 _ _ rfl (bbC_write (b := b) rfl true c1 (by omega)) ?_
        exact nextS (k + 1, b.set a.toNat true) (by show fr.length - (k + 1) < fr.length - k; omega) ⟨hlt, by rw [List.length_set]; exact hb, by rw [← hm]; exact ha⟩ ⟨rfl, rfl, rfl, rfl, rfl, inc64 (by omega), trivial⟩ (.refl _)
      · have c2 : ¬ (a < (↑n : Int)) := c2
        have hm : markB n b a = b := markB_no (by omega)
        exact nextS (k + 1, b) (by show fr.length - (k + 1) < fr.length - k; omega) ⟨hlt, hb, by rw [hm] at ha; exact ha⟩ ⟨rfl, rfl, rfl, rfl, rfl, inc64 (by omega), trivial⟩ (.refl _)
    · have c1 : ¬ (0 ≤ a) := c1
      have hm : markB n b a = b := markB_no (by omega)
      exact nextS (k + 1, b) (by show fr.length - (k + 1) < fr.length - k; omega) ⟨hlt, hb, by rw [hm] at ha; exact ha⟩ ⟨rfl, rfl, rfl, rfl, rfl, inc64 (by omega), trivial⟩ (.refl _)
  · have hge : k = fr.length := by omega
    subst hge
    rw [List.drop_length] at ha
    have ha2 : b = fr.foldl (markB n) (List.replicate n false) := ha
    clear ha
    refine loopS (S := Nat × List Bool) (fun s => [(0, .int .i64 n), (1, .fsl edgeSh l), (7, .mref bq 0 n 1), (10, .int .i64 s.1)]) (fun s => (bq, bbC s.2) :: σ) (fun s => s.1 ≤ n ∧ s.2.length = n ∧ roundsB n l (n - s.1) s.2 = reachB n l fr) (fun s => n - s.1) (0, b) ⟨⟨Nat.zero_le _, hb, by unfold reachB; rw [Int.toNat_natCast, ← ha2]; rfl⟩, ⟨rfl, rfl, rfl, rfl, trivial⟩, rfl⟩ ?_
    clear ha2 hb b
    rintro ⟨k, b⟩ g ⟨hk0, hb0, ha0⟩
    have hk : k ≤ n := hk0
    have hb : b.length = n := hb0
    have ha : roundsB n l (n - k) b = reachB n l fr := ha0
    clear hk0 hb0 ha0
    refine bcond_dec (p := (k : Int) < (n : Int)) (fun hlt => ?_) (fun hge => ?_)
    · have hlt : k < n := by omega
      rw [show n - k = (n - (k + 1)) + 1 by omega, rounds_succ] at ha
      refine loopS (S := Nat × List Bool) (fun s => [(0, .int .i64 n), (1, .fsl edgeSh l), (7, .mref bq 0 n 1), (10, .int .i64 k), (39, .fsl edgeSh l), (40, .int .i64 l.length), (41, .int .i64 s.1)]) (fun s => (bq, bbC s.2) :: σ) (fun s => s.1 ≤ l.length ∧ s.2.length = n ∧ (l.drop s.1).foldl (goB n) s.2 = roundB n l b) (fun s => l.length - s.1) (0, b) ⟨⟨Nat.zero_le _, hb, rfl⟩, ⟨rfl, rfl, rfl, rfl, rfl, rfl, rfl, trivial⟩, rfl⟩ ?_
      rintro ⟨j, c⟩ g2 ⟨hj0, hc0, hd0⟩
      have hj : j ≤ l.length := hj0
      have hc : c.length = n := hc0
      have hd : (l.drop j).foldl (goB n) c = roundB n l b := hd0
      clear hj0 hc0 hd0
      refine bcond_dec (p := (j : Int) < (l.length : Int)) (fun hlt2 => ?_) (fun hge2 => ?_)
      · have hlt2 : j < l.length := by omega
        obtain ⟨e, hle⟩ : ∃ e : EdgeT, l[j] = e := ⟨_, rfl⟩
        rw [drop_cons hlt2, hle, List.foldl_cons] at hd
        refine With.mk rfl (IdxF.mk e (by omega) ((get_some hlt2).trans (congrArg some hle)) ?_)
        have hno : ¬ ((0 ≤ e.1 ∧ e.1 < n) ∧ (0 ≤ e.2.1 ∧ e.2.1 < n) ∧ c.getD e.1.toNat false = true) → (l.drop (j + 1)).foldl (goB n) c = roundB n l b := fun h => by rw [goB_no h] at hd; exact hd
        have hnx : ¬ ((0 ≤ e.1 ∧ e.1 < n) ∧ (0 ≤ e.2.1 ∧ e.2.1 < n) ∧ c.getD e.1.toNat false = true) → (j + 1 ≤ l.length ∧ c.length = n ∧ (l.drop (j + 1)).foldl (goB n) c = roundB n l b) := fun h => ⟨hlt2, hc, hno h⟩
        intro bl1
        refine StoreAt.mk 0 _ _ rfl rfl ?_
        refine LoadAt.mk 0 _ _ rfl rfl ?_
        refine bcond_dec (p := 0 ≤ e.1) (fun c1 => ?_) (fun c1 => ?_)
        rotate_left
        · exact nextS (j + 1, c) (by show l.length - (j + 1) < l.length - j; omega) (hnx (by omega)) ⟨rfl, rfl, rfl, rfl, rfl, rfl, inc64 (by omega), trivial⟩ (.drop 0 1 (.refl _))
        refine LoadAt.mk 0 _ _ rfl rfl ?_
        refine bcond_dec (p := e.1 < (n : Int)) (fun c2 => ?_) (fun c2 => ?_)
        rotate_left
        · exact nextS (j + 1, c) (by show l.length - (j + 1) < l.length - j; omega) (hnx (by omega)) ⟨rfl, rfl, rfl, rfl, rfl, rfl, inc64 (by omega), trivial⟩ (.drop 0 1 (.refl _))
        refine LoadAt.mk 0 _ _ rfl rfl ?_
        refine bcond_dec (p := 0 ≤ e.2.1) (fun c3 => ?_) (fun c3 => ?_)
        rotate_left
        · exact nextS (j + 1, c) (by show l.length - (j + 1) < l.length - j; omega) (hnx (by omega)) ⟨rfl, rfl, rfl, rfl, rfl, rfl, inc64 (by omega), trivial⟩ (.drop 0 1 (.refl _))
        refine LoadAt.mk 0 _ _ rfl rfl ?_
        refine bcond_dec (p := e.2.1 < (n : Int)) (fun c4 => ?_) (fun c4 => ?_)
        rotate_left
        · exact nextS (j + 1, c) (by show l.length - (j + 1) < l.length - j; omega) (hnx (by omega)) ⟨rfl, rfl, rfl, rfl, rfl, rfl, inc64 (by omega), trivial⟩ (.drop 0 1 (.refl _))
        refine LoadAt.mk 0 _ _ rfl rfl ?_
        refine With.mk ⟨rfl, by omega, by omega⟩ ?_
        refine LoadAt.mkB 1 _ _ rfl (bbC_read (b := c) rfl c1 (by omega)) (fun c5 => ?_) (fun c5 => ?_)
        · refine LoadAt.mk 0 _ _ rfl rfl ?_
          refine With.mk ⟨rfl, by omega, by omega⟩ ?_
          refine StoreAt.mk 1 _ _ rfl (bbC_write (b := c) rfl true c3 (by omega)) ?_
          rw [goB_yes ⟨c1, c2⟩ ⟨c3, c4⟩ c5] at hd
          exact nextS (j + 1, c.set e.2.1.toNat true) (by show l.length - (j + 1) < l.length - j; omega) ⟨hlt2, by rw [List.length_set]; exact hc, hd⟩ ⟨rfl, rfl, rfl, rfl, rfl, rfl, inc64 (by omega), trivial⟩ (.drop 0 1 (.refl _))
        · exact nextS (j + 1, c) (by show l.length - (j + 1) < l.length - j; omega) (hnx (by rw [c5]; simp)) ⟨rfl, rfl, rfl, rfl, rfl, rfl, inc64 (by omega), trivial⟩ (.drop 0 1 (.refl _))
      · have hge2 : j = l.length := by omega
        subst hge2
        rw [List.drop_length] at hd
        have hd : c = roundB n l b := hd
        exact nextS (k + 1, c) (by show n - (k + 1) < n - k; omega) ⟨hlt, hc, by show roundsB n l (n - (k + 1)) c = _; rw [hd]; exact ha⟩ ⟨rfl, rfl, rfl, inc64 (by omega), trivial⟩ (.refl _)
    · have hge : k = n := by omega
      subst hge
      rw [Nat.sub_self] at ha
      have ha : b = reachB k l fr := ha
      have hul : ∀ j, (listB b j).length ≤ j := fun j => by unfold listB; rw [List.length_map]; exact Nat.le_trans (List.length_filter_le _ _) (by simp)
      refine .wrap 13 _ rfl rfl ?_
      refine loopS (S := Nat × AV × Hp) (fun s => [(0, .int .i64 k), (7, .mref bq 0 k 1), (13, .via s.2.1), (14, .int .i64 s.1)]) (fun s => (bq, bbC b) :: (s.2.2 ++ σ)) (fun s => s.1 ≤ k ∧ Acc 1 (listB b s.1).length s.2.1 s.2.2 (inC (listB b s.1))) (fun s => k - s.1) (0, .nils, []) ⟨⟨Nat.zero_le _, .nil⟩, ⟨rfl, rfl, rfl, rfl, trivial⟩, rfl⟩ ?_
      rintro ⟨j, v, acc⟩ g2 ⟨hj0, hacc0⟩
      have hj : j ≤ k := hj0
      have hacc : Acc 1 (listB b j).length v acc (inC (listB b j)) := hacc0
      clear hj0 hacc0
      have hsucc := listB_succ b j
      refine bcond_dec (p := (j : Int) < (k : Int)) (fun hlt => ?_) (fun hge => ?_)
      · have hlt : j < k := by omega
        refine With.mk ⟨rfl, by omega, by omega⟩ ?_
        refine LoadAt.mkB 0 _ _ rfl (bbC_read rfl (by omega) (by omega)) (fun c5 => ?_) (fun c5 => ?_)
        · rw [Int.toNat_natCast] at c5
          rw [c5, if_pos rfl] at hsucc
          intro bl1
          refine append_acc [_, _] hacc (.mref 0 bl1 0 1 _ rfl (Nat.le_of_ble_eq_true rfl)) rfl (by have := hul j; omega) (by decide) (by decide) (fun v' acc' h' => ?_)
          refine nextS (j + 1, v', acc') (by show k - (j + 1) < k - j; omega) ⟨hlt, ?_⟩ ⟨rfl, rfl, rfl, inc64 (by omega), trivial⟩ (.drop 0 1 (shed_eq rfl))
          show Acc 1 (listB b (j + 1)).length v' acc' (inC (listB b (j + 1)))
          rw [hsucc, List.length_append, inC, List.map_append]
          exact h'
        · rw [Int.toNat_natCast] at c5
          rw [c5, if_neg Bool.false_ne_true, List.append_nil] at hsucc
          exact nextS (j + 1, v, acc) (by show k - (j + 1) < k - j; omega) ⟨hlt, by show Acc 1 (listB b (j + 1)).length v acc (inC (listB b (j + 1))); rw [hsucc]; exact hacc⟩ ⟨rfl, rfl, rfl, inc64 (by omega), trivial⟩ (.refl _)
      · have hge : j = k := by omega
        subst hge
        exact fin_acc (s := .int .i64) [_] hacc rfl (inC_flat _) (by decide) (.drop 0 1 (.done ⟨by rw [show listB b j = reachR j l fr by unfold reachR; rw [← ha, Int.toNat_natCast]], rfl⟩))
end Go.Proofs.YtljbnigceammdaaGreatDoor
namespace Go.Proofs.YtljbnigceammdaaGreatDoor
open Go.RowKit
set_option maxRecDepth 100000
def inB (l : List Int) (x : Int) : Bool := l.any fun z => decide (x = z)
theorem inB_iff {l : List Int} {x : Int} : inB l x = true ↔ x ∈ l := by unfold inB; simp
theorem inC_len (l : List Int) : (inC l).length = l.length := List.length_map _
theorem aRInQ (l : List Int) (x : Int) (σ : Hp) (hl : l.length ≤ 1000000) : ACalls Tryz.prog 26 [.fsl (.int .i64) l, .int .i64 x] σ (Ret (.bool (inB l x)) σ) := aRIn l x σ hl
def toB (n : Int) (l : List EdgeT) (a b : Int) : Bool := inB (reachR n l [a]) b
theorem listB_length (b : List Bool) (k : Nat) : (listB b k).length ≤ k := by unfold listB; rw [List.length_map]; exact Nat.le_trans (List.length_filter_le _ _) (by simp)
theorem reachR_length (n : Nat) (l : List EdgeT) (fr : List Int) : (reachR n l fr).length ≤ n := by
  have := listB_length (reachB n l fr) ((n : Int)).toNat
  rw [Int.toNat_natCast] at this
  exact this
theorem aRTo (n : Nat) (l : List EdgeT) (a b : Int) (σ : Hp) (hl : l.length ≤ 100000) (hn : n ≤ 100000) : ACalls Tryz.prog 63 [.int .i64 n, .fsl edgeSh l, .int .i64 a, .int .i64 b] σ (Ret (.bool (toB n l a b)) σ) := by
  refine okF Tryz.func63 (by kernel_rfl) ?_
  intro bl1
  refine .frz (args' := [.int .i64 n, .fsl edgeSh l, .fsl (.int .i64) [a]]) 0 bl1 0 1 1 _ (.int .i64) [a] rfl rfl ⟨rfl, rfl, by decide⟩ (frz_cons (.refl _) (frz_cons (.refl _) (frz_cons .here frz_nil))) (callR [] (aRReached n l [a] _ hl hn (by show 1 ≤ 100000; omega)) ?_)
  refine callR [] (aRInQ _ _ _ (by have := reachR_length n l [a]; omega)) ?_
  exact .done ⟨rfl, rfl⟩
def partUp (n : Int) (l : List EdgeT) (a : Int) (k : Nat) : List Int := ((List.range k).filter fun b : Nat => toB n l a b && toB n l b a).map fun i : Nat => (i : Int)
def partB (n : Int) (l : List EdgeT) (a : Int) : List Int := partUp n l a n.toNat
def freeB (l : List EdgeT) (part told : List Int) : Bool := l.all fun e => !(inB part e.2.1 && !inB part e.1 && !inB told e.1)
end Go.Proofs.YtljbnigceammdaaGreatDoor
namespace Go.Proofs.YtljbnigceammdaaGreatDoor
open Go.RowKit
set_option maxRecDepth 100000
theorem getD_setBq {b : List Bool} {i j : Nat} {x : Bool} : (b.set i x).getD j false = if i = j ∧ j < b.length then x else b.getD j false := by
  simp only [List.getD_eq_getElem?_getD, List.getElem?_set]
  by_cases h : i = j
  · subst h
    by_cases h2 : i < b.length
    · simp [h2]
    · simp [h2]
  · simp [h]
theorem mem_partB {n : Nat} {l : List EdgeT} {a z : Int} : z ∈ partB n l a ↔ ∃ i : Nat, i < n ∧ (toB n l a i && toB n l i a) = true ∧ z = i := by
  unfold partB partUp
  rw [List.mem_map, Int.toNat_natCast]
  constructor
  · rintro ⟨i, hi, rfl⟩
    rw [List.mem_filter, List.mem_range] at hi
    exact ⟨i, hi.1, hi.2, rfl⟩
  · rintro ⟨i, h1, h2, rfl⟩
    exact ⟨i, by rw [List.mem_filter, List.mem_range]; exact ⟨h1, h2⟩, rfl⟩
structure OfI (n : Nat) (ps : List (List Int)) (told : List Int) : Prop where
  told : told = ps.flatten
  ne : ∀ p ∈ ps, 0 < p.length ∧ p.length ≤ n
  node : ∀ p ∈ ps, ∀ z ∈ p, 0 ≤ z ∧ z < n
  ahead : ∀ i, i < ps.length → (ps.take i).flatten.length < n
theorem OfI.tlen {n : Nat} {ps : List (List Int)} {told : List Int} (h : OfI n ps told) : told.length ≤ 2 * n := by
  rw [h.told]
  rcases List.eq_nil_or_concat ps with rfl | ⟨qs, q, rfl⟩
  · simp
  · rw [List.concat_eq_append]
    have h1 := h.ahead qs.length (by simp)
    have h2 := (h.ne q (by simp)).2
    rw [List.concat_eq_append, List.take_left] at h1
    rw [List.flatten_append, List.length_append]
    simp only [List.flatten_cons, List.flatten_nil, List.append_nil]
    omega
theorem OfI.nil (n : Nat) : OfI n [] [] := ⟨rfl, fun _ h => (List.not_mem_nil h).elim, fun _ h => (List.not_mem_nil h).elim, fun _ h => (Nat.not_lt_zero _ h).elim⟩
def psC (ps : List (List Int)) : List AV := ps.map (.fsl (.int .i64))
theorem psC_flat : ∀ ps : List (List Int), psC ps = ps.flatMap (Sh.cells (.slice (.int .i64)))
  | [] => rfl
  | p :: ps => congrArg (AV.fsl (.int .i64) p :: ·) (psC_flat ps)
theorem head_at {nx : List Int} (h : 0 < nx.length) : nx[((0 : Int)).toNat]? = some (nx.headD 0) := by
  cases nx with
  | nil => simp at h
  | cons z nx => rfl
end Go.Proofs.YtljbnigceammdaaGreatDoor
namespace Go.Proofs.YtljbnigceammdaaGreatDoor
open Go.Shelf
def lays189_ren : Go.Shelf.Ren := ⟨fun | 189 => 55 | 125 => 86 | 257 => 85 | 128 => 116 | 129 => 117 | 294 => 107 | 295 => 108 | 296 => 109 | 297 => 110 | 298 => 111 | 299 => 112 | 216 => 113 | 300 => 114 | 301 => 115 | 328 => 141 | 329 => 142 | 330 => 143 | 331 => 144 | 332 => 145 | 215 => 98 | 343 => 165 | n => n, fun | 28 => 25 | 3 => 3 | 46 => 118 | 0 => 0 | 51 => 140 | 53 => 99 | 4 => 4 | 183 => 133 | 182 => 132 | 131 => 137 | 5 => 5 | 9 => 9 | 218 => 159 | 222 => 163 | 228 => 183 | 229 => 184 | n => n, fun | n => n⟩
theorem lays189 : Go.Proofs.Lays.n189 Tryz.prog lays189_ren := {
  mixed := by kernel_rfl
  f125 := Tryz.func86.trans (congrArg some (by kernel_rfl))
  f128 := Tryz.func116.trans (congrArg some (by kernel_rfl))
  f129 := Tryz.func117.trans (congrArg some (by kernel_rfl))
  f189 := Tryz.func55.trans (congrArg some (by kernel_rfl))
  f215 := Tryz.func98.trans (congrArg some (by kernel_rfl))
  f216 := Tryz.func113.trans (congrArg some (by kernel_rfl))
  f257 := Tryz.func85.trans (congrArg some (by kernel_rfl))
  f294 := Tryz.func107.trans (congrArg some (by kernel_rfl))
  f295 := Tryz.func108.trans (congrArg some (by kernel_rfl))
  f296 := Tryz.func109.trans (congrArg some (by kernel_rfl))
  f297 := Tryz.func110.trans (congrArg some (by kernel_rfl))
  f298 := Tryz.func111.trans (congrArg some (by kernel_rfl))
  f299 := Tryz.func112.trans (congrArg some (by kernel_rfl))
  f300 := Tryz.func114.trans (congrArg some (by kernel_rfl))
  f301 := Tryz.func115.trans (congrArg some (by kernel_rfl))
  f328 := Tryz.func141.trans (congrArg some (by kernel_rfl))
  f329 := Tryz.func142.trans (congrArg some (by kernel_rfl))
  f330 := Tryz.func143.trans (congrArg some (by kernel_rfl))
  f331 := Tryz.func144.trans (congrArg some (by kernel_rfl))
  f332 := Tryz.func145.trans (congrArg some (by kernel_rfl))
  f343 := Tryz.func165.trans (congrArg some (by kernel_rfl))
  t0 := Tryz.underlying0
  a0 := Tryz.isAgg0
  z0 := Tryz.sizeOf0
  v0 := Tryz.zeroValue0
  t3 := Tryz.underlying3
  a3 := Tryz.isAgg3
  z3 := Tryz.sizeOf3
  v3 := Tryz.zeroValue3
  t4 := Tryz.underlying4
  a4 := Tryz.isAgg4
  z4 := Tryz.sizeOf4
  v4 := Tryz.zeroValue4
  t5 := Tryz.underlying5
  a5 := Tryz.isAgg5
  z5 := Tryz.sizeOf5
  v5 := Tryz.zeroValue5
  t9 := Tryz.underlying9
  a9 := Tryz.isAgg9
  z9 := Tryz.sizeOf9
  v9 := Tryz.zeroValue9
  t28 := Tryz.underlying25
  a28 := Tryz.isAgg25
  z28 := Tryz.sizeOf25
  v28 := Tryz.zeroValue25
  t46 := Tryz.underlying118
  a46 := Tryz.isAgg118
  z46 := Tryz.sizeOf118
  v46 := Tryz.zeroValue118
  t51 := Tryz.underlying140
  a51 := Tryz.isAgg140
  z51 := Tryz.sizeOf140
  v51 := Tryz.zeroValue140
  t53 := Tryz.underlying99
  a53 := Tryz.isAgg99
  z53 := Tryz.sizeOf99
  v53 := Tryz.zeroValue99
  t131 := Tryz.underlying137
  a131 := Tryz.isAgg137
  z131 := Tryz.sizeOf137
  v131 := Tryz.zeroValue137
  t182 := Tryz.underlying132
  a182 := Tryz.isAgg132
  z182 := Tryz.sizeOf132
  v182 := Tryz.zeroValue132
  t183 := Tryz.underlying133
  a183 := Tryz.isAgg133
  z183 := Tryz.sizeOf133
  v183 := Tryz.zeroValue133
  t218 := Tryz.underlying159
  a218 := Tryz.isAgg159
  z218 := Tryz.sizeOf159
  v218 := Tryz.zeroValue159
  t222 := Tryz.underlying163
  a222 := Tryz.isAgg163
  z222 := Tryz.sizeOf163
  v222 := Tryz.zeroValue163
  t228 := Tryz.underlying183
  a228 := Tryz.isAgg183
  z228 := Tryz.sizeOf183
  v228 := Tryz.zeroValue183
  t229 := Tryz.underlying184
  a229 := Tryz.isAgg184
  z229 := Tryz.sizeOf184
  v229 := Tryz.zeroValue184 }
def laysB20_ren : Go.Shelf.Ren := ⟨fun | 20 => 84 | n => n, fun | 22 => 25 | 3 => 3 | 4 => 4 | 0 => 0 | n => n, fun | n => n⟩
theorem laysB20 : Go.Proofs.Lays2.n20 Tryz.prog laysB20_ren := {
  mixed := by kernel_rfl
  f20 := Tryz.func84.trans (congrArg some (by kernel_rfl))
  t0 := Tryz.underlying0
  a0 := Tryz.isAgg0
  z0 := Tryz.sizeOf0
  v0 := Tryz.zeroValue0
  t3 := Tryz.underlying3
  a3 := Tryz.isAgg3
  z3 := Tryz.sizeOf3
  v3 := Tryz.zeroValue3
  t4 := Tryz.underlying4
  a4 := Tryz.isAgg4
  z4 := Tryz.sizeOf4
  v4 := Tryz.zeroValue4
  t22 := Tryz.underlying25
  a22 := Tryz.isAgg25
  z22 := Tryz.sizeOf25
  v22 := Tryz.zeroValue25
  i3 := by kernel_rfl }
end Go.Proofs.YtljbnigceammdaaGreatDoor
