/-
  LaysT; Dc: what the claim uses of them.
-/
import Derived.Shelf.Spec.TrailingZeros
import Derived.Test.YtljbnigceammdaaGreatDoorBn12
import Derived.Test.YtljbnigceammdaaGreatDoorBn29
import Derived.Test.YtljbnigceammdaaGreatDoorBn17
namespace Go.Proofs.YtljbnigceammdaaGreatDoor
open Go.Shelf
def lays7t_ren : Go.Shelf.Ren := ⟨fun | 29 => 105 | n => n, fun | 22 => 99 | 3 => 3 | 4 => 4 | 25 => 118 | 54 => 158 | 0 => 0 | 5 => 5 | n => n, fun | 1 => 0 | n => n⟩
theorem lays7t : Go.Proofs.Lays7.n29 Tryz.prog lays7t_ren := {
  mixed := by kernel_rfl
  f29 := Tryz.func105.trans (congrArg some (by kernel_rfl))
  t0 := Tryz.underlying0
  a0 := Tryz.isAgg0
  z0 := Tryz.sizeOf0
  v0 := Tryz.zeroValue0
  i0 := by kernel_rfl
  t3 := Tryz.underlying3
  a3 := Tryz.isAgg3
  z3 := Tryz.sizeOf3
  v3 := Tryz.zeroValue3
  i3 := by kernel_rfl
  t4 := Tryz.underlying4
  a4 := Tryz.isAgg4
  z4 := Tryz.sizeOf4
  v4 := Tryz.zeroValue4
  i4 := by kernel_rfl
  t5 := Tryz.underlying5
  a5 := Tryz.isAgg5
  z5 := Tryz.sizeOf5
  v5 := Tryz.zeroValue5
  i5 := by kernel_rfl
  t22 := Tryz.underlying99
  a22 := Tryz.isAgg99
  z22 := Tryz.sizeOf99
  v22 := Tryz.zeroValue99
  i22 := by kernel_rfl
  t25 := Tryz.underlying118
  a25 := Tryz.isAgg118
  z25 := Tryz.sizeOf118
  v25 := Tryz.zeroValue118
  i25 := by kernel_rfl
  t54 := Tryz.underlying158
  a54 := Tryz.isAgg158
  z54 := Tryz.sizeOf158
  g1 := by kernel_rfl }
end Go.Proofs.YtljbnigceammdaaGreatDoor
namespace Go.Proofs.YtljbnigceammdaaGreatDoor
open Go.RowKit
set_option maxRecDepth 100000
/-- The library's table, in its variable. -/
def tabT : List AV := Lib.deBruijn64tab.map fun k : Nat => AV.int .u8 k
abbrev gT : Nat := lays7t_ren.g 1
theorem aTz64 (x : Nat) (hx : x < 18446744073709551616) (σ : Hp) (h : (gT, tabT) ∈ σ) : ACalls Tryz.prog 105 [.int .u64 x] σ (Ret (.int .i64 (Lib.ctz 64 x)) σ) := by
  refine ⟨enters_of Tryz.func105 (by kernel_rfl), fun F w vs hvs hσ => ?_⟩
  obtain ⟨v, rfl⟩ := one_arg hvs.1
  have hv : VRel F w (.int .u64 x) v := hvs.2 0 _ rfl
  obtain rfl : v = .int .u64 x := hv.intv
  have hh := hσ.holds _ h
  obtain ⟨_, c, T, h1, h2, h3⟩ := hh.leafs (k := 0) (x := .int .u8 0) rfl rfl
  have h2 : tabT.length ≤ c.size := h2
  have hT : (x ≠ 0 → TabAt (lays7t_ren.g 1) Lib.deBruijn64tab w) := fun _ j hj => by
    have hx : tabT[j]? = some (.int .u8 (Lib.deBruijn64tab.getD j 0)) := by
      unfold tabT
      rw [List.getElem?_map, List.getElem?_eq_getElem hj, List.getD_eq_getElem?_getD, List.getElem?_eq_getElem hj]; rfl
    have hv := (h3 j _ hx).2.intv
    have hlt : j < c.size := by
      have : tabT.length = Lib.deBruijn64tab.length := List.length_map ..
      omega
    have hc : c[j]? = some (.int .u8 (Lib.deBruijn64tab.getD j 0)) := by
      rw [Array.getElem?_eq_getElem hlt]
      have : c.getD j undef = c[j] := by simp [Array.getD, hlt]
      rw [← this, hv]
    show (match w.heap[gT]? with | some (.cells c _ _) => if false then none else c[j]? | _ => none) = _
    rw [h1]
    exact hc
  refine (Any7.bits_TrailingZeros64 lays7t x hx w hT).mono ?_
  rintro e w' ⟨rfl, rfl⟩
  exact ⟨.int .i64 (Lib.ctz 64 x), .int .i64 (Lib.ctz 64 x), σ, F, rfl, .refl _ _, hσ, .int .., rfl, rfl⟩
/-- A small set's numbers. -/
def bitsL (w : Nat) : List Int := ((List.range 8).filter fun k => w.testBit k).map fun k : Nat => (k : Int)
theorem bits_step : ∀ w, w < 256 → w ≠ 0 → bitsL w = (Lib.ctz 64 w : Int) :: bitsL (w &&& (w - 1)) ∧ (w &&& (w - 1)) < w ∧ Lib.ctz 64 w < 8 := by decide +kernel
theorem bits_len : ∀ w, w < 256 → (bitsL w).length ≤ 8 := by decide +kernel
theorem aWsAll1 (l b1 : Nat) (rd : AV) (z : Nat) (hz : z < 256) (St : List Int → Hp → Prop) (ρ : Hp) (hg : (gT, tabT) ∈ ρ)
    (hY : ∀ (L : List Int) (k : Int) (τ : Hp), St L τ → L.length < 8 → YCalls Tryz.prog l [.int .i64 k] ((l, [rd]) :: (b1, [.fsl (.int .u64) ([(z : Int)] : List Int)]) :: (τ ++ ρ)) (fun r' σ' => r' = .bool true ∧ ∃ τ', St (L ++ [k]) τ' ∧ σ' = (l, [rd]) :: (b1, [.fsl (.int .u64) ([(z : Int)] : List Int)]) :: (τ' ++ ρ)))
    (τ : Hp) (h0 : St [] τ) :
    ACalls Tryz.prog 104 [.fn (.yield l) [] [], .ptr b1 0] ((l, [rd]) :: (b1, [.fsl (.int .u64) ([(z : Int)] : List Int)]) :: (τ ++ ρ)) (fun _ σ' => ∃ τ', St (bitsL z) τ' ∧ σ' = (l, [rd]) :: (b1, [.fsl (.int .u64) ([(z : Int)] : List Int)]) :: (τ' ++ ρ)) := by
  have hbl := bits_len z hz
  obtain ⟨a, ha⟩ : ∃ a : List Int, a = [(z : Int)] := ⟨_, rfl⟩
  rw [← ha] at hY ⊢
  have hal : a.length = 1 := by rw [ha]; rfl
  have ha0 : a[(0 : Int).toNat]? = some (z : Int) := by rw [ha]; rfl
  clear ha
  refine okF Tryz.func104 (by kernel_rfl) ?_
  refine LoadAt.mk 1 _ _ rfl rfl ?_
  refine loopS (S := Nat × Hp) (fun x => [(0, .fn (.yield l) [] []), (5, .fsl (.int .u64) a), (6, .int .i64 a.length), (7, .int .i64 x.1)]) (fun x => (l, [rd]) :: (b1, [.fsl (.int .u64) a]) :: (x.2 ++ ρ)) (fun x => x.1 ≤ 1 ∧ St (if x.1 = 0 then [] else bitsL z) x.2) (fun x => 1 - x.1) (0, τ) ⟨⟨Nat.zero_le _, h0⟩, ⟨rfl, rfl, rfl, rfl, trivial⟩, rfl⟩ ?_
  rintro ⟨i, τ⟩ g ⟨hi0, hS0⟩
  have hi : i ≤ 1 := hi0
  have hS : St (if i = 0 then [] else bitsL z) τ := hS0
  clear hi0 hS0
  refine bcond_dec (p := (i : Int) < a.length) (fun hlt => ?_) (fun hge => ?_)
  · have hi : i = 0 := by omega
    rw [if_pos hi] at hS
    refine With.mk rfl (IdxF.mk (z : Int) (by omega) (by rw [hi]; exact ha0) ?_)
    refine loopS (S := Nat × List Int × Hp) (fun x => [(0, .fn (.yield l) [] []), (3, .int .i64 i), (4, .int .u64 x.1), (5, .fsl (.int .u64) a), (6, .int .i64 a.length), (7, .int .i64 i)]) (fun x => (l, [rd]) :: (b1, [.fsl (.int .u64) a]) :: (x.2.2 ++ ρ)) (fun x => x.1 < 256 ∧ x.2.1 ++ bitsL x.1 = bitsL z ∧ St x.2.1 x.2.2) (fun x => x.1) (z, [], τ) ⟨⟨hz, rfl, hS⟩, ⟨rfl, rfl, rfl, rfl, rfl, rfl, trivial⟩, rfl⟩ ?_
    rintro ⟨w, L, τ⟩ g ⟨hw0, hL0, hS0⟩
    have hw : w < 256 := hw0
    have hL : L ++ bitsL w = bitsL z := hL0
    have hS : St L τ := hS0
    clear hw0 hL0 hS0
    refine bcond_split (fun c1 => ?_) (fun c1 => ?_)
    · have c1 : w ≠ 0 := fun e => by subst e; simp at c1
      obtain ⟨k1, k2, k3⟩ := bits_step w hw c1
      rw [k1] at hL
      have hLl : L.length < 8 := by have := congrArg List.length hL; simp at this; omega
      have hv : AV.int .i64 (IntKind.i64.wrap (IntKind.i64.wrap ((i : Int) * 64) + (Lib.ctz 64 w : Int))) = .int .i64 (Lib.ctz 64 w : Int) := av_int (by rw [hi]; rw [w64 (n := ((0 : Nat) : Int) * 64) (by omega), w64 (by omega)]; omega)
      have hYw := hY L (Lib.ctz 64 w : Int) τ hS hLl
      rw [← hv] at hYw
      have hand : AV.int .u64 (bits .and .u64 (w : Int) (IntKind.u64.wrap ((w : Int) - 1))) = .int .u64 ((w &&& (w - 1) : Nat) : Int) := av_int (by rw [IntKind.wrap_u64, show ((w : Int) - 1) % 18446744073709551616 = ((w - 1 : Nat) : Int) by omega]; exact bits_and_u64_nat w (w - 1) (by omega) (by omega))
      refine callR [] (aTz64 w (by omega) _ (.tail _ (.tail _ (List.mem_append_right _ hg)))) ?_
      refine YieldAt.mk [] _ hYw ?_
      rintro r' σ' ⟨rfl, τ', hS', rfl⟩
      exact nextS (w &&& (w - 1), L ++ [(Lib.ctz 64 w : Int)], τ') k2 ⟨Nat.lt_trans k2 hw, by show (L ++ [(Lib.ctz 64 w : Int)]) ++ bitsL (w &&& (w - 1)) = bitsL z; rw [List.append_assoc]; exact hL, hS'⟩ ⟨rfl, rfl, hand, rfl, rfl, rfl, trivial⟩ (.refl _)
    · have c1 : w = 0 := by simp at c1; omega
      subst c1
      have hL2 : L = bitsL z := by rw [← hL, show bitsL 0 = [] from rfl, List.append_nil]
      exact nextS (i + 1, τ) (by show 1 - (i + 1) < 1 - i; omega) ⟨by omega, by show St (if i + 1 = 0 then [] else bitsL z) τ; rw [if_neg (by omega), ← hL2]; exact hS⟩ ⟨rfl, rfl, rfl, inc64 (by omega), trivial⟩ (.refl _)
  · have hi : i = 1 := by omega
    rw [if_neg (by omega)] at hS
    exact .done ⟨τ, hS, rfl⟩
theorem aWsAll (a : List Int) (σ : Hp) : ACalls Tryz.prog 77 [.fsl (.int .u64) a] σ (fun r σ' => ∃ b, r = .fn (.func 104) [] [.ptr b 0] ∧ σ' = (b, [.fsl (.int .u64) a]) :: σ) := by
  refine okF Tryz.func77 (by kernel_rfl) ?_
  intro bl1
  exact .done ⟨bl1, rfl, rfl⟩
theorem aWsList (z : Nat) (hz : z < 256) (σ : Hp) (hg : (gT, tabT) ∈ σ) : ACalls Tryz.prog 42 [.fsl (.int .u64) ([(z : Int)] : List Int)] σ (Ret (.fsl (.int .i64) (bitsL z)) σ) := by
  refine okF Tryz.func42 (by kernel_rfl) ?_
  intro bl1
  refine .mk [] _ (aWsAll _ _) ?_
  rintro _ _ ⟨b1, rfl, rfl⟩
  refine .shed (shed_eq (σ2 := (b1, [.fsl (.int .u64) ([(z : Int)] : List Int)]) :: ([(bl1, [.nils])] ++ σ)) rfl) ?_
  refine .mk (fun l rd dn hY => ?_)
  refine (aWsAll1 l b1 rd z hz (fun L τ => ∃ vo acc, τ = (bl1, [vo]) :: acc ∧ Acc 1 L.length vo acc (inC L)) σ hg ?_ [(bl1, [.nils])] ⟨.nils, [], rfl, .nil⟩).mono ?_
  · rintro L k _ ⟨vo, acc, rfl, hacc⟩ hl
    refine (hY [.int .i64 k] _ (fun e σ2 => e = .normal ∧ ∃ x vo' acc', Acc 1 (L ++ [k]).length vo' acc' (inC (L ++ [k])) ∧ σ2 = x :: (b1, [.fsl (.int .u64) ([(z : Int)] : List Int)]) :: (bl1, [vo']) :: (acc' ++ σ)) rfl ?_).shed ?_
    · refine LoadAt.mk 1 _ _ rfl rfl ?_
      intro bl4
      refine append_accV [_, _, _] hacc.unv (.mref 0 bl4 0 1 _ rfl (Nat.le_of_ble_eq_true rfl)) rfl (by omega) (by decide) (by decide) (fun v' acc' h' => ?_)
      obtain ⟨b5, rfl, rfl⟩ := accA_one (by omega) h'
      refine StoreAt.mk 2 _ _ rfl rfl ?_
      refine ⟨rfl, (bl4, [.int .i64 k]), .mref b5 0 (L.length + 1) 1, [(b5, inC L ++ [.int .i64 k])], ?_, ?_⟩
      · rw [List.length_append, List.length_singleton, show inC (L ++ [k]) = inC L ++ [.int .i64 k] from List.map_append]; exact h'
      · rfl
    · rintro r σ' (⟨rfl, σ2, rfl, _, x, vo', acc', h', rfl⟩ | ⟨rfl, e, σ2, hne, rfl, he, _⟩)
      · exact ⟨_, .drop 1 1 (.refl _), rfl, _, ⟨vo', acc', rfl, h'⟩, rfl⟩
      · exact absurd he hne
  · rintro r σ' ⟨_, ⟨vo', acc', rfl, hacc'⟩, rfl⟩
    refine .inl ⟨_, rfl, ?_⟩
    generalize bitsL z = L at hacc'
    obtain ⟨q, hq⟩ : ∃ q, L.length = q := ⟨_, rfl⟩
    obtain ⟨cs, hcs⟩ : ∃ cs, inC L = cs := ⟨_, rfl⟩
    rw [hq, hcs] at hacc'
    cases hacc' with
    | nil =>
      obtain rfl := List.length_eq_zero_iff.1 hq
      refine LoadAt.mk 1 _ _ rfl rfl ?_
      exact .nil (.nil (.int .i64)) (.drop 0 2 (.done ⟨rfl, rfl⟩))
    | mref b q cs h =>
      refine LoadAt.mk 1 _ _ rfl rfl ?_
      exact .drop 0 2 (.frz 0 b 0 q 1 cs (.int .i64) L rfl (by rw [List.drop_zero, List.take_of_length_le (Nat.le_of_eq h), ← hcs]; exact inC_flat _) ⟨hq, rfl, by decide⟩ .here (.done ⟨rfl, rfl⟩))
/-- A small set of numbers. -/
def setB (N z : Nat) (a : Int) : Nat := if 0 ≤ a ∧ a < N then z ||| 2 ^ a.toNat else z
def ofB (N : Nat) (l : List Int) : Nat := l.foldl (setB N) 0
theorem ofB_take (N : Nat) (l : List Int) {k : Nat} (h : k < l.length) : ofB N (l.take (k + 1)) = setB N (ofB N (l.take k)) l[k] := by
  unfold ofB; rw [List.take_succ_eq_append_getElem h, List.foldl_append]; rfl
theorem or_256 {z a : Nat} (hz : z < 256) (ha : a < 8) : z ||| 2 ^ a < 256 := Nat.or_lt_two_pow (n := 8) hz (Nat.pow_lt_pow_right (by decide) ha)
theorem setB_lt {N z : Nat} (hN : N ≤ 8) (hz : z < 256) (a : Int) : setB N z a < 256 := by
  unfold setB
  split
  · exact or_256 hz (by omega)
  · exact hz
theorem ofB_lt {N : Nat} (hN : N ≤ 8) (l : List Int) : ofB N l < 256 := by
  have key : ∀ (l : List Int) (z : Nat), z < 256 → l.foldl (setB N) z < 256 := by
    intro l
    induction l with
    | nil => exact fun z hz => hz
    | cons a l ih => exact fun z hz => ih _ (setB_lt hN hz a)
  exact key l 0 (by decide)
theorem sz_one {N : Nat} (h1 : 1 ≤ N) (h8 : N ≤ 8) : sizeW N = 1 ∧ cutW N = N := by unfold sizeW cutW; omega
theorem or_w {z a : Nat} (hz : z < 256) (ha : a < 8) : orW (z : Int) ((2 ^ a : Nat) : Int) = ((z ||| 2 ^ a : Nat) : Int) := bits_or_u64_nat z (2 ^ a) (by omega) (by have := Nat.pow_lt_pow_right (a := 2) (by decide) ha; omega)
theorem aWsOf (N : Nat) (h1 : 1 ≤ N) (h8 : N ≤ 8) (l : List Int) (σ : Hp) (hl : l.length ≤ 100000) : ACalls Tryz.prog 40 [.int .i64 N, .fsl (.int .i64) l] σ (Ret (.fsl (.int .u64) ([(ofB N l : Int)] : List Int)) σ) := by
  obtain ⟨hs1, hc1⟩ := sz_one h1 h8
  have hSz : ∀ σ, ACalls Tryz.prog 73 [.int .i64 N] σ (Ret (.int .i64 (1 : Nat)) σ) := fun σ => hs1 ▸ aSize10 N σ
  have hCt : ∀ σ, ACalls Tryz.prog 74 [.int .i64 N] σ (Ret (.int .i64 N) σ) := fun σ => by have := aCut10 N σ; rwa [hc1] at this
  refine okF Tryz.func40 (by kernel_rfl) ?_
  refine callR [] (hSz _) ?_
  refine With.mk ⟨by decide, by decide, by decide, by decide⟩ ?_
  intro bq
  refine loopS (S := Nat) (fun k => [(0, .int .i64 N), (5, .mref bq 0 1 1), (11, .fsl (.int .i64) l), (12, .int .i64 l.length), (13, .int .i64 k)]) (fun k => (bq, woC [(ofB N (l.take k) : Int)]) :: σ) (fun k => k ≤ l.length) (fun k => l.length - k) 0 ⟨Nat.zero_le _, ⟨rfl, rfl, rfl, rfl, rfl, trivial⟩, rfl⟩ ?_
  intro k g hk0
  have hk : k ≤ l.length := hk0
  clear hk0
  refine bcond_dec (p := (k : Int) < l.length) (fun hlt => ?_) (fun hge => ?_)
  · have hlt : k < l.length := by omega
    have hst := ofB_take N l hlt
    obtain ⟨a, ha⟩ : ∃ a, l[k] = a := ⟨_, rfl⟩
    rw [ha] at hst
    have hz := ofB_lt h8 (l.take k)
    obtain ⟨z, hzz⟩ : ∃ z, ofB N (l.take k) = z := ⟨_, rfl⟩
    rw [hzz] at hst hz ⊢
    refine With.mk rfl (IdxF.mk a (by omega) ((get_some hlt).trans (congrArg some ha)) ?_)
    refine bcond_dec (p := 0 ≤ a) (fun c1 => ?_) (fun c1 => ?_)
    · refine callR [] (hCt _) ?_
      refine bcond_dec (p := a < (N : Int)) (fun c2 => ?_) (fun c2 => ?_)
      · obtain ⟨A, rfl⟩ : ∃ A : Nat, a = A := ⟨a.toNat, by omega⟩
        have hset : setB N z A = z ||| 2 ^ A := by unfold setB; rw [if_pos ⟨c1, c2⟩, Int.toNat_natCast]
        rw [hset] at hst
        have hd := div64 A (by omega)
        have hd0 : A / 64 = 0 := by omega
        rw [hd0] at hd
        have hm := mod64 A
        have hm0 : A % 64 = A := by omega
        rw [hm0] at hm
        refine .sched [] (upto [] 11 0) (by kernel_rfl) ?_
        refine With.mk (by omega) ?_
        refine With.mk ⟨rfl, by omega, by omega⟩ ?_
        refine LoadAt.mk 0 _ _ rfl (get64 (l := [(z : Int)]) (i := 0) (by show 0 < 1; omega) hd) ?_
        have e64 := shl64 A (by omega)
        rw [← hm] at e64
        refine With.mk (by omega) ?_
        refine With.mk (by omega) ?_
        refine With.mk ⟨rfl, by omega, by omega⟩ ?_
        refine StoreAt.mk 0 _ _ rfl (put64 (l := [(z : Int)]) (i := 0) (by show 0 < 1; omega) _ hd) ?_
        refine nextS (k + 1) (by show l.length - (k + 1) < l.length - k; omega) hlt ⟨rfl, rfl, rfl, rfl, inc64 (by omega), trivial⟩ (shed_eq ?_)
        rw [hst]
        have hor := or_w (z := z) (a := A) hz (by omega)
        rw [← e64] at hor
        exact congrArg (fun x : Int => (bq, woC [x]) :: σ) hor
      · have hset : setB N z a = z := if_neg (by omega)
        exact nextS (k + 1) (by show l.length - (k + 1) < l.length - k; omega) hlt ⟨rfl, rfl, rfl, rfl, inc64 (by omega), trivial⟩ (shed_eq (by rw [hst, hset]; rfl))
    · have hset : setB N z a = z := if_neg (by omega)
      exact nextS (k + 1) (by show l.length - (k + 1) < l.length - k; omega) hlt ⟨rfl, rfl, rfl, rfl, inc64 (by omega), trivial⟩ (shed_eq (by rw [hst, hset]))
  · have hge : k = l.length := by omega
    subst hge
    exact .frz 0 bq 0 1 1 _ (.int .u64) ([(ofB N l : Int)] : List Int) rfl (by rw [List.take_length]; rfl) ⟨rfl, rfl, by decide⟩ .here (.done ⟨rfl, rfl⟩)
/-- The same, of one number in a block that stays. -/
theorem aWsOfM (N : Nat) (h1 : 1 ≤ N) (h8 : N ≤ 8) (b v : Nat) (hv : v < N) (σ : Hp) : ACalls Tryz.prog 40 [.int .i64 N, .mref b 0 1 1] ((b, [.int .i64 v]) :: σ) (Ret (.fsl (.int .u64) ([((2 ^ v : Nat) : Int)] : List Int)) ((b, [.int .i64 v]) :: σ)) := by
  obtain ⟨hs1, hc1⟩ := sz_one h1 h8
  have hSz : ∀ σ, ACalls Tryz.prog 73 [.int .i64 N] σ (Ret (.int .i64 (1 : Nat)) σ) := fun σ => hs1 ▸ aSize10 N σ
  have hCt : ∀ σ, ACalls Tryz.prog 74 [.int .i64 N] σ (Ret (.int .i64 N) σ) := fun σ => by have := aCut10 N σ; rwa [hc1] at this
  refine okF Tryz.func40 (by kernel_rfl) ?_
  refine callR [] (hSz _) ?_
  refine With.mk ⟨by decide, by decide, by decide, by decide⟩ ?_
  intro bq
  obtain ⟨one, hone⟩ : ∃ one : Nat, one = 1 := ⟨_, rfl⟩
  refine loopS (S := Nat) (fun k => [(0, .int .i64 N), (5, .mref bq 0 1 1), (11, .mref b 0 1 1), (12, .int .i64 one), (13, .int .i64 k)]) (fun k => (bq, woC [((if k = 0 then 0 else 2 ^ v : Nat) : Int)]) :: (b, [.int .i64 v]) :: σ) (fun k => k ≤ 1) (fun k => 1 - k) 0 ⟨Nat.zero_le _, ⟨rfl, rfl, rfl, by rw [hone]; rfl, rfl, trivial⟩, rfl⟩ ?_
  intro k g hk0
  have hk : k ≤ 1 := hk0
  clear hk0
  refine bcond_dec (p := (k : Int) < one) (fun hlt => ?_) (fun hge => ?_)
  · have hk0 : k = 0 := by omega
    subst hk0
    refine With.mk ⟨rfl, by omega, by omega⟩ ?_
    refine LoadAt.mk 1 _ _ rfl rfl ?_
    have hd := div64 v (by omega)
    rw [show v / 64 = 0 by omega] at hd
    have hm := mod64 v
    rw [show v % 64 = v by omega] at hm
    obtain ⟨V, hV⟩ : ∃ V : Int, V = v := ⟨_, rfl⟩
    rw [← hV] at hd hm ⊢
    refine bcond_dec (p := 0 ≤ V) (fun c1 => ?_) (fun c1 => absurd c1 (by omega))
    refine callR [] (hCt _) ?_
    refine bcond_dec (p := V < (N : Int)) (fun c2 => ?_) (fun c2 => absurd c2 (by omega))
    refine .sched [] (upto [] 11 0) (by kernel_rfl) ?_
    refine With.mk (by omega) ?_
    refine With.mk ⟨rfl, by omega, by omega⟩ ?_
    refine LoadAt.mk 0 _ _ rfl (get64 (l := [((0 : Nat) : Int)]) (i := 0) (by show 0 < 1; omega) hd) ?_
    have e64 := shl64 v (by omega)
    rw [← hV, ← hm] at e64
    refine With.mk (by omega) ?_
    refine With.mk (by omega) ?_
    refine With.mk ⟨rfl, by omega, by omega⟩ ?_
    refine StoreAt.mk 0 _ _ rfl (put64 (l := [((0 : Nat) : Int)]) (i := 0) (by show 0 < 1; omega) _ hd) ?_
    have hor := or_w (z := 0) (a := v) (by decide) (by omega)
    rw [← e64, Nat.zero_or] at hor
    exact nextS 1 (by show 1 - 1 < 1 - 0; omega) (Nat.le_refl _) ⟨rfl, rfl, rfl, rfl, rfl, trivial⟩ (shed_eq (congrArg (fun x : Int => (bq, woC [x]) :: (b, [AV.int .i64 V]) :: σ) hor))
  · have hge : k = 1 := by omega
    subst hge
    exact .frz 0 bq 0 1 1 _ (.int .u64) ([((2 ^ v : Nat) : Int)] : List Int) rfl rfl ⟨rfl, rfl, by decide⟩ .here (.done ⟨rfl, rfl⟩)
end Go.Proofs.YtljbnigceammdaaGreatDoor
