/-
  In; Pop: what the claim uses of them.
-/
import Derived.Test.YtljbnigceammdaaGreatDoorBn12
namespace Go.Proofs.YtljbnigceammdaaGreatDoor
open Go.RowKit
set_option maxRecDepth 100000
theorem aRIn (l : List Int) (x : Int) (σ : Hp) (hl : l.length ≤ 1000000) : ACalls Tryz.prog 26 [.fsl (.int .i64) l, .int .i64 x] σ (Ret (.bool (l.any fun z => decide (x = z))) σ) := by
  refine okF Tryz.func26 (by kernel_rfl) ?_
  refine loopS (S := Nat) (fun k => [(1, .int .i64 x), (7, .fsl (.int .i64) l), (8, .int .i64 l.length), (9, .int .i64 k)]) (fun _ => σ) (fun k => k ≤ l.length ∧ ((l.take k).any fun z => decide (x = z)) = false) (fun k => l.length - k) 0 ⟨⟨Nat.zero_le _, rfl⟩, ⟨rfl, rfl, rfl, rfl, trivial⟩, rfl⟩ ?_
  rintro k g ⟨hk0, ha0⟩
  have hk : k ≤ l.length := hk0
  have ha : ((l.take k).any fun z => decide (x = z)) = false := ha0
  clear hk0 ha0
  refine bcond_dec (fun hlt => ?_) (fun hge => ?_)
  · have hlt : k < l.length := by have hlt : (k : Int) < l.length := hlt; omega
    have hs := any_take hlt fun z : Int => decide (x = z)
    rw [ha, Bool.false_or] at hs
    refine With.mk rfl (IdxF.mk l[k] (by omega) (get_some hlt) ?_)
    refine bcond_dec (p := l[k] = x) (fun d1 => ?_) (fun d1 => ?_)
    · exact .done ⟨av_bool (List.any_eq_true.2 ⟨l[k], List.getElem_mem hlt, decide_eq_true d1.symm⟩).symm, rfl⟩
    · exact nextS (k + 1) (by show l.length - (k + 1) < l.length - k; omega) ⟨hlt, hs.trans (decide_eq_false fun h => d1 h.symm)⟩ ⟨rfl, rfl, rfl, inc64 (by omega), trivial⟩ (.refl _)
  · have hge : k = l.length := by have hge : ¬ (k : Int) < l.length := hge; omega
    subst hge
    rw [List.take_length] at ha
    exact .done ⟨av_bool ha.symm, rfl⟩
end Go.Proofs.YtljbnigceammdaaGreatDoor
namespace Go.Proofs.YtljbnigceammdaaGreatDoor
/-- Bytes, the lowest first. -/
def valB : List Nat → Nat
  | [] => 0
  | b :: l => valB l * 256 + b
theorem land_byte (a b c d : Nat) (hb : b < 256) (hd : d < 256) : (a * 256 + b) &&& (c * 256 + d) = (a &&& c) * 256 + (b &&& d) := by
  have hbd : b &&& d < 256 := Nat.lt_of_le_of_lt Nat.and_le_left hb
  refine Nat.eq_of_testBit_eq fun i => ?_
  rw [Nat.testBit_and, Nat.mul_comm a, Nat.mul_comm c, Nat.mul_comm (a &&& c), show (256 : Nat) = 2 ^ 8 by decide, Nat.testBit_two_pow_mul_add a hb, Nat.testBit_two_pow_mul_add c hd, Nat.testBit_two_pow_mul_add (a &&& c) hbd]
  split
  · rw [Nat.testBit_and]
  · rw [Nat.testBit_and]
def g1 (b : Nat) : Nat := (b / 2 &&& 85) + (b &&& 85)
def g2 (b : Nat) : Nat := (b / 4 &&& 51) + (b &&& 51)
def g3 (b : Nat) : Nat := (b / 16 + b) &&& 15
theorem byte1 : ∀ h < 2, ∀ b < 256, (h * 128 + b / 2) &&& 85 = b / 2 &&& 85 := by decide +kernel
theorem byte2 : ∀ h < 4, ∀ b < 256, (h * 64 + b / 4) &&& 51 = b / 4 &&& 51 := by decide +kernel
theorem g1_small : ∀ b < 256, g1 b ≤ 170 := by decide +kernel
theorem g2_small : ∀ b < 256, g2 (g1 b) % 16 ≤ 4 ∧ g2 (g1 b) / 16 ≤ 4 := by decide +kernel
theorem byte3 : ∀ h ≤ 4, ∀ l ≤ 4, ∀ k ≤ 4, (k * 16 + ((h * 16 + l) / 16 + (h * 16 + l))) &&& 15 = g3 (h * 16 + l) ∧ k * 16 + ((h * 16 + l) / 16 + (h * 16 + l)) < 256 := by decide +kernel
def popB (b : Nat) : Nat := g3 (g2 (g1 b))
theorem popB_le : ∀ b < 256, popB b ≤ 8 := by decide +kernel
theorem popB_zero : ∀ b < 256, popB b = 0 → b = 0 := by decide +kernel
theorem stage1 : ∀ (l : List Nat), (∀ b ∈ l, b < 256) → (valB l / 2 &&& valB (l.map fun _ => 85)) + (valB l &&& valB (l.map fun _ => 85)) = valB (l.map g1)
  | [], _ => rfl
  | b :: l, h => by
    have hb := h b (.head _)
    have ih := stage1 l (fun x hx => h x (.tail _ hx))
    show (((valB l * 256 + b) / 2) &&& (valB (l.map fun _ => 85) * 256 + 85)) + ((valB l * 256 + b) &&& (valB (l.map fun _ => 85) * 256 + 85)) = valB (l.map g1) * 256 + g1 b
    have e : (valB l * 256 + b) / 2 = valB l / 2 * 256 + (valB l % 2 * 128 + b / 2) := by omega
    rw [e, land_byte _ _ _ _ (by omega) (by decide), land_byte _ _ _ _ hb (by decide), byte1 _ (Nat.mod_lt _ (by decide)) _ hb, ← ih]
    show _ = _ * 256 + ((b / 2 &&& 85) + (b &&& 85))
    generalize valB l / 2 &&& valB (l.map fun _ => 85) = A
    generalize valB l &&& valB (l.map fun _ => 85) = B
    generalize b / 2 &&& 85 = C
    generalize b &&& 85 = D
    omega
theorem stage2 : ∀ (l : List Nat), (∀ b ∈ l, b < 256) → (valB l / 4 &&& valB (l.map fun _ => 51)) + (valB l &&& valB (l.map fun _ => 51)) = valB (l.map g2)
  | [], _ => rfl
  | b :: l, h => by
    have hb := h b (.head _)
    have ih := stage2 l (fun x hx => h x (.tail _ hx))
    show (((valB l * 256 + b) / 4) &&& (valB (l.map fun _ => 51) * 256 + 51)) + ((valB l * 256 + b) &&& (valB (l.map fun _ => 51) * 256 + 51)) = valB (l.map g2) * 256 + g2 b
    have e : (valB l * 256 + b) / 4 = valB l / 4 * 256 + (valB l % 4 * 64 + b / 4) := by omega
    rw [e, land_byte _ _ _ _ (by omega) (by decide), land_byte _ _ _ _ hb (by decide), byte2 _ (Nat.mod_lt _ (by decide)) _ hb, ← ih]
    show _ = _ * 256 + ((b / 4 &&& 51) + (b &&& 51))
    generalize valB l / 4 &&& valB (l.map fun _ => 51) = A
    generalize valB l &&& valB (l.map fun _ => 51) = B
    generalize b / 4 &&& 51 = C
    generalize b &&& 51 = D
    omega
theorem valB_mod : ∀ (l : List Nat), (∀ b ∈ l, b % 16 ≤ 4 ∧ b / 16 ≤ 4) → valB l % 16 ≤ 4
  | [], _ => by decide
  | b :: l, h => by
    have := (h b (.head _)).1
    show (valB l * 256 + b) % 16 ≤ 4
    omega
theorem stage3 : ∀ (l : List Nat), (∀ b ∈ l, b % 16 ≤ 4 ∧ b / 16 ≤ 4) → ((valB l / 16 + valB l) &&& valB (l.map fun _ => 15)) = valB (l.map g3)
  | [], _ => rfl
  | b :: l, h => by
    obtain ⟨h1, h2⟩ := h b (.head _)
    have ih := stage3 l (fun x hx => h x (.tail _ hx))
    have hm := valB_mod l (fun x hx => h x (.tail _ hx))
    show (((valB l * 256 + b) / 16 + (valB l * 256 + b)) &&& (valB (l.map fun _ => 15) * 256 + 15)) = valB (l.map g3) * 256 + g3 b
    have hbb : b = b / 16 * 16 + b % 16 := by omega
    obtain ⟨f1, f2⟩ := byte3 _ h2 _ h1 _ hm
    rw [← hbb] at f1 f2
    have e : (valB l * 256 + b) / 16 + (valB l * 256 + b) = (valB l / 16 + valB l) * 256 + (valB l % 16 * 16 + (b / 16 + b)) := by omega
    rw [e, land_byte _ _ _ _ f2 (by decide), f1, ih]
/-- The bytes of a word. -/
def bytes8 (x : Nat) : List Nat := [x % 256, x / 256 % 256, x / 65536 % 256, x / 16777216 % 256, x / 4294967296 % 256, x / 1099511627776 % 256, x / 281474976710656 % 256, x / 72057594037927936 % 256]
theorem bytes8_val {x : Nat} (h : x < 18446744073709551616) : valB (bytes8 x) = x := by
  unfold bytes8 valB valB valB valB valB valB valB valB valB
  omega
theorem bytes8_lt (x : Nat) : ∀ b ∈ bytes8 x, b < 256 := by
  intro b hb
  simp only [bytes8, List.mem_cons, List.not_mem_nil, or_false] at hb
  omega
/-- How many bits of a word are set. -/
def popN (x : Nat) : Nat := ((bytes8 x).map popB).sum
theorem popN_le (x : Nat) : popN x ≤ 64 := by
  have h := bytes8_lt x
  unfold popN bytes8 at *
  simp only [List.map_cons, List.map_nil, List.sum_cons, List.sum_nil, List.mem_cons, List.not_mem_nil, or_false, forall_eq_or_imp, forall_eq] at *
  obtain ⟨h0, h1, h2, h3, h4, h5, h6, h7⟩ := h
  have := popB_le _ h0
  have := popB_le _ h1
  have := popB_le _ h2
  have := popB_le _ h3
  have := popB_le _ h4
  have := popB_le _ h5
  have := popB_le _ h6
  have := popB_le _ h7
  omega
theorem popN_zero {x : Nat} (hx : x < 18446744073709551616) (h : popN x = 0) : x = 0 := by
  have hb := bytes8_lt x
  have hv := bytes8_val hx
  unfold popN at h
  generalize bytes8 x = l at *
  have hz : ∀ b ∈ l, b = 0 := by
    intro b hm
    refine popB_zero b (hb b hm) ?_
    have hle : ∀ (l : List Nat), b ∈ l → popB b ≤ (l.map popB).sum := by
      intro l
      induction l with
      | nil => intro h; cases h
      | cons c l ih =>
        intro h
        rw [List.map_cons, List.sum_cons]
        rcases List.mem_cons.1 h with rfl | h
        · omega
        · have := ih h; omega
    have := hle l hm
    omega
  have : ∀ (l : List Nat), (∀ b ∈ l, b = 0) → valB l = 0 := by
    intro l
    induction l with
    | nil => intro _; rfl
    | cons b l ih =>
      intro h
      show valB l * 256 + b = 0
      rw [ih (fun x hx => h x (.tail _ hx)), h b (.head _)]
  rw [← hv, this l hz]
/-- The last three sums. -/
theorem fold3 {e0 e1 e2 e3 e4 e5 e6 e7 x3 y1 y2 y3 : Nat} (h : e0 ≤ 8 ∧ e1 ≤ 8 ∧ e2 ≤ 8 ∧ e3 ≤ 8 ∧ e4 ≤ 8 ∧ e5 ≤ 8 ∧ e6 ≤ 8 ∧ e7 ≤ 8) (hx : x3 = valB [e0, e1, e2, e3, e4, e5, e6, e7]) (h1 : y1 = x3 + x3 / 256) (h2 : y2 = y1 + y1 / 65536) (h3 : y3 = y2 + y2 / 4294967296) : y3 % 128 = e0 + e1 + e2 + e3 + e4 + e5 + e6 + e7 ∧ y3 < 9223372036854775808 ∧ y2 < 18446744073709551616 ∧ y1 < 18446744073709551616 := by
  obtain ⟨k0, k1, k2, k3, k4, k5, k6, k7⟩ := h
  obtain ⟨T1, hT1⟩ : ∃ T, T = valB [e1, e2, e3, e4, e5, e6, e7] := ⟨_, rfl⟩
  obtain ⟨T2, hT2⟩ : ∃ T, T = valB [e2, e3, e4, e5, e6, e7] := ⟨_, rfl⟩
  obtain ⟨T3, hT3⟩ : ∃ T, T = valB [e3, e4, e5, e6, e7] := ⟨_, rfl⟩
  obtain ⟨T4, hT4⟩ : ∃ T, T = valB [e4, e5, e6, e7] := ⟨_, rfl⟩
  obtain ⟨T5, hT5⟩ : ∃ T, T = valB [e5, e6, e7] := ⟨_, rfl⟩
  obtain ⟨T6, hT6⟩ : ∃ T, T = valB [e6, e7] := ⟨_, rfl⟩
  obtain ⟨T7, hT7⟩ : ∃ T, T = valB [e7] := ⟨_, rfl⟩
  have hx : x3 = T1 * 256 + e0 := by rw [hx, hT1]; rfl
  have t1 : T1 = T2 * 256 + e1 := by rw [hT1, hT2]; rfl
  have t2 : T2 = T3 * 256 + e2 := by rw [hT2, hT3]; rfl
  have t3 : T3 = T4 * 256 + e3 := by rw [hT3, hT4]; rfl
  have t4 : T4 = T5 * 256 + e4 := by rw [hT4, hT5]; rfl
  have t5 : T5 = T6 * 256 + e5 := by rw [hT5, hT6]; rfl
  have t6 : T6 = T7 * 256 + e6 := by rw [hT6, hT7]; rfl
  have t7 : T7 = e7 := by rw [hT7]; exact Nat.zero_add _
  clear hT1 hT2 hT3 hT4 hT5 hT6 hT7
  have d1 : x3 / 256 = T1 := by clear h1 h2 h3 t1 t2 t3 t4 t5 t6 t7; omega
  have u1 : y1 = (T2 + T3) * 65536 + (e1 * 256 + e2 * 256 + e0 + e1) := by rw [h1, d1]; clear h1 h2 h3 d1 t3 t4 t5 t6 t7; omega
  have d2 : y1 / 65536 = T2 + T3 := by clear h1 h2 h3 t1 t2 t3 t4 t5 t6 t7 d1 hx; omega
  have u2 : y2 = (T4 + T5 + T6 + T7) * 4294967296 + ((e0 + e1 + e2 + e3) + (e1 + e2 + e3 + e4) * 256 + (e2 + e3 + e4 + e5) * 65536 + (e3 + e4 + e5 + e6) * 16777216) := by rw [h2, d2, u1]; clear h1 h2 h3 d1 d2 u1 hx t7; omega
  have d3 : y2 / 4294967296 = T4 + T5 + T6 + T7 := by clear h1 h2 h3 t1 t2 t3 t4 t5 t6 t7 d1 d2 hx u1; omega
  have u3 : y3 = (T4 + T5 + T6 + T7) * 4294967296 + ((e0 + e1 + e2 + e3) + (e1 + e2 + e3 + e4) * 256 + (e2 + e3 + e4 + e5) * 65536 + (e3 + e4 + e5 + e6) * 16777216) + (T4 + T5 + T6 + T7) := by rw [h3, d3, u2]
  have b7 : T7 ≤ 8 := by omega
  have b6 : T6 ≤ 2056 := by clear u1 u2 u3 d1 d2 d3 h1 h2 h3 hx; omega
  have b5 : T5 ≤ 526344 := by clear u1 u2 u3 d1 d2 d3 h1 h2 h3 hx; omega
  have b4 : T4 ≤ 134744072 := by clear u1 u2 u3 d1 d2 d3 h1 h2 h3 hx; omega
  have b3 : T3 ≤ 34494482440 := by clear u1 u2 u3 d1 d2 d3 h1 h2 h3 hx; omega
  have b2 : T2 ≤ 8830587504648 := by clear u1 u2 u3 d1 d2 d3 h1 h2 h3 hx; omega
  refine ⟨?_, ?_, ?_, ?_⟩
  · clear u1 u2 d1 d2 d3 h1 h2 h3 hx b2 b3 b4 b5 b6 b7 t1 t2 t3; omega
  · clear u1 u2 d1 d2 d3 h1 h2 h3 hx t1 t2 t3 t4 t5 t6 t7; omega
  · clear u1 u3 d1 d2 d3 h1 h2 h3 hx t1 t2 t3 t4 t5 t6 t7; omega
  · clear u2 u3 d1 d2 d3 h1 h2 h3 hx t1 t2 t3 t4 t5 t6 t7; omega
end Go.Proofs.YtljbnigceammdaaGreatDoor
