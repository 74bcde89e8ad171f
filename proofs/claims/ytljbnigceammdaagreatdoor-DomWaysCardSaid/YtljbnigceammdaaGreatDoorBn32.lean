/-
  Aj; In: what the claim uses of them.
-/
import Derived.Test.YtljbnigceammdaaGreatDoorBn29
import Derived.Test.YtljbnigceammdaaGreatDoorBn31
import Derived.Test.YtljbnigceammdaaGreatDoorBn13
namespace Go.Proofs.YtljbnigceammdaaGreatDoor
open Go.RowKit
set_option maxRecDepth 100000
theorem inC_setK (l : List Int) (i : Nat) (x : Int) : (inC l).set i (.int .i64 x) = inC (l.set i x) := by unfold inC; rw [List.map_set]
/-- Rows, in cells. -/
def iiC (l : List (List Int)) : List AV := l.map (AV.fsl (.int .i64))
theorem iiC_flat : ∀ l : List (List Int), iiC l = l.flatMap (Sh.cells (.slice (.int .i64)))
  | [] => rfl
  | x :: l => congrArg (AV.fsl (.int .i64) x :: ·) (iiC_flat l)
theorem inC_writeK {i : TI} (hs : i.size = 1) {l : List Int} (x : Int) {z : Int} {k : Nat} (hz : z = k) (h : k < l.length) : writeAs i (inC l) (0 + z.toNat * 1) (.int .i64 x) = some (inC (l.set k x)) := by
  subst hz
  rw [Nat.zero_add, Nat.mul_one, Int.toNat_natCast, write1 hs rfl (by rw [inC_length]; omega), inC_setK]
theorem iiC_length (l : List (List Int)) : (iiC l).length = l.length := List.length_map ..
theorem Acc.unv {e k : Nat} {v : AV} {acc : Hp} {cs : List AV} (h : Acc e k v acc cs) : Acc e k (unvia v) acc cs := by
  cases h with
  | nil => exact .nil
  | mref b k cs h => exact .mref b k cs h
theorem YCalls.shed {l : Nat} {xs : List AV} {σ : Hp} {R R' : AV → Hp → Prop} (h : YCalls Tryz.prog l xs σ R) (hr : ∀ r σ3, R r σ3 → ∃ σ', Shed σ3 σ' ∧ R' r σ') : YCalls Tryz.prog l xs σ R' := fun F w vs hv hσ => by
  obtain ⟨f, tm, a, b, h1, h2⟩ := h F w vs hv hσ
  refine ⟨f, tm, a, b, h1, RoundIn.mono h2 fun e w' ⟨r, v, σ', F', k1, k2, k3, k4, k5⟩ => ?_⟩
  obtain ⟨σ4, h4, h5⟩ := hr _ _ k5
  exact ⟨r, v, σ4, F', k1, k2, k3.shed h4, k4, h5⟩
theorem iiC_snoc (l : List (List Int)) (w : List Int) : iiC l ++ [.fsl (.int .i64) w] = iiC (l ++ [w]) := (List.map_append (f := AV.fsl (.int .i64)) (l₁ := l) (l₂ := [w])).symm
/-- append to such a list; the list stays known. -/
theorem append_accV {i : TI} {K : AV → Hp → Prop} (fr : Hp) {acc σ : Hp} {k n : Nat} {v x : AV} {cs new : List AV} (h : Acc i.size k v acc cs) (hx : SrcAt (fr ++ (acc ++ σ)) i.size x n new) (hnew : new.length = n * i.size) (hn : k + n ≤ 1048576) (hb : i.bytes ≤ 1024) (h0 : 0 < i.size)
    (go : ∀ v' acc', Acc i.size (k + n) v' acc' (cs ++ new) → K v' (fr ++ (acc' ++ σ))) : AppendAt i (fr ++ (acc ++ σ)) v x K := by
  have hl := h.length
  cases h with
  | nil =>
    refine .perm _ (front_perm' fr [] σ) (.fresh n new (.inl rfl) (hx.perm (front_perm' fr [] σ)) (by omega) hb h0 (K := fun v σ3 => (n = 0 ∧ v = .nils ∧ σ3 = [] ++ (fr ++ σ)) ∨ (n ≠ 0 ∧ ∃ b, v = .mref b 0 n i.size ∧ σ3 = (b, new) :: ([] ++ (fr ++ σ)))) (fun hne b => .inr ⟨hne, b, rfl, rfl⟩) (fun h0 => .inl ⟨h0, rfl, rfl⟩)) ?_
    rintro v σ3 (⟨hz, rfl, rfl⟩ | ⟨hz, b, rfl, rfl⟩)
    · subst hz
      obtain rfl : new = [] := List.length_eq_zero_iff.1 (by simpa using hnew)
      exact ⟨_, (front_perm' fr [] σ).symm, .inl (go _ _ .nil)⟩
    · refine ⟨_, (front_perm' fr [(b, new)] σ).symm, .inl (go _ _ ?_)⟩
      have := Acc.mref (e := i.size) b (0 + n) new (by rw [hnew, Nat.zero_add])
      rw [Nat.zero_add] at this ⊢
      exact this
  | mref b k cs h =>
    refine .perm _ (front_perm' fr [(b, cs)] σ) (.more 0 b k n cs new rfl rfl (by rw [h]; exact Nat.le_refl _) (hx.perm (front_perm' fr [(b, cs)] σ)) hn hb h0 (K := fun v σ3 => ∃ b', v = .mref b' 0 (k + n) i.size ∧ σ3 = (b', cs.take (k * i.size) ++ new) :: (fr ++ σ)) (fun b' => ⟨b', rfl, rfl⟩)) ?_
    rintro v σ3 ⟨b', rfl, rfl⟩
    rw [List.take_of_length_le (by omega)]
    exact ⟨_, (front_perm' fr [(b', cs ++ new)] σ).symm, .inl (go _ _ (.mref _ _ _ (by rw [List.length_append, h, hnew, Nat.add_mul])))⟩
theorem set_snoc {α : Type} (l : List α) (x y : α) {k : Nat} (h : k = l.length) : (l ++ [x]).set k y = l ++ [y] := by subst h; simp
theorem get_snoc {α : Type} (l : List α) (x : α) {k : Nat} (h : k = l.length) : (l ++ [x])[k]? = some x := by subst h; simp
theorem accA_one {k : Nat} {v : AV} {acc : Hp} {cs : List AV} (h0 : 0 < k) (h : Acc 1 k v acc cs) : ∃ b, v = .mref b 0 k 1 ∧ acc = [(b, cs)] := by
  cases h with
  | nil => omega
  | mref b k cs h => exact ⟨b, rfl, rfl⟩
theorem gzL2 {l : List (List Int)} {j : Nat} (h : j < l.length) : l[((j : Int)).toNat]? = some (l.getD j []) := by
  rw [Int.toNat_natCast, List.getD_eq_getElem?_getD, List.getElem?_eq_getElem h]; rfl
theorem accE_one {e k : Nat} {v : AV} {acc : Hp} {cs : List AV} (h0 : 0 < k) (h : Acc e k v acc cs) : ∃ b, v = .mref b 0 k e ∧ acc = [(b, cs)] := by
  cases h with
  | nil => omega
  | mref b k cs h => exact ⟨b, rfl, rfl⟩
theorem aRInts20 (l : List Int) (σ : Hp) (hl : l.length ≤ 1000000) : ACalls Tryz.prog 19 [.fsl (.int .i64) l, .fsl (.int .i64) l] σ (Ret (.bool true) σ) := by
  refine okF Tryz.func19 (by kernel_rfl) ?_
  refine bcond_split (fun c => absurd c (by simp)) (fun c => ?_)
  refine loopS (S := Nat) (fun k => [(0, .fsl (.int .i64) l), (1, .fsl (.int .i64) l), (12, .int .i64 l.length), (13, .int .i64 k)]) (fun _ => σ) (fun k => k ≤ l.length) (fun k => l.length - k) 0 ⟨Nat.zero_le _, ⟨rfl, rfl, rfl, rfl, trivial⟩, rfl⟩ ?_
  rintro k g hk0
  have hk : k ≤ l.length := hk0
  refine bcond_dec (fun hlt => ?_) (fun hge => ?_)
  · have hlt : k < l.length := by have hlt : (k : Int) < l.length := hlt; omega
    refine DrawW.quiet (by kernel_rfl) ?_
    refine With.mk rfl (IdxF.mk l[k] (by omega) (get_some hlt) ?_)
    refine With.mk rfl (IdxF.mk l[k] (by omega) (get_some hlt) ?_)
    refine bcond_split (fun c => absurd c (by simp)) (fun c => ?_)
    exact nextS (k + 1) (by show l.length - (k + 1) < l.length - k; omega) hlt ⟨rfl, rfl, rfl, inc64 (by omega), trivial⟩ (.refl _)
  · exact .done ⟨rfl, rfl⟩
end Go.Proofs.YtljbnigceammdaaGreatDoor
namespace Go.Proofs.YtljbnigceammdaaGreatDoor
open Go.RowKit
set_option maxRecDepth 100000
theorem aRIn (l : List Int) (x : Int) (σ : Hp) (hl : l.length ≤ 1000000) : ACalls Tryz.prog 26 [.fsl (.int .i64) l, .int .i64 x] σ (Ret (.bool (l.any fun z => decide (x = z))) σ) := by
  refine okF Tryz.func26 (by kernel_rfl) ?_
  refine loopS (S := Nat) (fun k => [(1, .int .i64 x), (7, .fsl (.int .i64) l), (8, .int .i64 l.length), (9, .int .i64 k)]) (fun _ => σ) (fun k => k ≤ l.length ∧ ((l.take k).any fun z => decide (x = z)) = false) (fun k => l.length - k) 0 ⟨⟨Nat.zero_le _, rfl⟩, ⟨rfl, rfl, rfl, rfl, trivial⟩, rfl⟩ ?_
  rintro k g ⟨hk0, ha0⟩
  have hk : k ≤ l.length := hk0
  have ha : ((l.take k).any fun z => decide (x = z)) = false := ha0
  clear hk0 ha0
  refine bcond_dec (fun hlt => ?_) (fun hge => ?_)
  · have hlt : k < l.length := by have hlt : (k : Int) < l.length := hlt; omega
    have hs := any_take hlt fun z : Int => decide (x = z)
    rw [ha, Bool.false_or] at hs
    refine With.mk rfl (IdxF.mk l[k] (by omega) (get_some hlt) ?_)
    refine bcond_dec (p := l[k] = x) (fun d1 => ?_) (fun d1 => ?_)
    · exact .done ⟨av_bool (List.any_eq_true.2 ⟨l[k], List.getElem_mem hlt, decide_eq_true d1.symm⟩).symm, rfl⟩
    · exact nextS (k + 1) (by show l.length - (k + 1) < l.length - k; omega) ⟨hlt, hs.trans (decide_eq_false fun h => d1 h.symm)⟩ ⟨rfl, rfl, rfl, inc64 (by omega), trivial⟩ (.refl _)
  · have hge : k = l.length := by have hge : ¬ (k : Int) < l.length := hge; omega
    subst hge
    rw [List.take_length] at ha
    exact .done ⟨av_bool ha.symm, rfl⟩
end Go.Proofs.YtljbnigceammdaaGreatDoor
