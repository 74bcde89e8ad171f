/-
  constant.Op and soughref11.Op: the same, exact.
  constant.Op by the walk.
  package slices, at the instances that are met, over lists that are frozen.
-/
import Derived.Test.YtegpahamenjiaaaGs
namespace Go.Proofs.Ytegpahamenjiaaa
open Go.RowKit
set_option maxRecDepth 100000
/-- What words' operands allow: 0 never, 1 anything, 2 a number. -/
def leastW (l : List Int) : Int := if (l.any fun w => decide (normW w = 0)) then 0 else if (l.any fun w => decide (normW w = 1)) then 1 else 2
theorem leastW_snoc (l : List Int) (w : Int) (h : (l.any fun w => decide (normW w = 0)) = false) : leastW (l ++ [w]) = if normW w = 0 then 0 else if normW w = 1 then 1 else leastW l := by
  unfold leastW
  rw [List.any_append, List.any_append, h]
  by_cases h0 : normW w = 0
  · simp [h0]
  · by_cases h1 : normW w = 1
    · simp [h1]
    · simp [h0, h1]
theorem leastW_zero (l : List Int) {w : Int} (hm : w ∈ l) (h : normW w = 0) : leastW l = 0 := by
  unfold leastW
  rw [if_pos]
  exact List.any_eq_true.2 ⟨w, hm, decide_eq_true h⟩
theorem numOk_of {w : Int} (h0 : normW w ≠ 0) (h1 : normW w ≠ 1) : numOk w = true ∧ normW w = w := by
  unfold normW at *
  by_cases a : w = 0
  · rw [if_pos a] at h0; exact absurd rfl h0
  · rw [if_neg a] at h0 h1 ⊢
    by_cases b : w = 1
    · rw [if_pos b] at h1; exact absurd rfl h1
    · rw [if_neg b] at h0 h1 ⊢
      cases c : numOk w with
      | true => exact ⟨rfl, rfl⟩
      | false => rw [c] at h1; exact absurd rfl h1
theorem opP_04 {op : Int} (h : op = 0 ∨ op = 4) (a b c d c2 d2 : Int) : opP op a b c d = opP op a b c2 d2 := by
  rcases h with rfl | rfl <;> rfl
def resP (op a b : Int) : Int := match opP op (numRe a) (numIm a) (numRe b) (numIm b) with | some (x, y) => ofP x y | none => 1
/-- What an operation makes of two words. -/
def opW2 (op a b : Int) : Int := if normW a = 0 ∨ normW b = 0 then 0 else if normW a = 1 ∨ normW b = 1 then 1 else resP op a b
def opK (op a b : Int) : Int := if op = 0 ∨ op = 4 then opW2 op a 2 else opW2 op a b
theorem ofP_lo (x y : Int) : 2 ≤ ofP x y := by have := wordP_lo x y; unfold ofP; omega
theorem ofP_ok (x y : Int) : numOk (ofP x y) = true := by
  have h1 := wordP_lo x y
  have h2 := wordP_hi x y
  unfold numOk ofP; simp; omega
theorem norm_num {w : Int} (h : numOk w = true) : normW w = w := by
  have := numOk_ne h
  unfold normW
  rw [if_neg this.1, if_neg this.2, if_pos h]
end Go.Proofs.Ytegpahamenjiaaa
namespace Go.Proofs.Ytegpahamenjiaaa
open Go.RowKit
set_option maxRecDepth 100000
theorem resP_04 {op : Int} (h : op = 0 ∨ op = 4) (a b c : Int) : resP op a b = resP op a c := by
  unfold resP
  rw [opP_04 h (numRe a) (numIm a) (numRe b) (numIm b) (numRe c) (numIm c)]
theorem norm_two : normW 2 = 2 := by decide
theorem opK_least1 {op : Int} (a b : Int) (h : op = 0 ∨ op = 4) : opK op a b = if leastW [a] = 2 then resP op a b else leastW [a] := by
  unfold opK opW2 leastW
  rw [if_pos h, norm_two, resP_04 h a b 2]
  by_cases h0 : normW a = 0
  · simp [h0]
  · by_cases h1 : normW a = 1
    · simp [h1]
    · simp [h0, h1]
theorem opK_least2 {op : Int} (a b : Int) (h : ¬ (op = 0 ∨ op = 4)) : opK op a b = if leastW [a, b] = 2 then resP op a b else leastW [a, b] := by
  unfold opK opW2 leastW
  rw [if_neg h]
  by_cases h0 : normW a = 0
  · simp [h0]
  · by_cases h1 : normW a = 1
    · by_cases g0 : normW b = 0
      · simp [g0]
      · simp [h1, g0]
    · by_cases g0 : normW b = 0
      · simp [g0]
      · by_cases g1 : normW b = 1
        · simp [h0, g1]
        · simp [h0, h1, g0, g1]
theorem norm_norm (w : Int) : normW (normW w) = normW w := by
  by_cases h0 : normW w = 0
  · rw [h0]; rfl
  · by_cases h1 : normW w = 1
    · rw [h1]; rfl
    · rw [(numOk_of h0 h1).2]; exact (numOk_of h0 h1).2
theorem opW2_norm (op a b : Int) : opW2 op (normW a) (normW b) = opW2 op a b := by
  unfold opW2
  rw [norm_norm, norm_norm]
  by_cases h0 : normW a = 0 ∨ normW b = 0
  · rw [if_pos h0, if_pos h0]
  · by_cases h1 : normW a = 1 ∨ normW b = 1
    · rw [if_neg h0, if_pos h1, if_neg h0, if_pos h1]
    · rw [if_neg h0, if_neg h1, if_neg h0, if_neg h1]
      have ha := (numOk_of (w := a) (fun h => h0 (.inl h)) (fun h => h1 (.inl h))).2
      have hb := (numOk_of (w := b) (fun h => h0 (.inr h)) (fun h => h1 (.inr h))).2
      rw [ha, hb]
theorem ofP_zero : ofP 0 0 = 2 := by decide
end Go.Proofs.Ytegpahamenjiaaa
namespace Go.Proofs.Ytegpahamenjiaaa
open Go.RowKit
set_option maxRecDepth 100000
theorem aIndexU (g : Nat) (cap : List AV) (l : List (Sh.T (.int .u64))) (p : Sh.T (.int .u64) → Bool) (σ : Hp) (hl : l.length ≤ 1000000) (hg : ∀ (i : Nat) (hi : i < l.length), ACalls Try.prog g (.int .u64 l[i] :: cap) σ (Ret (.bool (p l[i])) σ)) : ACalls Try.prog 64 [.fsl (.int .u64) l, .fn (.func g) [] cap] σ (fun r σ' => ∃ n : Int, r = .int .i64 n ∧ σ' = σ ∧ decide (0 ≤ n) = l.any p) := by
  refine okF Try.func64 (by kernel_rfl) ?_
  refine loopS (S := Nat) (fun s => [(0, .fsl (.int .u64) l), (1, .fn (.func g) [] cap), (7, .int .i64 l.length), (8, .int .i64 s)]) (fun _ => σ) (fun s => s ≤ l.length ∧ (l.take s).any p = false) (fun s => l.length - s) 0 ⟨⟨Nat.zero_le _, rfl⟩, ⟨rfl, rfl, rfl, rfl, trivial⟩, rfl⟩ ?_
  rintro k t ⟨hk0, hn0⟩
  have hk : k ≤ l.length := hk0
  have hn : (l.take k).any p = false := hn0
  clear hk0 hn0
  refine bcond_dec (fun hlt => ?_) (fun hge => ?_)
  · have hlt : k < l.length := by have hlt : (k : Int) < l.length := hlt; omega
    have hs := any_take hlt p
    rw [hn, Bool.false_or] at hs
    refine With.mk rfl (IdxF.mk l[k] (by omega) (get_some hlt) ?_)
    refine callB [] (hg k hlt) (fun c => ?_) (fun c => ?_)
    · have hp : l.any p = true := List.any_eq_true.2 ⟨l[k], List.getElem_mem hlt, c⟩
      exact .done ⟨_, rfl, rfl, by rw [hp]; exact decide_eq_true (by omega)⟩
    · exact nextS (k + 1) (by show l.length - (k + 1) < l.length - k; omega) ⟨hlt, hs.trans c⟩ ⟨rfl, rfl, rfl, inc64 (by omega), trivial⟩ (.refl _)
  · have hge : k = l.length := by have hge : ¬ (k : Int) < l.length := hge; omega
    subst hge
    rw [List.take_length] at hn
    exact .done ⟨_, rfl, rfl, by rw [hn]; rfl⟩
theorem aContainsU (g : Nat) (cap : List AV) (l : List (Sh.T (.int .u64))) (p : Sh.T (.int .u64) → Bool) (σ : Hp) (hl : l.length ≤ 1000000) (hg : ∀ (i : Nat) (hi : i < l.length), ACalls Try.prog g (.int .u64 l[i] :: cap) σ (Ret (.bool (p l[i])) σ)) : ACalls Try.prog 45 [.fsl (.int .u64) l, .fn (.func g) [] cap] σ (Ret (.bool (l.any p)) σ) := by
  refine okF Try.func45 (by kernel_rfl) ?_
  refine .mk [] _ (aIndexU g cap l p _ hl hg) ?_
  rintro _ _ ⟨n, rfl, rfl, hn⟩
  rw [← hn]
  refine bcond_dec (fun c => ?_) (fun c => ?_)
  · have c : 0 ≤ n := c
    rw [decide_eq_true c]
    exact .done ⟨rfl, rfl⟩
  · have c : ¬ 0 ≤ n := c
    rw [decide_eq_false c]
    exact .done ⟨rfl, rfl⟩
/-- Code: what becomes of a variable. -/
abbrev numSh : Sh := .field (.int .i64) (.field (.int .i64) .nil)
abbrev refSh : Sh := .field (.int .i64) (.field numSh .nil)
abbrev codeSh : Sh := .field (.int .i64) (.field (.int .i64) (.field refSh (.field refSh .nil)))
abbrev NumT : Type := Int × Int × Unit
abbrev RefT : Type := Int × NumT × Unit
abbrev CodeT : Type := Int × Int × RefT × RefT × Unit
abbrev numC (n : NumT) : List AV := nC n.1 n.2.1
abbrev refC (r : RefT) : List AV := [.int .i64 r.1, .int .i64 r.2.1.1, .int .i64 r.2.1.2.1]
abbrev codeC (c : CodeT) : List AV := [.int .i64 c.1, .int .i64 c.2.1, .int .i64 c.2.2.1.1, .int .i64 c.2.2.1.2.1.1, .int .i64 c.2.2.1.2.1.2.1, .int .i64 c.2.2.2.1.1, .int .i64 c.2.2.2.1.2.1.1, .int .i64 c.2.2.2.1.2.1.2.1]
def codeV (c : CodeT) : AV := .agg (codeC c)
theorem codeC_cells (c : CodeT) : codeSh.cells c = codeC c := rfl
theorem aIndexC (g : Nat) (cap : List AV) (l : List (Sh.T codeSh)) (p : Sh.T codeSh → Bool) (σ : Hp) (hl : l.length ≤ 1000000) (hg : ∀ (i : Nat) (hi : i < l.length), ACalls Try.prog g (codeV l[i] :: cap) σ (Ret (.bool (p l[i])) σ)) : ACalls Try.prog 67 [.fsl codeSh l, .fn (.func g) [] cap] σ (fun r σ' => ∃ n : Int, r = .int .i64 n ∧ σ' = σ ∧ decide (0 ≤ n) = l.any p) := by
  refine okF Try.func67 (by kernel_rfl) ?_
  refine loopS (S := Nat) (fun s => [(0, .fsl codeSh l), (1, .fn (.func g) [] cap), (7, .int .i64 l.length), (8, .int .i64 s)]) (fun _ => σ) (fun s => s ≤ l.length ∧ (l.take s).any p = false) (fun s => l.length - s) 0 ⟨⟨Nat.zero_le _, rfl⟩, ⟨rfl, rfl, rfl, rfl, trivial⟩, rfl⟩ ?_
  rintro k t ⟨hk0, hn0⟩
  have hk : k ≤ l.length := hk0
  have hn : (l.take k).any p = false := hn0
  clear hk0 hn0
  refine bcond_dec (fun hlt => ?_) (fun hge => ?_)
  · have hlt : k < l.length := by have hlt : (k : Int) < l.length := hlt; omega
    have hs := any_take hlt p
    rw [hn, Bool.false_or] at hs
    refine With.mk rfl (IdxF.mk l[k] (by omega) (get_some hlt) ?_)
    refine callB [] (hg k hlt) (fun c => ?_) (fun c => ?_)
    · have hp : l.any p = true := List.any_eq_true.2 ⟨l[k], List.getElem_mem hlt, c⟩
      exact .done ⟨_, rfl, rfl, by rw [hp]; exact decide_eq_true (by omega)⟩
    · exact nextS (k + 1) (by show l.length - (k + 1) < l.length - k; omega) ⟨hlt, hs.trans c⟩ ⟨rfl, rfl, rfl, inc64 (by omega), trivial⟩ (.refl _)
  · have hge : k = l.length := by have hge : ¬ (k : Int) < l.length := hge; omega
    subst hge
    rw [List.take_length] at hn
    exact .done ⟨_, rfl, rfl, by rw [hn]; rfl⟩
theorem aContainsC (g : Nat) (cap : List AV) (l : List (Sh.T codeSh)) (p : Sh.T codeSh → Bool) (σ : Hp) (hl : l.length ≤ 1000000) (hg : ∀ (i : Nat) (hi : i < l.length), ACalls Try.prog g (codeV l[i] :: cap) σ (Ret (.bool (p l[i])) σ)) : ACalls Try.prog 52 [.fsl codeSh l, .fn (.func g) [] cap] σ (Ret (.bool (l.any p)) σ) := by
  refine okF Try.func52 (by kernel_rfl) ?_
  refine .mk [] _ (aIndexC g cap l p _ hl hg) ?_
  rintro _ _ ⟨n, rfl, rfl, hn⟩
  rw [← hn]
  refine bcond_dec (fun c => ?_) (fun c => ?_)
  · have c : 0 ≤ n := c
    rw [decide_eq_true c]
    exact .done ⟨rfl, rfl⟩
  · have c : ¬ 0 ≤ n := c
    rw [decide_eq_false c]
    exact .done ⟨rfl, rfl⟩
end Go.Proofs.Ytegpahamenjiaaa
