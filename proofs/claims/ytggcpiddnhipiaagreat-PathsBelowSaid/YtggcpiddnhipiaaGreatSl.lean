/-
  package slices, at the instances that are met, over lists that are frozen.
-/
import Derived.Test.YtggcpiddnhipiaaGreatOl
namespace Go.Proofs.YtggcpiddnhipiaaGreat
open Go.RowKit
set_option maxRecDepth 100000
theorem any_take {α : Type} {l : List α} {k : Nat} (h : k < l.length) (p : α → Bool) : (l.take (k + 1)).any p = ((l.take k).any p || p l[k]) := by
  rw [List.take_succ_eq_append_getElem h, List.any_append]; simp
theorem aIndexU (g : Nat) (cap : List AV) (l : List (Sh.T (.int .u64))) (p : Sh.T (.int .u64) → Bool) (σ : Hp) (hl : l.length ≤ 1000000) (hg : ∀ (i : Nat) (hi : i < l.length), ACalls Tryz.prog g (.int .u64 l[i] :: cap) σ (Ret (.bool (p l[i])) σ)) : ACalls Tryz.prog 155 [.fsl (.int .u64) l, .fn (.func g) [] cap] σ (fun r σ' => ∃ n : Int, r = .int .i64 n ∧ σ' = σ ∧ decide (0 ≤ n) = l.any p) := by
  refine okF Tryz.func155 (by kernel_rfl) ?_
  refine loopS (S := Nat) (fun s => [(0, .fsl (.int .u64) l), (1, .fn (.func g) [] cap), (7, .int .i64 l.length), (8, .int .i64 s)]) (fun _ => σ) (fun s => s ≤ l.length ∧ (l.take s).any p = false) (fun s => l.length - s) 0 ⟨⟨Nat.zero_le _, rfl⟩, ⟨rfl, rfl, rfl, rfl, trivial⟩, rfl⟩ ?_
  rintro k t ⟨hk0, hn0⟩
  have hk : k ≤ l.length := hk0
  have hn : (l.take k).any p = false := hn0
  clear hk0 hn0
  refine bcond_dec (fun hlt => ?_) (fun hge => ?_)
  · have hlt : k < l.length := by have hlt : (k : Int) < l.length := hlt; omega
    have hs := any_take hlt p
    rw [hn, Bool.false_or] at hs
    refine With.mk rfl (IdxF.mk l[k] (by omega) (get_some hlt) ?_)
    refine callB [] (hg k hlt) (fun c => ?_) (fun c => ?_)
    · have hp : l.any p = true := List.any_eq_true.2 ⟨l[k], List.getElem_mem hlt, c⟩
      exact .done ⟨_, rfl, rfl, by rw [hp]; exact decide_eq_true (by omega)⟩
    · exact nextS (k + 1) (by show l.length - (k + 1) < l.length - k; omega) ⟨hlt, hs.trans c⟩ ⟨rfl, rfl, rfl, inc64 (by omega), trivial⟩ (.refl _)
  · have hge : k = l.length := by have hge : ¬ (k : Int) < l.length := hge; omega
    subst hge
    rw [List.take_length] at hn
    exact .done ⟨_, rfl, rfl, by rw [hn]; rfl⟩
theorem aContainsU (g : Nat) (cap : List AV) (l : List (Sh.T (.int .u64))) (p : Sh.T (.int .u64) → Bool) (σ : Hp) (hl : l.length ≤ 1000000) (hg : ∀ (i : Nat) (hi : i < l.length), ACalls Tryz.prog g (.int .u64 l[i] :: cap) σ (Ret (.bool (p l[i])) σ)) : ACalls Tryz.prog 118 [.fsl (.int .u64) l, .fn (.func g) [] cap] σ (Ret (.bool (l.any p)) σ) := by
  refine okF Tryz.func118 (by kernel_rfl) ?_
  refine .mk [] _ (aIndexU g cap l p _ hl hg) ?_
  rintro _ _ ⟨n, rfl, rfl, hn⟩
  rw [← hn]
  refine bcond_dec (fun c => ?_) (fun c => ?_)
  · have c : 0 ≤ n := c
    rw [decide_eq_true c]
    exact .done ⟨rfl, rfl⟩
  · have c : ¬ 0 ≤ n := c
    rw [decide_eq_false c]
    exact .done ⟨rfl, rfl⟩
/-- Code: what becomes of a variable. -/
abbrev numSh : Sh := .field (.int .i64) (.field (.int .i64) .nil)
abbrev refSh : Sh := .field (.int .i64) (.field numSh .nil)
abbrev codeSh : Sh := .field (.int .i64) (.field (.int .i64) (.field refSh (.field refSh .nil)))
abbrev NumT : Type := Int × Int × Unit
abbrev RefT : Type := Int × NumT × Unit
abbrev CodeT : Type := Int × Int × RefT × RefT × Unit
abbrev numC (n : NumT) : List AV := nC n.1 n.2.1
abbrev refC (r : RefT) : List AV := [.int .i64 r.1, .int .i64 r.2.1.1, .int .i64 r.2.1.2.1]
abbrev codeC (c : CodeT) : List AV := [.int .i64 c.1, .int .i64 c.2.1, .int .i64 c.2.2.1.1, .int .i64 c.2.2.1.2.1.1, .int .i64 c.2.2.1.2.1.2.1, .int .i64 c.2.2.2.1.1, .int .i64 c.2.2.2.1.2.1.1, .int .i64 c.2.2.2.1.2.1.2.1]
def codeV (c : CodeT) : AV := .agg (codeC c)
theorem codeC_cells (c : CodeT) : codeSh.cells c = codeC c := rfl
theorem aIndexC (g : Nat) (cap : List AV) (l : List (Sh.T codeSh)) (p : Sh.T codeSh → Bool) (σ : Hp) (hl : l.length ≤ 1000000) (hg : ∀ (i : Nat) (hi : i < l.length), ACalls Tryz.prog g (codeV l[i] :: cap) σ (Ret (.bool (p l[i])) σ)) : ACalls Tryz.prog 158 [.fsl codeSh l, .fn (.func g) [] cap] σ (fun r σ' => ∃ n : Int, r = .int .i64 n ∧ σ' = σ ∧ decide (0 ≤ n) = l.any p) := by
  refine okF Tryz.func158 (by kernel_rfl) ?_
  refine loopS (S := Nat) (fun s => [(0, .fsl codeSh l), (1, .fn (.func g) [] cap), (7, .int .i64 l.length), (8, .int .i64 s)]) (fun _ => σ) (fun s => s ≤ l.length ∧ (l.take s).any p = false) (fun s => l.length - s) 0 ⟨⟨Nat.zero_le _, rfl⟩, ⟨rfl, rfl, rfl, rfl, trivial⟩, rfl⟩ ?_
  rintro k t ⟨hk0, hn0⟩
  have hk : k ≤ l.length := hk0
  have hn : (l.take k).any p = false := hn0
  clear hk0 hn0
  refine bcond_dec (fun hlt => ?_) (fun hge => ?_)
  · have hlt : k < l.length := by have hlt : (k : Int) < l.length := hlt; omega
    have hs := any_take hlt p
    rw [hn, Bool.false_or] at hs
    refine With.mk rfl (IdxF.mk l[k] (by omega) (get_some hlt) ?_)
    refine callB [] (hg k hlt) (fun c => ?_) (fun c => ?_)
    · have hp : l.any p = true := List.any_eq_true.2 ⟨l[k], List.getElem_mem hlt, c⟩
      exact .done ⟨_, rfl, rfl, by rw [hp]; exact decide_eq_true (by omega)⟩
    · exact nextS (k + 1) (by show l.length - (k + 1) < l.length - k; omega) ⟨hlt, hs.trans c⟩ ⟨rfl, rfl, rfl, inc64 (by omega), trivial⟩ (.refl _)
  · have hge : k = l.length := by have hge : ¬ (k : Int) < l.length := hge; omega
    subst hge
    rw [List.take_length] at hn
    exact .done ⟨_, rfl, rfl, by rw [hn]; rfl⟩
theorem aContainsC (g : Nat) (cap : List AV) (l : List (Sh.T codeSh)) (p : Sh.T codeSh → Bool) (σ : Hp) (hl : l.length ≤ 1000000) (hg : ∀ (i : Nat) (hi : i < l.length), ACalls Tryz.prog g (codeV l[i] :: cap) σ (Ret (.bool (p l[i])) σ)) : ACalls Tryz.prog 123 [.fsl codeSh l, .fn (.func g) [] cap] σ (Ret (.bool (l.any p)) σ) := by
  refine okF Tryz.func123 (by kernel_rfl) ?_
  refine .mk [] _ (aIndexC g cap l p _ hl hg) ?_
  rintro _ _ ⟨n, rfl, rfl, hn⟩
  rw [← hn]
  refine bcond_dec (fun c => ?_) (fun c => ?_)
  · have c : 0 ≤ n := c
    rw [decide_eq_true c]
    exact .done ⟨rfl, rfl⟩
  · have c : ¬ 0 ≤ n := c
    rw [decide_eq_false c]
    exact .done ⟨rfl, rfl⟩
theorem aIndexUU (g : Nat) (cap : List AV) (l : List (Sh.T (.slice (.int .u64)))) (p : Sh.T (.slice (.int .u64)) → Bool) (σ : Hp) (hl : l.length ≤ 1000000) (hg : ∀ (i : Nat) (hi : i < l.length), ACalls Tryz.prog g (.fsl (.int .u64) l[i] :: cap) σ (Ret (.bool (p l[i])) σ)) : ACalls Tryz.prog 146 [.fsl (.slice (.int .u64)) l, .fn (.func g) [] cap] σ (fun r σ' => ∃ n : Int, r = .int .i64 n ∧ σ' = σ ∧ decide (0 ≤ n) = l.any p) := by
  refine okF Tryz.func146 (by kernel_rfl) ?_
  refine loopS (S := Nat) (fun s => [(0, .fsl (.slice (.int .u64)) l), (1, .fn (.func g) [] cap), (7, .int .i64 l.length), (8, .int .i64 s)]) (fun _ => σ) (fun s => s ≤ l.length ∧ (l.take s).any p = false) (fun s => l.length - s) 0 ⟨⟨Nat.zero_le _, rfl⟩, ⟨rfl, rfl, rfl, rfl, trivial⟩, rfl⟩ ?_
  rintro k t ⟨hk0, hn0⟩
  have hk : k ≤ l.length := hk0
  have hn : (l.take k).any p = false := hn0
  clear hk0 hn0
  refine bcond_dec (fun hlt => ?_) (fun hge => ?_)
  · have hlt : k < l.length := by have hlt : (k : Int) < l.length := hlt; omega
    have hs := any_take hlt p
    rw [hn, Bool.false_or] at hs
    refine With.mk rfl (IdxF.mk l[k] (by omega) (get_some hlt) ?_)
    refine callB [] (hg k hlt) (fun c => ?_) (fun c => ?_)
    · have hp : l.any p = true := List.any_eq_true.2 ⟨l[k], List.getElem_mem hlt, c⟩
      exact .done ⟨_, rfl, rfl, by rw [hp]; exact decide_eq_true (by omega)⟩
    · exact nextS (k + 1) (by show l.length - (k + 1) < l.length - k; omega) ⟨hlt, hs.trans c⟩ ⟨rfl, rfl, rfl, inc64 (by omega), trivial⟩ (.refl _)
  · have hge : k = l.length := by have hge : ¬ (k : Int) < l.length := hge; omega
    subst hge
    rw [List.take_length] at hn
    exact .done ⟨_, rfl, rfl, by rw [hn]; rfl⟩
theorem aContainsUU (g : Nat) (cap : List AV) (l : List (Sh.T (.slice (.int .u64)))) (p : Sh.T (.slice (.int .u64)) → Bool) (σ : Hp) (hl : l.length ≤ 1000000) (hg : ∀ (i : Nat) (hi : i < l.length), ACalls Tryz.prog g (.fsl (.int .u64) l[i] :: cap) σ (Ret (.bool (p l[i])) σ)) : ACalls Tryz.prog 110 [.fsl (.slice (.int .u64)) l, .fn (.func g) [] cap] σ (Ret (.bool (l.any p)) σ) := by
  refine okF Tryz.func110 (by kernel_rfl) ?_
  refine .mk [] _ (aIndexUU g cap l p _ hl hg) ?_
  rintro _ _ ⟨n, rfl, rfl, hn⟩
  rw [← hn]
  refine bcond_dec (fun c => ?_) (fun c => ?_)
  · have c : 0 ≤ n := c
    rw [decide_eq_true c]
    exact .done ⟨rfl, rfl⟩
  · have c : ¬ 0 ≤ n := c
    rw [decide_eq_false c]
    exact .done ⟨rfl, rfl⟩
theorem aIndexE (l : List Int) (x : Int) (σ : Hp) (hl : l.length ≤ 1000000) : ACalls Tryz.prog 150 [.fsl (.int .u64) l, .int .u64 x] σ (fun r σ' => ∃ n : Int, r = .int .i64 n ∧ σ' = σ ∧ decide (0 ≤ n) = l.any fun z => decide (x = z)) := by
  refine okF Tryz.func150 (by kernel_rfl) ?_
  refine loopS (S := Nat) (fun s => [(0, .fsl (.int .u64) l), (1, .int .u64 x), (7, .int .i64 l.length), (8, .int .i64 s)]) (fun _ => σ) (fun s => s ≤ l.length ∧ ((l.take s).any fun z => decide (x = z)) = false) (fun s => l.length - s) 0 ⟨⟨Nat.zero_le _, rfl⟩, ⟨rfl, rfl, rfl, rfl, trivial⟩, rfl⟩ ?_
  rintro k t ⟨hk0, hn0⟩
  have hk : k ≤ l.length := hk0
  have hn : ((l.take k).any fun z => decide (x = z)) = false := hn0
  clear hk0 hn0
  refine bcond_dec (fun hlt => ?_) (fun hge => ?_)
  · have hlt : k < l.length := by have hlt : (k : Int) < l.length := hlt; omega
    have hs := any_take hlt fun z => decide (x = z)
    rw [hn, Bool.false_or] at hs
    refine With.mk rfl (IdxF.mk l[k] (by omega) (get_some hlt) ?_)
    refine bcond_dec (fun c => ?_) (fun c => ?_)
    · have c : x = l[k] := c
      have hp : (l.any fun z => decide (x = z)) = true := List.any_eq_true.2 ⟨l[k], List.getElem_mem hlt, decide_eq_true c⟩
      exact .done ⟨_, rfl, rfl, by rw [hp]; exact decide_eq_true (by omega)⟩
    · have c : ¬ x = l[k] := c
      exact nextS (k + 1) (by show l.length - (k + 1) < l.length - k; omega) ⟨hlt, hs.trans (decide_eq_false c)⟩ ⟨rfl, rfl, rfl, inc64 (by omega), trivial⟩ (.refl _)
  · have hge : k = l.length := by have hge : ¬ (k : Int) < l.length := hge; omega
    subst hge
    rw [List.take_length] at hn
    exact .done ⟨_, rfl, rfl, by rw [hn]; rfl⟩
theorem aContainsE (l : List Int) (x : Int) (σ : Hp) (hl : l.length ≤ 1000000) : ACalls Tryz.prog 115 [.fsl (.int .u64) l, .int .u64 x] σ (Ret (.bool (l.any fun z => decide (x = z))) σ) := by
  refine okF Tryz.func115 (by kernel_rfl) ?_
  refine .mk [] _ (aIndexE l x _ hl) ?_
  rintro _ _ ⟨n, rfl, rfl, hn⟩
  rw [← hn]
  refine bcond_dec (fun c => ?_) (fun c => ?_)
  · have c : 0 ≤ n := c
    rw [decide_eq_true c]
    exact .done ⟨rfl, rfl⟩
  · have c : ¬ 0 ≤ n := c
    rw [decide_eq_false c]
    exact .done ⟨rfl, rfl⟩
theorem aEqualU (xs ys : List Int) (σ : Hp) (h1 : xs.length ≤ 1000000) : ACalls Tryz.prog 57 [.fsl (.int .u64) xs, .fsl (.int .u64) ys] σ (Ret (.bool (decide (xs = ys))) σ) := by
  refine okF Tryz.func57 (by kernel_rfl) ?_
  refine bcond_split (fun hl => ?_) (fun hl => ?_)
  · have : xs ≠ ys := by rintro rfl; simp at hl
    exact .done ⟨by simp [this]; rfl, rfl⟩
  · have hl : (!decide ((xs.length : Int) = (ys.length : Int))) = false := hl
    have hlen : xs.length = ys.length := by simp at hl; omega
    refine loopS (S := Nat) (fun k => [(0, .fsl (.int .u64) xs), (1, .fsl (.int .u64) ys), (12, .int .i64 xs.length), (13, .int .i64 k)]) (fun _ => σ) (fun k => k ≤ xs.length ∧ xs.take k = ys.take k) (fun k => xs.length - k) 0 ⟨⟨Nat.zero_le _, rfl⟩, ⟨rfl, rfl, rfl, rfl, trivial⟩, rfl⟩ ?_
    rintro k g ⟨hk, htk⟩
    refine bcond_dec (fun hlt => ?_) (fun hge => ?_)
    · have hk' : k < xs.length := by omega
      have hk'' : k < ys.length := by omega
      refine DrawW.quiet (by kernel_rfl) ?_
      refine With.mk rfl (IdxF.mk xs[k] (by omega) (get_some hk') ?_)
      refine With.mk rfl (IdxF.mk ys[k] (by omega) (get_some hk'') ?_)
      refine bcond_split (fun hx => ?_) (fun hx => ?_)
      · have : xs ≠ ys := by rintro rfl; simp at hx
        exact .done ⟨by simp [this]; rfl, rfl⟩
      · have hx' : xs[k] = ys[k] := by simpa using hx
        refine next (k + 1) (Nat.sub_lt_sub_left hk' (Nat.lt_succ_self k)) ⟨hk', ?_⟩ ⟨rfl, rfl, rfl, inc64 (by omega), trivial⟩ rfl
        rw [List.take_succ_eq_append_getElem hk', List.take_succ_eq_append_getElem hk'', htk, hx']
    · obtain rfl : k = xs.length := by omega
      have : xs = ys := by
        rw [List.take_length] at htk
        rw [htk, hlen, List.take_length]
      exact .done ⟨by simp [this]; rfl, rfl⟩
end Go.Proofs.YtggcpiddnhipiaaGreat
