/-
  Sl: what the claim uses of them.
-/
import Derived.Test.YtljbnigceammdaaGreatDoorBn18
namespace Go.Proofs.YtljbnigceammdaaGreatDoor
open Go.RowKit
set_option maxRecDepth 100000
/-- What words' operands allow: 0 never, 1 anything, 2 a number. -/
def leastW (l : List Int) : Int := if (l.any fun w => decide (normW w = 0)) then 0 else if (l.any fun w => decide (normW w = 1)) then 1 else 2
theorem leastW_snoc (l : List Int) (w : Int) (h : (l.any fun w => decide (normW w = 0)) = false) : leastW (l ++ [w]) = if normW w = 0 then 0 else if normW w = 1 then 1 else leastW l := by
  unfold leastW
  rw [List.any_append, List.any_append, h]
  by_cases h0 : normW w = 0
  · simp [h0]
  · by_cases h1 : normW w = 1
    · simp [h1]
    · simp [h0, h1]
theorem leastW_zero (l : List Int) {w : Int} (hm : w ∈ l) (h : normW w = 0) : leastW l = 0 := by
  unfold leastW
  rw [if_pos]
  exact List.any_eq_true.2 ⟨w, hm, decide_eq_true h⟩
theorem aLeast (l : List Int) (σ : Hp) (hl : l.length ≤ 100000) : ACalls Tryz.prog 188 [.fsl (.int .u64) l] σ (Ret (.int .u64 (leastW l)) σ) := by
  refine okF Tryz.func188 (by kernel_rfl) ?_
  refine loopS (S := Nat) (fun s => [(3, .int .u64 (leastW (l.take s))), (6, .fsl (.int .u64) l), (7, .int .i64 l.length), (8, .int .i64 s)]) (fun _ => σ) (fun s => s ≤ l.length ∧ ((l.take s).any fun w => decide (normW w = 0)) = false) (fun s => l.length - s) 0 ⟨⟨Nat.zero_le _, rfl⟩, ⟨rfl, rfl, rfl, rfl, trivial⟩, rfl⟩ ?_
  rintro k g ⟨hk0, hz0⟩
  have hk : k ≤ l.length := hk0
  have hz : ((l.take k).any fun w => decide (normW w = 0)) = false := hz0
  clear hk0 hz0
  refine bcond_dec (fun hlt => ?_) (fun hge => ?_)
  · have hlt : k < l.length := by have hlt : (k : Int) < l.length := hlt; omega
    have hs := leastW_snoc (l.take k) l[k] hz
    rw [← List.take_succ_eq_append_getElem hlt] at hs
    have hz2 : ((l.take (k + 1)).any fun w => decide (normW w = 0)) = decide (normW l[k] = 0) := by
      rw [List.take_succ_eq_append_getElem hlt, List.any_append, hz]; simp
    refine With.mk rfl (IdxF.mk l[k] (by omega) (get_some hlt) ?_)
    refine callR [] (aNorm l[k] _) ?_
    refine bcond_dec (fun c1 => ?_) (fun c1 => ?_)
    · have c1 : normW l[k] = 0 := c1
      refine .fwd 1 ?_
      rw [leastW_zero l (List.getElem_mem hlt) c1]
      exact .done ⟨rfl, rfl⟩
    · have c1 : ¬ (normW l[k] = 0) := c1
      refine bcond_dec (fun c2 => ?_) (fun c2 => ?_)
      · have c2 : normW l[k] = 1 := c2
        refine nextS (k + 1) (by show l.length - (k + 1) < l.length - k; omega) ⟨hlt, by rw [hz2]; exact decide_eq_false c1⟩ ⟨?_, rfl, rfl, inc64 (by omega), trivial⟩ (.refl _)
        rw [hs, if_neg c1, if_pos c2]
        rfl
      · have c2 : ¬ (normW l[k] = 1) := c2
        refine nextS (k + 1) (by show l.length - (k + 1) < l.length - k; omega) ⟨hlt, by rw [hz2]; exact decide_eq_false c1⟩ ⟨?_, rfl, rfl, inc64 (by omega), trivial⟩ (.refl _)
        rw [hs, if_neg c1, if_neg c2]
        rfl
  · have hge : k = l.length := by have hge : ¬ (k : Int) < l.length := hge; omega
    subst hge
    rw [List.take_length]
    exact .done ⟨rfl, rfl⟩
theorem opP_04 {op : Int} (h : op = 0 ∨ op = 4) (a b c d c2 d2 : Int) : opP op a b c d = opP op a b c2 d2 := by
  rcases h with rfl | rfl <;> rfl
def resP (op a b : Int) : Int := match opP op (numRe a) (numIm a) (numRe b) (numIm b) with | some (x, y) => ofP x y | none => 1
/-- What an operation makes of two words. -/
def opW2 (op a b : Int) : Int := if normW a = 0 ∨ normW b = 0 then 0 else if normW a = 1 ∨ normW b = 1 then 1 else resP op a b
def opK (op a b : Int) : Int := if op = 0 ∨ op = 4 then opW2 op a 2 else opW2 op a b
theorem ofP_lo (x y : Int) : 2 ≤ ofP x y := by have := wordP_lo x y; unfold ofP; omega
theorem ofP_ok (x y : Int) : numOk (ofP x y) = true := by
  have h1 := wordP_lo x y
  have h2 := wordP_hi x y
  unfold numOk ofP; simp; omega
theorem norm_num {w : Int} (h : numOk w = true) : normW w = w := by
  have := numOk_ne h
  unfold normW
  rw [if_neg this.1, if_neg this.2, if_pos h]
set_option maxRecDepth 100000
theorem resP_04 {op : Int} (h : op = 0 ∨ op = 4) (a b c : Int) : resP op a b = resP op a c := by
  unfold resP
  rw [opP_04 h (numRe a) (numIm a) (numRe b) (numIm b) (numRe c) (numIm c)]
theorem norm_two : normW 2 = 2 := by decide
theorem opK_least1 {op : Int} (a b : Int) (h : op = 0 ∨ op = 4) : opK op a b = if leastW [a] = 2 then resP op a b else leastW [a] := by
  unfold opK opW2 leastW
  rw [if_pos h, norm_two, resP_04 h a b 2]
  by_cases h0 : normW a = 0
  · simp [h0]
  · by_cases h1 : normW a = 1
    · simp [h1]
    · simp [h0, h1]
theorem opK_least2 {op : Int} (a b : Int) (h : ¬ (op = 0 ∨ op = 4)) : opK op a b = if leastW [a, b] = 2 then resP op a b else leastW [a, b] := by
  unfold opK opW2 leastW
  rw [if_neg h]
  by_cases h0 : normW a = 0
  · simp [h0]
  · by_cases h1 : normW a = 1
    · by_cases g0 : normW b = 0
      · simp [g0]
      · simp [h1, g0]
    · by_cases g0 : normW b = 0
      · simp [g0]
      · by_cases g1 : normW b = 1
        · simp [h0, g1]
        · simp [h0, h1, g0, g1]
theorem aCOp (op a b : Int) (σ : Hp) (ha : W64 a) (hb : W64 b) : ACalls Tryz.prog 179 [.int .i64 op, .int .u64 a, .int .u64 b] σ (Ret (.int .u64 (opK op a b)) σ) := by
  refine okF Tryz.func179 (by kernel_rfl) ?_
  intro bl1
  refine .frz (args' := [.fsl (.int .u64) [a, b]]) 0 bl1 0 2 1 _ (.int .u64) [a, b] rfl rfl ⟨rfl, rfl, by decide⟩ (frz_cons .here frz_nil) (callR [] (aLeast [a, b] _ (by show 2 ≤ 100000; omega)) ?_)
  refine bcond_dec (fun c1 => ?_) (fun c1 => ?_)
  · have c1 : op = 0 := c1
    intro bl2
    refine .frz (args' := [.fsl (.int .u64) [a]]) 0 bl2 0 1 1 _ (.int .u64) [a] rfl rfl ⟨rfl, rfl, by decide⟩ (frz_cons .here frz_nil) (callR [] (aLeast [a] _ (by show 1 ≤ 100000; omega)) ?_)
    generalize hL : leastW [a] = L
    refine bcond_split (fun c5 => ?_) (fun c5 => ?_)
    · have c5 : ¬ (L = 2) := by simpa using c5
      rw [opK_least1 a b (.inl c1), if_neg (by rw [hL]; exact c5), hL]
      exact .done ⟨rfl, rfl⟩
    · have c5 : L = 2 := by simpa using c5
      rw [opK_least1 a b (.inl c1), if_pos (by rw [hL]; exact c5)]
      refine callR [] (gNumX a _ ha) ?_
      intro p1
      refine StoreAt.mk 0 _ _ rfl rfl ?_
      refine callR [] (gNumX b _ hb) ?_
      intro p2
      refine StoreAt.mk 0 _ _ rfl rfl ?_
      refine LoadAt.mk 1 _ _ rfl rfl ?_
      refine LoadAt.mk 0 _ _ rfl rfl ?_
      refine callR [] (gOpX op _ _ _ _ _) ?_
      unfold resP
      cases hr : opP op (numRe a) (numIm a) (numRe b) (numIm b) with
      | none =>
        intro p3
        refine StoreAt.mk 0 _ _ rfl rfl ?_
        exact .drop 0 3 (.done ⟨rfl, rfl⟩)
      | some xy =>
        obtain ⟨x, y⟩ := xy
        intro p3
        refine StoreAt.mk 0 _ _ rfl rfl ?_
        refine LoadAt.mk 0 _ _ rfl rfl ?_
        refine callR [] (gCOfX x y _) ?_
        exact .drop 0 3 (.done ⟨rfl, rfl⟩)
  · have c1 : ¬ (op = 0) := c1
    refine bcond_dec (fun c3 => ?_) (fun c3 => ?_)
    · have c3 : op = 4 := c3
      intro bl4
      refine .frz (args' := [.fsl (.int .u64) [a]]) 0 bl4 0 1 1 _ (.int .u64) [a] rfl rfl ⟨rfl, rfl, by decide⟩ (frz_cons .here frz_nil) (callR [] (aLeast [a] _ (by show 1 ≤ 100000; omega)) ?_)
      generalize hL : leastW [a] = L
      refine bcond_split (fun c5 => ?_) (fun c5 => ?_)
      · have c5 : ¬ (L = 2) := by simpa using c5
        rw [opK_least1 a b (.inr c3), if_neg (by rw [hL]; exact c5), hL]
        exact .done ⟨rfl, rfl⟩
      · have c5 : L = 2 := by simpa using c5
        rw [opK_least1 a b (.inr c3), if_pos (by rw [hL]; exact c5)]
        refine callR [] (gNumX a _ ha) ?_
        intro p1
        refine StoreAt.mk 0 _ _ rfl rfl ?_
        refine callR [] (gNumX b _ hb) ?_
        intro p2
        refine StoreAt.mk 0 _ _ rfl rfl ?_
        refine LoadAt.mk 1 _ _ rfl rfl ?_
        refine LoadAt.mk 0 _ _ rfl rfl ?_
        refine callR [] (gOpX op _ _ _ _ _) ?_
        unfold resP
        cases hr : opP op (numRe a) (numIm a) (numRe b) (numIm b) with
        | none =>
          intro p3
          refine StoreAt.mk 0 _ _ rfl rfl ?_
          exact .drop 0 3 (.done ⟨rfl, rfl⟩)
        | some xy =>
          obtain ⟨x, y⟩ := xy
          intro p3
          refine StoreAt.mk 0 _ _ rfl rfl ?_
          refine LoadAt.mk 0 _ _ rfl rfl ?_
          refine callR [] (gCOfX x y _) ?_
          exact .drop 0 3 (.done ⟨rfl, rfl⟩)
    · have c3 : ¬ (op = 4) := c3
      generalize hL : leastW [a, b] = L
      refine bcond_split (fun c5 => ?_) (fun c5 => ?_)
      · have c5 : ¬ (L = 2) := by simpa using c5
        rw [opK_least2 a b (fun h => h.elim c1 c3), if_neg (by rw [hL]; exact c5), hL]
        exact .done ⟨rfl, rfl⟩
      · have c5 : L = 2 := by simpa using c5
        rw [opK_least2 a b (fun h => h.elim c1 c3), if_pos (by rw [hL]; exact c5)]
        refine callR [] (gNumX a _ ha) ?_
        intro p1
        refine StoreAt.mk 0 _ _ rfl rfl ?_
        refine callR [] (gNumX b _ hb) ?_
        intro p2
        refine StoreAt.mk 0 _ _ rfl rfl ?_
        refine LoadAt.mk 1 _ _ rfl rfl ?_
        refine LoadAt.mk 0 _ _ rfl rfl ?_
        refine callR [] (gOpX op _ _ _ _ _) ?_
        unfold resP
        cases hr : opP op (numRe a) (numIm a) (numRe b) (numIm b) with
        | none =>
          intro p3
          refine StoreAt.mk 0 _ _ rfl rfl ?_
          exact .drop 0 3 (.done ⟨rfl, rfl⟩)
        | some xy =>
          obtain ⟨x, y⟩ := xy
          intro p3
          refine StoreAt.mk 0 _ _ rfl rfl ?_
          refine LoadAt.mk 0 _ _ rfl rfl ?_
          refine callR [] (gCOfX x y _) ?_
          exact .drop 0 3 (.done ⟨rfl, rfl⟩)
set_option maxRecDepth 100000
theorem aIndexU (g : Nat) (cap : List AV) (l : List (Sh.T (.int .u64))) (p : Sh.T (.int .u64) → Bool) (σ : Hp) (hl : l.length ≤ 1000000) (hg : ∀ (i : Nat) (hi : i < l.length), ACalls Tryz.prog g (.int .u64 l[i] :: cap) σ (Ret (.bool (p l[i])) σ)) : ACalls Tryz.prog 183 [.fsl (.int .u64) l, .fn (.func g) [] cap] σ (fun r σ' => ∃ n : Int, r = .int .i64 n ∧ σ' = σ ∧ decide (0 ≤ n) = l.any p) := by
  refine okF Tryz.func183 (by kernel_rfl) ?_
  refine loopS (S := Nat) (fun s => [(0, .fsl (.int .u64) l), (1, .fn (.func g) [] cap), (7, .int .i64 l.length), (8, .int .i64 s)]) (fun _ => σ) (fun s => s ≤ l.length ∧ (l.take s).any p = false) (fun s => l.length - s) 0 ⟨⟨Nat.zero_le _, rfl⟩, ⟨rfl, rfl, rfl, rfl, trivial⟩, rfl⟩ ?_
  rintro k t ⟨hk0, hn0⟩
  have hk : k ≤ l.length := hk0
  have hn : (l.take k).any p = false := hn0
  clear hk0 hn0
  refine bcond_dec (fun hlt => ?_) (fun hge => ?_)
  · have hlt : k < l.length := by have hlt : (k : Int) < l.length := hlt; omega
    have hs := any_take hlt p
    rw [hn, Bool.false_or] at hs
    refine With.mk rfl (IdxF.mk l[k] (by omega) (get_some hlt) ?_)
    refine callB [] (hg k hlt) (fun c => ?_) (fun c => ?_)
    · have hp : l.any p = true := List.any_eq_true.2 ⟨l[k], List.getElem_mem hlt, c⟩
      exact .done ⟨_, rfl, rfl, by rw [hp]; exact decide_eq_true (by omega)⟩
    · exact nextS (k + 1) (by show l.length - (k + 1) < l.length - k; omega) ⟨hlt, hs.trans c⟩ ⟨rfl, rfl, rfl, inc64 (by omega), trivial⟩ (.refl _)
  · have hge : k = l.length := by have hge : ¬ (k : Int) < l.length := hge; omega
    subst hge
    rw [List.take_length] at hn
    exact .done ⟨_, rfl, rfl, by rw [hn]; rfl⟩
theorem aContainsU (g : Nat) (cap : List AV) (l : List (Sh.T (.int .u64))) (p : Sh.T (.int .u64) → Bool) (σ : Hp) (hl : l.length ≤ 1000000) (hg : ∀ (i : Nat) (hi : i < l.length), ACalls Tryz.prog g (.int .u64 l[i] :: cap) σ (Ret (.bool (p l[i])) σ)) : ACalls Tryz.prog 168 [.fsl (.int .u64) l, .fn (.func g) [] cap] σ (Ret (.bool (l.any p)) σ) := by
  refine okF Tryz.func168 (by kernel_rfl) ?_
  refine .mk [] _ (aIndexU g cap l p _ hl hg) ?_
  rintro _ _ ⟨n, rfl, rfl, hn⟩
  rw [← hn]
  refine bcond_dec (fun c => ?_) (fun c => ?_)
  · have c : 0 ≤ n := c
    rw [decide_eq_true c]
    exact .done ⟨rfl, rfl⟩
  · have c : ¬ 0 ≤ n := c
    rw [decide_eq_false c]
    exact .done ⟨rfl, rfl⟩
/-- Code: what becomes of a variable. -/
abbrev numSh : Sh := .field (.int .i64) (.field (.int .i64) .nil)
abbrev refSh : Sh := .field (.int .i64) (.field numSh .nil)
abbrev codeSh : Sh := .field (.int .i64) (.field (.int .i64) (.field refSh (.field refSh .nil)))
abbrev NumT : Type := Int × Int × Unit
abbrev RefT : Type := Int × NumT × Unit
abbrev CodeT : Type := Int × Int × RefT × RefT × Unit
abbrev refC (r : RefT) : List AV := [.int .i64 r.1, .int .i64 r.2.1.1, .int .i64 r.2.1.2.1]
abbrev codeC (c : CodeT) : List AV := [.int .i64 c.1, .int .i64 c.2.1, .int .i64 c.2.2.1.1, .int .i64 c.2.2.1.2.1.1, .int .i64 c.2.2.1.2.1.2.1, .int .i64 c.2.2.2.1.1, .int .i64 c.2.2.2.1.2.1.1, .int .i64 c.2.2.2.1.2.1.2.1]
def codeV (c : CodeT) : AV := .agg (codeC c)
theorem aIndexC (g : Nat) (cap : List AV) (l : List (Sh.T codeSh)) (p : Sh.T codeSh → Bool) (σ : Hp) (hl : l.length ≤ 1000000) (hg : ∀ (i : Nat) (hi : i < l.length), ACalls Tryz.prog g (codeV l[i] :: cap) σ (Ret (.bool (p l[i])) σ)) : ACalls Tryz.prog 185 [.fsl codeSh l, .fn (.func g) [] cap] σ (fun r σ' => ∃ n : Int, r = .int .i64 n ∧ σ' = σ ∧ decide (0 ≤ n) = l.any p) := by
  refine okF Tryz.func185 (by kernel_rfl) ?_
  refine loopS (S := Nat) (fun s => [(0, .fsl codeSh l), (1, .fn (.func g) [] cap), (7, .int .i64 l.length), (8, .int .i64 s)]) (fun _ => σ) (fun s => s ≤ l.length ∧ (l.take s).any p = false) (fun s => l.length - s) 0 ⟨⟨Nat.zero_le _, rfl⟩, ⟨rfl, rfl, rfl, rfl, trivial⟩, rfl⟩ ?_
  rintro k t ⟨hk0, hn0⟩
  have hk : k ≤ l.length := hk0
  have hn : (l.take k).any p = false := hn0
  clear hk0 hn0
  refine bcond_dec (fun hlt => ?_) (fun hge => ?_)
  · have hlt : k < l.length := by have hlt : (k : Int) < l.length := hlt; omega
    have hs := any_take hlt p
    rw [hn, Bool.false_or] at hs
    refine With.mk rfl (IdxF.mk l[k] (by omega) (get_some hlt) ?_)
    refine callB [] (hg k hlt) (fun c => ?_) (fun c => ?_)
    · have hp : l.any p = true := List.any_eq_true.2 ⟨l[k], List.getElem_mem hlt, c⟩
      exact .done ⟨_, rfl, rfl, by rw [hp]; exact decide_eq_true (by omega)⟩
    · exact nextS (k + 1) (by show l.length - (k + 1) < l.length - k; omega) ⟨hlt, hs.trans c⟩ ⟨rfl, rfl, rfl, inc64 (by omega), trivial⟩ (.refl _)
  · have hge : k = l.length := by have hge : ¬ (k : Int) < l.length := hge; omega
    subst hge
    rw [List.take_length] at hn
    exact .done ⟨_, rfl, rfl, by rw [hn]; rfl⟩
theorem aContainsC (g : Nat) (cap : List AV) (l : List (Sh.T codeSh)) (p : Sh.T codeSh → Bool) (σ : Hp) (hl : l.length ≤ 1000000) (hg : ∀ (i : Nat) (hi : i < l.length), ACalls Tryz.prog g (codeV l[i] :: cap) σ (Ret (.bool (p l[i])) σ)) : ACalls Tryz.prog 171 [.fsl codeSh l, .fn (.func g) [] cap] σ (Ret (.bool (l.any p)) σ) := by
  refine okF Tryz.func171 (by kernel_rfl) ?_
  refine .mk [] _ (aIndexC g cap l p _ hl hg) ?_
  rintro _ _ ⟨n, rfl, rfl, hn⟩
  rw [← hn]
  refine bcond_dec (fun c => ?_) (fun c => ?_)
  · have c : 0 ≤ n := c
    rw [decide_eq_true c]
    exact .done ⟨rfl, rfl⟩
  · have c : ¬ 0 ≤ n := c
    rw [decide_eq_false c]
    exact .done ⟨rfl, rfl⟩
theorem aIndexUU (g : Nat) (cap : List AV) (l : List (Sh.T (.slice (.int .u64)))) (p : Sh.T (.slice (.int .u64)) → Bool) (σ : Hp) (hl : l.length ≤ 1000000) (hg : ∀ (i : Nat) (hi : i < l.length), ACalls Tryz.prog g (.fsl (.int .u64) l[i] :: cap) σ (Ret (.bool (p l[i])) σ)) : ACalls Tryz.prog 174 [.fsl (.slice (.int .u64)) l, .fn (.func g) [] cap] σ (fun r σ' => ∃ n : Int, r = .int .i64 n ∧ σ' = σ ∧ decide (0 ≤ n) = l.any p) := by
  refine okF Tryz.func174 (by kernel_rfl) ?_
  refine loopS (S := Nat) (fun s => [(0, .fsl (.slice (.int .u64)) l), (1, .fn (.func g) [] cap), (7, .int .i64 l.length), (8, .int .i64 s)]) (fun _ => σ) (fun s => s ≤ l.length ∧ (l.take s).any p = false) (fun s => l.length - s) 0 ⟨⟨Nat.zero_le _, rfl⟩, ⟨rfl, rfl, rfl, rfl, trivial⟩, rfl⟩ ?_
  rintro k t ⟨hk0, hn0⟩
  have hk : k ≤ l.length := hk0
  have hn : (l.take k).any p = false := hn0
  clear hk0 hn0
  refine bcond_dec (fun hlt => ?_) (fun hge => ?_)
  · have hlt : k < l.length := by have hlt : (k : Int) < l.length := hlt; omega
    have hs := any_take hlt p
    rw [hn, Bool.false_or] at hs
    refine With.mk rfl (IdxF.mk l[k] (by omega) (get_some hlt) ?_)
    refine callB [] (hg k hlt) (fun c => ?_) (fun c => ?_)
    · have hp : l.any p = true := List.any_eq_true.2 ⟨l[k], List.getElem_mem hlt, c⟩
      exact .done ⟨_, rfl, rfl, by rw [hp]; exact decide_eq_true (by omega)⟩
    · exact nextS (k + 1) (by show l.length - (k + 1) < l.length - k; omega) ⟨hlt, hs.trans c⟩ ⟨rfl, rfl, rfl, inc64 (by omega), trivial⟩ (.refl _)
  · have hge : k = l.length := by have hge : ¬ (k : Int) < l.length := hge; omega
    subst hge
    rw [List.take_length] at hn
    exact .done ⟨_, rfl, rfl, by rw [hn]; rfl⟩
theorem aContainsUU (g : Nat) (cap : List AV) (l : List (Sh.T (.slice (.int .u64)))) (p : Sh.T (.slice (.int .u64)) → Bool) (σ : Hp) (hl : l.length ≤ 1000000) (hg : ∀ (i : Nat) (hi : i < l.length), ACalls Tryz.prog g (.fsl (.int .u64) l[i] :: cap) σ (Ret (.bool (p l[i])) σ)) : ACalls Tryz.prog 157 [.fsl (.slice (.int .u64)) l, .fn (.func g) [] cap] σ (Ret (.bool (l.any p)) σ) := by
  refine okF Tryz.func157 (by kernel_rfl) ?_
  refine .mk [] _ (aIndexUU g cap l p _ hl hg) ?_
  rintro _ _ ⟨n, rfl, rfl, hn⟩
  rw [← hn]
  refine bcond_dec (fun c => ?_) (fun c => ?_)
  · have c : 0 ≤ n := c
    rw [decide_eq_true c]
    exact .done ⟨rfl, rfl⟩
  · have c : ¬ 0 ≤ n := c
    rw [decide_eq_false c]
    exact .done ⟨rfl, rfl⟩
theorem aIndexE (l : List Int) (x : Int) (σ : Hp) (hl : l.length ≤ 1000000) : ACalls Tryz.prog 176 [.fsl (.int .u64) l, .int .u64 x] σ (fun r σ' => ∃ n : Int, r = .int .i64 n ∧ σ' = σ ∧ decide (0 ≤ n) = l.any fun z => decide (x = z)) := by
  refine okF Tryz.func176 (by kernel_rfl) ?_
  refine loopS (S := Nat) (fun s => [(0, .fsl (.int .u64) l), (1, .int .u64 x), (7, .int .i64 l.length), (8, .int .i64 s)]) (fun _ => σ) (fun s => s ≤ l.length ∧ ((l.take s).any fun z => decide (x = z)) = false) (fun s => l.length - s) 0 ⟨⟨Nat.zero_le _, rfl⟩, ⟨rfl, rfl, rfl, rfl, trivial⟩, rfl⟩ ?_
  rintro k t ⟨hk0, hn0⟩
  have hk : k ≤ l.length := hk0
  have hn : ((l.take k).any fun z => decide (x = z)) = false := hn0
  clear hk0 hn0
  refine bcond_dec (fun hlt => ?_) (fun hge => ?_)
  · have hlt : k < l.length := by have hlt : (k : Int) < l.length := hlt; omega
    have hs := any_take hlt fun z => decide (x = z)
    rw [hn, Bool.false_or] at hs
    refine With.mk rfl (IdxF.mk l[k] (by omega) (get_some hlt) ?_)
    refine bcond_dec (fun c => ?_) (fun c => ?_)
    · have c : x = l[k] := c
      have hp : (l.any fun z => decide (x = z)) = true := List.any_eq_true.2 ⟨l[k], List.getElem_mem hlt, decide_eq_true c⟩
      exact .done ⟨_, rfl, rfl, by rw [hp]; exact decide_eq_true (by omega)⟩
    · have c : ¬ x = l[k] := c
      exact nextS (k + 1) (by show l.length - (k + 1) < l.length - k; omega) ⟨hlt, hs.trans (decide_eq_false c)⟩ ⟨rfl, rfl, rfl, inc64 (by omega), trivial⟩ (.refl _)
  · have hge : k = l.length := by have hge : ¬ (k : Int) < l.length := hge; omega
    subst hge
    rw [List.take_length] at hn
    exact .done ⟨_, rfl, rfl, by rw [hn]; rfl⟩
theorem aContainsE (l : List Int) (x : Int) (σ : Hp) (hl : l.length ≤ 1000000) : ACalls Tryz.prog 161 [.fsl (.int .u64) l, .int .u64 x] σ (Ret (.bool (l.any fun z => decide (x = z))) σ) := by
  refine okF Tryz.func161 (by kernel_rfl) ?_
  refine .mk [] _ (aIndexE l x _ hl) ?_
  rintro _ _ ⟨n, rfl, rfl, hn⟩
  rw [← hn]
  refine bcond_dec (fun c => ?_) (fun c => ?_)
  · have c : 0 ≤ n := c
    rw [decide_eq_true c]
    exact .done ⟨rfl, rfl⟩
  · have c : ¬ 0 ≤ n := c
    rw [decide_eq_false c]
    exact .done ⟨rfl, rfl⟩
theorem aEqualU (xs ys : List Int) (σ : Hp) (h1 : xs.length ≤ 1000000) : ACalls Tryz.prog 139 [.fsl (.int .u64) xs, .fsl (.int .u64) ys] σ (Ret (.bool (decide (xs = ys))) σ) := by
  refine okF Tryz.func139 (by kernel_rfl) ?_
  refine bcond_split (fun hl => ?_) (fun hl => ?_)
  · have : xs ≠ ys := by rintro rfl; simp at hl
    exact .done ⟨by simp [this]; rfl, rfl⟩
  · have hl : (!decide ((xs.length : Int) = (ys.length : Int))) = false := hl
    have hlen : xs.length = ys.length := by simp at hl; omega
    refine loopS (S := Nat) (fun k => [(0, .fsl (.int .u64) xs), (1, .fsl (.int .u64) ys), (12, .int .i64 xs.length), (13, .int .i64 k)]) (fun _ => σ) (fun k => k ≤ xs.length ∧ xs.take k = ys.take k) (fun k => xs.length - k) 0 ⟨⟨Nat.zero_le _, rfl⟩, ⟨rfl, rfl, rfl, rfl, trivial⟩, rfl⟩ ?_
    rintro k g ⟨hk, htk⟩
    refine bcond_dec (fun hlt => ?_) (fun hge => ?_)
    · have hk' : k < xs.length := by omega
      have hk'' : k < ys.length := by omega
      refine DrawW.quiet (by kernel_rfl) ?_
      refine With.mk rfl (IdxF.mk xs[k] (by omega) (get_some hk') ?_)
      refine With.mk rfl (IdxF.mk ys[k] (by omega) (get_some hk'') ?_)
      refine bcond_split (fun hx => ?_) (fun hx => ?_)
      · have : xs ≠ ys := by rintro rfl; simp at hx
        exact .done ⟨by simp [this]; rfl, rfl⟩
      · have hx' : xs[k] = ys[k] := by simpa using hx
        refine next (k + 1) (Nat.sub_lt_sub_left hk' (Nat.lt_succ_self k)) ⟨hk', ?_⟩ ⟨rfl, rfl, rfl, inc64 (by omega), trivial⟩ rfl
        rw [List.take_succ_eq_append_getElem hk', List.take_succ_eq_append_getElem hk'', htk, hx']
    · obtain rfl : k = xs.length := by omega
      have : xs = ys := by
        rw [List.take_length] at htk
        rw [htk, hlen, List.take_length]
      exact .done ⟨by simp [this]; rfl, rfl⟩
end Go.Proofs.YtljbnigceammdaaGreatDoor
