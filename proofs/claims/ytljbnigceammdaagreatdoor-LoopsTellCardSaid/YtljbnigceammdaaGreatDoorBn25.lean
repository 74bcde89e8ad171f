/-
  Yb: what the claim uses of them.
-/
import Derived.Test.YtljbnigceammdaaGreatDoorBn24
namespace Go.Proofs.YtljbnigceammdaaGreatDoor
open Go.RowKit
set_option maxRecDepth 100000
theorem aIndexI (l : List Int) (x : Int) (σ : Hp) (hl : l.length ≤ 1000000) : ACalls Tryz.prog 80 [.fsl (.int .i64) l, .int .i64 x] σ (fun r σ' => ∃ n : Int, r = .int .i64 n ∧ σ' = σ ∧ decide (0 ≤ n) = l.any fun z => decide (x = z)) := by
  refine okF Tryz.func80 (by kernel_rfl) ?_
  refine loopS (S := Nat) (fun s => [(0, .fsl (.int .i64) l), (1, .int .i64 x), (7, .int .i64 l.length), (8, .int .i64 s)]) (fun _ => σ) (fun s => s ≤ l.length ∧ ((l.take s).any fun z => decide (x = z)) = false) (fun s => l.length - s) 0 ⟨⟨Nat.zero_le _, rfl⟩, ⟨rfl, rfl, rfl, rfl, trivial⟩, rfl⟩ ?_
  rintro k t ⟨hk0, hn0⟩
  have hk : k ≤ l.length := hk0
  have hn : ((l.take k).any fun z => decide (x = z)) = false := hn0
  clear hk0 hn0
  refine bcond_dec (fun hlt => ?_) (fun hge => ?_)
  · have hlt : k < l.length := by have hlt : (k : Int) < l.length := hlt; omega
    have hs := any_take hlt fun z => decide (x = z)
    rw [hn, Bool.false_or] at hs
    refine With.mk rfl (IdxF.mk l[k] (by omega) (get_some hlt) ?_)
    refine bcond_dec (fun c => ?_) (fun c => ?_)
    · have c : x = l[k] := c
      have hp : (l.any fun z => decide (x = z)) = true := List.any_eq_true.2 ⟨l[k], List.getElem_mem hlt, decide_eq_true c⟩
      exact .done ⟨_, rfl, rfl, by rw [hp]; exact decide_eq_true (by omega)⟩
    · have c : ¬ x = l[k] := c
      exact nextS (k + 1) (by show l.length - (k + 1) < l.length - k; omega) ⟨hlt, hs.trans (decide_eq_false c)⟩ ⟨rfl, rfl, rfl, inc64 (by omega), trivial⟩ (.refl _)
  · have hge : k = l.length := by have hge : ¬ (k : Int) < l.length := hge; omega
    subst hge
    rw [List.take_length] at hn
    exact .done ⟨_, rfl, rfl, by rw [hn]; rfl⟩
theorem aContainsI (l : List Int) (x : Int) (σ : Hp) (hl : l.length ≤ 1000000) : ACalls Tryz.prog 46 [.fsl (.int .i64) l, .int .i64 x] σ (Ret (.bool (l.any fun z => decide (x = z))) σ) := by
  refine okF Tryz.func46 (by kernel_rfl) ?_
  refine .mk [] _ (aIndexI l x _ hl) ?_
  rintro _ _ ⟨n, rfl, rfl, hn⟩
  rw [← hn]
  refine bcond_dec (fun c => ?_) (fun c => ?_)
  · have c : 0 ≤ n := c
    rw [decide_eq_true c]
    exact .done ⟨rfl, rfl⟩
  · have c : ¬ 0 ≤ n := c
    rw [decide_eq_false c]
    exact .done ⟨rfl, rfl⟩
theorem aCloneQ (l : List Int) (σ : Hp) (hl : l.length ≤ 1000000) : ACalls Tryz.prog 159 [.fsl (.int .u64) l] σ (Ret (.fsl (.int .u64) l) σ) := by
  refine (aCloneF l σ hl).fin ?_
  rintro v σ' ⟨acc, hacc, rfl⟩
  exact fin_acc (s := .int .u64) [] hacc rfl (woC_flat l) (by decide) (.done ⟨rfl, rfl⟩)
/-- What is known of a node from the beginning. -/
def startS (s : Sy) (v : Int) : List Int := if (s.entry.any fun z => decide (v = z)) = true then s.init else botL s.what s.w
theorem aStart (s : Sy) (v : Int) (σ : Hp) (hf : Fit s) : ACalls Tryz.prog 135 [.agg (sysC s), .int .i64 v] σ (Ret (.fsl (.int .u64) (startS s v)) σ) := by
  refine okF Tryz.func135 (by kernel_rfl) ?_
  intro bl1
  refine LoadAt.mk 0 _ _ rfl rfl ?_
  refine callB [] (aContainsI s.entry v _ (Nat.le_trans hf.nlen (by decide))) (fun c => ?_) (fun c => ?_)
  · refine LoadAt.mk 0 _ _ rfl rfl ?_
    refine callR [] (aCloneQ s.init _ (Nat.le_trans hf.ilen (by decide))) ?_
    exact .drop 0 1 (.done ⟨by unfold startS; rw [c]; rfl, rfl⟩)
  · refine LoadAt.mk 0 _ _ rfl rfl ?_
    refine LoadAt.mk 0 _ _ rfl rfl ?_
    refine callR [] (aLBottom _ _ _) ?_
    exact .drop 0 1 (.done ⟨by unfold startS; rw [c]; rfl, rfl⟩)
/-- Are lists one value a node? -/
def valsS (s : Sy) (a : List (List Int)) : Bool := decide ((a.length : Int) = s.n) && a.all (valL s.what s.w)
def okLL (a : List (List Int)) : Prop := a.length ≤ 100000 ∧ ∀ x ∈ a, A64 x ∧ x.length ≤ 10000
theorem aValues1 (s : Sy) (x : List Int) (q : Nat) (σ : Hp) (hx : A64 x) (lx : x.length ≤ 10000) : ACalls Tryz.prog 158 [.fsl (.int .u64) x, .ptr q 0] ((q, sysC s) :: σ) (Ret (.bool (!valL s.what s.w x)) ((q, sysC s) :: σ)) := by
  refine okF Tryz.func158 (by kernel_rfl) ?_
  refine LoadAt.mk 0 _ _ rfl rfl ?_
  refine LoadAt.mk 0 _ _ rfl rfl ?_
  refine callR [] (aLIs s.what s.w x _ hx (Nat.le_trans lx (by decide))) ?_
  exact .done ⟨rfl, rfl⟩
theorem all_v {what w : Int} (l : List (List Int)) {b : Bool} (h : (l.any fun x => !valL what w x) = b) : l.all (valL what w) = !b := by rw [all_not, h]
theorem aValues (s : Sy) (a : List (List Int)) (σ : Hp) (ha : okLL a) : ACalls Tryz.prog 134 [.agg (sysC s), .fsl (.slice (.int .u64)) a] σ (Ret (.bool (valsS s a)) σ) := by
  refine okF Tryz.func134 (by kernel_rfl) ?_
  intro bl1
  refine LoadAt.mk 0 _ _ rfl rfl ?_
  refine bcond_dec (fun c2 => ?_) (fun c2 => ?_)
  · have c2 : (a.length : Int) = s.n := c2
    refine callB [] (aContainsUU 158 [.ptr bl1 0] a (fun x => !valL s.what s.w x) _ (Nat.le_trans ha.1 (by decide)) (fun i hi => aValues1 s a[i] bl1 _ (ha.2 _ (List.getElem_mem hi)).1 (ha.2 _ (List.getElem_mem hi)).2)) (fun cL => ?_) (fun cL => ?_)
    · exact .drop 0 1 (.done ⟨av_bool (by unfold valsS; rw [all_v a cL]; simp), rfl⟩)
    · exact .drop 0 1 (.done ⟨av_bool (by unfold valsS; rw [all_v a cL, decide_eq_true c2]; rfl), rfl⟩)
  · have c2 : ¬ (a.length : Int) = s.n := c2
    exact .drop 0 1 (.done ⟨av_bool (by unfold valsS; rw [decide_eq_false c2]; rfl), rfl⟩)
/-- Of two lists, one by one. -/
def allTwo (p : List Int → List Int → Bool) (a b : List (List Int)) : Bool := decide (a.length = b.length) && (List.zipWith p a b).all id
theorem allTwo_len {p : List Int → List Int → Bool} {a b : List (List Int)} (h : ¬ a.length = b.length) : allTwo p a b = false := by unfold allTwo; rw [decide_eq_false h]; rfl
theorem allTwo_iff {p : List Int → List Int → Bool} {a b : List (List Int)} : allTwo p a b = true ↔ a.length = b.length ∧ ∀ i (h : i < a.length) (h2 : i < b.length), p a[i] b[i] = true := by
  unfold allTwo
  rw [Bool.and_eq_true, decide_eq_true_eq, List.all_eq_true]
  constructor
  · rintro ⟨h1, h2⟩
    refine ⟨h1, fun i hi hi2 => ?_⟩
    exact h2 _ (List.mem_iff_getElem.2 ⟨i, by rw [List.length_zipWith]; omega, by rw [List.getElem_zipWith]⟩)
  · rintro ⟨h1, h2⟩
    refine ⟨h1, fun x hx => ?_⟩
    obtain ⟨i, hi, rfl⟩ := List.mem_iff_getElem.1 hx
    rw [List.length_zipWith] at hi
    rw [List.getElem_zipWith]
    exact h2 i (by omega) (by omega)
theorem allTwo_succ {p : List Int → List Int → Bool} {a b : List (List Int)} {k : Nat} (h1 : k < a.length) (h2 : k < b.length) (ht : allTwo p (a.take k) (b.take k) = true) (hc : p a[k] b[k] = true) : allTwo p (a.take (k + 1)) (b.take (k + 1)) = true := by
  rw [allTwo_iff] at ht ⊢
  obtain ⟨_, q⟩ := ht
  refine ⟨by simp; omega, fun i hi hi2 => ?_⟩
  rw [List.getElem_take, List.getElem_take]
  by_cases e : i = k
  · subst e; exact hc
  · have := q i (by simp at hi ⊢; omega) (by simp at hi ⊢; omega)
    rw [List.getElem_take, List.getElem_take] at this
    exact this
theorem allTwo_no {p : List Int → List Int → Bool} {a b : List (List Int)} {k : Nat} (h1 : k < a.length) (h2 : k < b.length) (hc : p a[k] b[k] = false) : allTwo p a b = false := by
  cases h : allTwo p a b with
  | false => rfl
  | true => rw [(allTwo_iff.1 h).2 k h1 h2] at hc; cases hc
theorem aEqualFn (g : Nat) (cap : List AV) (a b : List (List Int)) (p : List Int → List Int → Bool) (σ : Hp) (hl : a.length ≤ 1000000) (hg : ∀ x ∈ a, ∀ y ∈ b, ACalls Tryz.prog g ([.fsl (.int .u64) x, .fsl (.int .u64) y] ++ cap) σ (Ret (.bool (p x y)) σ)) : ACalls Tryz.prog 138 [.fsl (.slice (.int .u64)) a, .fsl (.slice (.int .u64)) b, .fn (.func g) [] cap] σ (Ret (.bool (allTwo p a b)) σ) := by
  refine okF Tryz.func138 (by kernel_rfl) ?_
  refine bcond_split (fun c1 => ?_) (fun c1 => ?_)
  · have c1 : (!decide ((a.length : Int) = (b.length : Int))) = true := c1
    exact .done ⟨av_bool (allTwo_len (by simp at c1; omega)).symm, rfl⟩
  · have c1 : (!decide ((a.length : Int) = (b.length : Int))) = false := c1
    have hlen : a.length = b.length := by simp at c1; omega
    refine loopS (S := Nat) (fun k => [(0, .fsl (.slice (.int .u64)) a), (1, .fsl (.slice (.int .u64)) b), (2, .fn (.func g) [] cap), (15, .fsl (.slice (.int .u64)) a), (16, .int .i64 a.length), (17, .int .i64 k)]) (fun _ => σ) (fun k => k ≤ a.length ∧ allTwo p (a.take k) (b.take k) = true) (fun k => a.length - k) 0 ⟨⟨Nat.zero_le _, rfl⟩, ⟨rfl, rfl, rfl, rfl, rfl, rfl, trivial⟩, rfl⟩ ?_
    rintro k t ⟨hk0, ht0⟩
    have hk : k ≤ a.length := hk0
    have ht : allTwo p (a.take k) (b.take k) = true := ht0
    clear hk0 ht0
    refine bcond_dec (fun hlt => ?_) (fun hge => ?_)
    · have hlt : k < a.length := by have hlt : (k : Int) < a.length := hlt; omega
      have hlt2 : k < b.length := by omega
      refine With.mk rfl (IdxF.mk a[k] (by omega) (get_some hlt) ?_)
      refine With.mk rfl (IdxF.mk b[k] (by omega) (get_some hlt2) ?_)
      refine callB [] (hg a[k] (List.getElem_mem hlt) b[k] (List.getElem_mem hlt2)) (fun c2 => ?_) (fun c2 => ?_)
      · exact nextS (k + 1) (by show a.length - (k + 1) < a.length - k; omega) ⟨hlt, allTwo_succ hlt hlt2 ht c2⟩ ⟨rfl, rfl, rfl, rfl, rfl, inc64 (by omega), trivial⟩ (.refl _)
      · exact .done ⟨av_bool (allTwo_no hlt hlt2 c2).symm, rfl⟩
    · have hge : k = a.length := by have hge : ¬ (k : Int) < a.length := hge; omega
      subst hge
      rw [List.take_length, hlen, List.take_length] at ht
      exact .done ⟨av_bool ht.symm, rfl⟩
end Go.Proofs.YtljbnigceammdaaGreatDoor
