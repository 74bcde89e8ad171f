/-
  Yb: what the claim uses of them.
-/
import Derived.Test.YtljbnigceammdaaGreatBn32
namespace Go.Proofs.YtljbnigceammdaaGreat
open Go.RowKit
set_option maxRecDepth 100000
theorem aIndexI (l : List Int) (x : Int) (σ : Hp) (hl : l.length ≤ 1000000) : ACalls Tryz.prog 106 [.fsl (.int .i64) l, .int .i64 x] σ (fun r σ' => ∃ n : Int, r = .int .i64 n ∧ σ' = σ ∧ decide (0 ≤ n) = l.any fun z => decide (x = z)) := by
  refine okF Tryz.func106 (by kernel_rfl) ?_
  refine loopS (S := Nat) (fun s => [(0, .fsl (.int .i64) l), (1, .int .i64 x), (7, .int .i64 l.length), (8, .int .i64 s)]) (fun _ => σ) (fun s => s ≤ l.length ∧ ((l.take s).any fun z => decide (x = z)) = false) (fun s => l.length - s) 0 ⟨⟨Nat.zero_le _, rfl⟩, ⟨rfl, rfl, rfl, rfl, trivial⟩, rfl⟩ ?_
  rintro k t ⟨hk0, hn0⟩
  have hk : k ≤ l.length := hk0
  have hn : ((l.take k).any fun z => decide (x = z)) = false := hn0
  clear hk0 hn0
  refine bcond_dec (fun hlt => ?_) (fun hge => ?_)
  · have hlt : k < l.length := by have hlt : (k : Int) < l.length := hlt; omega
    have hs := any_take hlt fun z => decide (x = z)
    rw [hn, Bool.false_or] at hs
    refine With.mk rfl (IdxF.mk l[k] (by omega) (get_some hlt) ?_)
    refine bcond_dec (fun c => ?_) (fun c => ?_)
    · have c : x = l[k] := c
      have hp : (l.any fun z => decide (x = z)) = true := List.any_eq_true.2 ⟨l[k], List.getElem_mem hlt, decide_eq_true c⟩
      exact .done ⟨_, rfl, rfl, by rw [hp]; exact decide_eq_true (by omega)⟩
    · have c : ¬ x = l[k] := c
      exact nextS (k + 1) (by show l.length - (k + 1) < l.length - k; omega) ⟨hlt, hs.trans (decide_eq_false c)⟩ ⟨rfl, rfl, rfl, inc64 (by omega), trivial⟩ (.refl _)
  · have hge : k = l.length := by have hge : ¬ (k : Int) < l.length := hge; omega
    subst hge
    rw [List.take_length] at hn
    exact .done ⟨_, rfl, rfl, by rw [hn]; rfl⟩
theorem aContainsI (l : List Int) (x : Int) (σ : Hp) (hl : l.length ≤ 1000000) : ACalls Tryz.prog 65 [.fsl (.int .i64) l, .int .i64 x] σ (Ret (.bool (l.any fun z => decide (x = z))) σ) := by
  refine okF Tryz.func65 (by kernel_rfl) ?_
  refine .mk [] _ (aIndexI l x _ hl) ?_
  rintro _ _ ⟨n, rfl, rfl, hn⟩
  rw [← hn]
  refine bcond_dec (fun c => ?_) (fun c => ?_)
  · have c : 0 ≤ n := c
    rw [decide_eq_true c]
    exact .done ⟨rfl, rfl⟩
  · have c : ¬ 0 ≤ n := c
    rw [decide_eq_false c]
    exact .done ⟨rfl, rfl⟩
theorem aCloneQ (l : List Int) (σ : Hp) (hl : l.length ≤ 1000000) : ACalls Tryz.prog 66 [.fsl (.int .u64) l] σ (Ret (.fsl (.int .u64) l) σ) := by
  refine (aCloneF l σ hl).fin ?_
  rintro v σ' ⟨acc, hacc, rfl⟩
  exact fin_acc (s := .int .u64) [] hacc rfl (woC_flat l) (by decide) (.done ⟨rfl, rfl⟩)
/-- What is known of a node from the beginning. -/
def startS (s : Sy) (v : Int) : List Int := if (s.entry.any fun z => decide (v = z)) = true then s.init else botL s.what s.w
theorem aStart (s : Sy) (v : Int) (σ : Hp) (hf : Fit s) : ACalls Tryz.prog 35 [.agg (sysC s), .int .i64 v] σ (Ret (.fsl (.int .u64) (startS s v)) σ) := by
  refine okF Tryz.func35 (by kernel_rfl) ?_
  intro bl1
  refine LoadAt.mk 0 _ _ rfl rfl ?_
  refine callB [] (aContainsI s.entry v _ (Nat.le_trans hf.nlen (by decide))) (fun c => ?_) (fun c => ?_)
  · refine LoadAt.mk 0 _ _ rfl rfl ?_
    refine callR [] (aCloneQ s.init _ (Nat.le_trans hf.ilen (by decide))) ?_
    exact .drop 0 1 (.done ⟨by unfold startS; rw [c]; rfl, rfl⟩)
  · refine LoadAt.mk 0 _ _ rfl rfl ?_
    refine LoadAt.mk 0 _ _ rfl rfl ?_
    refine callR [] (aLBottom _ _ _) ?_
    exact .drop 0 1 (.done ⟨by unfold startS; rw [c]; rfl, rfl⟩)
/-- Are lists one value a node? -/
def valsS (s : Sy) (a : List (List Int)) : Bool := decide ((a.length : Int) = s.n) && a.all (valL s.what s.w)
def okLL (a : List (List Int)) : Prop := a.length ≤ 100000 ∧ ∀ x ∈ a, A64 x ∧ x.length ≤ 10000
theorem aValues1 (s : Sy) (x : List Int) (q : Nat) (σ : Hp) (hx : A64 x) (lx : x.length ≤ 10000) : ACalls Tryz.prog 64 [.fsl (.int .u64) x, .ptr q 0] ((q, sysC s) :: σ) (Ret (.bool (!valL s.what s.w x)) ((q, sysC s) :: σ)) := by
  refine okF Tryz.func64 (by kernel_rfl) ?_
  refine LoadAt.mk 0 _ _ rfl rfl ?_
  refine LoadAt.mk 0 _ _ rfl rfl ?_
  refine callR [] (aLIs s.what s.w x _ hx (Nat.le_trans lx (by decide))) ?_
  exact .done ⟨rfl, rfl⟩
theorem all_v {what w : Int} (l : List (List Int)) {b : Bool} (h : (l.any fun x => !valL what w x) = b) : l.all (valL what w) = !b := by rw [all_not, h]
theorem aValues (s : Sy) (a : List (List Int)) (σ : Hp) (ha : okLL a) : ACalls Tryz.prog 34 [.agg (sysC s), .fsl (.slice (.int .u64)) a] σ (Ret (.bool (valsS s a)) σ) := by
  refine okF Tryz.func34 (by kernel_rfl) ?_
  intro bl1
  refine LoadAt.mk 0 _ _ rfl rfl ?_
  refine bcond_dec (fun c2 => ?_) (fun c2 => ?_)
  · have c2 : (a.length : Int) = s.n := c2
    refine callB [] (aContainsUU 64 [.ptr bl1 0] a (fun x => !valL s.what s.w x) _ (Nat.le_trans ha.1 (by decide)) (fun i hi => aValues1 s a[i] bl1 _ (ha.2 _ (List.getElem_mem hi)).1 (ha.2 _ (List.getElem_mem hi)).2)) (fun cL => ?_) (fun cL => ?_)
    · exact .drop 0 1 (.done ⟨av_bool (by unfold valsS; rw [all_v a cL]; simp), rfl⟩)
    · exact .drop 0 1 (.done ⟨av_bool (by unfold valsS; rw [all_v a cL, decide_eq_true c2]; rfl), rfl⟩)
  · have c2 : ¬ (a.length : Int) = s.n := c2
    exact .drop 0 1 (.done ⟨av_bool (by unfold valsS; rw [decide_eq_false c2]; rfl), rfl⟩)
end Go.Proofs.YtljbnigceammdaaGreat
