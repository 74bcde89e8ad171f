/-
  Bd; Tu; Qd: what the claim uses of them.
-/
import Derived.Test.YtljbnigceammdaaGreatBn39
import Derived.Test.YtljbnigceammdaaGreatBn16
import Derived.Test.YtljbnigceammdaaGreatBn31
import Derived.Test.YtljbnigceammdaaGreatBn38
import Derived.Test.YtljbnigceammdaaGreatBn41
import Derived.Test.YtljbnigceammdaaGreatBn43
namespace Go.Proofs.YtljbnigceammdaaGreat
open Go.RowKit
set_option maxRecDepth 100000
def evalsS (s : Sy) : Int := if checkS s = 0 then IntKind.i64.wrap (s.n + IntKind.i64.wrap (((sortedE s.edges).length : Int) * heightL s.what s.w)) else 0
/-- How many words a value has, one at least. -/
def wM (s : Sy) : Int := if wordsL s.what s.w < 1 then 1 else wordsL s.what s.w
def w1 (s : Sy) : Int := IntKind.i64.wrap (evalsS s * IntKind.i64.wrap (wM s + 2))
def w2 (s : Sy) (k : Int) : Int := IntKind.i64.wrap (6 * IntKind.i64.wrap (IntKind.i64.wrap (2 * evalsS s) + k))
def w3 (s : Sy) : Int := IntKind.i64.wrap (IntKind.i64.wrap (IntKind.i64.wrap (1 + heightL s.what s.w) * ((sortedE s.edges).length : Int)) * wM s)
def w4 (s : Sy) (k : Int) : Int := IntKind.i64.wrap (IntKind.i64.wrap (s.n * heightL s.what s.w) * IntKind.i64.wrap (IntKind.i64.wrap (2 * k) + 5))
end Go.Proofs.YtljbnigceammdaaGreat
namespace Go.Proofs.YtljbnigceammdaaGreat
open Go.RowKit
set_option maxRecDepth 100000
theorem aCloneIA (l : List (Sh.T (.int .i64))) (σ : Hp) (hl : l.length ≤ 1000000) : ACalls Tryz.prog 48 [.fsl (.int .i64) l] σ (fun x σ' => ∃ acc, Acc 1 l.length x acc (l.flatMap (Sh.cells (.int .i64))) ∧ σ' = acc ++ σ) := by
  refine acalls_fsl (fun h => ⟨?_, ?_⟩) (fun h => ?_)
  · subst h
    refine okF Tryz.func48 (by kernel_rfl) ?_
    exact .done ⟨[], .nil, rfl⟩
  · subst h
    refine okF Tryz.func48 (by kernel_rfl) ?_
    intro b
    refine AppendAt.more 0 b 0 0 [] _ rfl rfl (Nat.le_of_ble_eq_true rfl) .esl (by decide) (by decide) (by decide) (fun b' => ?_)
    exact .done ⟨[(b', [])], .mref b' 0 [] rfl, rfl⟩
  · refine okF Tryz.func48 (by kernel_rfl) ?_
    refine With.mk (List.length_pos_iff.2 h) ?_
    intro b
    refine AppendAt.more 0 b 0 l.length [] _ rfl rfl (Nat.le_of_ble_eq_true rfl) (.fsl (.int .i64) l rfl) (by omega) (by decide) (by decide) (fun b' => ?_)
    refine .done ⟨[(b', l.flatMap (Sh.cells (.int .i64)))], ?_, rfl⟩
    rw [Nat.zero_add]; exact .mref b' l.length _ (flat_length (f := Sh.cells (.int .i64)) (es := 1) (fun _ => rfl) l)
theorem aCloneIQ (l : List (Sh.T (.int .i64))) (σ : Hp) (hl : l.length ≤ 1000000) : ACalls Tryz.prog 48 [.fsl (.int .i64) l] σ (Ret (.fsl (.int .i64) l) σ) := by
  refine (aCloneIA l σ hl).fin ?_
  rintro v σ' ⟨acc, hacc, rfl⟩
  exact fin_acc (s := (.int .i64)) [] hacc rfl rfl (by decide) (.done ⟨rfl, rfl⟩)
end Go.Proofs.YtljbnigceammdaaGreat
namespace Go.Proofs.YtljbnigceammdaaGreat
open Go.RowKit
set_option maxRecDepth 100000
theorem YCalls.mono {l : Nat} {xs : List AV} {σ : Hp} {R R' : AV → Hp → Prop} (h : YCalls Tryz.prog l xs σ R) (hr : ∀ r σ', R r σ' → R' r σ') : YCalls Tryz.prog l xs σ R' := fun F w vs hv hσ => by
  obtain ⟨f, tm, a, b, h1, h2⟩ := h F w vs hv hσ
  exact ⟨f, tm, a, b, h1, RoundIn.mono h2 fun e w' ⟨r, v, σ', F', k1, k2, k3, k4, k5⟩ => ⟨r, v, σ', F', k1, k2, k3, k4, hr _ _ k5⟩⟩
/-- A line of waiting numbers: a list and a map. -/
structure LQ (v : AV) (acc : Hp) (ml : List (Int × Int)) (w : List Int) : Prop where
  acc : AccO 1 w.length v acc (inC w)
  mp : ∀ z, (getM ml z).getD 0 = if z ∈ w then 1 else 0
theorem LQ.nil : LQ .nils [] [] [] := ⟨.nil, fun z => by simp [getM]⟩
set_option maxRecDepth 100000
set_option maxRecDepth 100000
end Go.Proofs.YtljbnigceammdaaGreat
