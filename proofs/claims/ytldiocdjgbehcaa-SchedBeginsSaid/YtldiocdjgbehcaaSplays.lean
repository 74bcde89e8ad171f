/-
  soughlaw24: same, awake, and the walk of StepPlays.
-/
import Derived.Test.YtldiocdjgbehcaaRstep
namespace Go.Proofs.Ytldiocdjgbehcaa
open Go.RowKit
set_option maxRecDepth 100000
theorem aStepP {r p q : Nat} {l : List Ins} {s s' : PS} {ws ws' : List Int} {d : Int} {b : Bool} (σ : Hp) (hl : l.length ≤ 1000000) (h : psStep listOps l s ws d = (s', ws', b)) : ACalls Try.prog 64 [.ptr r 0, plI p, .int .i64 d] ((r, pgC l s) :: plH p q ws σ) (Ret (.bool b) ((r, pgC l s') :: plH p q ws' σ)) := by
  refine (aStep (plainM p q) r l s ws d σ trivial hl).mono ?_
  rintro x σ' ⟨m', h1, rfl, rfl⟩
  have h : psStep (plainM p q).O l s ((plainM p q).abs ws) d = (s', ws', b) := h
  rw [h] at h1 ⊢
  have h1 : m' = ws' := h1
  subst h1
  exact ⟨rfl, rfl⟩
theorem aRStepP {r m q : Nat} {l : List Ins} {s s' : PS} {ws ws' : List Int} {d : Int} {b : Bool} (σ : Hp) (hl : l.length ≤ 1000000) (h : psStep listOps l s ws d = (s', ws', b)) : ACalls Try.prog 74 [.ptr r 0, .ptr m 0, .int .i64 d] ((r, pgC l s) :: reH m q ws σ) (Ret (.bool b) ((r, pgC l s') :: reH m q ws' σ)) := by
  refine (aRStep r m q l s ws d σ hl).mono ?_
  intro x σ' hx
  unfold RPost at hx
  rw [h] at hx
  exact hx

theorem psStep_length (l : List Ins) (s : PS) (ws : List Int) (d : Int) : (psStep listOps l s ws d).2.1.length = ws.length := by
  unfold psStep
  split
  · rfl
  · unfold psDo
    dsimp only
    repeat' split
    all_goals first | rfl | exact mStore_length _ _ _ | exact mCasTo_length _ _ _ _ | exact mAddTo_length _ _ _

theorem aSame (r r2 : Nat) (l : List Ins) (s : PS) (σ : Hp) : ACalls Try.prog 75 [.ptr r 0, .ptr r2 0] ((r, pgC l s) :: (r2, pgC l s) :: σ) (Ret (.bool true) ((r, pgC l s) :: (r2, pgC l s) :: σ)) := by
  refine okF Try.func75 (by kernel_rfl) ?_
  refine callR [] (aRegs r l s _) ?_
  intro b
  refine StoreAt.mk 0 _ _ rfl rfl ?_
  refine .quiet (by kernel_rfl) ?_
  refine With.mk (by decide) ?_
  refine LoadAt.mk 0 _ _ rfl rfl ?_
  refine LoadAt.mk 2 _ _ rfl rfl ?_
  refine bcond_dec (fun _ => ?_) (fun h => absurd rfl h)
  refine With.mk (by decide) ?_
  refine LoadAt.mk 0 _ _ rfl rfl ?_
  refine LoadAt.mk 2 _ _ rfl rfl ?_
  refine bcond_dec (fun _ => ?_) (fun h => absurd rfl h)
  refine With.mk (by decide) ?_
  refine LoadAt.mk 0 _ _ rfl rfl ?_
  refine LoadAt.mk 2 _ _ rfl rfl ?_
  refine bcond_dec (fun _ => ?_) (fun h => absurd rfl h)
  refine With.mk (by decide) ?_
  refine LoadAt.mk 0 _ _ rfl rfl ?_
  refine LoadAt.mk 2 _ _ rfl rfl ?_
  refine bcond_dec (fun _ => ?_) (fun h => absurd rfl h)
  refine callQ [1] (aAt r l s _) ?_
  refine LoadAt.mk 2 _ _ rfl rfl ?_
  refine bcond_dec (fun _ => ?_) (fun h => absurd rfl h)
  refine callQ [1] (aDone r l s _) ?_
  refine callQ [2] (aRDone r2 l s _) ?_
  refine bcond_split (fun _ => ?_) (fun h => absurd h (by simp))
  exact .drop 0 1 (.done ⟨rfl, rfl⟩)

def wakeL : List Ins := [(5, 0, 0, 5, ()), (2, 0, 0, 0, ()), (0, 0, 0, 0, ())]
theorem awake24a : ACalls Try.prog 61 [] [] (Ret (.bool true) []) := by
  refine okF Try.func61 (by kernel_rfl) ?_
  refine .mk [] _ (aNew 1 []) ?_
  rintro r σ' ⟨p, q, rfl, rfl⟩
  intro b
  refine .frz (args' := [.fsl instrSh wakeL]) 0 b 0 3 4 _ instrSh wakeL rfl rfl ⟨rfl, rfl, by decide⟩ (frz_cons .here frz_nil) (.mk [] _ (aSNew wakeL _ (by decide)) ?_)
  rintro _ _ ⟨r, rfl, rfl⟩
  refine callR [] (aStepP (s' := ⟨5, 0, 0, 0, 1⟩) (ws' := [0]) (b := false) (ws := [0]) [] (by decide) rfl) ?_
  refine callR [] (aStepP (s' := ⟨5, 0, 0, 0, 2⟩) (ws' := [5]) (b := true) (ws := [0]) [] (by decide) rfl) ?_
  refine callR [2, 2] (aLoad p q [5] 0 _) ?_
  refine callR [2] (aDone r wakeL ⟨5, 0, 0, 0, 2⟩ _) ?_
  refine callR [] (aAt r wakeL ⟨5, 0, 0, 0, 2⟩ _) ?_
  exact .drop 0 3 (.done ⟨rfl, rfl⟩)

/-- The memories' words and the machines' state behind some draws. -/
theorem stepPlays_walk (l : List Ins) (ds : List Int) : ACalls Try.prog 12 [.fsl instrSh l, .fsl (.int .i64) ds] [] (fun r _ => r = .bool true) := by
  refine okF Try.func12 (by kernel_rfl) ?_
  refine callR [] awake24a ?_
  refine bcond_dec (fun h1 => ?_) (fun h1 => ?_)
  · exact .done rfl
  have h1 : ¬ 30 < (l.length : Int) := h1
  refine bcond_dec (fun h2 => ?_) (fun h2 => ?_)
  · exact .done rfl
  have h2 : ¬ 60 < (ds.length : Int) := h2
  have hl : l.length ≤ 30 := by omega
  have hd : ds.length ≤ 60 := by omega
  refine callR [] (aInstrs l [] (by omega)) ?_
  refine .mk [] _ (aSNew l [] (by omega)) ?_
  rintro _ _ ⟨r, rfl, rfl⟩
  intro r2
  refine .mk [] _ (aNew 4 _) ?_
  rintro _ _ ⟨p, q, rfl, rfl⟩
  refine .mk [] _ (aRNew 4 _) ?_
  rintro _ _ ⟨m, q2, rfl, rfl⟩
  refine .shed (.pull [5, 4] (.refl _)) ?_
  refine loopS (S := Nat × PS × List Int) (fun s => [(5, .ptr r 0), (6, .ptr r2 0), (7, .ptr p 0), (8, .ptr m 0), (29, .fsl (.int .i64) ds), (30, .int .i64 ds.length), (31, .int .i64 s.1)])
    (fun s => (r, pgC l s.2.1) :: (r2, pgC l s.2.1) :: reH m q2 s.2.2 (plH p q s.2.2 [])) (fun s => s.1 ≤ ds.length ∧ s.2.2.length = 4) (fun s => ds.length - s.1) (0, ⟨0, 0, 0, 0, 0⟩, [0, 0, 0, 0]) ⟨⟨Nat.zero_le _, rfl⟩, ⟨rfl, rfl, rfl, rfl, rfl, rfl, rfl, trivial⟩, rfl⟩ ?_
  rintro ⟨k, s, ws⟩ g ⟨hk, hw⟩
  have hk : k ≤ ds.length := hk
  have hw : ws.length = 4 := hw
  refine bcond_dec (fun hlt => ?_) (fun hge => ?_)
  · have hlt : (k : Int) < ds.length := hlt
    have hlt : k < ds.length := by omega
    refine With.mk rfl (IdxF.mk ds[k] (by omega) (get_some hlt) ?_)
    obtain ⟨s', ws', b, e⟩ : ∃ s' ws' b, psStep listOps l s ws ds[k] = (s', ws', b) := ⟨_, _, _, rfl⟩
    have hw' : ws'.length = 4 := by
      have := psStep_length l s ws ds[k]
      rw [e] at this
      exact this.trans hw
    refine callR [2, 5, 5] (aStepP _ (by omega) e) ?_
    refine callR [5, 5, 5] (aRStepP _ (by omega) e) ?_
    refine bcond_split (fun h => ?_) (fun _ => ?_)
    · exact absurd h (by simp)
    refine callR [3] (aSame r r2 l s' _) ?_
    refine next (k + 1, s', ws') ?_ ⟨hlt, hw'⟩ ⟨rfl, rfl, rfl, rfl, rfl, rfl, inc64 (by omega), trivial⟩ rfl
    show ds.length - (k + 1) < ds.length - k
    omega
  · refine .quiet (by kernel_rfl) ?_
    refine callQ [5, 5] (aAll p q ws _ (by omega)) ?_
    refine LoadAt.mk 2 _ _ rfl rfl ?_
    refine callQ [3] (same10m ws ws q2 _ (by omega)) ?_
    exact .done (av_bool (by simp))
end Go.Proofs.Ytldiocdjgbehcaa
