/-
  soughlaw24: the walk of StepOnce: a Step asks the memory once at most.
-/
import Derived.Test.YtldiocdjgbehcaaSplays
import Derived.Test.YtldiocdjgbehcaaLog
namespace Go.Proofs.Ytldiocdjgbehcaa
open Go.RowKit
set_option maxRecDepth 100000
theorem ACalls.perm2 {P : Program} {f : FuncId} {xs : List AV} {σ σ2 σ3 σ4 : Hp} {x : AV} (h : ACalls P f xs σ2 (Ret x σ3)) (hp : σ2.Perm σ) (hq : σ4.Perm σ3) : ACalls P f xs σ (Ret x σ4) :=
  callAt_get (.perm _ hp h fun _ _ h' => ⟨σ4, h'.2 ▸ hq, h'.1, rfl⟩)
theorem aCountAt (M : AMem) (r : Nat) (s : LogS M) (fr σ : Hp) (hl : s.es.length ≤ 1000000) : ACalls Try.prog 55 [.ptr r 0] (fr ++ ((logM M r).B s ++ σ)) (Ret (.int .i64 s.es.length) (fr ++ ((logM M r).B s ++ σ))) := by
  have h := aCount M r s (M.B s.m ++ (fr ++ σ)) hl
  have e : (r, [M.v, s.c]) :: (s.acc ++ (M.B s.m ++ (fr ++ σ))) = (logM M r).B s ++ (fr ++ σ) := by
    show _ = ((r, [M.v, s.c]) :: (s.acc ++ M.B s.m)) ++ (fr ++ σ)
    simp
  rw [e] at h
  exact h.perm2 (front_perm' fr _ σ) (front_perm' fr _ σ).symm
theorem psDo_once (O : MOps) (i : Ins) (s : PS) (a : O.A) (es : List Ev) (d : Int) : (psDo (logOps O) i s (a, es) d).2.2.length ≤ es.length + 1 := by
  unfold psDo logOps
  dsimp only
  repeat' split
  all_goals simp
theorem psStep_once (O : MOps) (l : List Ins) (s : PS) (a : O.A) (es : List Ev) (d : Int) : (psStep (logOps O) l s (a, es) d).2.1.2.length ≤ es.length + 1 := by
  unfold psStep
  split
  · show es.length ≤ es.length + 1; omega
  · exact psDo_once O _ s a es d

theorem stepOnce_walk (l : List Ins) (ds : List Int) : ACalls Try.prog 10 [.fsl instrSh l, .fsl (.int .i64) ds] [] (fun r _ => r = .bool true) := by
  refine okF Try.func10 (by kernel_rfl) ?_
  refine callR [] awake24a ?_
  refine bcond_dec (fun h1 => ?_) (fun h1 => ?_)
  · exact .done rfl
  have h1 : ¬ 30 < (l.length : Int) := h1
  refine bcond_dec (fun h2 => ?_) (fun h2 => ?_)
  · exact .done rfl
  have h2 : ¬ 60 < (ds.length : Int) := h2
  refine callR [] (aInstrs l [] (by omega)) ?_
  refine .mk [] _ (aSNew l [] (by omega)) ?_
  rintro _ _ ⟨r, rfl, rfl⟩
  refine .mk [] _ (aNew 4 _) ?_
  rintro _ _ ⟨p, q, rfl, rfl⟩
  refine .mk [] _ (aLogNew (plainM p q) _) ?_
  rintro _ _ ⟨rl, rfl, rfl⟩
  refine .shed (.pull [3] (.refl _)) ?_
  refine loopS (S := Nat × PS × LogS (plainM p q)) (fun s => [(5, .ptr r 0), (6, .ptr rl 0), (27, .fsl (.int .i64) ds), (28, .int .i64 ds.length), (29, .int .i64 s.1)])
    (fun s => (r, pgC l s.2.1) :: ((logM (plainM p q) rl).B s.2.2 ++ [])) (fun s => s.1 ≤ ds.length ∧ s.2.2.es.length ≤ s.1) (fun s => ds.length - s.1) (0, ⟨0, 0, 0, 0, 0⟩, ⟨([0, 0, 0, 0] : List Int), [], .nils, [], .nil⟩) ⟨⟨Nat.zero_le _, Nat.le_refl _⟩, ⟨rfl, rfl, rfl, rfl, rfl, trivial⟩, rfl⟩ ?_
  rintro ⟨k, s, ls⟩ g ⟨hk, hes⟩
  have hk : k ≤ ds.length := hk
  have hes : ls.es.length ≤ k := hes
  refine bcond_dec (fun hlt => ?_) (fun hge => ?_)
  · have hlt : k < ds.length := by have hlt : (k : Int) < ds.length := hlt; omega
    refine With.mk rfl (IdxF.mk ds[k] (by omega) (get_some hlt) ?_)
    refine callR [] (aCountAt (plainM p q) rl ls [_] [] (by omega)) ?_
    have hf : (logM (plainM p q) rl).O.free ((logM (plainM p q) rl).abs ls) := ⟨trivial, by show ls.es.length < 1000000; omega⟩
    refine .mk [] _ (aStep (logM (plainM p q) rl) r l s ls ds[k] [] hf (by omega)) ?_
    rintro _ _ ⟨ls', h1, rfl, rfl⟩
    have hle : ls'.es.length ≤ ls.es.length + 1 := by
      have h := congrArg (fun a : List Int × List Ev => a.2.length) h1
      have h : ls'.es.length = (psStep (logOps listOps) l s (ls.m, ls.es) ds[k]).2.1.2.length := h
      rw [h]
      exact psStep_once listOps l s ls.m ls.es ds[k]
    refine callR [] (aCountAt (plainM p q) rl ls' [_] [] (by omega)) ?_
    refine bcond_dec (fun h => ?_) (fun _ => ?_)
    · have h : IntKind.i64.wrap ((ls.es.length : Int) + 1) < (ls'.es.length : Int) := h
      rw [IntKind.wrap_i64] at h
      omega
    refine next (k + 1, _, ls') ?_ ⟨hlt, by show ls'.es.length ≤ k + 1; omega⟩ ⟨rfl, rfl, rfl, rfl, inc64 (by omega), trivial⟩ rfl
    show ds.length - (k + 1) < ds.length - k; omega
  · refine callR [] (aStepNone _ _ _) ?_
    refine callR [] (aDoneNil _) ?_
    refine callR [] (aAtNil _) ?_
    refine callR [] (aRegsNil _) ?_
    refine .mk (by kernel_rfl) (by kernel_rfl) ?_
    intro b
    refine callR [] (aStepBare b _ _ _) ?_
    refine .mk [1] _ (aStepNil r l s 0 _ (by omega)) ?_
    rintro _ _ ⟨s', rfl, rfl⟩
    refine callR [] (aDone r l s' _) ?_
    refine bcond_split (fun _ => ?_) (fun h => absurd h (by simp))
    exact .done rfl
end Go.Proofs.Ytldiocdjgbehcaa
