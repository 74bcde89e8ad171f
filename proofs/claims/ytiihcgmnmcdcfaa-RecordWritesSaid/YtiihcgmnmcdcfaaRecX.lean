/-
  soughlaw23: the walk of RecordNotes.
-/
import Derived.Test.YtiihcgmnmcdcfaaRecW
namespace Go.Proofs.Ytiihcgmnmcdcfaa
open Go.RowKit
set_option maxRecDepth 100000
theorem askOp_length (ws : List Int) (k t x y : Int) : (askOp listOps ws k t x y).2.length = ws.length := by
  unfold askOp
  repeat' split
  all_goals first | rfl | exact mStore_length _ _ _ | exact mCasTo_length _ _ _ _ | exact mAddTo_length _ _ _
theorem kindN_ok (k : Int) : 1 ≤ kindN k ∧ kindN k ≤ 4 := by unfold kindN; split <;> omega
/-- The blocks, as the loop has them, and as a Log's call wants them. -/
theorem log_perm (fr : Hp) (r : Nat × List AV) (acc lacc B : Hp) : (r :: (lacc ++ (B ++ (fr ++ acc)))).Perm (fr ++ (r :: (acc ++ (lacc ++ (B ++ []))))) := by
  have h1 : (fr ++ (r :: (acc ++ (lacc ++ (B ++ []))))).Perm (fr ++ (acc ++ (r :: (lacc ++ B)))) := by
    refine List.Perm.append_left _ ?_
    rw [List.append_nil]
    have := front_perm' [r] acc (lacc ++ B)
    exact this.symm
  refine List.Perm.trans ?_ h1.symm
  have h2 : (r :: (lacc ++ (B ++ (fr ++ acc)))) = (r :: (lacc ++ B)) ++ (fr ++ acc) := by simp
  rw [h2, ← List.append_assoc fr acc]
  exact List.perm_append_comm

theorem frz_via {t t' : Tm} {b off len es : Nat} {e : Sh} {l : List e.T} (k : Nat) (h : t k = .via (.mref b off len es)) (h' : t' = upd t [(k, .fsl e l)]) (i : Nat) : FrzRel b off len es e l (t i) (t' i) := by
  subst h'
  show FrzRel b off len es e l (t i) (match Nat.beq i k with | true => .fsl e l | false => t i)
  cases hb : Nat.beq i k with
  | true => rw [Nat.eq_of_beq_eq_true hb, h]; exact .via .here
  | false => exact .refl _
theorem callQP {P : Program} {f : FuncId} {xs : List AV} {σ σ2 : Hp} {K : AV → Prop} {x : AV} (hp : σ2.Perm σ) (h : ACalls P f xs σ2 (Ret x σ2)) (k : K x) : CallQ P f xs σ K := .perm hp x (h.mono fun _ _ ⟨a, b⟩ => ⟨a, b ▸ List.Perm.refl _⟩) k
theorem aLogLenP (p q r : Nat) (s : LogS (plainM p q)) (σ : Hp) : ACalls Try.prog 23 [.ptr r 0] ((r, [(plainM p q).v, s.c]) :: (s.acc ++ ((plainM p q).B s.m ++ σ))) (Ret (.int .i64 (List.length (α := Int) s.m)) ((r, [(plainM p q).v, s.c]) :: (s.acc ++ ((plainM p q).B s.m ++ σ)))) := by
  refine okF Try.func23 (by kernel_rfl) ?_
  refine callR [] (aMade r _ _ _ _) ?_
  refine LoadAt.mk 0 _ _ rfl rfl ?_
  refine (plainM p q).aLen ((_, _) :: s.acc) fun m' hm => ?_
  have hm : m' = s.m := hm
  subst hm
  exact .done ⟨rfl, rfl⟩
theorem pl_perm (B fr lacc : Hp) : (B ++ (fr ++ lacc)).Perm (fr ++ (lacc ++ (B ++ []))) := by
  rw [List.append_nil, ← List.append_assoc fr]
  exact List.perm_append_comm
theorem aEvsNil (σ : Hp) : ACalls Try.prog 57 [.nils] σ (Ret .nils σ) := by
  refine okF Try.func57 (by kernel_rfl) ?_
  refine loopS (S := Unit) (fun _ => [(3, .nils), (6, .nils), (7, .int .i64 0), (8, .int .i64 0)]) (fun _ => σ) (fun _ => True) (fun _ => 0) () ⟨trivial, ⟨rfl, rfl, rfl, rfl, trivial⟩, rfl⟩ ?_
  intro _ g _
  exact .done ⟨rfl, rfl⟩
theorem aSameNil (σ : Hp) : ACalls Try.prog 62 [.fsl evSh [], .nils] σ (Ret (.bool true) σ) := by
  refine okF Try.func62 (by kernel_rfl) ?_
  refine callR [] (aEvsNil _) ?_
  refine loopS (S := Unit) (fun _ => [(14, .int .i64 0), (15, .int .i64 0)]) (fun _ => σ) (fun _ => True) (fun _ => 0) () ⟨trivial, ⟨rfl, rfl, trivial⟩, rfl⟩ ?_
  intro _ g _
  exact .done ⟨rfl, rfl⟩
theorem dec_self (ws : List Int) : decide (ws = ws) = true := by simp
end Go.Proofs.Ytiihcgmnmcdcfaa
