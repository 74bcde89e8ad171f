/-
  Aids: what the claim uses of them.
-/
import Derived.Test.YtacacplipaeokaaBn12
namespace Go.Proofs.Ytacacplipaeokaa
theorem okF {f : FuncId} {fn : Func} {xs : List AV} {σ : Hp} {R : AV → Hp → Prop} (hf : Try.prog.funcs[f]? = some fn) (hok : funcOk fn = true) (h : bodyW Try.prog tt fn xs σ R) : ACalls Try.prog f xs σ R :=
  acalls_of tt_ok (by kernel_rfl) hf hok h
theorem loopS {S : Type} (L : S → List (Nat × AV)) (H : S → Hp) (p : S → Prop) (μ : S → Nat) (s0 : S) {body : Tm → Hp → (Ex → Tm → Hp → Prop) → Prop} {t : Tm} {σ : Hp} {Q : Ex → Tm → Hp → Prop} (h0 : p s0 ∧ agree t (L s0) ∧ σ = H s0)
    (round : ∀ s g, p s → body (upd g (L s)) (H s) (fun e t' σ' => match e with | .normal => NextR L H p μ s t' σ' | e => Q e t' σ')) : LoopW body Q t σ := .mk L H p μ s0 h0 round
theorem nextS {S : Type} {L : S → List (Nat × AV)} {H : S → Hp} {p : S → Prop} {μ : S → Nat} {s : S} {t' : Tm} {σ' : Hp} (s' : S) (h1 : μ s' < μ s) (h2 : p s') (h3 : agree t' (L s')) (h4 : Shed σ' (H s')) : NextR L H p μ s t' σ' := .mk s' h1 h2 h3 h4
theorem next {S : Type} {L : S → List (Nat × AV)} {H : S → Hp} {p : S → Prop} {μ : S → Nat} {s : S} {t' : Tm} {σ' : Hp} (s' : S) (h1 : μ s' < μ s) (h2 : p s') (h3 : agree t' (L s')) (h4 : σ' = H s') : NextR L H p μ s t' σ' := .mk s' h1 h2 h3 (h4 ▸ .refl _)
/-- The order of the text. -/
def upto (Q : List Nat) (n : Nat) : Nat → Sch := Nat.rec (motive := fun _ => Nat → Sch) (fun _ => .stop) (fun _ ih i => .one i (memN i Q) (ih (i + 1))) n
theorem shed_eq {σ σ2 : Hp} (h : σ = σ2) : Shed σ σ2 := h ▸ .refl _
theorem inc64 {k : Nat} (h : k < 1000000000) : AV.int .i64 (IntKind.i64.wrap ((k : Int) + 1)) = AV.int .i64 ((k + 1 : Nat) : Int) := by
  rw [show IntKind.i64.wrap ((k : Int) + 1) = ((k + 1 : Nat) : Int) by rw [IntKind.wrap_i64]; omega]
theorem get_some {α : Type} {l : List α} {k : Nat} (h : k < l.length) : l[((k : Int)).toNat]? = some l[k] := List.getElem?_eq_getElem h
/-- A call hands back x, and leaves the memory σ. -/
def Ret (x : AV) (σ : Hp) : AV → Hp → Prop := fun r σ' => r = x ∧ σ' = σ
theorem Ret.is {x y : AV} {σ σ' : Hp} (h : x = y) (hs : σ = σ') : Ret y σ' x σ := ⟨h, hs⟩
theorem callR {P : Program} {f : FuncId} {xs : List AV} {σ : Hp} {K : AV → Hp → Prop} (js : List Nat) {x : AV} {σ2 : Hp} (h : ACalls P f xs (pulls js σ) (Ret x σ2)) (k : K x σ2) : CallAt P f K xs σ :=
  CallAt.mk js _ h fun _ _ ⟨h1, h2⟩ => h1 ▸ h2 ▸ k
theorem callQ {P : Program} {f : FuncId} {xs : List AV} {σ : Hp} {K : AV → Prop} (js : List Nat) {x : AV} (h : ACalls P f xs (pulls js σ) (Ret x (pulls js σ))) (k : K x) : CallQ P f xs σ K := CallQ.mk js x h k
/-- A bool that is read: by cases. -/
theorem LoadAt.mkB {i : TI} {σ : Hp} {b o : Nat} {K : AV → Prop} (j : Nat) (cs : List AV) (x : Bool) (h1 : σ[j]? = some (b, cs)) (h2 : readAs i cs o = some (.bool x)) (k1 : x = true → K (.bool true)) (k2 : x = false → K (.bool false)) : LoadAt i σ b o K :=
  .mk j cs _ h1 h2 (by cases x; exact k2 rfl; exact k1 rfl)
theorem frz_cons {b off len es : Nat} {e : Sh} {l : List e.T} {x y : AV} {xs ys : List AV} (h : FrzRel b off len es e l x y) (t : FrzRel b off len es e l (.tup xs) (.tup ys)) : FrzRel b off len es e l (.tup (x :: xs)) (.tup (y :: ys)) := by
  have hl : xs.length = ys.length ∧ ∀ (i : Nat) (x y : AV), xs[i]? = some x → ys[i]? = some y → FrzRel b off len es e l x y := by
    cases t with
    | refl => exact ⟨rfl, fun i x y hx hy => by rw [hx] at hy; cases hy; exact .refl _⟩
    | tup _ _ h hi => exact ⟨h, hi⟩
  refine .tup _ _ (by simp [hl.1]) fun i x' y' hx hy => ?_
  cases i with
  | zero => simp at hx hy; subst hx; subst hy; exact h
  | succ i => exact hl.2 i x' y' (by simpa using hx) (by simpa using hy)
theorem av_bool {a b : Bool} (h : a = b) : AV.bool a = AV.bool b := by rw [h]
theorem av_int {k : IntKind} {a b : Int} (h : a = b) : AV.int k a = AV.int k b := by rw [h]
theorem front_perm' (fr b σ : Hp) : (b ++ (fr ++ σ)).Perm (fr ++ (b ++ σ)) := by
  rw [← List.append_assoc, ← List.append_assoc]
  exact List.Perm.append_right _ List.perm_append_comm
theorem SrcAt.mem {σ : Hp} {b off len es : Nat} {cs : List AV} (h : (b, cs) ∈ σ) (h2 : off + len * es ≤ cs.length) : SrcAt σ es (.mref b off len es) len ((cs.drop off).take (len * es)) := by
  obtain ⟨j, hj⟩ := List.mem_iff_getElem?.1 h
  exact .mref j b off len cs hj h2
theorem SrcAt.perm {σ σ2 : Hp} {es n : Nat} {x : AV} {new : List AV} (h : SrcAt σ es x n new) (hp : σ2.Perm σ) : SrcAt σ2 es x n new := by
  cases h with
  | nils => exact .nils
  | zsl => exact .zsl
  | esl => exact .esl
  | fsl s l h => exact .fsl s l h
  | mref j b off len cs h1 h2 =>
    obtain ⟨j', hj⟩ := List.mem_iff_getElem?.1 (hp.mem_iff.2 (List.mem_of_getElem? h1))
    exact .mref j' b off _ cs hj h2
/-- v is a slice of k elements of e cells each, which are cs; its block, if there is one, is acc. -/
inductive Acc (e : Nat) : Nat → AV → Hp → List AV → Prop where
  | nil : Acc e 0 .nils [] []
  | mref (b k : Nat) (cs : List AV) (h : cs.length = k * e) : Acc e k (.mref b 0 k e) [(b, cs)] cs
theorem Acc.length {e k : Nat} {v : AV} {acc : Hp} {cs : List AV} (h : Acc e k v acc cs) : cs.length = k * e := by
  cases h with
  | nil => simp
  | mref b k cs h => exact h
theorem mid_perm (fr acc σ : Hp) : (acc ++ (fr ++ σ)).Perm (fr ++ (acc ++ σ)) := front_perm' fr acc σ
/-- append to such a list. -/
theorem append_acc {i : TI} {K : AV → Hp → Prop} (fr : Hp) {acc σ : Hp} {k n : Nat} {v x : AV} {cs new : List AV} (h : Acc i.size k v acc cs) (hx : SrcAt (fr ++ (acc ++ σ)) i.size x n new) (hnew : new.length = n * i.size) (hn : k + n ≤ 1048576) (hb : i.bytes ≤ 1024) (h0 : 0 < i.size)
    (go : ∀ v' acc', Acc i.size (k + n) v' acc' (cs ++ new) → K (.via v') (fr ++ (acc' ++ σ))) : AppendAt i (fr ++ (acc ++ σ)) v x K := by
  have hl := h.length
  cases h with
  | nil =>
    refine .perm _ (front_perm' fr [] σ) (.fresh n new (.inl rfl) (hx.perm (front_perm' fr [] σ)) (by omega) hb h0 (K := fun v σ3 => (n = 0 ∧ v = .nils ∧ σ3 = [] ++ (fr ++ σ)) ∨ (n ≠ 0 ∧ ∃ b, v = .mref b 0 n i.size ∧ σ3 = (b, new) :: ([] ++ (fr ++ σ)))) (fun hne b => .inr ⟨hne, b, rfl, rfl⟩) (fun h0 => .inl ⟨h0, rfl, rfl⟩)) ?_
    rintro v σ3 (⟨hz, rfl, rfl⟩ | ⟨hz, b, rfl, rfl⟩)
    · subst hz
      obtain rfl : new = [] := List.length_eq_zero_iff.1 (by simpa using hnew)
      exact ⟨_, (front_perm' fr [] σ).symm, .inr ⟨rfl, go _ _ .nil⟩⟩
    · refine ⟨_, (front_perm' fr [(b, new)] σ).symm, .inr ⟨rfl, go _ _ ?_⟩⟩
      have := Acc.mref (e := i.size) b (0 + n) new (by rw [hnew, Nat.zero_add])
      rw [Nat.zero_add] at this ⊢
      exact this
  | mref b k cs h =>
    refine .perm _ (front_perm' fr [(b, cs)] σ) (.more 0 b k n cs new rfl rfl (by rw [h]; exact Nat.le_refl _) (hx.perm (front_perm' fr [(b, cs)] σ)) hn hb h0 (K := fun v σ3 => ∃ b', v = .mref b' 0 (k + n) i.size ∧ σ3 = (b', cs.take (k * i.size) ++ new) :: (fr ++ σ)) (fun b' => ⟨b', rfl, rfl⟩)) ?_
    rintro v σ3 ⟨b', rfl, rfl⟩
    rw [List.take_of_length_le (by omega)]
    exact ⟨_, (front_perm' fr [(b', cs ++ new)] σ).symm, .inr ⟨rfl, go _ _ (.mref _ _ _ (by rw [List.length_append, h, hnew, Nat.add_mul]))⟩⟩
/-- A list that is appended to and cut at both ends: where it begins in its block, and what stands about it, is not known. -/
inductive AccO (e : Nat) : Nat → AV → Hp → List AV → Prop where
  | nil : AccO e 0 .nils [] []
  | mref (b off k : Nat) (cs all : List AV) (h : (all.drop off).take (k * e) = cs) (h2 : off + k * e ≤ all.length) : AccO e k (.mref b off k e) [(b, all)] cs
theorem AccO.length {e k : Nat} {v : AV} {acc : Hp} {cs : List AV} (h : AccO e k v acc cs) : cs.length = k * e := by
  cases h with
  | nil => simp
  | mref b off k cs all h h2 => rw [← h]; simp; omega
/-- Such a list is handed back. -/
theorem fin_acc {R : AV → Hp → Prop} (fr : Hp) {acc σ : Hp} {s : Sh} {k : Nat} {v : AV} {cs : List AV} {l : List s.T} (h : Acc s.size k v acc cs) (hl : k = l.length) (hc : cs = l.flatMap s.cells) (hp : 0 < s.size) (go : Fin R (.fsl s l) (fr ++ σ)) : Fin R v (fr ++ (acc ++ σ)) := by
  subst hl
  have hlen := h.length
  refine .perm (front_perm' fr acc σ) ?_
  generalize hk : l.length = k at h
  cases h with
  | nil =>
    obtain rfl := List.length_eq_zero_iff.1 hk
    exact .nil (.nil _) go
  | mref b k cs h =>
    subst hk
    exact .frz 0 b 0 l.length s.size cs s l rfl (by rw [List.drop_zero, List.take_of_length_le (by omega)]; exact hc) ⟨rfl, rfl, hp⟩ .here go
/-- Numbers, in cells. -/
def inC (l : List Int) : List AV := l.map (.int .i64)
theorem inC_flat : ∀ l : List Int, inC l = l.flatMap (Sh.cells (.int .i64))
  | [] => rfl
  | x :: l => congrArg (AV.int .i64 x :: ·) (inC_flat l)
end Go.Proofs.Ytacacplipaeokaa
