/-
  Aids; In; Pop: what the claim uses of them.
-/
import Derived.Test.YtegpahamenjiaaaGreatBn10
namespace Go.Proofs.YtegpahamenjiaaaGreat
theorem okF {f : FuncId} {fn : Func} {xs : List AV} {σ : Hp} {R : AV → Hp → Prop} (hf : Tryz.prog.funcs[f]? = some fn) (hok : funcOk fn = true) (h : bodyW Tryz.prog tt fn xs σ R) : ACalls Tryz.prog f xs σ R :=
  acalls_of tt_ok (by kernel_rfl) hf hok h
theorem loopS {S : Type} (L : S → List (Nat × AV)) (H : S → Hp) (p : S → Prop) (μ : S → Nat) (s0 : S) {body : Tm → Hp → (Ex → Tm → Hp → Prop) → Prop} {t : Tm} {σ : Hp} {Q : Ex → Tm → Hp → Prop} (h0 : p s0 ∧ agree t (L s0) ∧ σ = H s0)
    (round : ∀ s g, p s → body (upd g (L s)) (H s) (fun e t' σ' => match e with | .normal => NextR L H p μ s t' σ' | e => Q e t' σ')) : LoopW body Q t σ := .mk L H p μ s0 h0 round
theorem nextS {S : Type} {L : S → List (Nat × AV)} {H : S → Hp} {p : S → Prop} {μ : S → Nat} {s : S} {t' : Tm} {σ' : Hp} (s' : S) (h1 : μ s' < μ s) (h2 : p s') (h3 : agree t' (L s')) (h4 : Shed σ' (H s')) : NextR L H p μ s t' σ' := ⟨s', h1, h2, h3, h4⟩
theorem next {S : Type} {L : S → List (Nat × AV)} {H : S → Hp} {p : S → Prop} {μ : S → Nat} {s : S} {t' : Tm} {σ' : Hp} (s' : S) (h1 : μ s' < μ s) (h2 : p s') (h3 : agree t' (L s')) (h4 : σ' = H s') : NextR L H p μ s t' σ' := ⟨s', h1, h2, h3, h4 ▸ .refl _⟩
/-- The order of the text. -/
def upto (Q : List Nat) (n : Nat) : Nat → Sch := Nat.rec (motive := fun _ => Nat → Sch) (fun _ => .stop) (fun _ ih i => .one i (memN i Q) (ih (i + 1))) n
theorem shed_eq {σ σ2 : Hp} (h : σ = σ2) : Shed σ σ2 := h ▸ .refl _
/-- A list's slice: none, an empty one, or one that is not empty. -/
theorem acalls_fsl {P : Program} {f : FuncId} {e : Sh} {l : List e.T} {σ : Hp} {R : AV → Hp → Prop} (h0 : l = [] → ACalls P f [.nils] σ R ∧ ACalls P f [.esl] σ R) (h1 : l ≠ [] → ACalls P f [.fsl e l] σ R) : ACalls P f [.fsl e l] σ R := by
  by_cases hl : l = []
  · obtain ⟨k0, k1⟩ := h0 hl
    refine ⟨k0.1, fun F w vs hvs hσ => ?_⟩
    have hv := hvs.2 0 _ rfl
    have hone : ∀ y, VRel F w y (vs.getD 0 undef) → VRels F w [y] vs := fun y hy => ⟨hvs.1, fun i x hx => by cases i <;> simp at hx; subst hx; exact hy⟩
    subst hl
    generalize hu : vs.getD 0 undef = u at hv hone
    cases hv with
    | fsl _ _ _ hr =>
      obtain ⟨a, c, e1, _, e3, e0, _⟩ := hr
      obtain rfl := List.singleton_inj.1 e1
      cases a with
      | none =>
        obtain rfl := e0 rfl
        exact k0.2 F w vs (hone _ .nils) hσ
      | some a => exact k1.2 F w vs (hone _ (.esl a c e3)) hσ
  · exact h1 hl
theorem inc64 {k : Nat} (h : k < 1000000000) : AV.int .i64 (IntKind.i64.wrap ((k : Int) + 1)) = AV.int .i64 ((k + 1 : Nat) : Int) := by
  rw [show IntKind.i64.wrap ((k : Int) + 1) = ((k + 1 : Nat) : Int) by rw [IntKind.wrap_i64]; omega]
theorem get_some {α : Type} {l : List α} {k : Nat} (h : k < l.length) : l[((k : Int)).toNat]? = some l[k] := List.getElem?_eq_getElem h
/-- A call hands back x, and leaves the memory σ. -/
def Ret (x : AV) (σ : Hp) : AV → Hp → Prop := fun r σ' => r = x ∧ σ' = σ
theorem Ret.is {x y : AV} {σ σ' : Hp} (h : x = y) (hs : σ = σ') : Ret y σ' x σ := ⟨h, hs⟩
theorem callR {P : Program} {f : FuncId} {xs : List AV} {σ : Hp} {K : AV → Hp → Prop} (js : List Nat) {x : AV} {σ2 : Hp} (h : ACalls P f xs (pulls js σ) (Ret x σ2)) (k : K x σ2) : CallAt P f K xs σ :=
  CallAt.mk js _ h fun _ _ ⟨h1, h2⟩ => h1 ▸ h2 ▸ k
theorem callQ {P : Program} {f : FuncId} {xs : List AV} {σ : Hp} {K : AV → Prop} (js : List Nat) {x : AV} (h : ACalls P f xs (pulls js σ) (Ret x (pulls js σ))) (k : K x) : CallQ P f xs σ K := CallQ.mk js x h k
/-- A call that hands back a bool: by cases. -/
theorem callB {P : Program} {f : FuncId} {xs : List AV} {σ : Hp} {K : AV → Hp → Prop} (js : List Nat) {x : Bool} {σ2 : Hp} (h : ACalls P f xs (pulls js σ) (Ret (.bool x) σ2)) (k1 : x = true → K (.bool true) σ2) (k2 : x = false → K (.bool false) σ2) : CallAt P f K xs σ :=
  callR js h (by cases x; exact k2 rfl; exact k1 rfl)
theorem callQB {P : Program} {f : FuncId} {xs : List AV} {σ : Hp} {K : AV → Prop} (js : List Nat) {x : Bool} (h : ACalls P f xs (pulls js σ) (Ret (.bool x) (pulls js σ))) (k1 : x = true → K (.bool true)) (k2 : x = false → K (.bool false)) : CallQ P f xs σ K :=
  callQ js h (by cases x; exact k2 rfl; exact k1 rfl)
/-- A bool that is read: by cases. -/
theorem LoadAt.mkB {i : TI} {σ : Hp} {b o : Nat} {K : AV → Prop} (j : Nat) (cs : List AV) (x : Bool) (h1 : σ[j]? = some (b, cs)) (h2 : readAs i cs o = some (.bool x)) (k1 : x = true → K (.bool true)) (k2 : x = false → K (.bool false)) : LoadAt i σ b o K :=
  .mk j cs _ h1 h2 (by cases x; exact k2 rfl; exact k1 rfl)
theorem frz_nil {b off len es : Nat} {e : Sh} {l : List e.T} : FrzRel b off len es e l (.tup []) (.tup []) := .refl _
theorem frz_cons {b off len es : Nat} {e : Sh} {l : List e.T} {x y : AV} {xs ys : List AV} (h : FrzRel b off len es e l x y) (t : FrzRel b off len es e l (.tup xs) (.tup ys)) : FrzRel b off len es e l (.tup (x :: xs)) (.tup (y :: ys)) := by
  have hl : xs.length = ys.length ∧ ∀ (i : Nat) (x y : AV), xs[i]? = some x → ys[i]? = some y → FrzRel b off len es e l x y := by
    cases t with
    | refl => exact ⟨rfl, fun i x y hx hy => by rw [hx] at hy; cases hy; exact .refl _⟩
    | tup _ _ h hi => exact ⟨h, hi⟩
  refine .tup _ _ (by simp [hl.1]) fun i x' y' hx hy => ?_
  cases i with
  | zero => simp at hx hy; subst hx; subst hy; exact h
  | succ i => exact hl.2 i x' y' (by simpa using hx) (by simpa using hy)
theorem av_bool {a b : Bool} (h : a = b) : AV.bool a = AV.bool b := by rw [h]
theorem av_int {k : IntKind} {a b : Int} (h : a = b) : AV.int k a = AV.int k b := by rw [h]
theorem front_perm' (fr b σ : Hp) : (b ++ (fr ++ σ)).Perm (fr ++ (b ++ σ)) := by
  rw [← List.append_assoc, ← List.append_assoc]
  exact List.Perm.append_right _ List.perm_append_comm
theorem SrcAt.mem {σ : Hp} {b off len es : Nat} {cs : List AV} (h : (b, cs) ∈ σ) (h2 : off + len * es ≤ cs.length) : SrcAt σ es (.mref b off len es) len ((cs.drop off).take (len * es)) := by
  obtain ⟨j, hj⟩ := List.mem_iff_getElem?.1 h
  exact .mref j b off len cs hj h2
theorem SrcAt.perm {σ σ2 : Hp} {es n : Nat} {x : AV} {new : List AV} (h : SrcAt σ es x n new) (hp : σ2.Perm σ) : SrcAt σ2 es x n new := by
  cases h with
  | nils => exact .nils
  | zsl => exact .zsl
  | esl => exact .esl
  | fsl s l h => exact .fsl s l h
  | mref j b off len cs h1 h2 =>
    obtain ⟨j', hj⟩ := List.mem_iff_getElem?.1 (hp.mem_iff.2 (List.mem_of_getElem? h1))
    exact .mref j' b off _ cs hj h2
/-- v is a slice of k elements of e cells each, which are cs; its block, if there is one, is acc. -/
inductive Acc (e : Nat) : Nat → AV → Hp → List AV → Prop where
  | nil : Acc e 0 .nils [] []
  | mref (b k : Nat) (cs : List AV) (h : cs.length = k * e) : Acc e k (.mref b 0 k e) [(b, cs)] cs
theorem Acc.length {e k : Nat} {v : AV} {acc : Hp} {cs : List AV} (h : Acc e k v acc cs) : cs.length = k * e := by
  cases h with
  | nil => simp
  | mref b k cs h => exact h
theorem mid_perm (fr acc σ : Hp) : (acc ++ (fr ++ σ)).Perm (fr ++ (acc ++ σ)) := front_perm' fr acc σ
/-- append to such a list. -/
theorem append_acc {i : TI} {K : AV → Hp → Prop} (fr : Hp) {acc σ : Hp} {k n : Nat} {v x : AV} {cs new : List AV} (h : Acc i.size k v acc cs) (hx : SrcAt (fr ++ (acc ++ σ)) i.size x n new) (hnew : new.length = n * i.size) (hn : k + n ≤ 1048576) (hb : i.bytes ≤ 1024) (h0 : 0 < i.size)
    (go : ∀ v' acc', Acc i.size (k + n) v' acc' (cs ++ new) → K (.via v') (fr ++ (acc' ++ σ))) : AppendAt i (fr ++ (acc ++ σ)) v x K := by
  have hl := h.length
  cases h with
  | nil =>
    refine .perm _ (front_perm' fr [] σ) (.fresh n new (.inl rfl) (hx.perm (front_perm' fr [] σ)) (by omega) hb h0 (K := fun v σ3 => (n = 0 ∧ v = .nils ∧ σ3 = [] ++ (fr ++ σ)) ∨ (n ≠ 0 ∧ ∃ b, v = .mref b 0 n i.size ∧ σ3 = (b, new) :: ([] ++ (fr ++ σ)))) (fun hne b => .inr ⟨hne, b, rfl, rfl⟩) (fun h0 => .inl ⟨h0, rfl, rfl⟩)) ?_
    rintro v σ3 (⟨hz, rfl, rfl⟩ | ⟨hz, b, rfl, rfl⟩)
    · subst hz
      obtain rfl : new = [] := List.length_eq_zero_iff.1 (by simpa using hnew)
      exact ⟨_, (front_perm' fr [] σ).symm, .inr ⟨rfl, go _ _ .nil⟩⟩
    · refine ⟨_, (front_perm' fr [(b, new)] σ).symm, .inr ⟨rfl, go _ _ ?_⟩⟩
      have := Acc.mref (e := i.size) b (0 + n) new (by rw [hnew, Nat.zero_add])
      rw [Nat.zero_add] at this ⊢
      exact this
  | mref b k cs h =>
    refine .perm _ (front_perm' fr [(b, cs)] σ) (.more 0 b k n cs new rfl rfl (by rw [h]; exact Nat.le_refl _) (hx.perm (front_perm' fr [(b, cs)] σ)) hn hb h0 (K := fun v σ3 => ∃ b', v = .mref b' 0 (k + n) i.size ∧ σ3 = (b', cs.take (k * i.size) ++ new) :: (fr ++ σ)) (fun b' => ⟨b', rfl, rfl⟩)) ?_
    rintro v σ3 ⟨b', rfl, rfl⟩
    rw [List.take_of_length_le (by omega)]
    exact ⟨_, (front_perm' fr [(b', cs ++ new)] σ).symm, .inr ⟨rfl, go _ _ (.mref _ _ _ (by rw [List.length_append, h, hnew, Nat.add_mul]))⟩⟩
/-- A list that is appended to and cut at both ends: where it begins in its block, and what stands about it, is not known. -/
inductive AccO (e : Nat) : Nat → AV → Hp → List AV → Prop where
  | nil : AccO e 0 .nils [] []
  | mref (b off k : Nat) (cs all : List AV) (h : (all.drop off).take (k * e) = cs) (h2 : off + k * e ≤ all.length) : AccO e k (.mref b off k e) [(b, all)] cs
theorem AccO.length {e k : Nat} {v : AV} {acc : Hp} {cs : List AV} (h : AccO e k v acc cs) : cs.length = k * e := by
  cases h with
  | nil => simp
  | mref b off k cs all h h2 => rw [← h]; simp; omega
/-- Such a list is handed back. -/
theorem fin_acc {R : AV → Hp → Prop} (fr : Hp) {acc σ : Hp} {s : Sh} {k : Nat} {v : AV} {cs : List AV} {l : List s.T} (h : Acc s.size k v acc cs) (hl : k = l.length) (hc : cs = l.flatMap s.cells) (hp : 0 < s.size) (go : Fin R (.fsl s l) (fr ++ σ)) : Fin R v (fr ++ (acc ++ σ)) := by
  subst hl
  have hlen := h.length
  refine .perm (front_perm' fr acc σ) ?_
  generalize hk : l.length = k at h
  cases h with
  | nil =>
    obtain rfl := List.length_eq_zero_iff.1 hk
    exact .nil (.nil _) go
  | mref b k cs h =>
    subst hk
    exact .frz 0 b 0 l.length s.size cs s l rfl (by rw [List.drop_zero, List.take_of_length_le (by omega)]; exact hc) ⟨rfl, rfl, hp⟩ .here go
/-- Numbers, in cells. -/
def inC (l : List Int) : List AV := l.map (.int .i64)
theorem inC_flat : ∀ l : List Int, inC l = l.flatMap (Sh.cells (.int .i64))
  | [] => rfl
  | x :: l => congrArg (AV.int .i64 x :: ·) (inC_flat l)
theorem acalls_eq {f : FuncId} {xs : List AV} {σ σ' : Hp} {x y : AV} (h : ACalls Tryz.prog f xs σ (Ret x σ')) (e : x = y) : ACalls Tryz.prog f xs σ (Ret y σ') := e ▸ h
theorem any_take {α : Type} {l : List α} {k : Nat} (h : k < l.length) (p : α → Bool) : (l.take (k + 1)).any p = ((l.take k).any p || p l[k]) := by
  rw [List.take_succ_eq_append_getElem h, List.any_append]; simp
end Go.Proofs.YtegpahamenjiaaaGreat
namespace Go.Proofs.YtegpahamenjiaaaGreat
open Go.RowKit
set_option maxRecDepth 100000
theorem aRIn (l : List Int) (x : Int) (σ : Hp) (hl : l.length ≤ 1000000) : ACalls Tryz.prog 141 [.fsl (.int .i64) l, .int .i64 x] σ (Ret (.bool (l.any fun z => decide (x = z))) σ) := by
  refine okF Tryz.func141 (by kernel_rfl) ?_
  refine loopS (S := Nat) (fun k => [(1, .int .i64 x), (7, .fsl (.int .i64) l), (8, .int .i64 l.length), (9, .int .i64 k)]) (fun _ => σ) (fun k => k ≤ l.length ∧ ((l.take k).any fun z => decide (x = z)) = false) (fun k => l.length - k) 0 ⟨⟨Nat.zero_le _, rfl⟩, ⟨rfl, rfl, rfl, rfl, trivial⟩, rfl⟩ ?_
  rintro k g ⟨hk0, ha0⟩
  have hk : k ≤ l.length := hk0
  have ha : ((l.take k).any fun z => decide (x = z)) = false := ha0
  clear hk0 ha0
  refine bcond_dec (fun hlt => ?_) (fun hge => ?_)
  · have hlt : k < l.length := by have hlt : (k : Int) < l.length := hlt; omega
    have hs := any_take hlt fun z : Int => decide (x = z)
    rw [ha, Bool.false_or] at hs
    refine With.mk rfl (IdxF.mk l[k] (by omega) (get_some hlt) ?_)
    refine bcond_dec (p := l[k] = x) (fun d1 => ?_) (fun d1 => ?_)
    · exact .done ⟨av_bool (List.any_eq_true.2 ⟨l[k], List.getElem_mem hlt, decide_eq_true d1.symm⟩).symm, rfl⟩
    · exact nextS (k + 1) (by show l.length - (k + 1) < l.length - k; omega) ⟨hlt, hs.trans (decide_eq_false fun h => d1 h.symm)⟩ ⟨rfl, rfl, rfl, inc64 (by omega), trivial⟩ (.refl _)
  · have hge : k = l.length := by have hge : ¬ (k : Int) < l.length := hge; omega
    subst hge
    rw [List.take_length] at ha
    exact .done ⟨av_bool ha.symm, rfl⟩
end Go.Proofs.YtegpahamenjiaaaGreat
namespace Go.Proofs.YtegpahamenjiaaaGreat
/-- Bytes, the lowest first. -/
def valB : List Nat → Nat
  | [] => 0
  | b :: l => valB l * 256 + b
theorem land_byte (a b c d : Nat) (hb : b < 256) (hd : d < 256) : (a * 256 + b) &&& (c * 256 + d) = (a &&& c) * 256 + (b &&& d) := by
  have hbd : b &&& d < 256 := Nat.lt_of_le_of_lt Nat.and_le_left hb
  refine Nat.eq_of_testBit_eq fun i => ?_
  rw [Nat.testBit_and, Nat.mul_comm a, Nat.mul_comm c, Nat.mul_comm (a &&& c), show (256 : Nat) = 2 ^ 8 by decide, Nat.testBit_two_pow_mul_add a hb, Nat.testBit_two_pow_mul_add c hd, Nat.testBit_two_pow_mul_add (a &&& c) hbd]
  split
  · rw [Nat.testBit_and]
  · rw [Nat.testBit_and]
def g1 (b : Nat) : Nat := (b / 2 &&& 85) + (b &&& 85)
def g2 (b : Nat) : Nat := (b / 4 &&& 51) + (b &&& 51)
def g3 (b : Nat) : Nat := (b / 16 + b) &&& 15
theorem byte1 : ∀ h < 2, ∀ b < 256, (h * 128 + b / 2) &&& 85 = b / 2 &&& 85 := by decide +kernel
theorem byte2 : ∀ h < 4, ∀ b < 256, (h * 64 + b / 4) &&& 51 = b / 4 &&& 51 := by decide +kernel
theorem g1_small : ∀ b < 256, g1 b ≤ 170 := by decide +kernel
theorem g2_small : ∀ b < 256, g2 (g1 b) % 16 ≤ 4 ∧ g2 (g1 b) / 16 ≤ 4 := by decide +kernel
theorem byte3 : ∀ h ≤ 4, ∀ l ≤ 4, ∀ k ≤ 4, (k * 16 + ((h * 16 + l) / 16 + (h * 16 + l))) &&& 15 = g3 (h * 16 + l) ∧ k * 16 + ((h * 16 + l) / 16 + (h * 16 + l)) < 256 := by decide +kernel
def popB (b : Nat) : Nat := g3 (g2 (g1 b))
theorem popB_le : ∀ b < 256, popB b ≤ 8 := by decide +kernel
theorem popB_zero : ∀ b < 256, popB b = 0 → b = 0 := by decide +kernel
theorem stage1 : ∀ (l : List Nat), (∀ b ∈ l, b < 256) → (valB l / 2 &&& valB (l.map fun _ => 85)) + (valB l &&& valB (l.map fun _ => 85)) = valB (l.map g1)
  | [], _ => rfl
  | b :: l, h => by
    have hb := h b (.head _)
    have ih := stage1 l (fun x hx => h x (.tail _ hx))
    show (((valB l * 256 + b) / 2) &&& (valB (l.map fun _ => 85) * 256 + 85)) + ((valB l * 256 + b) &&& (valB (l.map fun _ => 85) * 256 + 85)) = valB (l.map g1) * 256 + g1 b
    have e : (valB l * 256 + b) / 2 = valB l / 2 * 256 + (valB l % 2 * 128 + b / 2) := by omega
    rw [e, land_byte _ _ _ _ (by omega) (by decide), land_byte _ _ _ _ hb (by decide), byte1 _ (Nat.mod_lt _ (by decide)) _ hb, ← ih]
    show _ = _ * 256 + ((b / 2 &&& 85) + (b &&& 85))
    generalize valB l / 2 &&& valB (l.map fun _ => 85) = A
    generalize valB l &&& valB (l.map fun _ => 85) = B
    generalize b / 2 &&& 85 = C
    generalize b &&& 85 = D
    omega
theorem stage2 : ∀ (l : List Nat), (∀ b ∈ l, b < 256) → (valB l / 4 &&& valB (l.map fun _ => 51)) + (valB l &&& valB (l.map fun _ => 51)) = valB (l.map g2)
  | [], _ => rfl
  | b :: l, h => by
    have hb := h b (.head _)
    have ih := stage2 l (fun x hx => h x (.tail _ hx))
    show (((valB l * 256 + b) / 4) &&& (valB (l.map fun _ => 51) * 256 + 51)) + ((valB l * 256 + b) &&& (valB (l.map fun _ => 51) * 256 + 51)) = valB (l.map g2) * 256 + g2 b
    have e : (valB l * 256 + b) / 4 = valB l / 4 * 256 + (valB l % 4 * 64 + b / 4) := by omega
    rw [e, land_byte _ _ _ _ (by omega) (by decide), land_byte _ _ _ _ hb (by decide), byte2 _ (Nat.mod_lt _ (by decide)) _ hb, ← ih]
    show _ = _ * 256 + ((b / 4 &&& 51) + (b &&& 51))
    generalize valB l / 4 &&& valB (l.map fun _ => 51) = A
    generalize valB l &&& valB (l.map fun _ => 51) = B
    generalize b / 4 &&& 51 = C
    generalize b &&& 51 = D
    omega
theorem valB_mod : ∀ (l : List Nat), (∀ b ∈ l, b % 16 ≤ 4 ∧ b / 16 ≤ 4) → valB l % 16 ≤ 4
  | [], _ => by decide
  | b :: l, h => by
    have := (h b (.head _)).1
    show (valB l * 256 + b) % 16 ≤ 4
    omega
theorem stage3 : ∀ (l : List Nat), (∀ b ∈ l, b % 16 ≤ 4 ∧ b / 16 ≤ 4) → ((valB l / 16 + valB l) &&& valB (l.map fun _ => 15)) = valB (l.map g3)
  | [], _ => rfl
  | b :: l, h => by
    obtain ⟨h1, h2⟩ := h b (.head _)
    have ih := stage3 l (fun x hx => h x (.tail _ hx))
    have hm := valB_mod l (fun x hx => h x (.tail _ hx))
    show (((valB l * 256 + b) / 16 + (valB l * 256 + b)) &&& (valB (l.map fun _ => 15) * 256 + 15)) = valB (l.map g3) * 256 + g3 b
    have hbb : b = b / 16 * 16 + b % 16 := by omega
    obtain ⟨f1, f2⟩ := byte3 _ h2 _ h1 _ hm
    rw [← hbb] at f1 f2
    have e : (valB l * 256 + b) / 16 + (valB l * 256 + b) = (valB l / 16 + valB l) * 256 + (valB l % 16 * 16 + (b / 16 + b)) := by omega
    rw [e, land_byte _ _ _ _ f2 (by decide), f1, ih]
/-- The bytes of a word. -/
def bytes8 (x : Nat) : List Nat := [x % 256, x / 256 % 256, x / 65536 % 256, x / 16777216 % 256, x / 4294967296 % 256, x / 1099511627776 % 256, x / 281474976710656 % 256, x / 72057594037927936 % 256]
theorem bytes8_val {x : Nat} (h : x < 18446744073709551616) : valB (bytes8 x) = x := by
  unfold bytes8 valB valB valB valB valB valB valB valB valB
  omega
theorem bytes8_lt (x : Nat) : ∀ b ∈ bytes8 x, b < 256 := by
  intro b hb
  simp only [bytes8, List.mem_cons, List.not_mem_nil, or_false] at hb
  omega
/-- How many bits of a word are set. -/
def popN (x : Nat) : Nat := ((bytes8 x).map popB).sum
theorem popN_le (x : Nat) : popN x ≤ 64 := by
  have h := bytes8_lt x
  unfold popN bytes8 at *
  simp only [List.map_cons, List.map_nil, List.sum_cons, List.sum_nil, List.mem_cons, List.not_mem_nil, or_false, forall_eq_or_imp, forall_eq] at *
  obtain ⟨h0, h1, h2, h3, h4, h5, h6, h7⟩ := h
  have := popB_le _ h0
  have := popB_le _ h1
  have := popB_le _ h2
  have := popB_le _ h3
  have := popB_le _ h4
  have := popB_le _ h5
  have := popB_le _ h6
  have := popB_le _ h7
  omega
theorem popN_zero {x : Nat} (hx : x < 18446744073709551616) (h : popN x = 0) : x = 0 := by
  have hb := bytes8_lt x
  have hv := bytes8_val hx
  unfold popN at h
  generalize bytes8 x = l at *
  have hz : ∀ b ∈ l, b = 0 := by
    intro b hm
    refine popB_zero b (hb b hm) ?_
    have hle : ∀ (l : List Nat), b ∈ l → popB b ≤ (l.map popB).sum := by
      intro l
      induction l with
      | nil => intro h; cases h
      | cons c l ih =>
        intro h
        rw [List.map_cons, List.sum_cons]
        rcases List.mem_cons.1 h with rfl | h
        · omega
        · have := ih h; omega
    have := hle l hm
    omega
  have : ∀ (l : List Nat), (∀ b ∈ l, b = 0) → valB l = 0 := by
    intro l
    induction l with
    | nil => intro _; rfl
    | cons b l ih =>
      intro h
      show valB l * 256 + b = 0
      rw [ih (fun x hx => h x (.tail _ hx)), h b (.head _)]
  rw [← hv, this l hz]
/-- The last three sums. -/
theorem fold3 {e0 e1 e2 e3 e4 e5 e6 e7 x3 y1 y2 y3 : Nat} (h : e0 ≤ 8 ∧ e1 ≤ 8 ∧ e2 ≤ 8 ∧ e3 ≤ 8 ∧ e4 ≤ 8 ∧ e5 ≤ 8 ∧ e6 ≤ 8 ∧ e7 ≤ 8) (hx : x3 = valB [e0, e1, e2, e3, e4, e5, e6, e7]) (h1 : y1 = x3 + x3 / 256) (h2 : y2 = y1 + y1 / 65536) (h3 : y3 = y2 + y2 / 4294967296) : y3 % 128 = e0 + e1 + e2 + e3 + e4 + e5 + e6 + e7 ∧ y3 < 9223372036854775808 ∧ y2 < 18446744073709551616 ∧ y1 < 18446744073709551616 := by
  obtain ⟨k0, k1, k2, k3, k4, k5, k6, k7⟩ := h
  obtain ⟨T1, hT1⟩ : ∃ T, T = valB [e1, e2, e3, e4, e5, e6, e7] := ⟨_, rfl⟩
  obtain ⟨T2, hT2⟩ : ∃ T, T = valB [e2, e3, e4, e5, e6, e7] := ⟨_, rfl⟩
  obtain ⟨T3, hT3⟩ : ∃ T, T = valB [e3, e4, e5, e6, e7] := ⟨_, rfl⟩
  obtain ⟨T4, hT4⟩ : ∃ T, T = valB [e4, e5, e6, e7] := ⟨_, rfl⟩
  obtain ⟨T5, hT5⟩ : ∃ T, T = valB [e5, e6, e7] := ⟨_, rfl⟩
  obtain ⟨T6, hT6⟩ : ∃ T, T = valB [e6, e7] := ⟨_, rfl⟩
  obtain ⟨T7, hT7⟩ : ∃ T, T = valB [e7] := ⟨_, rfl⟩
  have hx : x3 = T1 * 256 + e0 := by rw [hx, hT1]; rfl
  have t1 : T1 = T2 * 256 + e1 := by rw [hT1, hT2]; rfl
  have t2 : T2 = T3 * 256 + e2 := by rw [hT2, hT3]; rfl
  have t3 : T3 = T4 * 256 + e3 := by rw [hT3, hT4]; rfl
  have t4 : T4 = T5 * 256 + e4 := by rw [hT4, hT5]; rfl
  have t5 : T5 = T6 * 256 + e5 := by rw [hT5, hT6]; rfl
  have t6 : T6 = T7 * 256 + e6 := by rw [hT6, hT7]; rfl
  have t7 : T7 = e7 := by rw [hT7]; exact Nat.zero_add _
  clear hT1 hT2 hT3 hT4 hT5 hT6 hT7
  have d1 : x3 / 256 = T1 := by clear h1 h2 h3 t1 t2 t3 t4 t5 t6 t7; omega
  have u1 : y1 = (T2 + T3) * 65536 + (e1 * 256 + e2 * 256 + e0 + e1) := by rw [h1, d1]; clear h1 h2 h3 d1 t3 t4 t5 t6 t7; omega
  have d2 : y1 / 65536 = T2 + T3 := by clear h1 h2 h3 t1 t2 t3 t4 t5 t6 t7 d1 hx; omega
  have u2 : y2 = (T4 + T5 + T6 + T7) * 4294967296 + ((e0 + e1 + e2 + e3) + (e1 + e2 + e3 + e4) * 256 + (e2 + e3 + e4 + e5) * 65536 + (e3 + e4 + e5 + e6) * 16777216) := by rw [h2, d2, u1]; clear h1 h2 h3 d1 d2 u1 hx t7; omega
  have d3 : y2 / 4294967296 = T4 + T5 + T6 + T7 := by clear h1 h2 h3 t1 t2 t3 t4 t5 t6 t7 d1 d2 hx u1; omega
  have u3 : y3 = (T4 + T5 + T6 + T7) * 4294967296 + ((e0 + e1 + e2 + e3) + (e1 + e2 + e3 + e4) * 256 + (e2 + e3 + e4 + e5) * 65536 + (e3 + e4 + e5 + e6) * 16777216) + (T4 + T5 + T6 + T7) := by rw [h3, d3, u2]
  have b7 : T7 ≤ 8 := by omega
  have b6 : T6 ≤ 2056 := by clear u1 u2 u3 d1 d2 d3 h1 h2 h3 hx; omega
  have b5 : T5 ≤ 526344 := by clear u1 u2 u3 d1 d2 d3 h1 h2 h3 hx; omega
  have b4 : T4 ≤ 134744072 := by clear u1 u2 u3 d1 d2 d3 h1 h2 h3 hx; omega
  have b3 : T3 ≤ 34494482440 := by clear u1 u2 u3 d1 d2 d3 h1 h2 h3 hx; omega
  have b2 : T2 ≤ 8830587504648 := by clear u1 u2 u3 d1 d2 d3 h1 h2 h3 hx; omega
  refine ⟨?_, ?_, ?_, ?_⟩
  · clear u1 u2 d1 d2 d3 h1 h2 h3 hx b2 b3 b4 b5 b6 b7 t1 t2 t3; omega
  · clear u1 u2 d1 d2 d3 h1 h2 h3 hx t1 t2 t3 t4 t5 t6 t7; omega
  · clear u1 u3 d1 d2 d3 h1 h2 h3 hx t1 t2 t3 t4 t5 t6 t7; omega
  · clear u2 u3 d1 d2 d3 h1 h2 h3 hx t1 t2 t3 t4 t5 t6 t7; omega
end Go.Proofs.YtegpahamenjiaaaGreat
