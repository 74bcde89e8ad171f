/-
  soughlaw23: kind, ask, events, same; soughref23.Ask; record.Right: by the abstract walk; in plain Lean: what is asked, noted, and asked again.
  Events compared: soughlaw23.same, slices.Equal; record.Right: by the abstract walk.
  record.Right, by the abstract walk; in plain Lean: what a new memory would tell.
  soughlaw23: awake; what is noted tells, asked again, the same.
-/
import Derived.Test.YtphifpfndhfdfaaLog
import Derived.Test.YtphifpfndhfdfaaRst
namespace Go.Proofs.Ytphifpfndhfdfaa
open Go.RowKit
set_option maxRecDepth 100000
theorem aEventsF (M : AMem) (r : Nat) (s : LogS M) (σ : Hp) (hl : s.es.length ≤ 1000000) : ACalls Try.prog 13 [.ptr r 0] ((r, [M.v, s.c]) :: (s.acc ++ σ)) (Ret (.fsl evSh (s.es.map Ev.d)) ((r, [M.v, s.c]) :: (s.acc ++ σ))) := by
  refine (aEvents M r s σ hl).fin ?_
  rintro x σ' ⟨acc', h, rfl⟩
  exact fin_acc (s := evSh) (l := s.es.map Ev.d) [] h (List.length_map Ev.d).symm (ev_flat _) (by decide) (.done ⟨rfl, rfl⟩)

def kindN (k : Int) : Int := if k < 1 ∨ 4 < k then 1 else k
theorem aKind (k : Int) (σ : Hp) : ACalls Try.prog 9 [.int .i64 k] σ (Ret (.int .i64 (kindN k)) σ) := by
  refine okF Try.func9 (by kernel_rfl) ?_
  refine bcond_dec (fun h => ?_) (fun h => ?_)
  · have h : k < 1 := h
    exact .done ⟨by simp [kindN, h]; rfl, rfl⟩
  have h : ¬ k < 1 := h
  refine bcond_dec (fun h2 => ?_) (fun h2 => ?_)
  · have h2 : 4 < k := h2
    exact .done ⟨by simp [kindN, h2]; rfl, rfl⟩
  · have h2 : ¬ 4 < k := h2
    exact .done ⟨by simp [kindN, h, h2]; rfl, rfl⟩

/-- An operation asked: the event, and what is known then. -/
def askOp (O : MOps) (m : O.A) (k t x y : Int) : Ev × O.A :=
  if k = 1 then (⟨1, t, 0, 0, (O.ld m t).1, false⟩, (O.ld m t).2)
  else if k = 2 then (⟨2, t, x, 0, 0, false⟩, O.st m t x)
  else if k = 3 then (⟨3, t, x, y, 0, (O.cs m t x y).1⟩, (O.cs m t x y).2)
  else (⟨4, t, x, 0, (O.ad m t x).1, false⟩, (O.ad m t x).2)
/-- A Log that was asked. -/
def AskPost (M : AMem) (r : Nat) (s : LogS M) (k t x y : Int) (σ : Hp) : AV → Hp → Prop :=
  fun z σ' => z = .tup [] ∧ ∃ s' : LogS M, M.abs s'.m = (askOp M.O (M.abs s.m) k t x y).2 ∧ s'.es = s.es ++ [(askOp M.O (M.abs s.m) k t x y).1] ∧ σ' = (r, [M.v, s'.c]) :: (s'.acc ++ (M.B s'.m ++ σ))
theorem aAsk (M : AMem) (r : Nat) (s : LogS M) (k t x y : Int) (σ : Hp) (hf : M.O.free (M.abs s.m)) (hl : s.es.length < 1000000) : ACalls Try.prog 10 [.ptr r 0, .agg [.int .i64 k, .int .i64 t, .int .u64 x, .int .u64 y]] ((r, [M.v, s.c]) :: (s.acc ++ (M.B s.m ++ σ))) (AskPost M r s k t x y σ) := by
  refine okF Try.func10 (by kernel_rfl) ?_
  intro b
  refine LoadAt.mk 0 _ _ rfl rfl ?_
  have hp : ∀ (s' : LogS M), ((b, [AV.int .i64 k, .int .i64 t, .int .u64 x, .int .u64 y]) :: (r, [M.v, s'.c]) :: (s'.acc ++ (M.B s'.m ++ σ))).Perm ((r, [M.v, s'.c]) :: (s'.acc ++ (M.B s'.m ++ ((b, [AV.int .i64 k, .int .i64 t, .int .u64 x, .int .u64 y]) :: σ)))) := fun s' => by
    have h := front_perm' ((r, [M.v, s'.c]) :: (s'.acc ++ M.B s'.m)) [(b, [AV.int .i64 k, .int .i64 t, .int .u64 x, .int .u64 y])] σ
    simpa using h
  refine bcond_dec (fun h1 => ?_) (fun h1 => ?_)
  · have h1 : k = 1 := h1
    refine LoadAt.mk 0 _ _ rfl rfl ?_
    refine .perm _ (hp s).symm (aLogLoad M r s t _ hf hl) ?_
    rintro _ _ ⟨s', e1, e2, rfl, rfl⟩
    refine ⟨_, hp s', .drop 0 1 (.done ⟨rfl, s', ?_, ?_, rfl⟩)⟩
    · simp [askOp, h1, e1]
    · simp [askOp, h1, e2]
  have h1 : ¬ k = 1 := h1
  refine bcond_dec (fun h2 => ?_) (fun h2 => ?_)
  · have h2 : k = 2 := h2
    refine LoadAt.mk 0 _ _ rfl rfl ?_
    refine LoadAt.mk 0 _ _ rfl rfl ?_
    refine .perm _ (hp s).symm (aLogStore M r s t x _ hf hl) ?_
    rintro _ _ ⟨s', e1, e2, rfl, rfl⟩
    refine ⟨_, hp s', .drop 0 1 (.done ⟨rfl, s', ?_, ?_, rfl⟩)⟩
    · simp [askOp, h2, e1]
    · simp [askOp, h2, e2]
  have h2 : ¬ k = 2 := h2
  refine bcond_dec (fun h3 => ?_) (fun h3 => ?_)
  · have h3 : k = 3 := h3
    refine LoadAt.mk 0 _ _ rfl rfl ?_
    refine LoadAt.mk 0 _ _ rfl rfl ?_
    refine LoadAt.mk 0 _ _ rfl rfl ?_
    refine .perm _ (hp s).symm (aLogCAS M r s t x y _ hf hl) ?_
    rintro _ _ ⟨s', e1, e2, rfl, rfl⟩
    refine ⟨_, hp s', .drop 0 1 (.done ⟨rfl, s', ?_, ?_, rfl⟩)⟩
    · simp [askOp, h3, e1]
    · simp [askOp, h3, e2]
  have h3 : ¬ k = 3 := h3
  refine LoadAt.mk 0 _ _ rfl rfl ?_
  refine LoadAt.mk 0 _ _ rfl rfl ?_
  refine .perm _ (hp s).symm (aLogAdd M r s t x _ hf hl) ?_
  rintro _ _ ⟨s', e1, e2, rfl, rfl⟩
  refine ⟨_, hp s', .drop 0 1 (.done ⟨rfl, s', ?_, ?_, rfl⟩)⟩
  · simp [askOp, h1, h2, h3, e1]
  · simp [askOp, h1, h2, h3, e2]

/-- The reference's Ask, of a kind that may be. -/
theorem aRAsk (m q : Nat) (ws : List Int) (k t x y : Int) (σ : Hp) (hk : 1 ≤ k ∧ k ≤ 4) : ACalls Try.prog 11 [.ptr m 0, .agg [.int .i64 k, .int .i64 t, .int .u64 x, .int .u64 y]] (reH m q ws σ) (Ret (.agg (evC (askOp listOps ws k t x y).1)) (reH m q (askOp listOps ws k t x y).2 σ)) := by
  rcases (show k = 1 ∨ k = 2 ∨ k = 3 ∨ k = 4 by omega) with rfl | rfl | rfl | rfl
  all_goals
    refine okF Try.func11 (by kernel_rfl) ?_
    intro b3 b4
    refine LoadAt.mk 1 _ _ rfl rfl ?_
    refine callR [3, 3] (aDo m q ws _ t x y _) ?_
    refine LoadAt.mk 3 _ _ rfl rfl ?_
    refine LoadAt.mk 3 _ _ rfl rfl ?_
    intro b7
    refine StoreAt.mk 0 _ _ rfl rfl ?_
    repeat' first
      | refine LoadAt.mk 4 _ _ rfl rfl ?_
      | refine LoadAt.mk 0 _ _ rfl rfl ?_
      | refine LoadAt.mk 3 _ _ rfl rfl ?_
      | refine StoreAt.mk 0 _ _ rfl rfl ?_
      | refine StoreAt.mk 3 _ _ rfl rfl ?_
    exact .drop 0 1 (.drop 2 2 (.done ⟨rfl, rfl⟩))

/-- An act: its kind, its address, and two words. -/
abbrev Act : Type := Int × Int × Int × Int × Unit
def actS : Sh := .field (.int .i64) (.field (.int .i64) (.field (.int .u64) (.field (.int .u64) .nil)))
theorem aEvs (l : List Ev) (σ : Hp) (hl : l.length ≤ 1000) : ACalls Try.prog 20 [.fsl evSh (l.map Ev.d)] σ (Ret (.fsl evSh (l.map Ev.d)) σ) := by
  refine okF Try.func20 (by kernel_rfl) ?_
  refine .wrap 3 _ rfl rfl ?_
  refine loopS (S := Nat × AV × Hp) (fun s => [(3, .via s.2.1), (6, .fsl evSh (l.map Ev.d)), (7, .int .i64 (l.map Ev.d).length), (8, .int .i64 s.1)]) (fun s => s.2.2 ++ σ) (fun s => s.1 ≤ l.length ∧ Acc 6 s.1 s.2.1 s.2.2 ((l.take s.1).flatMap evC)) (fun s => l.length - s.1) (0, .nils, []) ⟨⟨Nat.zero_le _, .nil⟩, ⟨rfl, rfl, rfl, rfl, trivial⟩, rfl⟩ ?_
  rintro ⟨k, v, acc⟩ g ⟨hk, hs⟩
  have hk : k ≤ l.length := hk
  have hs : Acc 6 k v acc ((l.take k).flatMap evC) := hs
  refine bcond_dec (fun hlt => ?_) (fun hge => ?_)
  · have hlt : (k : Int) < (l.map Ev.d).length := hlt
    rw [List.length_map] at hlt
    have hlt : k < l.length := by omega
    have hg : (l.map Ev.d)[((k : Int)).toNat]? = some l[k].d := by
      rw [Int.toNat_natCast, List.getElem?_map, List.getElem?_eq_getElem hlt]; rfl
    refine With.mk rfl (IdxF.mk l[k].d (by omega) hg ?_)
    intro b
    refine StoreAt.mk 0 _ _ rfl rfl ?_
    refine LoadAt.mk 0 _ _ rfl rfl ?_
    refine LoadAt.mk 0 _ _ rfl rfl ?_
    refine LoadAt.mk 0 _ _ rfl rfl ?_
    refine LoadAt.mk 0 _ _ rfl rfl ?_
    refine LoadAt.mk 0 _ _ rfl rfl ?_
    refine LoadAt.mk 0 _ _ rfl rfl ?_
    intro b1
    refine append_acc [_, _] hs (.mref 0 b1 0 1 _ rfl (Nat.le_of_ble_eq_true rfl)) rfl (by omega) (by decide) (by decide) (fun v' acc' h' => ?_)
    refine nextS (k + 1, v', acc') ?_ ⟨hlt, ?_⟩ ⟨rfl, rfl, rfl, inc64 (by omega), trivial⟩ (.drop 0 2 (shed_eq rfl))
    · show l.length - (k + 1) < l.length - k; omega
    · show Acc 6 (k + 1) v' acc' ((l.take (k + 1)).flatMap evC)
      rw [flat_take hlt]; exact h'
  · have hge : ¬ (k : Int) < (l.map Ev.d).length := hge
    rw [List.length_map] at hge
    obtain rfl : k = l.length := by omega
    rw [List.take_length] at hs
    exact fin_acc (s := evSh) (l := l.map Ev.d) [] hs (List.length_map Ev.d).symm (ev_flat l) (by decide) (.done ⟨rfl, rfl⟩)
end Go.Proofs.Ytphifpfndhfdfaa
namespace Go.Proofs.Ytphifpfndhfdfaa
open Go.RowKit
set_option maxRecDepth 100000
instance evTDec : DecidableEq EvT := fun x y => inferInstanceAs (Decidable (x = y))
instance evLDec : DecidableEq (List EvT) := fun x y => @instDecidableEqList EvT evTDec x y
theorem allB_iff (x y : EvT) : allB (eqAll (evSh.cells x) (evSh.cells y)) = decide (x = y) := by
  obtain ⟨a1, a2, a3, a4, a5, a6, a7⟩ := x
  obtain ⟨b1, b2, b3, b4, b5, b6, b7⟩ := y
  show allB [decide (a1 = b1), decide (a2 = b2), decide (a3 = b3), decide (a4 = b4), decide (a5 = b5), a6 == b6] = _
  have e : ((a1, a2, a3, a4, a5, a6, a7) = (b1, b2, b3, b4, b5, b6, b7)) ↔ (a1 = b1 ∧ a2 = b2 ∧ a3 = b3 ∧ a4 = b4 ∧ a5 = b5 ∧ a6 = b6) := by
    simp only [Prod.mk.injEq]
    constructor
    · rintro ⟨h1, h2, h3, h4, h5, h6, _⟩; exact ⟨h1, h2, h3, h4, h5, h6⟩
    · rintro ⟨h1, h2, h3, h4, h5, h6⟩; exact ⟨h1, h2, h3, h4, h5, h6, trivial⟩
  rw [Bool.eq_iff_iff, decide_eq_true_iff]
  refine Iff.trans ?_ e.symm
  simp [allB]
theorem aSameE (l : List Ev) (σ : Hp) (hl : l.length ≤ 1000) : ACalls Try.prog 12 [.fsl evSh (l.map Ev.d), .fsl evSh (l.map Ev.d)] σ (Ret (.bool true) σ) := by
  refine okF Try.func12 (by kernel_rfl) ?_
  refine bcond_split (fun h => absurd h (by simp)) (fun _ => ?_)
  refine callR [] (aEvs l σ hl) ?_
  refine loopS (S := Nat) (fun s => [(0, .fsl evSh (l.map Ev.d)), (13, .fsl evSh (l.map Ev.d)), (14, .int .i64 (l.map Ev.d).length), (15, .int .i64 s)]) (fun _ => σ) (fun s => s ≤ l.length) (fun s => l.length - s) 0 ⟨Nat.zero_le _, ⟨rfl, rfl, rfl, rfl, trivial⟩, rfl⟩ ?_
  intro k g hk
  refine bcond_dec (fun hlt => ?_) (fun hge => ?_)
  · have hlt : (k : Int) < (l.map Ev.d).length := hlt
    rw [List.length_map] at hlt
    have hlt : k < l.length := by omega
    have hg : (l.map Ev.d)[((k : Int)).toNat]? = some l[k].d := by
      rw [Int.toNat_natCast, List.getElem?_map, List.getElem?_eq_getElem hlt]; rfl
    refine With.mk rfl (IdxF.mk l[k].d (by omega) hg ?_)
    intro b
    refine StoreAt.mk 0 _ _ rfl rfl ?_
    refine .quiet (by kernel_rfl) ?_
    refine With.mk rfl (IdxF.mk l[k].d (by omega) hg ?_)
    refine LoadAt.mk 0 _ _ rfl rfl ?_
    refine .mk (by kernel_rfl) (by kernel_rfl) ?_
    refine bcond_split (fun h => ?_) (fun _ => ?_)
    · have h : (!allB (eqAll (evSh.cells l[k].d) (evSh.cells l[k].d))) = true := h
      rw [allB_iff] at h
      simp at h
    refine nextS (k + 1) ?_ hlt ⟨rfl, rfl, rfl, inc64 (by omega), trivial⟩ (.drop 0 1 (shed_eq rfl))
    show l.length - (k + 1) < l.length - k; omega
  · exact .done ⟨rfl, rfl⟩

theorem flat_elemE {α : Type} {f : α → List AV} {n : Nat} (hf : ∀ x, (f x).length = n) {l : List α} {j : Nat} (h : j < l.length) : ((l.flatMap f).drop (j * n)).take n = f l[j] := by
  induction l generalizing j with
  | nil => simp at h
  | cons x l ih =>
    cases j with
    | zero => simp [hf]
    | succ j =>
      rw [List.flatMap_cons, List.drop_append, hf, Nat.succ_mul, Nat.add_sub_cancel, List.drop_of_length_le (by rw [hf]; omega), List.nil_append]
      simpa using ih (by simpa using h)
theorem readEv {i : TI} (hi : i.wide = true) (hs : i.size = 6) {l : List Ev} {k : Nat} (h : k < l.length) : readAs i (l.flatMap evC) (0 + ((k : Int)).toNat * 6) = some (.agg (evC l[k])) := by
  have hl := flat_length (f := evC) (es := 6) (fun _ => rfl) l
  have hb : Nat.ble (0 + k * 6 + 6) (l.flatMap evC).length = true := Nat.ble_eq_true_of_le (by rw [hl]; omega)
  unfold readAs
  rw [hi, hs]
  show (match Nat.ble (0 + k * 6 + 6) (l.flatMap evC).length with | true => some (AV.agg (((l.flatMap evC).drop (0 + k * 6)).take 6)) | false => none) = _
  rw [hb]
  show some (AV.agg (((l.flatMap evC).drop (0 + k * 6)).take 6)) = _
  rw [Nat.zero_add, flat_elemE (f := evC) (n := 6) (fun _ => rfl) h]
/-- slices.Equal, of an open row of events and a list. -/
theorem aEqualE (b : Nat) (es : List Ev) (B : List EvT) (σ : Hp) (hl : es.length ≤ 1000000) : ACalls Try.prog 34 [.mref b 0 es.length 6, .fsl evSh B] ((b, es.flatMap evC) :: σ) (Ret (.bool (decide (es.map Ev.d = B))) ((b, es.flatMap evC) :: σ)) := by
  refine okF Try.func34 (by kernel_rfl) ?_
  refine bcond_split (fun hn => ?_) (fun hn => ?_)
  · have hn : (!decide ((es.length : Int) = (B.length : Int))) = true := hn
    have : es.map Ev.d ≠ B := by
      intro e
      have h := congrArg List.length e
      rw [List.length_map] at h
      rw [h] at hn
      simp at hn
    exact .done ⟨av_bool (by simp [this]), rfl⟩
  have hn : (!decide ((es.length : Int) = (B.length : Int))) = false := hn
  have hlen : es.length = B.length := by simp at hn; omega
  refine loopS (S := Nat) (fun s => [(0, .mref b 0 es.length 6), (1, .fsl evSh B), (12, .int .i64 es.length), (13, .int .i64 s)]) (fun _ => (b, es.flatMap evC) :: σ) (fun s => s ≤ es.length ∧ (es.map Ev.d).take s = B.take s) (fun s => es.length - s) 0 ⟨⟨Nat.zero_le _, rfl⟩, ⟨rfl, rfl, rfl, rfl, trivial⟩, rfl⟩ ?_
  rintro k g ⟨hk, htk⟩
  refine bcond_dec (fun hlt => ?_) (fun hge => ?_)
  · have hlt : k < es.length := by have hlt : (k : Int) < es.length := hlt; omega
    have hltB : k < B.length := by omega
    have hltm : k < (es.map Ev.d).length := by simpa using hlt
    refine .quiet (by kernel_rfl) ?_
    refine With.mk ⟨rfl, by omega, by omega⟩ ?_
    refine LoadAt.mk 0 _ _ rfl (readEv rfl rfl hlt) ?_
    refine With.mk rfl (IdxF.mk B[k] (by omega) (get_some hltB) ?_)
    refine .mk (by kernel_rfl) (by kernel_rfl) ?_
    refine bcond_split (fun h => ?_) (fun h => ?_)
    · have h : (!allB (eqAll (evSh.cells es[k].d) (evSh.cells B[k]))) = true := h
      rw [allB_iff] at h
      have : es.map Ev.d ≠ B := by rintro rfl; simp at h
      exact .done ⟨av_bool (by simp [this]), rfl⟩
    · have h : (!allB (eqAll (evSh.cells es[k].d) (evSh.cells B[k]))) = false := h
      rw [allB_iff] at h
      have h : es[k].d = B[k] := by simpa using h
      refine next (k + 1) ?_ ⟨hlt, ?_⟩ ⟨rfl, rfl, rfl, inc64 (by omega), trivial⟩ rfl
      · show es.length - (k + 1) < es.length - k; omega
      · rw [List.take_succ_eq_append_getElem hltm, List.take_succ_eq_append_getElem hltB, htk, List.getElem_map, h]
  · have hge : ¬ (k : Int) < es.length := hge
    have hkl : k = es.length := by omega
    have : es.map Ev.d = B := by
      rw [hkl, List.take_of_length_le (by simp), hlen, List.take_length] at htk
      exact htk
    exact .done ⟨av_bool (by simp [this]), rfl⟩
end Go.Proofs.Ytphifpfndhfdfaa
namespace Go.Proofs.Ytphifpfndhfdfaa
open Go.RowKit
set_option maxRecDepth 100000
/-- One event is asked again. -/
def rstep (st : List Ev × List Int) (d : EvT) : List Ev × List Int := (st.1 ++ [(askOp listOps st.2 d.1 d.2.1 d.2.2.1 d.2.2.2.1).1], (askOp listOps st.2 d.1 d.2.1 d.2.2.1 d.2.2.2.1).2)
def replay (ws : List Int) (B : List EvT) : List Ev × List Int := B.foldl rstep ([], ws)
theorem replay_snoc {ws : List Int} {B : List EvT} {k : Nat} (h : k < B.length) : replay ws (B.take (k + 1)) = rstep (replay ws (B.take k)) B[k] := by
  unfold replay
  rw [List.take_succ_eq_append_getElem h, List.foldl_append]
  rfl
def kindB (d : EvT) : Bool := decide (1 ≤ d.1) && decide (d.1 ≤ 4)
def rightB (n : Int) (B : List EvT) : Bool := B.all kindB && decide ((replay (List.replicate (cutN n) 0) B).1.map Ev.d = B)
theorem replay_len (ws : List Int) (B : List EvT) : (replay ws B).1.length = B.length := by
  have : ∀ (B : List EvT) (st : List Ev × List Int), (B.foldl rstep st).1.length = st.1.length + B.length := by
    intro B
    induction B with
    | nil => intro st; rfl
    | cons d B ih => intro st; rw [List.foldl_cons, ih]; simp [rstep]; omega
  simpa [replay] using this B ([], ws)
theorem aEqualNil (σ : Hp) : ACalls Try.prog 34 [.nils, .fsl evSh []] σ (Ret (.bool true) σ) := by
  refine okF Try.func34 (by kernel_rfl) ?_
  refine loopS (S := Unit) (fun _ => [(12, .int .i64 0), (13, .int .i64 0)]) (fun _ => σ) (fun _ => True) (fun _ => 0) () ⟨trivial, ⟨rfl, rfl, trivial⟩, rfl⟩ ?_
  intro _ g _
  exact .done ⟨rfl, rfl⟩

theorem acc_inv {e n : Nat} {v : AV} {acc : Hp} {cs : List AV} (h : Acc e n v acc cs) : (v = .nils ∧ acc = [] ∧ n = 0) ∨ ∃ b, v = .mref b 0 n e ∧ acc = [(b, cs)] := by
  cases h with
  | nil => exact .inl ⟨rfl, rfl, rfl⟩
  | mref b k cs h => exact .inr ⟨b, rfl, rfl⟩
theorem fin_dropL {R : AV → Hp → Prop} {x : AV} {σ : Hp} (fr : Hp) (h : Fin R x σ) : Fin R x (fr ++ σ) := .drop 0 fr.length (by simpa using h)
theorem aRight (n : Int) (B : List EvT) (σ : Hp) (hB : B.length ≤ 1000) : ACalls Try.prog 17 [.int .i64 n, .fsl evSh B] σ (Ret (.bool (rightB n B)) σ) := by
  refine okF Try.func17 (by kernel_rfl) ?_
  refine .mk [] _ (aNew n σ) ?_
  rintro _ _ ⟨p, q, rfl, rfl⟩
  refine .mk [] _ (aLogNew (plainM p q) _) ?_
  rintro _ _ ⟨r, rfl, rfl⟩
  obtain ⟨zs, hzs⟩ : ∃ zs, zs = List.replicate (cutN n) (0 : Int) := ⟨_, rfl⟩
  have hlen : cutN n = zs.length := by rw [hzs]; simp
  refine loopS (S := Nat × LogS (plainM p q)) (fun s => [(1, .fsl evSh B), (5, .ptr r 0), (12, .fsl evSh B), (13, .int .i64 B.length), (14, .int .i64 s.1)])
    (fun s => (r, [(plainM p q).v, s.2.c]) :: (s.2.acc ++ ((plainM p q).B s.2.m ++ σ))) (fun s => s.1 ≤ B.length ∧ s.2.es = (replay zs (B.take s.1)).1 ∧ (plainM p q).abs s.2.m = (replay zs (B.take s.1)).2 ∧ (B.take s.1).all kindB = true) (fun s => B.length - s.1) (0, ⟨zs, [], .nils, [], .nil⟩) ⟨⟨Nat.zero_le _, rfl, rfl, rfl⟩, ⟨rfl, rfl, rfl, rfl, rfl, trivial⟩, by rw [← hzs, hlen]; rfl⟩ ?_
  rintro ⟨k, ls⟩ g ⟨hk, hes, hm, hall⟩
  have hk : k ≤ B.length := hk
  have hes : ls.es = (replay zs (B.take k)).1 := hes
  have hm : (plainM p q).abs ls.m = (replay zs (B.take k)).2 := hm
  have hall : (B.take k).all kindB = true := hall
  have hel : ls.es.length = k := by rw [hes, replay_len, List.length_take]; omega
  refine bcond_dec (fun hlt => ?_) (fun hge => ?_)
  · have hlt : k < B.length := by have hlt : (k : Int) < B.length := hlt; omega
    refine With.mk rfl (IdxF.mk B[k] (by omega) (get_some hlt) ?_)
    intro b
    refine StoreAt.mk 0 _ _ rfl rfl ?_
    refine LoadAt.mk 0 _ _ rfl rfl ?_
    generalize hd : B[k] = d
    obtain ⟨dk, dt, dx, dy, dg, dok, du⟩ := d
    have hp : ∀ (c : List AV) (s' : LogS (plainM p q)), ((b, c) :: (r, [(plainM p q).v, s'.c]) :: (s'.acc ++ ((plainM p q).B s'.m ++ σ))).Perm ((r, [(plainM p q).v, s'.c]) :: (s'.acc ++ ((plainM p q).B s'.m ++ ((b, c) :: σ)))) := fun c s' => by
      have h := front_perm' ((r, [(plainM p q).v, s'.c]) :: (s'.acc ++ (plainM p q).B s'.m)) [(b, c)] σ
      simpa using h
    have fin : ∀ (ls' : LogS (plainM p q)), kindB (dk, dt, dx, dy, dg, dok, du) = true → (plainM p q).abs ls'.m = (askOp (plainM p q).O ((plainM p q).abs ls.m) dk dt dx dy).2 → ls'.es = ls.es ++ [(askOp (plainM p q).O ((plainM p q).abs ls.m) dk dt dx dy).1] →
        ls'.es = (replay zs (B.take (k + 1))).1 ∧ (plainM p q).abs ls'.m = (replay zs (B.take (k + 1))).2 ∧ (B.take (k + 1)).all kindB = true := fun ls' h0 a1 a2 => by
      refine ⟨?_, ?_, ?_⟩
      · rw [replay_snoc hlt, hd, a2, hes]
        show _ ++ [(askOp listOps ((plainM p q).abs ls.m) dk dt dx dy).1] = _ ++ [(askOp listOps (replay zs (B.take k)).2 dk dt dx dy).1]
        rw [hm]
      · rw [replay_snoc hlt, hd, a1]
        show (askOp listOps ((plainM p q).abs ls.m) dk dt dx dy).2 = (askOp listOps (replay zs (B.take k)).2 dk dt dx dy).2
        rw [hm]
      · rw [List.take_succ_eq_append_getElem hlt, List.all_append, hall, hd]
        simp [h0]
    refine bcond_dec (fun h1 => ?_) (fun h1 => ?_)
    · have h1 : dk = 1 := h1
      refine LoadAt.mk 0 _ _ rfl rfl ?_
      refine .perm _ (hp _ ls).symm (aLogLoad (plainM p q) r ls dt _ trivial (by omega)) ?_
      rintro _ _ ⟨ls', e1, e2, rfl, rfl⟩
      obtain ⟨f1, f2, f3⟩ := fin ls' (by simp [kindB, h1]) (by simp [askOp, h1, e1]) (by simp [askOp, h1, e2])
      refine ⟨_, hp _ ls', ?_⟩
      refine nextS (k + 1, ls') ?_ ⟨hlt, f1, f2, f3⟩ ⟨rfl, rfl, rfl, rfl, inc64 (by omega), trivial⟩ (.drop 0 1 (shed_eq rfl))
      show B.length - (k + 1) < B.length - k; omega
    have h1 : ¬ dk = 1 := h1
    refine bcond_dec (fun h2 => ?_) (fun h2 => ?_)
    · have h2 : dk = 2 := h2
      refine LoadAt.mk 0 _ _ rfl rfl ?_
      refine LoadAt.mk 0 _ _ rfl rfl ?_
      refine .perm _ (hp _ ls).symm (aLogStore (plainM p q) r ls dt dx _ trivial (by omega)) ?_
      rintro _ _ ⟨ls', e1, e2, rfl, rfl⟩
      obtain ⟨f1, f2, f3⟩ := fin ls' (by simp [kindB, h2]) (by simp [askOp, h2, e1]) (by simp [askOp, h2, e2])
      refine ⟨_, hp _ ls', ?_⟩
      refine nextS (k + 1, ls') ?_ ⟨hlt, f1, f2, f3⟩ ⟨rfl, rfl, rfl, rfl, inc64 (by omega), trivial⟩ (.drop 0 1 (shed_eq rfl))
      show B.length - (k + 1) < B.length - k; omega
    have h2 : ¬ dk = 2 := h2
    refine bcond_dec (fun h3 => ?_) (fun h3 => ?_)
    · have h3 : dk = 3 := h3
      refine LoadAt.mk 0 _ _ rfl rfl ?_
      refine LoadAt.mk 0 _ _ rfl rfl ?_
      refine LoadAt.mk 0 _ _ rfl rfl ?_
      refine .perm _ (hp _ ls).symm (aLogCAS (plainM p q) r ls dt dx dy _ trivial (by omega)) ?_
      rintro _ _ ⟨ls', e1, e2, rfl, rfl⟩
      obtain ⟨f1, f2, f3⟩ := fin ls' (by simp [kindB, h3]) (by simp [askOp, h3, e1]) (by simp [askOp, h3, e2])
      refine ⟨_, hp _ ls', ?_⟩
      refine nextS (k + 1, ls') ?_ ⟨hlt, f1, f2, f3⟩ ⟨rfl, rfl, rfl, rfl, inc64 (by omega), trivial⟩ (.drop 0 1 (shed_eq rfl))
      show B.length - (k + 1) < B.length - k; omega
    have h3 : ¬ dk = 3 := h3
    refine bcond_dec (fun h4 => ?_) (fun h4 => ?_)
    · have h4 : dk = 4 := h4
      refine LoadAt.mk 0 _ _ rfl rfl ?_
      refine LoadAt.mk 0 _ _ rfl rfl ?_
      refine .perm _ (hp _ ls).symm (aLogAdd (plainM p q) r ls dt dx _ trivial (by omega)) ?_
      rintro _ _ ⟨ls', e1, e2, rfl, rfl⟩
      obtain ⟨f1, f2, f3⟩ := fin ls' (by simp [kindB, h4]) (by simp [askOp, h4, e1]) (by simp [askOp, h4, e2])
      refine ⟨_, hp _ ls', ?_⟩
      refine nextS (k + 1, ls') ?_ ⟨hlt, f1, f2, f3⟩ ⟨rfl, rfl, rfl, rfl, inc64 (by omega), trivial⟩ (.drop 0 1 (shed_eq rfl))
      show B.length - (k + 1) < B.length - k; omega
    have h4 : ¬ dk = 4 := h4
    have hno : rightB n B = false := by
      have : B.all kindB = false := by
        rw [List.all_eq_false]
        refine ⟨B[k], List.getElem_mem hlt, ?_⟩
        rw [hd]
        simp only [kindB, Bool.and_eq_true, decide_eq_true_eq]
        omega
      simp [rightB, this]
    have h := fin_dropL (R := Ret (.bool (rightB n B)) σ) (x := .bool false) ((b, evSh.cells (dk, dt, dx, dy, dg, dok, du)) :: (r, [(plainM p q).v, ls.c]) :: (ls.acc ++ (plainM p q).B ls.m)) (.done ⟨by rw [hno], rfl⟩)
    simp only [List.cons_append, List.append_assoc] at h
    exact h
  · have hge : ¬ (k : Int) < B.length := hge
    have hkB : k = B.length := by omega
    have hfin : rightB n B = decide (ls.es.map Ev.d = B) := by
      rw [hkB, List.take_length] at hes hall
      unfold rightB
      rw [hall, ← hzs, ← hes]
      rfl
    rw [hfin]
    obtain ⟨m, es, c, acc, h⟩ := ls
    have hel : es.length = k := hel
    cases h with
    | nil =>
      have : B = [] := List.length_eq_zero_iff.1 (by rw [← hkB, ← hel]; rfl)
      subst this
      refine LoadAt.mk 0 _ _ rfl rfl ?_
      refine callR [] (aEqualNil _) ?_
      exact .drop 0 3 (.done ⟨rfl, rfl⟩)
    | acc v _ _ h =>
      rcases acc_inv h with ⟨rfl, rfl, hn⟩ | ⟨b, rfl, rfl⟩
      · have : B = [] := List.length_eq_zero_iff.1 (by rw [← hkB, ← hel]; exact hn)
        subst this
        obtain rfl : es = [] := List.length_eq_zero_iff.1 hn
        refine LoadAt.mk 0 _ _ rfl rfl ?_
        refine callR [] (aEqualNil _) ?_
        exact .drop 0 3 (.done ⟨rfl, rfl⟩)
      · refine LoadAt.mk 0 _ _ rfl rfl ?_
        refine callR [1] (aEqualE b es B _ (by omega)) ?_
        exact .drop 0 4 (.done ⟨rfl, rfl⟩)
end Go.Proofs.Ytphifpfndhfdfaa
namespace Go.Proofs.Ytphifpfndhfdfaa
open Go.RowKit
set_option maxRecDepth 100000
theorem ask_again (ws : List Int) (k t x y : Int) (hk : 1 ≤ k ∧ k ≤ 4) : ∀ e, e = (askOp listOps ws k t x y).1 → kindB e.d = true ∧ askOp listOps ws e.kind e.at_ e.a e.b = askOp listOps ws k t x y := by
  rintro e rfl
  rcases (show k = 1 ∨ k = 2 ∨ k = 3 ∨ k = 4 by omega) with rfl | rfl | rfl | rfl <;> exact ⟨rfl, rfl⟩
theorem replay_more {zs : List Int} {es : List Ev} {ws : List Int} {k t x y : Int} (hk : 1 ≤ k ∧ k ≤ 4) (h : replay zs (es.map Ev.d) = (es, ws)) : replay zs ((es ++ [(askOp listOps ws k t x y).1]).map Ev.d) = (es ++ [(askOp listOps ws k t x y).1], (askOp listOps ws k t x y).2) := by
  obtain ⟨_, h2⟩ := ask_again ws k t x y hk _ rfl
  unfold replay at h ⊢
  rw [List.map_append, List.foldl_append, h]
  show (es ++ [(askOp listOps ws _ _ _ _).1], (askOp listOps ws _ _ _ _).2) = _
  exact congrArg (fun r : Ev × List Int => (es ++ [r.1], r.2)) h2

theorem awake23a : ACalls Try.prog 5 [] [] (Ret (.bool true) []) := by
  refine okF Try.func5 (by kernel_rfl) ?_
  refine .mk [] _ (aNew 1 []) ?_
  rintro _ _ ⟨p, q, rfl, rfl⟩
  refine .mk [] _ (aLogNew (plainM p q) _) ?_
  rintro _ _ ⟨r, rfl, rfl⟩
  refine .mk [] _ (aLogStore (plainM p q) r ⟨([0] : List Int), [], .nils, [], .nil⟩ 0 5 [] trivial (by show 0 < 1000000; decide)) ?_
  rintro _ _ ⟨s, e1, e2, rfl, rfl⟩
  refine .mk [] _ (aLogLoad (plainM p q) r s 0 [] trivial (by rw [e2]; show 1 < 1000000; decide)) ?_
  rintro _ _ ⟨s', f1, f2, rfl, rfl⟩
  have hs : s.m = ([5] : List Int) := e1
  have hg : ((plainM p q).O.ld ((plainM p q).abs s.m) 0).1 = 5 := by
    show mLoad s.m 0 = 5
    rw [hs]; rfl
  rw [hg, e2] at f2
  have hev := aEventsF (plainM p q) r s' ((plainM p q).B s'.m ++ []) (by rw [f2]; show 2 ≤ 1000000; decide)
  rw [f2] at hev
  refine callR [] hev ?_
  refine With.mk rfl (IdxF.mk (⟨1, 0, 0, 0, 5, false⟩ : Ev).d (by decide) rfl ?_)
  refine With.mk rfl (IdxF.mk (⟨1, 0, 0, 0, 5, false⟩ : Ev).d (by decide) rfl ?_)
  have h := fin_dropL (R := Ret (.bool true) []) (x := .bool true) (σ := []) ((r, [(plainM p q).v, s'.c]) :: (s'.acc ++ (plainM p q).B s'.m)) (.done ⟨rfl, rfl⟩)
  simp only [List.cons_append, List.append_assoc] at h
  exact h
end Go.Proofs.Ytphifpfndhfdfaa
