/-
  soughlaw23: kind, ask, events, same; soughref23.Ask; record.Right: by the abstract walk; in plain Lean: what is asked, noted, and asked again.
-/
import Derived.Test.YtiihcgmnmcdcfaaLog
import Derived.Test.YtiihcgmnmcdcfaaRst
namespace Go.Proofs.Ytiihcgmnmcdcfaa
open Go.RowKit
set_option maxRecDepth 100000
theorem aEventsF (M : AMem) (r : Nat) (s : LogS M) (σ : Hp) (hl : s.es.length ≤ 1000000) : ACalls Try.prog 17 [.ptr r 0] ((r, [M.v, s.c]) :: (s.acc ++ σ)) (Ret (.fsl evSh (s.es.map Ev.d)) ((r, [M.v, s.c]) :: (s.acc ++ σ))) := by
  refine (aEvents M r s σ hl).fin ?_
  rintro x σ' ⟨acc', h, rfl⟩
  exact fin_acc (s := evSh) (l := s.es.map Ev.d) [] h (List.length_map Ev.d).symm (ev_flat _) (by decide) (.done ⟨rfl, rfl⟩)

def kindN (k : Int) : Int := if k < 1 ∨ 4 < k then 1 else k
theorem aKind (k : Int) (σ : Hp) : ACalls Try.prog 14 [.int .i64 k] σ (Ret (.int .i64 (kindN k)) σ) := by
  refine okF Try.func14 (by kernel_rfl) ?_
  refine bcond_dec (fun h => ?_) (fun h => ?_)
  · have h : k < 1 := h
    exact .done ⟨by simp [kindN, h]; rfl, rfl⟩
  have h : ¬ k < 1 := h
  refine bcond_dec (fun h2 => ?_) (fun h2 => ?_)
  · have h2 : 4 < k := h2
    exact .done ⟨by simp [kindN, h2]; rfl, rfl⟩
  · have h2 : ¬ 4 < k := h2
    exact .done ⟨by simp [kindN, h, h2]; rfl, rfl⟩

/-- An operation asked: the event, and what is known then. -/
def askOp (O : MOps) (m : O.A) (k t x y : Int) : Ev × O.A :=
  if k = 1 then (⟨1, t, 0, 0, (O.ld m t).1, false⟩, (O.ld m t).2)
  else if k = 2 then (⟨2, t, x, 0, 0, false⟩, O.st m t x)
  else if k = 3 then (⟨3, t, x, y, 0, (O.cs m t x y).1⟩, (O.cs m t x y).2)
  else (⟨4, t, x, 0, (O.ad m t x).1, false⟩, (O.ad m t x).2)
/-- A Log that was asked. -/
def AskPost (M : AMem) (r : Nat) (s : LogS M) (k t x y : Int) (σ : Hp) : AV → Hp → Prop :=
  fun z σ' => z = .tup [] ∧ ∃ s' : LogS M, M.abs s'.m = (askOp M.O (M.abs s.m) k t x y).2 ∧ s'.es = s.es ++ [(askOp M.O (M.abs s.m) k t x y).1] ∧ σ' = (r, [M.v, s'.c]) :: (s'.acc ++ (M.B s'.m ++ σ))
theorem aAsk (M : AMem) (r : Nat) (s : LogS M) (k t x y : Int) (σ : Hp) (hf : M.O.free (M.abs s.m)) (hl : s.es.length < 1000000) : ACalls Try.prog 15 [.ptr r 0, .agg [.int .i64 k, .int .i64 t, .int .u64 x, .int .u64 y]] ((r, [M.v, s.c]) :: (s.acc ++ (M.B s.m ++ σ))) (AskPost M r s k t x y σ) := by
  refine okF Try.func15 (by kernel_rfl) ?_
  intro b
  refine LoadAt.mk 0 _ _ rfl rfl ?_
  have hp : ∀ (s' : LogS M), ((b, [AV.int .i64 k, .int .i64 t, .int .u64 x, .int .u64 y]) :: (r, [M.v, s'.c]) :: (s'.acc ++ (M.B s'.m ++ σ))).Perm ((r, [M.v, s'.c]) :: (s'.acc ++ (M.B s'.m ++ ((b, [AV.int .i64 k, .int .i64 t, .int .u64 x, .int .u64 y]) :: σ)))) := fun s' => by
    have h := front_perm' ((r, [M.v, s'.c]) :: (s'.acc ++ M.B s'.m)) [(b, [AV.int .i64 k, .int .i64 t, .int .u64 x, .int .u64 y])] σ
    simpa using h
  refine bcond_dec (fun h1 => ?_) (fun h1 => ?_)
  · have h1 : k = 1 := h1
    refine LoadAt.mk 0 _ _ rfl rfl ?_
    refine .perm _ (hp s).symm (aLogLoad M r s t _ hf hl) ?_
    rintro _ _ ⟨s', e1, e2, rfl, rfl⟩
    refine ⟨_, hp s', .drop 0 1 (.done ⟨rfl, s', ?_, ?_, rfl⟩)⟩
    · simp [askOp, h1, e1]
    · simp [askOp, h1, e2]
  have h1 : ¬ k = 1 := h1
  refine bcond_dec (fun h2 => ?_) (fun h2 => ?_)
  · have h2 : k = 2 := h2
    refine LoadAt.mk 0 _ _ rfl rfl ?_
    refine LoadAt.mk 0 _ _ rfl rfl ?_
    refine .perm _ (hp s).symm (aLogStore M r s t x _ hf hl) ?_
    rintro _ _ ⟨s', e1, e2, rfl, rfl⟩
    refine ⟨_, hp s', .drop 0 1 (.done ⟨rfl, s', ?_, ?_, rfl⟩)⟩
    · simp [askOp, h2, e1]
    · simp [askOp, h2, e2]
  have h2 : ¬ k = 2 := h2
  refine bcond_dec (fun h3 => ?_) (fun h3 => ?_)
  · have h3 : k = 3 := h3
    refine LoadAt.mk 0 _ _ rfl rfl ?_
    refine LoadAt.mk 0 _ _ rfl rfl ?_
    refine LoadAt.mk 0 _ _ rfl rfl ?_
    refine .perm _ (hp s).symm (aLogCAS M r s t x y _ hf hl) ?_
    rintro _ _ ⟨s', e1, e2, rfl, rfl⟩
    refine ⟨_, hp s', .drop 0 1 (.done ⟨rfl, s', ?_, ?_, rfl⟩)⟩
    · simp [askOp, h3, e1]
    · simp [askOp, h3, e2]
  have h3 : ¬ k = 3 := h3
  refine LoadAt.mk 0 _ _ rfl rfl ?_
  refine LoadAt.mk 0 _ _ rfl rfl ?_
  refine .perm _ (hp s).symm (aLogAdd M r s t x _ hf hl) ?_
  rintro _ _ ⟨s', e1, e2, rfl, rfl⟩
  refine ⟨_, hp s', .drop 0 1 (.done ⟨rfl, s', ?_, ?_, rfl⟩)⟩
  · simp [askOp, h1, h2, h3, e1]
  · simp [askOp, h1, h2, h3, e2]

/-- The reference's Ask, of a kind that may be. -/
theorem aRAsk (m q : Nat) (ws : List Int) (k t x y : Int) (σ : Hp) (hk : 1 ≤ k ∧ k ≤ 4) : ACalls Try.prog 106 [.ptr m 0, .agg [.int .i64 k, .int .i64 t, .int .u64 x, .int .u64 y]] (reH m q ws σ) (Ret (.agg (evC (askOp listOps ws k t x y).1)) (reH m q (askOp listOps ws k t x y).2 σ)) := by
  rcases (show k = 1 ∨ k = 2 ∨ k = 3 ∨ k = 4 by omega) with rfl | rfl | rfl | rfl
  all_goals
    refine okF Try.func106 (by kernel_rfl) ?_
    intro b3 b4
    refine LoadAt.mk 1 _ _ rfl rfl ?_
    refine callR [3, 3] (aDo m q ws _ t x y _) ?_
    refine LoadAt.mk 3 _ _ rfl rfl ?_
    refine LoadAt.mk 3 _ _ rfl rfl ?_
    intro b7
    refine StoreAt.mk 0 _ _ rfl rfl ?_
    repeat' first
      | refine LoadAt.mk 4 _ _ rfl rfl ?_
      | refine LoadAt.mk 0 _ _ rfl rfl ?_
      | refine LoadAt.mk 3 _ _ rfl rfl ?_
      | refine StoreAt.mk 0 _ _ rfl rfl ?_
      | refine StoreAt.mk 3 _ _ rfl rfl ?_
    exact .drop 0 1 (.drop 2 2 (.done ⟨rfl, rfl⟩))

/-- An act: its kind, its address, and two words. -/
abbrev Act : Type := Int × Int × Int × Int × Unit
def actS : Sh := .field (.int .i64) (.field (.int .i64) (.field (.int .u64) (.field (.int .u64) .nil)))
theorem aEvs (l : List Ev) (σ : Hp) (hl : l.length ≤ 1000) : ACalls Try.prog 57 [.fsl evSh (l.map Ev.d)] σ (Ret (.fsl evSh (l.map Ev.d)) σ) := by
  refine okF Try.func57 (by kernel_rfl) ?_
  refine .wrap 3 _ rfl rfl ?_
  refine loopS (S := Nat × AV × Hp) (fun s => [(3, .via s.2.1), (6, .fsl evSh (l.map Ev.d)), (7, .int .i64 (l.map Ev.d).length), (8, .int .i64 s.1)]) (fun s => s.2.2 ++ σ) (fun s => s.1 ≤ l.length ∧ Acc 6 s.1 s.2.1 s.2.2 ((l.take s.1).flatMap evC)) (fun s => l.length - s.1) (0, .nils, []) ⟨⟨Nat.zero_le _, .nil⟩, ⟨rfl, rfl, rfl, rfl, trivial⟩, rfl⟩ ?_
  rintro ⟨k, v, acc⟩ g ⟨hk, hs⟩
  have hk : k ≤ l.length := hk
  have hs : Acc 6 k v acc ((l.take k).flatMap evC) := hs
  refine bcond_dec (fun hlt => ?_) (fun hge => ?_)
  · have hlt : (k : Int) < (l.map Ev.d).length := hlt
    rw [List.length_map] at hlt
    have hlt : k < l.length := by omega
    have hg : (l.map Ev.d)[((k : Int)).toNat]? = some l[k].d := by
      rw [Int.toNat_natCast, List.getElem?_map, List.getElem?_eq_getElem hlt]; rfl
    refine With.mk rfl (IdxF.mk l[k].d (by omega) hg ?_)
    intro b
    refine StoreAt.mk 0 _ _ rfl rfl ?_
    refine LoadAt.mk 0 _ _ rfl rfl ?_
    refine LoadAt.mk 0 _ _ rfl rfl ?_
    refine LoadAt.mk 0 _ _ rfl rfl ?_
    refine LoadAt.mk 0 _ _ rfl rfl ?_
    refine LoadAt.mk 0 _ _ rfl rfl ?_
    refine LoadAt.mk 0 _ _ rfl rfl ?_
    intro b1
    refine append_acc [_, _] hs (.mref 0 b1 0 1 _ rfl (Nat.le_of_ble_eq_true rfl)) rfl (by omega) (by decide) (by decide) (fun v' acc' h' => ?_)
    refine nextS (k + 1, v', acc') ?_ ⟨hlt, ?_⟩ ⟨rfl, rfl, rfl, inc64 (by omega), trivial⟩ (.drop 0 2 (shed_eq rfl))
    · show l.length - (k + 1) < l.length - k; omega
    · show Acc 6 (k + 1) v' acc' ((l.take (k + 1)).flatMap evC)
      rw [flat_take hlt]; exact h'
  · have hge : ¬ (k : Int) < (l.map Ev.d).length := hge
    rw [List.length_map] at hge
    obtain rfl : k = l.length := by omega
    rw [List.take_length] at hs
    exact fin_acc (s := evSh) (l := l.map Ev.d) [] hs (List.length_map Ev.d).symm (ev_flat l) (by decide) (.done ⟨rfl, rfl⟩)
end Go.Proofs.Ytiihcgmnmcdcfaa
