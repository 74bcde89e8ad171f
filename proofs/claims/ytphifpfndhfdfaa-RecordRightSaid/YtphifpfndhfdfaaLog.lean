/-
  package record's Log over any memory, by the abstract walk: it is a memory that notes what it is asked.
-/
import Derived.Test.YtphifpfndhfdfaaMm
namespace Go.Proofs.Ytphifpfndhfdfaa
open Go.RowKit
set_option maxRecDepth 100000
/-- An event. -/
structure Ev where
  kind : Int
  at_ : Int
  a : Int
  b : Int
  got : Int
  ok : Bool
deriving DecidableEq
def evC (e : Ev) : List AV := [.int .i64 e.kind, .int .i64 e.at_, .int .u64 e.a, .int .u64 e.b, .int .u64 e.got, .bool e.ok]
def evSh : Sh := .field (.int .i64) (.field (.int .i64) (.field (.int .u64) (.field (.int .u64) (.field (.int .u64) (.field .bool .nil)))))
/-- The events' data. -/
abbrev EvT : Type := Int × Int × Int × Int × Int × Bool × Unit
def Ev.d (e : Ev) : EvT := (e.kind, e.at_, e.a, e.b, e.got, e.ok, ())
theorem ev_flat : ∀ (l : List Ev), l.flatMap evC = (l.map Ev.d).flatMap (fun d : EvT => evSh.cells d)
  | [] => rfl
  | e :: l => by
    show evC e ++ l.flatMap evC = evSh.cells e.d ++ ((l.map Ev.d).flatMap fun d : EvT => evSh.cells d)
    rw [ev_flat l]
    rfl
/-- What a Log's cell has, of the events es; their block is acc. -/
inductive LC : AV → Hp → List Ev → Prop where
  | nil : LC .nils [] []
  | acc (v : AV) (acc : Hp) (es : List Ev) (h : Acc 6 es.length v acc (es.flatMap evC)) : LC (.via v) acc es

theorem aNote (r : Nat) (mv c : AV) (acc : Hp) (es : List Ev) (e : Ev) (σ : Hp) (h : LC c acc es) (hl : es.length < 1000000) : ACalls Try.prog 40 [.ptr r 0, .agg (evC e)] ((r, [mv, c]) :: (acc ++ σ)) (fun x σ' => x = .tup [] ∧ ∃ c' acc', LC c' acc' (es ++ [e]) ∧ σ' = (r, [mv, c']) :: (acc' ++ σ)) := by
  have fin : ∀ v' acc', Acc 6 (es.length + 1) v' acc' (es.flatMap evC ++ evC e) → LC (.via v') acc' (es ++ [e]) := fun v' acc' h' => by
    refine .acc _ _ _ ?_
    rw [List.flatMap_append, List.length_append]
    simpa using h'
  cases h with
  | nil =>
    refine okF Try.func40 (by kernel_rfl) ?_
    intro b
    refine .each (by kernel_rfl) ?_
    repeat' first
      | refine And.intro ?_ ?_
      | refine LoadAt.mk 1 _ _ rfl rfl ?_
      | refine LoadAt.mk 0 _ _ rfl rfl ?_
      | refine LoadAt.mk 2 _ _ rfl rfl ?_
      | intro b1
    all_goals
      refine append_acc [_, _, _] .nil (.mref 0 _ 0 1 _ rfl (Nat.le_of_ble_eq_true rfl)) rfl (by decide) (by decide) (by decide) (fun v' acc' h' => ?_)
      refine StoreAt.mk 2 _ _ rfl rfl ?_
      exact .drop 0 2 (.done ⟨rfl, _, _, fin v' acc' h', rfl⟩)
  | acc v acc es h =>
    refine okF Try.func40 (by kernel_rfl) ?_
    intro b
    refine .each (by kernel_rfl) ?_
    repeat' first
      | refine And.intro ?_ ?_
      | refine LoadAt.mk 1 _ _ rfl rfl ?_
      | refine LoadAt.mk 0 _ _ rfl rfl ?_
      | refine LoadAt.mk 2 _ _ rfl rfl ?_
      | intro b1
    all_goals
      refine append_acc [_, _, _] h (.mref 0 _ 0 1 _ rfl (Nat.le_of_ble_eq_true rfl)) rfl (by omega) (by decide) (by decide) (fun v' acc' h' => ?_)
      refine StoreAt.mk 2 _ _ rfl rfl ?_
      exact .drop 0 2 (.done ⟨rfl, _, _, fin v' acc' h', rfl⟩)

theorem aMade (r t : Nat) (x c : AV) (σ : Hp) : ACalls Try.prog 33 [.ptr r 0] ((r, [.iface t x, c]) :: σ) (Ret (.bool true) ((r, [.iface t x, c]) :: σ)) := by
  refine okF Try.func33 (by kernel_rfl) ?_
  refine LoadAt.mk 0 _ _ rfl rfl ?_
  exact .done ⟨rfl, rfl⟩
theorem aMadeNil (σ : Hp) : ACalls Try.prog 33 [.nilp] σ (Ret (.bool false) σ) := by
  refine okF Try.func33 (by kernel_rfl) ?_
  exact .done ⟨rfl, rfl⟩
theorem aLogNew (M : AMem) (σ : Hp) : ACalls Try.prog 7 [M.v] σ (fun x σ' => ∃ r, x = .ptr r 0 ∧ σ' = (r, [M.v, .nils]) :: σ) := by
  refine okF Try.func7 (by kernel_rfl) ?_
  intro r
  exact .done ⟨r, rfl, rfl⟩

/-- A Log's operations. -/
def logOps (O : MOps) : MOps where
  A := O.A × List Ev
  ld a x := ((O.ld a.1 x).1, (O.ld a.1 x).2, a.2 ++ [⟨1, x, 0, 0, (O.ld a.1 x).1, false⟩])
  st a x w := (O.st a.1 x w, a.2 ++ [⟨2, x, w, 0, 0, false⟩])
  cs a x u w := ((O.cs a.1 x u w).1, (O.cs a.1 x u w).2, a.2 ++ [⟨3, x, u, w, 0, (O.cs a.1 x u w).1⟩])
  ad a x d := ((O.ad a.1 x d).1, (O.ad a.1 x d).2, a.2 ++ [⟨4, x, d, 0, (O.ad a.1 x d).1, false⟩])
  ln a := O.ln a.1
  free a := O.free a.1 ∧ a.2.length < 1000000
/-- Where a Log stands. -/
structure LogS (M : AMem) where
  m : M.S
  es : List Ev
  c : AV
  acc : Hp
  h : LC c acc es
theorem mid2 (acc B σ : Hp) : (B ++ (acc ++ σ)).Perm (acc ++ (B ++ σ)) := front_perm' acc B σ
section
variable (M : AMem) (r : Nat)
def logB (s : LogS M) : Hp := (r, [M.v, s.c]) :: (s.acc ++ M.B s.m)
theorem aLogLoad (s : LogS M) (a : Int) (σ : Hp) (hf : M.O.free (M.abs s.m)) (hl : s.es.length < 1000000) : ACalls Try.prog 27 [.ptr r 0, .int .i64 a] ((r, [M.v, s.c]) :: (s.acc ++ (M.B s.m ++ σ)))
    (fun x σ' => ∃ s' : LogS M, M.abs s'.m = (M.O.ld (M.abs s.m) a).2 ∧ s'.es = s.es ++ [⟨1, a, 0, 0, (M.O.ld (M.abs s.m) a).1, false⟩] ∧ x = .int .u64 (M.O.ld (M.abs s.m) a).1 ∧ σ' = (r, [M.v, s'.c]) :: (s'.acc ++ (M.B s'.m ++ σ))) := by
  refine okF Try.func27 (by kernel_rfl) ?_
  refine callR [] (aMade r _ _ _ _) ?_
  refine LoadAt.mk 0 _ _ rfl rfl ?_
  refine M.aLoad ((_, _) :: s.acc) hf fun m' hm => ?_
  refine .mk [] _ (aNote r M.v s.c s.acc s.es ⟨1, a, 0, 0, (M.O.ld (M.abs s.m) a).1, false⟩ (M.B m' ++ σ) s.h hl) ?_
  rintro _ _ ⟨rfl, c', acc', h', rfl⟩
  exact .done ⟨⟨m', _, c', acc', h'⟩, hm, rfl, rfl, rfl⟩
theorem aLogStore (s : LogS M) (a w : Int) (σ : Hp) (hf : M.O.free (M.abs s.m)) (hl : s.es.length < 1000000) : ACalls Try.prog 26 [.ptr r 0, .int .i64 a, .int .u64 w] ((r, [M.v, s.c]) :: (s.acc ++ (M.B s.m ++ σ)))
    (fun x σ' => ∃ s' : LogS M, M.abs s'.m = M.O.st (M.abs s.m) a w ∧ s'.es = s.es ++ [⟨2, a, w, 0, 0, false⟩] ∧ x = .tup [] ∧ σ' = (r, [M.v, s'.c]) :: (s'.acc ++ (M.B s'.m ++ σ))) := by
  refine okF Try.func26 (by kernel_rfl) ?_
  refine callR [] (aMade r _ _ _ _) ?_
  refine LoadAt.mk 0 _ _ rfl rfl ?_
  refine M.aStore ((_, _) :: s.acc) hf fun m' hm => ?_
  refine .mk [] _ (aNote r M.v s.c s.acc s.es ⟨2, a, w, 0, 0, false⟩ (M.B m' ++ σ) s.h hl) ?_
  rintro _ _ ⟨rfl, c', acc', h', rfl⟩
  exact .done ⟨⟨m', _, c', acc', h'⟩, hm, rfl, rfl, rfl⟩
theorem aLogCAS (s : LogS M) (a x y : Int) (σ : Hp) (hf : M.O.free (M.abs s.m)) (hl : s.es.length < 1000000) : ACalls Try.prog 29 [.ptr r 0, .int .i64 a, .int .u64 x, .int .u64 y] ((r, [M.v, s.c]) :: (s.acc ++ (M.B s.m ++ σ)))
    (fun z σ' => ∃ s' : LogS M, M.abs s'.m = (M.O.cs (M.abs s.m) a x y).2 ∧ s'.es = s.es ++ [⟨3, a, x, y, 0, (M.O.cs (M.abs s.m) a x y).1⟩] ∧ z = .bool (M.O.cs (M.abs s.m) a x y).1 ∧ σ' = (r, [M.v, s'.c]) :: (s'.acc ++ (M.B s'.m ++ σ))) := by
  refine okF Try.func29 (by kernel_rfl) ?_
  refine callR [] (aMade r _ _ _ _) ?_
  refine LoadAt.mk 0 _ _ rfl rfl ?_
  refine M.aCas ((_, _) :: s.acc) hf fun m' hm => ?_
  refine .mk [] _ (aNote r M.v s.c s.acc s.es ⟨3, a, x, y, 0, (M.O.cs (M.abs s.m) a x y).1⟩ (M.B m' ++ σ) s.h hl) ?_
  rintro _ _ ⟨rfl, c', acc', h', rfl⟩
  exact .done ⟨⟨m', _, c', acc', h'⟩, hm, rfl, rfl, rfl⟩
theorem aLogAdd (s : LogS M) (a d : Int) (σ : Hp) (hf : M.O.free (M.abs s.m)) (hl : s.es.length < 1000000) : ACalls Try.prog 30 [.ptr r 0, .int .i64 a, .int .u64 d] ((r, [M.v, s.c]) :: (s.acc ++ (M.B s.m ++ σ)))
    (fun x σ' => ∃ s' : LogS M, M.abs s'.m = (M.O.ad (M.abs s.m) a d).2 ∧ s'.es = s.es ++ [⟨4, a, d, 0, (M.O.ad (M.abs s.m) a d).1, false⟩] ∧ x = .int .u64 (M.O.ad (M.abs s.m) a d).1 ∧ σ' = (r, [M.v, s'.c]) :: (s'.acc ++ (M.B s'.m ++ σ))) := by
  refine okF Try.func30 (by kernel_rfl) ?_
  refine callR [] (aMade r _ _ _ _) ?_
  refine LoadAt.mk 0 _ _ rfl rfl ?_
  refine M.aAdd ((_, _) :: s.acc) hf fun m' hm => ?_
  refine .mk [] _ (aNote r M.v s.c s.acc s.es ⟨4, a, d, 0, (M.O.ad (M.abs s.m) a d).1, false⟩ (M.B m' ++ σ) s.h hl) ?_
  rintro _ _ ⟨rfl, c', acc', h', rfl⟩
  exact .done ⟨⟨m', _, c', acc', h'⟩, hm, rfl, rfl, rfl⟩
theorem aLogLen (s : LogS M) (σ : Hp) : ACalls Try.prog 15 [.ptr r 0] ((r, [M.v, s.c]) :: (s.acc ++ (M.B s.m ++ σ)))
    (fun x σ' => ∃ s' : LogS M, M.abs s'.m = M.abs s.m ∧ s'.es = s.es ∧ x = .int .i64 (M.O.ln (M.abs s.m)) ∧ σ' = (r, [M.v, s'.c]) :: (s'.acc ++ (M.B s'.m ++ σ))) := by
  refine okF Try.func15 (by kernel_rfl) ?_
  refine callR [] (aMade r _ _ _ _) ?_
  refine LoadAt.mk 0 _ _ rfl rfl ?_
  refine M.aLen ((_, _) :: s.acc) fun m' hm => ?_
  exact .done ⟨⟨m', _, s.c, s.acc, s.h⟩, hm, rfl, rfl, rfl⟩
end
theorem lLen_ : Meth Try.prog 26 "Len" 15 := fun a w => by kernel_rfl
theorem lLoad_ : Meth Try.prog 26 "Load" 27 := fun a w => by kernel_rfl
theorem lStore_ : Meth Try.prog 26 "Store" 26 := fun a w => by kernel_rfl
theorem lCAS_ : Meth Try.prog 26 "CAS" 29 := fun a w => by kernel_rfl
theorem lAdd_ : Meth Try.prog 26 "Add" 30 := fun a w => by kernel_rfl
theorem kStore_ : AheadOk Try.prog 26 "Store" := fun a w => by kernel_rfl
theorem kCAS_ : AheadOk Try.prog 26 "CAS" := fun a w => by kernel_rfl
theorem kAdd_ : AheadOk Try.prog 26 "Add" := fun a w => by kernel_rfl
theorem kLoad_ : AheadOk Try.prog 26 "Load" := fun a w => by kernel_rfl
/-- A Log is a memory. -/
def logM (M : AMem) (r : Nat) : AMem where
  O := logOps M.O
  S := LogS M
  abs s := (M.abs s.m, s.es)
  B s := (r, [M.v, s.c]) :: (s.acc ++ M.B s.m)
  t := 26
  p := r
  load := ⟨_, lLoad_, fun s a σ hf => by
    have := aLogLoad M r s a σ hf.1 hf.2
    rw [← List.append_assoc] at this
    refine this.mono ?_
    rintro _ _ ⟨s', h1, h2, rfl, rfl⟩
    exact ⟨s', Prod.ext h1 h2, rfl, by simp⟩⟩
  store := ⟨_, lStore_, fun s a x σ hf => by
    have := aLogStore M r s a x σ hf.1 hf.2
    rw [← List.append_assoc] at this
    refine this.mono ?_
    rintro _ _ ⟨s', h1, h2, rfl, rfl⟩
    exact ⟨s', Prod.ext h1 h2, rfl, by simp⟩⟩
  cas := ⟨_, lCAS_, fun s a x y σ hf => by
    have := aLogCAS M r s a x y σ hf.1 hf.2
    rw [← List.append_assoc] at this
    refine this.mono ?_
    rintro _ _ ⟨s', h1, h2, rfl, rfl⟩
    exact ⟨s', Prod.ext h1 h2, rfl, by simp⟩⟩
  add := ⟨_, lAdd_, fun s a d σ hf => by
    have := aLogAdd M r s a d σ hf.1 hf.2
    rw [← List.append_assoc] at this
    refine this.mono ?_
    rintro _ _ ⟨s', h1, h2, rfl, rfl⟩
    exact ⟨s', Prod.ext h1 h2, rfl, by simp⟩⟩
  hL := kLoad_
  hS := kStore_
  hC := kCAS_
  hA := kAdd_
  len := ⟨_, lLen_, fun s σ => by
    have := aLogLen M r s σ
    rw [← List.append_assoc] at this
    refine this.mono ?_
    rintro _ _ ⟨s', h1, h2, rfl, rfl⟩
    exact ⟨s', Prod.ext h1 h2, rfl, by simp⟩⟩

theorem SrcAt.mem {σ : Hp} {b off len es : Nat} {cs : List AV} (h : (b, cs) ∈ σ) (h2 : off + len * es ≤ cs.length) : SrcAt σ es (.mref b off len es) len ((cs.drop off).take (len * es)) := by
  obtain ⟨j, hj⟩ := List.mem_iff_getElem?.1 h
  exact .mref j b off len cs hj h2
/-- Clone of events: a list of its own. -/
theorem aCloneE (v : AV) (acc : Hp) (es : List Ev) (σ : Hp) (h : Acc 6 es.length v acc (es.flatMap evC)) (hm : ∀ p ∈ acc, p ∈ σ) (hl : es.length ≤ 1000000) : ACalls Try.prog 32 [v] σ (fun x σ' => ∃ acc', Acc 6 es.length x acc' (es.flatMap evC) ∧ σ' = acc' ++ σ) := by
  have hlen := h.length
  generalize hn : es.length = n at h hlen hl
  generalize hcs : es.flatMap evC = cs at h hlen
  cases h with
  | nil =>
    refine okF Try.func32 (by kernel_rfl) ?_
    exact .done ⟨[], .nil, rfl⟩
  | mref b k cs h =>
    refine okF Try.func32 (by kernel_rfl) ?_
    intro b2
    refine AppendAt.more 0 b2 0 n [] ((cs.drop 0).take (n * 6)) rfl rfl (Nat.le_of_ble_eq_true rfl) (.mem (List.mem_cons_of_mem _ (hm _ (List.mem_singleton.2 rfl))) (by show 0 + n * 6 ≤ cs.length; omega)) (by omega) (by decide) (by decide) (fun b' => ?_)
    refine .done ⟨[(b', cs)], ?_, ?_⟩
    · rw [Nat.zero_add]; exact .mref b' n cs h
    · show (b', List.take (0 * 6) [] ++ (cs.drop 0).take (n * 6)) :: σ = _
      rw [show (cs.drop 0).take (n * 6) = cs by rw [List.drop_zero, List.take_of_length_le (by omega)]]; rfl
section
variable (M : AMem) (r : Nat)
theorem lc_acc {c : AV} {acc : Hp} {es : List Ev} (h : LC c acc es) : Acc 6 es.length (unvia c) acc (es.flatMap evC) := by
  cases h with
  | nil => exact .nil
  | acc v _ _ h => exact h
theorem aEvents (s : LogS M) (σ : Hp) (hl : s.es.length ≤ 1000000) : ACalls Try.prog 13 [.ptr r 0] ((r, [M.v, s.c]) :: (s.acc ++ σ)) (fun x σ' => ∃ acc', Acc 6 s.es.length x acc' (s.es.flatMap evC) ∧ σ' = acc' ++ ((r, [M.v, s.c]) :: (s.acc ++ σ))) := by
  have hc := aCloneE _ _ s.es ((r, [M.v, s.c]) :: (s.acc ++ σ)) (lc_acc s.h) (fun p hp => List.mem_cons_of_mem _ (List.mem_append_left _ hp)) hl
  obtain ⟨m, es, c, acc, h⟩ := s
  cases h with
  | nil =>
    refine okF Try.func13 (by kernel_rfl) ?_
    refine LoadAt.mk 0 _ _ rfl rfl ?_
    refine .mk [] _ hc ?_
    rintro x σ' ⟨acc', h, rfl⟩
    have h' : Acc 6 0 x acc' [] := h
    generalize hn : (0 : Nat) = n at h'
    generalize hcs : ([] : List AV) = cs at h'
    cases h' with
    | nil => exact .done ⟨[], .nil, rfl⟩
    | mref b k cs hh => exact .done ⟨_, h, rfl⟩
  | acc v _ _ hv =>
    refine okF Try.func13 (by kernel_rfl) ?_
    refine LoadAt.mk 0 _ _ rfl rfl ?_
    refine .mk [] _ hc ?_
    rintro x σ' ⟨acc', h, rfl⟩
    have h' : Acc 6 es.length x acc' (es.flatMap evC) := h
    have h := h'
    revert h
    generalize hn : es.length = n at h'
    generalize hcs : es.flatMap evC = cs at h'
    cases h' with
    | nil => intro h; exact .done ⟨[], h, rfl⟩
    | mref b k cs hh => intro h; exact .done ⟨_, h, rfl⟩
theorem aCount (s : LogS M) (σ : Hp) (hl : s.es.length ≤ 1000000) : ACalls Try.prog 14 [.ptr r 0] ((r, [M.v, s.c]) :: (s.acc ++ σ)) (Ret (.int .i64 s.es.length) ((r, [M.v, s.c]) :: (s.acc ++ σ))) := by
  refine okF Try.func14 (by kernel_rfl) ?_
  refine .mk [] _ (aEvents M r s σ hl) ?_
  rintro x σ' ⟨acc', h, rfl⟩
  generalize hn : s.es.length = n at h
  generalize hcs : s.es.flatMap evC = cs at h
  cases h with
  | nil => exact .done ⟨rfl, rfl⟩
  | mref b k cs hh => exact .drop 0 1 (.done ⟨rfl, rfl⟩)
end
end Go.Proofs.Ytphifpfndhfdfaa
