/-
  package record's Log over any memory, by the abstract walk: it is a memory that notes what it is asked.
  A new worker's errors, as variables.
  WorkerOnce: a worker's Step asks the memory once at most.
  What a worker's Step writes are words.
  WorkerOnce: the walk.
-/
import Derived.Test.YtegpahamenjiaaaGreatMm
import Derived.Test.YtegpahamenjiaaaGreatKh
namespace Go.Proofs.YtegpahamenjiaaaGreat
open Go.RowKit
set_option maxRecDepth 100000
/-- An event. -/
structure Ev where
  kind : Int
  at_ : Int
  a : Int
  b : Int
  got : Int
  ok : Bool
deriving DecidableEq
def evC (e : Ev) : List AV := [.int .i64 e.kind, .int .i64 e.at_, .int .u64 e.a, .int .u64 e.b, .int .u64 e.got, .bool e.ok]
def evSh : Sh := .field (.int .i64) (.field (.int .i64) (.field (.int .u64) (.field (.int .u64) (.field (.int .u64) (.field .bool .nil)))))
/-- The events' data. -/
abbrev EvT : Type := Int × Int × Int × Int × Int × Bool × Unit
def Ev.d (e : Ev) : EvT := (e.kind, e.at_, e.a, e.b, e.got, e.ok, ())
theorem ev_flat : ∀ (l : List Ev), l.flatMap evC = (l.map Ev.d).flatMap (fun d : EvT => evSh.cells d)
  | [] => rfl
  | e :: l => by
    show evC e ++ l.flatMap evC = evSh.cells e.d ++ ((l.map Ev.d).flatMap fun d : EvT => evSh.cells d)
    rw [ev_flat l]
    rfl
/-- What a Log's cell has, of the events es; their block is acc. -/
inductive LC : AV → Hp → List Ev → Prop where
  | nil : LC .nils [] []
  | acc (v : AV) (acc : Hp) (es : List Ev) (h : Acc 6 es.length v acc (es.flatMap evC)) : LC (.via v) acc es

theorem aNote (r : Nat) (mv c : AV) (acc : Hp) (es : List Ev) (e : Ev) (σ : Hp) (h : LC c acc es) (hl : es.length < 1000000) : ACalls Tryz.prog 272 [.ptr r 0, .agg (evC e)] ((r, [mv, c]) :: (acc ++ σ)) (fun x σ' => x = .tup [] ∧ ∃ c' acc', LC c' acc' (es ++ [e]) ∧ σ' = (r, [mv, c']) :: (acc' ++ σ)) := by
  have fin : ∀ v' acc', Acc 6 (es.length + 1) v' acc' (es.flatMap evC ++ evC e) → LC (.via v') acc' (es ++ [e]) := fun v' acc' h' => by
    refine .acc _ _ _ ?_
    rw [List.flatMap_append, List.length_append]
    simpa using h'
  cases h with
  | nil =>
    refine okF Tryz.func272 (by kernel_rfl) ?_
    intro b
    refine .each (by kernel_rfl) ?_
    repeat' first
      | refine And.intro ?_ ?_
      | refine LoadAt.mk 1 _ _ rfl rfl ?_
      | refine LoadAt.mk 0 _ _ rfl rfl ?_
      | refine LoadAt.mk 2 _ _ rfl rfl ?_
      | intro b1
    all_goals
      refine append_acc [_, _, _] .nil (.mref 0 _ 0 1 _ rfl (Nat.le_of_ble_eq_true rfl)) rfl (by decide) (by decide) (by decide) (fun v' acc' h' => ?_)
      refine StoreAt.mk 2 _ _ rfl rfl ?_
      exact .drop 0 2 (.done ⟨rfl, _, _, fin v' acc' h', rfl⟩)
  | acc v acc es h =>
    refine okF Tryz.func272 (by kernel_rfl) ?_
    intro b
    refine .each (by kernel_rfl) ?_
    repeat' first
      | refine And.intro ?_ ?_
      | refine LoadAt.mk 1 _ _ rfl rfl ?_
      | refine LoadAt.mk 0 _ _ rfl rfl ?_
      | refine LoadAt.mk 2 _ _ rfl rfl ?_
      | intro b1
    all_goals
      refine append_acc [_, _, _] h (.mref 0 _ 0 1 _ rfl (Nat.le_of_ble_eq_true rfl)) rfl (by omega) (by decide) (by decide) (fun v' acc' h' => ?_)
      refine StoreAt.mk 2 _ _ rfl rfl ?_
      exact .drop 0 2 (.done ⟨rfl, _, _, fin v' acc' h', rfl⟩)

theorem aMade (r t : Nat) (x c : AV) (σ : Hp) : ACalls Tryz.prog 271 [.ptr r 0] ((r, [.iface t x, c]) :: σ) (Ret (.bool true) ((r, [.iface t x, c]) :: σ)) := by
  refine okF Tryz.func271 (by kernel_rfl) ?_
  refine LoadAt.mk 0 _ _ rfl rfl ?_
  exact .done ⟨rfl, rfl⟩
theorem aMadeNil (σ : Hp) : ACalls Tryz.prog 271 [.nilp] σ (Ret (.bool false) σ) := by
  refine okF Tryz.func271 (by kernel_rfl) ?_
  exact .done ⟨rfl, rfl⟩
theorem aLogNew (M : AMem) (σ : Hp) : ACalls Tryz.prog 19 [M.v] σ (fun x σ' => ∃ r, x = .ptr r 0 ∧ σ' = (r, [M.v, .nils]) :: σ) := by
  refine okF Tryz.func19 (by kernel_rfl) ?_
  intro r
  exact .done ⟨r, rfl, rfl⟩

/-- A Log's operations. -/
def logOps (O : MOps) : MOps where
  A := O.A × List Ev
  ld a x := ((O.ld a.1 x).1, (O.ld a.1 x).2, a.2 ++ [⟨1, x, 0, 0, (O.ld a.1 x).1, false⟩])
  st a x w := (O.st a.1 x w, a.2 ++ [⟨2, x, w, 0, 0, false⟩])
  cs a x u w := ((O.cs a.1 x u w).1, (O.cs a.1 x u w).2, a.2 ++ [⟨3, x, u, w, 0, (O.cs a.1 x u w).1⟩])
  ad a x d := ((O.ad a.1 x d).1, (O.ad a.1 x d).2, a.2 ++ [⟨4, x, d, 0, (O.ad a.1 x d).1, false⟩])
  ln a := O.ln a.1
  free a := O.free a.1 ∧ a.2.length < 1000000
/-- Where a Log stands. -/
structure LogS (M : AMem) where
  m : M.S
  es : List Ev
  c : AV
  acc : Hp
  h : LC c acc es
theorem mid2 (acc B σ : Hp) : (B ++ (acc ++ σ)).Perm (acc ++ (B ++ σ)) := front_perm' acc B σ
section
variable (M : AMem) (r : Nat)
def logB (s : LogS M) : Hp := (r, [M.v, s.c]) :: (s.acc ++ M.B s.m)
theorem aLogLoad (s : LogS M) (a : Int) (σ : Hp) (hf : M.O.free (M.abs s.m)) (hl : s.es.length < 1000000) : ACalls Tryz.prog 269 [.ptr r 0, .int .i64 a] ((r, [M.v, s.c]) :: (s.acc ++ (M.B s.m ++ σ)))
    (fun x σ' => ∃ s' : LogS M, M.abs s'.m = (M.O.ld (M.abs s.m) a).2 ∧ s'.es = s.es ++ [⟨1, a, 0, 0, (M.O.ld (M.abs s.m) a).1, false⟩] ∧ x = .int .u64 (M.O.ld (M.abs s.m) a).1 ∧ σ' = (r, [M.v, s'.c]) :: (s'.acc ++ (M.B s'.m ++ σ))) := by
  refine okF Tryz.func269 (by kernel_rfl) ?_
  refine callR [] (aMade r _ _ _ _) ?_
  refine LoadAt.mk 0 _ _ rfl rfl ?_
  refine M.aLoad ((_, _) :: s.acc) hf fun m' hm => ?_
  refine .mk [] _ (aNote r M.v s.c s.acc s.es ⟨1, a, 0, 0, (M.O.ld (M.abs s.m) a).1, false⟩ (M.B m' ++ σ) s.h hl) ?_
  rintro _ _ ⟨rfl, c', acc', h', rfl⟩
  exact .done ⟨⟨m', _, c', acc', h'⟩, hm, rfl, rfl, rfl⟩
theorem aLogStore (s : LogS M) (a w : Int) (σ : Hp) (hf : M.O.free (M.abs s.m)) (hl : s.es.length < 1000000) : ACalls Tryz.prog 270 [.ptr r 0, .int .i64 a, .int .u64 w] ((r, [M.v, s.c]) :: (s.acc ++ (M.B s.m ++ σ)))
    (fun x σ' => ∃ s' : LogS M, M.abs s'.m = M.O.st (M.abs s.m) a w ∧ s'.es = s.es ++ [⟨2, a, w, 0, 0, false⟩] ∧ x = .tup [] ∧ σ' = (r, [M.v, s'.c]) :: (s'.acc ++ (M.B s'.m ++ σ))) := by
  refine okF Tryz.func270 (by kernel_rfl) ?_
  refine callR [] (aMade r _ _ _ _) ?_
  refine LoadAt.mk 0 _ _ rfl rfl ?_
  refine M.aStore ((_, _) :: s.acc) hf fun m' hm => ?_
  refine .mk [] _ (aNote r M.v s.c s.acc s.es ⟨2, a, w, 0, 0, false⟩ (M.B m' ++ σ) s.h hl) ?_
  rintro _ _ ⟨rfl, c', acc', h', rfl⟩
  exact .done ⟨⟨m', _, c', acc', h'⟩, hm, rfl, rfl, rfl⟩
theorem aLogCAS (s : LogS M) (a x y : Int) (σ : Hp) (hf : M.O.free (M.abs s.m)) (hl : s.es.length < 1000000) : ACalls Tryz.prog 290 [.ptr r 0, .int .i64 a, .int .u64 x, .int .u64 y] ((r, [M.v, s.c]) :: (s.acc ++ (M.B s.m ++ σ)))
    (fun z σ' => ∃ s' : LogS M, M.abs s'.m = (M.O.cs (M.abs s.m) a x y).2 ∧ s'.es = s.es ++ [⟨3, a, x, y, 0, (M.O.cs (M.abs s.m) a x y).1⟩] ∧ z = .bool (M.O.cs (M.abs s.m) a x y).1 ∧ σ' = (r, [M.v, s'.c]) :: (s'.acc ++ (M.B s'.m ++ σ))) := by
  refine okF Tryz.func290 (by kernel_rfl) ?_
  refine callR [] (aMade r _ _ _ _) ?_
  refine LoadAt.mk 0 _ _ rfl rfl ?_
  refine M.aCas ((_, _) :: s.acc) hf fun m' hm => ?_
  refine .mk [] _ (aNote r M.v s.c s.acc s.es ⟨3, a, x, y, 0, (M.O.cs (M.abs s.m) a x y).1⟩ (M.B m' ++ σ) s.h hl) ?_
  rintro _ _ ⟨rfl, c', acc', h', rfl⟩
  exact .done ⟨⟨m', _, c', acc', h'⟩, hm, rfl, rfl, rfl⟩
theorem aLogAdd (s : LogS M) (a d : Int) (σ : Hp) (hf : M.O.free (M.abs s.m)) (hl : s.es.length < 1000000) : ACalls Tryz.prog 289 [.ptr r 0, .int .i64 a, .int .u64 d] ((r, [M.v, s.c]) :: (s.acc ++ (M.B s.m ++ σ)))
    (fun x σ' => ∃ s' : LogS M, M.abs s'.m = (M.O.ad (M.abs s.m) a d).2 ∧ s'.es = s.es ++ [⟨4, a, d, 0, (M.O.ad (M.abs s.m) a d).1, false⟩] ∧ x = .int .u64 (M.O.ad (M.abs s.m) a d).1 ∧ σ' = (r, [M.v, s'.c]) :: (s'.acc ++ (M.B s'.m ++ σ))) := by
  refine okF Tryz.func289 (by kernel_rfl) ?_
  refine callR [] (aMade r _ _ _ _) ?_
  refine LoadAt.mk 0 _ _ rfl rfl ?_
  refine M.aAdd ((_, _) :: s.acc) hf fun m' hm => ?_
  refine .mk [] _ (aNote r M.v s.c s.acc s.es ⟨4, a, d, 0, (M.O.ad (M.abs s.m) a d).1, false⟩ (M.B m' ++ σ) s.h hl) ?_
  rintro _ _ ⟨rfl, c', acc', h', rfl⟩
  exact .done ⟨⟨m', _, c', acc', h'⟩, hm, rfl, rfl, rfl⟩
theorem aLogLen (s : LogS M) (σ : Hp) : ACalls Tryz.prog 268 [.ptr r 0] ((r, [M.v, s.c]) :: (s.acc ++ (M.B s.m ++ σ)))
    (fun x σ' => ∃ s' : LogS M, M.abs s'.m = M.abs s.m ∧ s'.es = s.es ∧ x = .int .i64 (M.O.ln (M.abs s.m)) ∧ σ' = (r, [M.v, s'.c]) :: (s'.acc ++ (M.B s'.m ++ σ))) := by
  refine okF Tryz.func268 (by kernel_rfl) ?_
  refine callR [] (aMade r _ _ _ _) ?_
  refine LoadAt.mk 0 _ _ rfl rfl ?_
  refine M.aLen ((_, _) :: s.acc) fun m' hm => ?_
  exact .done ⟨⟨m', _, s.c, s.acc, s.h⟩, hm, rfl, rfl, rfl⟩
end
theorem lLen_ : Meth Tryz.prog 57 "Len" 268 := fun a w => by kernel_rfl
theorem lLoad_ : Meth Tryz.prog 57 "Load" 269 := fun a w => by kernel_rfl
theorem lStore_ : Meth Tryz.prog 57 "Store" 270 := fun a w => by kernel_rfl
theorem lCAS_ : Meth Tryz.prog 57 "CAS" 290 := fun a w => by kernel_rfl
theorem lAdd_ : Meth Tryz.prog 57 "Add" 289 := fun a w => by kernel_rfl
theorem kStore_ : AheadOk Tryz.prog 57 "Store" := fun a w => by kernel_rfl
theorem kCAS_ : AheadOk Tryz.prog 57 "CAS" := fun a w => by kernel_rfl
theorem kAdd_ : AheadOk Tryz.prog 57 "Add" := fun a w => by kernel_rfl
theorem kLoad_ : AheadOk Tryz.prog 57 "Load" := fun a w => by kernel_rfl
/-- A Log is a memory. -/
def logM (M : AMem) (r : Nat) : AMem where
  O := logOps M.O
  S := LogS M
  abs s := (M.abs s.m, s.es)
  B s := (r, [M.v, s.c]) :: (s.acc ++ M.B s.m)
  t := 57
  p := r
  load := ⟨_, lLoad_, fun s a σ hf => by
    have := aLogLoad M r s a σ hf.1 hf.2
    rw [← List.append_assoc] at this
    refine this.mono ?_
    rintro _ _ ⟨s', h1, h2, rfl, rfl⟩
    exact ⟨s', Prod.ext h1 h2, rfl, by simp⟩⟩
  store := ⟨_, lStore_, fun s a x σ hf => by
    have := aLogStore M r s a x σ hf.1 hf.2
    rw [← List.append_assoc] at this
    refine this.mono ?_
    rintro _ _ ⟨s', h1, h2, rfl, rfl⟩
    exact ⟨s', Prod.ext h1 h2, rfl, by simp⟩⟩
  cas := ⟨_, lCAS_, fun s a x y σ hf => by
    have := aLogCAS M r s a x y σ hf.1 hf.2
    rw [← List.append_assoc] at this
    refine this.mono ?_
    rintro _ _ ⟨s', h1, h2, rfl, rfl⟩
    exact ⟨s', Prod.ext h1 h2, rfl, by simp⟩⟩
  add := ⟨_, lAdd_, fun s a d σ hf => by
    have := aLogAdd M r s a d σ hf.1 hf.2
    rw [← List.append_assoc] at this
    refine this.mono ?_
    rintro _ _ ⟨s', h1, h2, rfl, rfl⟩
    exact ⟨s', Prod.ext h1 h2, rfl, by simp⟩⟩
  hL := kLoad_
  hS := kStore_
  hC := kCAS_
  hA := kAdd_
  len := ⟨_, lLen_, fun s σ => by
    have := aLogLen M r s σ
    rw [← List.append_assoc] at this
    refine this.mono ?_
    rintro _ _ ⟨s', h1, h2, rfl, rfl⟩
    exact ⟨s', Prod.ext h1 h2, rfl, by simp⟩⟩

/-- Clone of events: a list of its own. -/
theorem aCloneE (v : AV) (acc : Hp) (es : List Ev) (σ : Hp) (h : Acc 6 es.length v acc (es.flatMap evC)) (hm : ∀ p ∈ acc, p ∈ σ) (hl : es.length ≤ 1000000) : ACalls Tryz.prog 77 [v] σ (fun x σ' => ∃ acc', Acc 6 es.length x acc' (es.flatMap evC) ∧ σ' = acc' ++ σ) := by
  have hlen := h.length
  generalize hn : es.length = n at h hlen hl
  generalize hcs : es.flatMap evC = cs at h hlen
  cases h with
  | nil =>
    refine okF Tryz.func77 (by kernel_rfl) ?_
    exact .done ⟨[], .nil, rfl⟩
  | mref b k cs h =>
    refine okF Tryz.func77 (by kernel_rfl) ?_
    intro b2
    refine AppendAt.more 0 b2 0 n [] ((cs.drop 0).take (n * 6)) rfl rfl (Nat.le_of_ble_eq_true rfl) (.mem (List.mem_cons_of_mem _ (hm _ (List.mem_singleton.2 rfl))) (by show 0 + n * 6 ≤ cs.length; omega)) (by omega) (by decide) (by decide) (fun b' => ?_)
    refine .done ⟨[(b', cs)], ?_, ?_⟩
    · rw [Nat.zero_add]; exact .mref b' n cs h
    · show (b', List.take (0 * 6) [] ++ (cs.drop 0).take (n * 6)) :: σ = _
      rw [show (cs.drop 0).take (n * 6) = cs by rw [List.drop_zero, List.take_of_length_le (by omega)]]; rfl
section
variable (M : AMem) (r : Nat)
theorem lc_acc {c : AV} {acc : Hp} {es : List Ev} (h : LC c acc es) : Acc 6 es.length (unvia c) acc (es.flatMap evC) := by
  cases h with
  | nil => exact .nil
  | acc v _ _ h => exact h
theorem aEvents (s : LogS M) (σ : Hp) (hl : s.es.length ≤ 1000000) : ACalls Tryz.prog 47 [.ptr r 0] ((r, [M.v, s.c]) :: (s.acc ++ σ)) (fun x σ' => ∃ acc', Acc 6 s.es.length x acc' (s.es.flatMap evC) ∧ σ' = acc' ++ ((r, [M.v, s.c]) :: (s.acc ++ σ))) := by
  have hc := aCloneE _ _ s.es ((r, [M.v, s.c]) :: (s.acc ++ σ)) (lc_acc s.h) (fun p hp => List.mem_cons_of_mem _ (List.mem_append_left _ hp)) hl
  obtain ⟨m, es, c, acc, h⟩ := s
  cases h with
  | nil =>
    refine okF Tryz.func47 (by kernel_rfl) ?_
    refine LoadAt.mk 0 _ _ rfl rfl ?_
    refine .mk [] _ hc ?_
    rintro x σ' ⟨acc', h, rfl⟩
    have h' : Acc 6 0 x acc' [] := h
    generalize hn : (0 : Nat) = n at h'
    generalize hcs : ([] : List AV) = cs at h'
    cases h' with
    | nil => exact .done ⟨[], .nil, rfl⟩
    | mref b k cs hh => exact .done ⟨_, h, rfl⟩
  | acc v _ _ hv =>
    refine okF Tryz.func47 (by kernel_rfl) ?_
    refine LoadAt.mk 0 _ _ rfl rfl ?_
    refine .mk [] _ hc ?_
    rintro x σ' ⟨acc', h, rfl⟩
    have h' : Acc 6 es.length x acc' (es.flatMap evC) := h
    have h := h'
    revert h
    generalize hn : es.length = n at h'
    generalize hcs : es.flatMap evC = cs at h'
    cases h' with
    | nil => intro h; exact .done ⟨[], h, rfl⟩
    | mref b k cs hh => intro h; exact .done ⟨_, h, rfl⟩
theorem aCount (s : LogS M) (σ : Hp) (hl : s.es.length ≤ 1000000) : ACalls Tryz.prog 20 [.ptr r 0] ((r, [M.v, s.c]) :: (s.acc ++ σ)) (Ret (.int .i64 s.es.length) ((r, [M.v, s.c]) :: (s.acc ++ σ))) := by
  refine okF Tryz.func20 (by kernel_rfl) ?_
  refine .mk [] _ (aEvents M r s σ hl) ?_
  rintro x σ' ⟨acc', h, rfl⟩
  generalize hn : s.es.length = n at h
  generalize hcs : s.es.flatMap evC = cs at h
  cases h with
  | nil => exact .done ⟨rfl, rfl⟩
  | mref b k cs hh => exact .drop 0 1 (.done ⟨rfl, rfl⟩)
end
end Go.Proofs.YtegpahamenjiaaaGreat
namespace Go.Proofs.YtegpahamenjiaaaGreat
open Go.RowKit
set_option maxRecDepth 100000
theorem far_tz {z : Int} (hz : 1 = z) : AV.tup [.nilp, .int .i64 1] = .tup [.nilp, .int .i64 z] := by rw [hz]
theorem aNewOkZ (s : Sy) (L : Lay) (who : Int) (σ : Hp) (hf : Fit s) (he : ofE s L.k = 0) (hL : layOf s L.k = L) (h0 : 0 ≤ who) (h1 : who < L.k) {z : Int} (hz : 0 = z) : ACalls Tryz.prog 15 [.agg (sysC s), .agg (layV L), .int .i64 who] σ (fun r σ' => ∃ w, r = .tup [.ptr w 0, .int .i64 z] ∧ σ' = WB s L who w 0 .nils [] ws0 ++ σ) := hz ▸ aNewOk s L who σ hf he hL h0 h1
end Go.Proofs.YtegpahamenjiaaaGreat
namespace Go.Proofs.YtegpahamenjiaaaGreat
open Go.RowKit
set_option maxRecDepth 100000
theorem pop_once (O : MOps) (q : DQ) (a : O.A) (es : List Ev) : (popStep (logOps O) q (a, es)).2.1.2.length ≤ es.length + 1 := by
  unfold popStep logOps
  dsimp only
  repeat' split
  all_goals simp
theorem steal_once (O : MOps) (q : DQ) (a : O.A) (es : List Ev) : (stealStep (logOps O) q (a, es)).2.1.2.length ≤ es.length + 1 := by
  unfold stealStep logOps
  dsimp only
  repeat' split
  all_goals simp
theorem push_once (O : MOps) (q : DQ) (a : O.A) (es : List Ev) : (pushStep (logOps O) q (a, es)).2.1.2.length ≤ es.length + 1 := by
  unfold pushStep logOps
  dsimp only
  repeat' split
  all_goals simp
theorem jn_once (O : MOps) (q : Jn) (a : O.A) (es : List Ev) : (jnStep (logOps O) q (a, es)).2.1.2.length ≤ es.length + 1 := by
  unfold jnStep logOps
  dsimp only
  repeat' split
  all_goals simp
theorem tk_once (O : MOps) (q : Tk) (a : O.A) (es : List Ev) : (tkStep (logOps O) q (a, es)).2.1.2.length ≤ es.length + 1 := by
  unfold tkStep logOps
  dsimp only
  repeat' split
  all_goals simp
theorem ck_once (O : MOps) (q : Ck) (a : O.A) (es : List Ev) : (ckStep (logOps O) q (a, es)).2.1.2.length ≤ es.length + 1 := by
  unfold ckStep logOps
  dsimp only
  repeat' split
  all_goals simp
theorem rk_once (O : MOps) (q : Rk) (a : O.A) (es : List Ev) : (rkStep (logOps O) q (a, es)).2.1.2.length ≤ es.length + 1 := by
  unfold rkStep logOps
  dsimp only
  repeat' split
  all_goals simp
theorem qk_once (O : MOps) (q : Qk) (a : O.A) (es : List Ev) : (qkStep (logOps O) q (a, es)).2.1.2.length ≤ es.length + 1 := by
  unfold qkStep logOps
  dsimp only
  repeat' split
  all_goals simp
theorem read_once (O : MOps) (l : Lay) (b : Int) (x : List Int) (a : O.A) (es : List Ev) : (readStep (logOps O) l b x (a, es)).2.1.2.length ≤ es.length + 1 := by
  unfold readStep logOps
  dsimp only
  repeat' split
  all_goals simp
theorem nw_once (O : MOps) (l : Lay) (node : Int) (n : Nw) (a : O.A) (es : List Ev) : (nwStep (logOps O) l node n (a, es)).2.1.2.length ≤ es.length + 1 := by
  cases n with
  | none => exact Nat.le_succ _
  | pop q => exact pop_once O q a es
  | steal q => exact steal_once O q a es
  | quiet q => exact qk_once O q a es
  | clear q => exact ck_once O q a es
  | read q => exact read_once O l _ q a es
  | join q => exact jn_once O q a es
  | take q => exact tk_once O q a es
  | push q => exact push_once O q a es
  | retire q => exact rk_once O q a es
theorem wStep_once (O : MOps) (s : Sy) (l : Lay) (who : Int) (x : WS) (d : Int) (a : O.A) (es : List Ev) : (wStep (logOps O) s l who x d (a, es)).2.1.2.length ≤ es.length + 1 := by
  unfold wStep
  repeat' split
  · exact Nat.le_succ _
  · exact nw_once O l _ _ a es
  · exact nw_once O l _ _ a es
theorem ACalls.perm2 {P : Program} {f : FuncId} {xs : List AV} {σ σ2 σ3 σ4 : Hp} {x : AV} (h : ACalls P f xs σ2 (Ret x σ3)) (hp : σ2.Perm σ) (hq : σ4.Perm σ3) : ACalls P f xs σ (Ret x σ4) :=
  callAt_get (.perm _ hp h fun _ _ h' => ⟨σ4, h'.2 ▸ hq, h'.1, rfl⟩)
theorem aCountAt (M : AMem) (r : Nat) (s : LogS M) (fr σ : Hp) (hl : s.es.length ≤ 1000000) : ACalls Tryz.prog 20 [.ptr r 0] (fr ++ ((logM M r).B s ++ σ)) (Ret (.int .i64 s.es.length) (fr ++ ((logM M r).B s ++ σ))) := by
  have h := aCount M r s (M.B s.m ++ (fr ++ σ)) hl
  have e : (r, [M.v, s.c]) :: (s.acc ++ (M.B s.m ++ (fr ++ σ))) = (logM M r).B s ++ (fr ++ σ) := by
    show _ = ((r, [M.v, s.c]) :: (s.acc ++ M.B s.m)) ++ (fr ++ σ)
    simp
  rw [e] at h
  exact h.perm2 (front_perm' fr _ σ) (front_perm' fr _ σ).symm
end Go.Proofs.YtegpahamenjiaaaGreat
namespace Go.Proofs.YtegpahamenjiaaaGreat
open Go.RowKit
set_option maxRecDepth 100000
theorem wu_w64 (z : Int) : W64 (wu z) := by
  show W64 (IntKind.u64.wrap z)
  rw [IntKind.wrap_u64]
  exact ⟨by omega, by omega⟩
theorem sto_64 {ws : List Int} (h : A64 ws) (a : Int) {x : Int} (hx : W64 x) : A64 (mStore ws a x) := by
  unfold mStore
  split
  · exact h
  · intro z hz
    rcases List.mem_or_eq_of_mem_set hz with hz | rfl
    · exact h z hz
    · exact hx
theorem cast_64 {ws : List Int} (h : A64 ws) (a o : Int) {x : Int} (hx : W64 x) : A64 (mCasTo ws a o x) := by
  unfold mCasTo
  split
  · exact sto_64 h a hx
  · exact h
theorem addTo_64 {ws : List Int} (h : A64 ws) (a d : Int) : A64 (mAddTo ws a d) := by
  unfold mAddTo
  split
  · exact sto_64 h a ⟨by omega, by omega⟩
  · exact h
/-- A machine whose words are words. -/
def nw64 : Nw → Prop
  | .pop q => W64 q.b
  | .push q => W64 q.n
  | .join j => A64 j.a ∧ W64 j.x
  | .read x => A64 x
  | _ => True
theorem pop_64 {q : DQ} {ws : List Int} {es : List Ev} (hq : W64 q.b) (h : A64 ws) : A64 (popStep (logOps listOps) q (ws, es)).2.1.1 ∧ W64 (popStep (logOps listOps) q (ws, es)).1.b := by
  unfold popStep logOps listOps
  dsimp only
  repeat' split
  all_goals
    first
    | exact ⟨h, hq⟩
    | exact ⟨h, wu_w64 _⟩
    | exact ⟨sto_64 h _ hq, hq⟩
    | exact ⟨sto_64 h _ (wu_w64 _), hq⟩
    | exact ⟨cast_64 h _ _ (wu_w64 _), hq⟩
theorem steal_64 {q : DQ} {ws : List Int} {es : List Ev} (h : A64 ws) : A64 (stealStep (logOps listOps) q (ws, es)).2.1.1 := by
  unfold stealStep logOps listOps
  dsimp only
  repeat' split
  all_goals
    first
    | exact h
    | exact cast_64 h _ _ (wu_w64 _)
theorem push_64 {q : DQ} {ws : List Int} {es : List Ev} (hq : W64 q.n) (h : A64 ws) : A64 (pushStep (logOps listOps) q (ws, es)).2.1.1 ∧ W64 (pushStep (logOps listOps) q (ws, es)).1.n := by
  unfold pushStep logOps listOps
  dsimp only
  repeat' split
  all_goals
    first
    | exact ⟨h, hq⟩
    | exact ⟨sto_64 h _ hq, hq⟩
    | exact ⟨sto_64 h _ (wu_w64 _), hq⟩
theorem jn_64 {j : Jn} {ws : List Int} {es : List Ev} (hj : A64 j.a ∧ W64 j.x) (h : A64 ws) : A64 (jnStep (logOps listOps) j (ws, es)).2.1.1 ∧ A64 (jnStep (logOps listOps) j (ws, es)).1.a ∧ W64 (jnStep (logOps listOps) j (ws, es)).1.x := by
  obtain ⟨h2, h3⟩ := hj
  have hx := word_64 (what := j.what) h3 (wd_64 h2 j.at_)
  unfold jnStep jnNext logOps listOps
  dsimp only
  repeat' split
  all_goals
    first
    | exact ⟨h, h2, h3⟩
    | exact ⟨cast_64 h _ _ hx, h2, h3⟩
    | exact ⟨h, h2, load_64 h _⟩
theorem tk_64 {t : Tk} {ws : List Int} {es : List Ev} (h : A64 ws) : A64 (tkStep (logOps listOps) t (ws, es)).2.1.1 := by
  unfold tkStep logOps listOps
  dsimp only
  repeat' split
  all_goals
    first
    | exact h
    | exact addTo_64 h _ _
    | exact cast_64 h _ _ ⟨by decide, by decide⟩
theorem ck_64 {t : Ck} {ws : List Int} {es : List Ev} (h : A64 ws) : A64 (ckStep (logOps listOps) t (ws, es)).2.1.1 := by
  unfold ckStep logOps listOps
  dsimp only
  repeat' split
  all_goals
    first
    | exact h
    | exact sto_64 h _ ⟨by decide, by decide⟩
theorem rk_64 {t : Rk} {ws : List Int} {es : List Ev} (h : A64 ws) : A64 (rkStep (logOps listOps) t (ws, es)).2.1.1 := by
  unfold rkStep logOps listOps
  dsimp only
  repeat' split
  all_goals
    first
    | exact h
    | exact addTo_64 h _ _
theorem qk_64 {t : Qk} {ws : List Int} {es : List Ev} (h : A64 ws) : A64 (qkStep (logOps listOps) t (ws, es)).2.1.1 := by
  unfold qkStep logOps listOps
  dsimp only
  repeat' split
  all_goals exact h
theorem rd_64 {l : Lay} {b : Int} {x : List Int} {ws : List Int} {es : List Ev} (hx : A64 x) (h : A64 ws) : A64 (readStep (logOps listOps) l b x (ws, es)).2.1.1 ∧ A64 (readStep (logOps listOps) l b x (ws, es)).1 := by
  unfold readStep logOps listOps
  dsimp only
  split
  · refine ⟨h, fun z hz => ?_⟩
    rcases List.mem_append.1 hz with hz | hz
    · exact hx z hz
    · rw [List.mem_singleton.1 hz]; exact load_64 h _
  · exact ⟨h, hx⟩
theorem nw_64 {l : Lay} {node : Int} {n : Nw} {ws : List Int} {es : List Ev} (hn : nw64 n) (h : A64 ws) : A64 (nwStep (logOps listOps) l node n (ws, es)).2.1.1 ∧ nw64 (nwStep (logOps listOps) l node n (ws, es)).1 := by
  cases n with
  | none => exact ⟨h, trivial⟩
  | pop q => exact pop_64 hn h
  | steal q => exact ⟨steal_64 h, trivial⟩
  | quiet q => exact ⟨qk_64 h, trivial⟩
  | clear q => exact ⟨ck_64 h, trivial⟩
  | read q => exact rd_64 hn h
  | join q => exact jn_64 hn h
  | take q => exact ⟨tk_64 h, trivial⟩
  | push q => exact push_64 hn h
  | retire q => exact ⟨rk_64 h, trivial⟩
theorem beg_64 {l : Lay} {who does node : Int} {nx out : List Int} {d : Int} (ho : A64 out) : nw64 (begW l who does node nx out d) := by
  unfold begW
  repeat' split
  all_goals
    first
    | trivial
    | exact (⟨by decide, by decide⟩ : W64 0)
    | exact wu_w64 _
    | exact (⟨ho, ⟨by decide, by decide⟩⟩ : A64 out ∧ W64 0)
    | exact (fun _ hz => (nomatch hz) : A64 [])
theorem at_64 {l : Lay} {who : Int} {x : WS} {d : Int} (ho : A64 x.out) (hn : nw64 x.now) : nw64 (atW l who x d) := by
  unfold atW
  split
  · exact beg_64 ho
  · exact hn
theorem out_64 {s : Sy} {y : List Int} {v : Nat} (h : A64 y) : A64 (outS s y v) := by
  unfold outS
  exact applyR_64 h
theorem beh_64 {s : Sy} {l : Lay} {x : WS} {n : Nw} (ho : A64 x.out) (hn : nw64 n) (hx : n = .none → nw64 x.now) : A64 (behW s l x n).out ∧ nw64 (behW s l x n).now := by
  cases n with
  | none => exact ⟨ho, hx rfl⟩
  | read y => exact ⟨okL_64 (out_64 hn), trivial⟩
  | _ =>
    unfold behW
    dsimp only
    repeat' split
    all_goals exact ⟨ho, trivial⟩
theorem wStep_64 {s : Sy} {l : Lay} {who : Int} {x : WS} {d : Int} {ws : List Int} {es : List Ev} (ho : A64 x.out) (hn : nw64 x.now) (h : A64 ws) : A64 (wStep (logOps listOps) s l who x d (ws, es)).2.1.1 ∧ A64 (wStep (logOps listOps) s l who x d (ws, es)).1.out ∧ nw64 (wStep (logOps listOps) s l who x d (ws, es)).1.now := by
  have hs := nw_64 (l := l) (node := x.node) (es := es) (at_64 (l := l) (who := who) (d := d) ho hn) h
  unfold wStep
  split
  · exact ⟨h, ho, hn⟩
  split
  · exact ⟨hs.1, beh_64 ho hs.2 (fun _ => hn)⟩
  · exact ⟨hs.1, ho, hs.2⟩
end Go.Proofs.YtegpahamenjiaaaGreat
namespace Go.Proofs.YtegpahamenjiaaaGreat
open Go.RowKit
set_option maxRecDepth 100000
theorem lay_k6 {s : Sy} {k : Int} (h : k ≤ 6) : (layOf s k).k ≤ 64 := by
  show okI (ofE s k) k ≤ 64
  unfold okI
  split <;> omega
theorem ok0 (l : Lay) : okWk l ws0 := ⟨(fun h => by rcases h with h | h | h <;> cases h), (fun h => by cases h), trivial⟩
theorem new_plH (p q n : Nat) (σ : Hp) : (p, plC q n) :: (q, woC (List.replicate n 0)) :: σ = plH p q (List.replicate n 0) σ := by
  unfold plH
  rw [List.length_replicate]
theorem workerOnce_walk (s : Sy) (k who : Int) (words ds : List Int) (hi : A64 s.init) (ht : ∀ t ∈ s.T, A64 t.1 ∧ A64 t.2.1) (hw : A64 words) : ACalls Tryz.prog 4 [.agg (sysC s), .int .i64 k, .int .i64 who, .fsl (.int .u64) words, .fsl (.int .i64) ds] [] (fun r _ => r = .bool true) := by
  refine okF Tryz.func4 (by kernel_rfl) ?_
  intro bl1
  refine callR [] (aAwake33 _) ?_
  refine LoadAt.mk 0 _ _ rfl rfl ?_
  refine callS [] (aSmall17 s _) (fun hsm => ?_) ?_
  rotate_left
  · exact .done rfl
  have hf := fit_of hsm hi ht
  refine bcond_dec (fun h1 => ?_) (fun h1 => ?_)
  · exact .done rfl
  have h1 : ¬ 200 < (words.length : Int) := h1
  refine bcond_dec (fun h2 => ?_) (fun h2 => ?_)
  · exact .done rfl
  have h2 : ¬ 200 < (ds.length : Int) := h2
  obtain ⟨z0, hz0⟩ : ∃ z : Int, 0 = z := ⟨0, rfl⟩
  obtain ⟨z1, hz1⟩ : ∃ z : Int, 1 = z := ⟨1, rfl⟩
  obtain ⟨k', hk'⟩ : ∃ x, x = (if 6 < k then 6 else k) := ⟨_, rfl⟩
  have hk6 : k' ≤ 6 := by rw [hk']; split <;> omega
  obtain ⟨L, hL⟩ : ∃ L, L = layOf s k' := ⟨_, rfl⟩
  have hL64 : L.k ≤ 64 := by rw [hL]; exact lay_k6 hk6
  refine LoadAt.mk 0 _ _ rfl rfl ?_
  refine callR [] (acalls_eq (y := .tup [.agg (layV L), .int .i64 (ofE s k')]) (aLayOf s (if 6 < k then 6 else k) _ hf) (by rw [hL, hk'])) ?_
  intro bl2
  refine StoreAt.mk 0 _ _ rfl rfl ?_
  refine LoadAt.mk 1 _ _ rfl rfl ?_
  refine LoadAt.mk 0 _ _ rfl rfl ?_
  by_cases he : ofE s L.k = 0
  · by_cases hh : layOf s L.k = L ∧ 0 ≤ who ∧ who < L.k
    · (refine .mk [] _ (aNewOkZ s L who _ hf he hh.1 hh.2.1 hh.2.2 hz0) ?_; rintro _ _ ⟨w, rfl, rfl⟩)
      refine bcond_split (fun c => absurd hz0.symm (by simpa using c)) (fun c => ?_)
      refine LoadAt.mk 1 _ _ rfl rfl ?_
      refine callR [] (aLSize L _) ?_
      refine .mk [] _ (aNew _ _) ?_
      rintro _ _ ⟨p, q, rfl, rfl⟩
      obtain ⟨Z, hZ⟩ : ∃ Z, Z = (List.replicate (cutN (dqB L L.k)) 0 : List Int) := ⟨_, rfl⟩
      have hZ64 : A64 Z := fun z hz => by rw [hZ] at hz; rw [List.eq_of_mem_replicate hz]; exact ⟨by decide, by decide⟩
      refine loopS (S := Nat × List Int) (fun t => [(4, .fsl (.int .i64) ds), (13, .ptr w 0), (15, .ptr p 0), (58, .fsl (.int .u64) words), (59, .int .i64 words.length), (60, .int .i64 t.1)])
        (fun t => plH p q t.2 (WB s L who w 0 .nils [] ws0 ++ [(bl2, layV L), (bl1, sysC s)])) (fun t => t.1 ≤ words.length ∧ A64 t.2) (fun t => words.length - t.1) (0, Z) ⟨⟨Nat.zero_le _, hZ64⟩, ⟨rfl, rfl, rfl, rfl, rfl, rfl, trivial⟩, by rw [hZ]; exact new_plH p q _ _⟩ ?_
      rintro ⟨i, ws⟩ g ⟨hi, h64⟩
      have hi : i ≤ words.length := hi
      have h64 : A64 ws := h64
      refine bcond_dec (fun hlt => ?_) (fun hge => ?_)
      · have hlt : (i : Int) < words.length := hlt
        have hlt : i < words.length := by omega
        refine With.mk rfl (IdxF.mk words[i] (by omega) (get_some hlt) ?_)
        refine callR [] (aStore p q ws i words[i] _) ?_
        refine next (i + 1, mStore ws i words[i]) ?_ ⟨hlt, sto_64 h64 i (hw _ (List.getElem_mem hlt))⟩ ⟨rfl, rfl, rfl, rfl, rfl, inc64 (by omega), trivial⟩ rfl
        show words.length - (i + 1) < words.length - i; omega
      · refine .mk [] _ (aLogNew (plainM p q) _) ?_
        rintro _ _ ⟨rl, rfl, rfl⟩
        refine .shed (.pull [3] (.refl _)) ?_
        refine loopS (S := Nat × WS × LogS (plainM p q) × Nat × AV × Hp) (fun t => [(13, .ptr w 0), (18, .ptr rl 0), (73, .fsl (.int .i64) ds), (74, .int .i64 ds.length), (75, .int .i64 t.1)])
          (fun t => WB s L who w t.2.2.2.1 t.2.2.2.2.1 t.2.2.2.2.2 t.2.1 ++ ((logM (plainM p q) rl).B t.2.2.1 ++ [(bl2, layV L), (bl1, sysC s)])) (fun t => t.1 ≤ ds.length ∧ t.2.2.1.es.length ≤ t.1 ∧ A64 t.2.2.1.m ∧ okWk L t.2.1 ∧ okRd t.2.2.2.2.1 t.2.2.2.2.2 t.2.1.now ∧ A64 t.2.1.out ∧ nw64 t.2.1.now) (fun t => ds.length - t.1) (0, ws0, ⟨ws, [], .nils, [], .nil⟩, 0, .nils, []) ⟨⟨Nat.zero_le _, Nat.le_refl _, h64, ok0 L, trivial, (fun z hz => by cases hz), trivial⟩, ⟨rfl, rfl, rfl, rfl, rfl, trivial⟩, rfl⟩ ?_
        rintro ⟨j, x, ls, r, cc, acc⟩ g ⟨hj, hes, hm64, hok, hrd, hout, hnow⟩
        have hj : j ≤ ds.length := hj
        have hes : ls.es.length ≤ j := hes
        have hm64 : A64 (ls.m : List Int) := hm64
        have hok : okWk L x := hok
        have hrd : okRd cc acc x.now := hrd
        have hout : A64 x.out := hout
        have hnow : nw64 x.now := hnow
        refine bcond_dec (fun hlt => ?_) (fun hge => ?_)
        · have hlt : j < ds.length := by have hlt : (j : Int) < ds.length := hlt; omega
          refine With.mk rfl (IdxF.mk ds[j] (by omega) (get_some hlt) ?_)
          refine callR [] (aCountAt (plainM p q) rl ls (WB s L who w r cc acc x) [(bl2, layV L), (bl1, sysC s)] (by omega)) ?_
          have hfr : (logM (plainM p q) rl).O.free ((logM (plainM p q) rl).abs ls) := ⟨trivial, by show ls.es.length < 1000000; omega⟩
          have hvl : ∀ a, W64 ((logM (plainM p q) rl).O.ld ((logM (plainM p q) rl).abs ls) a).1 := fun a => load_64 hm64 a
          refine .mk [] _ (aWStep (logM (plainM p q) rl) w r cc acc s L who x ds[j] ls [(bl2, layV L), (bl1, sysC s)] hf hfr hvl hok hrd) ?_
          rintro _ _ ⟨ls', r', c', acc', hr', ha, rfl, rfl⟩
          have hle : ls'.es.length ≤ ls.es.length + 1 := by
            have h := congrArg (fun a : List Int × List Ev => a.2.length) ha
            have h : ls'.es.length = (wStep (logOps listOps) s L who x ds[j] (ls.m, ls.es)).2.1.2.length := h
            rw [h]
            exact wStep_once listOps s L who x ds[j] ls.m ls.es
          have h64s := wStep_64 (s := s) (l := L) (who := who) (d := ds[j]) (es := ls.es) hout hnow hm64
          have h64' : A64 (ls'.m : List Int) := by
            have h := congrArg (fun a : List Int × List Ev => a.1) ha
            have h : ls'.m = (wStep (logOps listOps) s L who x ds[j] (ls.m, ls.es)).2.1.1 := h
            rw [h]
            exact h64s.1
          have hok' : okWk L (wStep (logOps listOps) s L who x ds[j] (ls.m, ls.es)).1 := wStep_ok hL64 (fun a => load_64 hm64 a) hok
          refine callR [] (aCountAt (plainM p q) rl ls' (WB s L who w r' c' acc' (wStep (logOps listOps) s L who x ds[j] (ls.m, ls.es)).1) [(bl2, layV L), (bl1, sysC s)] (by omega)) ?_
          refine bcond_dec (fun h => ?_) (fun _ => ?_)
          · have h : IntKind.i64.wrap ((ls.es.length : Int) + 1) < (ls'.es.length : Int) := h
            rw [IntKind.wrap_i64] at h
            omega
          refine next (j + 1, _, ls', r', c', acc') ?_ ⟨hlt, by show ls'.es.length ≤ j + 1; omega, h64', hok', hr', h64s.2⟩ ⟨rfl, rfl, rfl, rfl, inc64 (by omega), trivial⟩ rfl
          show ds.length - (j + 1) < ds.length - j; omega
        · exact .done rfl
    · refine callR [] (acalls_eq (aNewFar s L who _ hf he hh) (far_tz hz1)) ?_
      refine bcond_split (fun c => ?_) (fun c => absurd (show z1 = 0 by simpa using c) (fun h => by omega))
      exact .done rfl
  · refine callR [] (aNewBad s L who _ hf he) ?_
    refine bcond_split (fun c => ?_) (fun c => absurd (show ofE s L.k = 0 by simpa using c) he)
    exact .done rfl
end Go.Proofs.YtegpahamenjiaaaGreat
