/-
  Po: what the claim uses of them.
-/
import Derived.Test.YtacacplipaeokaaBn41
namespace Go.Proofs.Ytacacplipaeokaa
open Go.RowKit
set_option maxRecDepth 100000
set_option maxHeartbeats 4000000
theorem ACalls.via {P : Program} {f : FuncId} {xs : List AV} {σ σ2 : Hp} {R R' : AV → Hp → Prop} (h : ACalls P f xs σ2 R) (hp : σ2.Perm σ) (go : ∀ r σ', R r σ' → ∃ σ3, σ3.Perm σ' ∧ R' r σ3) : ACalls P f xs σ R' :=
  callAt_get (.perm R hp h go)
structure PWS where
  ws : List Int
  us : Nat
  ops : List OpR
  Z : List (Nat × PW)
  v : AV
  acc : Hp
  hacc : Acc 6 ops.length v acc (ops.flatMap opC)
def PWS.abs (s : PWS) : PA := ⟨s.ws, s.us, s.ops, s.Z.map (·.2)⟩
def PWS.B (cap : Int) (pl p q : Nat) (I : List (Nat × Nat)) (s : PWS) : Hp := (pl, opsH s.us s.v) :: (s.acc ++ plH p q s.ws (zBs cap pl I s.Z))
theorem mWork_ : Meth Try.prog 85 "Step" 105 := fun a w => by kernel_rfl
section
variable {cap : Int} {pl p q : Nat} {I : List (Nat × Nat)}
theorem zBs_at {Z : List (Nat × PW)} {i : Nat} (hi : i < I.length) (hz : i < Z.length) : (zBs cap pl I Z).Perm (wkB I[i].1 cap pl I[i].2 Z[i].1 Z[i].2 ++ ((I.zip Z).eraseIdx i).flatMap (zB cap pl)) := by
  have h : i < (I.zip Z).length := by simp; omega
  have h1 := flatM_perm (f := zB cap pl) h
  have e : (I.zip Z)[i] = (I[i], Z[i]) := by simp
  rw [e] at h1
  exact h1
theorem zBs_set {Z : List (Nat × PW)} {i : Nat} (hi : i < I.length) (hz : i < Z.length) (y : Nat × PW) : (zBs cap pl I (Z.set i y)).Perm (wkB I[i].1 cap pl I[i].2 y.1 y.2 ++ ((I.zip Z).eraseIdx i).flatMap (zB cap pl)) := by
  have h : i < (I.zip Z).length := by simp; omega
  have h1 := flatM_set (f := zB cap pl) h (I[i], y)
  rw [← zip_set _ _ _ _ hi] at h1
  exact h1
/-- The blocks about one worker. -/
theorem B_at {s : PWS} {i : Nat} (σ : Hp) (hi : i < I.length) (hz : i < s.Z.length) : (PWS.B cap pl p q I s ++ σ).Perm ((I[i].2, wkP I[i].1 cap pl s.Z[i].2.todo (nwP s.Z[i].1 s.Z[i].2.now) s.Z[i].2.op) :: (pl, opsH s.us s.v) :: (nbP s.Z[i].1 s.Z[i].2.now ++ (s.acc ++ plH p q s.ws (((I.zip s.Z).eraseIdx i).flatMap (zB cap pl) ++ σ)))) := by
  have h1 : (PWS.B cap pl p q I s ++ σ).Perm ([(pl, opsH s.us s.v)] ++ (s.acc ++ ([(p, plC q s.ws.length), (q, woC s.ws)] ++ ([(I[i].2, wkP I[i].1 cap pl s.Z[i].2.todo (nwP s.Z[i].1 s.Z[i].2.now) s.Z[i].2.op)] ++ (nbP s.Z[i].1 s.Z[i].2.now ++ (((I.zip s.Z).eraseIdx i).flatMap (zB cap pl) ++ σ)))))) := by
    have h := (zBs_at (cap := cap) (pl := pl) hi hz).append_right σ
    have e : PWS.B cap pl p q I s ++ σ = (pl, opsH s.us s.v) :: (s.acc ++ ([(p, plC q s.ws.length), (q, woC s.ws)] ++ (zBs cap pl I s.Z ++ σ))) := by simp [PWS.B, plH]
    rw [e]
    refine List.Perm.cons _ (List.Perm.append_left _ (List.Perm.append_left _ ?_))
    rw [List.append_assoc] at h
    exact h
  refine h1.trans ?_
  exact blk_perm [[(pl, opsH s.us s.v)], s.acc, [(p, plC q s.ws.length), (q, woC s.ws)], [(I[i].2, wkP I[i].1 cap pl s.Z[i].2.todo (nwP s.Z[i].1 s.Z[i].2.now) s.Z[i].2.op)], nbP s.Z[i].1 s.Z[i].2.now, ((I.zip s.Z).eraseIdx i).flatMap (zB cap pl)] σ (a := [0, 1, 2, 3, 4, 5]) (b := [3, 0, 4, 1, 2, 5]) (by decide)
theorem B_to {s : PWS} {i : Nat} (σ : Hp) (hi : i < I.length) (hz : i < s.Z.length) (s' : PWS) (y : Nat × PW) (hZ : s'.Z = s.Z.set i y) : (PWS.B cap pl p q I s' ++ σ).Perm ((I[i].2, wkP I[i].1 cap pl y.2.todo (nwP y.1 y.2.now) y.2.op) :: (pl, opsH s'.us s'.v) :: (nbP y.1 y.2.now ++ (s'.acc ++ plH p q s'.ws (((I.zip s.Z).eraseIdx i).flatMap (zB cap pl) ++ σ)))) := by
  have h1 : (PWS.B cap pl p q I s' ++ σ).Perm ([(pl, opsH s'.us s'.v)] ++ (s'.acc ++ ([(p, plC q s'.ws.length), (q, woC s'.ws)] ++ ([(I[i].2, wkP I[i].1 cap pl y.2.todo (nwP y.1 y.2.now) y.2.op)] ++ (nbP y.1 y.2.now ++ (((I.zip s.Z).eraseIdx i).flatMap (zB cap pl) ++ σ)))))) := by
    have h := (zBs_set (cap := cap) (pl := pl) hi hz y).append_right σ
    have e : PWS.B cap pl p q I s' ++ σ = (pl, opsH s'.us s'.v) :: (s'.acc ++ ([(p, plC q s'.ws.length), (q, woC s'.ws)] ++ (zBs cap pl I (s.Z.set i y) ++ σ))) := by simp [PWS.B, plH, hZ]
    rw [e]
    refine List.Perm.cons _ (List.Perm.append_left _ (List.Perm.append_left _ ?_))
    rw [List.append_assoc] at h
    exact h
  refine h1.trans ?_
  exact blk_perm [[(pl, opsH s'.us s'.v)], s'.acc, [(p, plC q s'.ws.length), (q, woC s'.ws)], [(I[i].2, wkP I[i].1 cap pl y.2.todo (nwP y.1 y.2.now) y.2.op)], nbP y.1 y.2.now, ((I.zip s.Z).eraseIdx i).flatMap (zB cap pl)] σ (a := [0, 1, 2, 3, 4, 5]) (b := [3, 0, 4, 1, 2, 5]) (by decide)
/-- One worker's Step among all. -/
theorem aWorkAt {s : PWS} {i : Nat} {d : Int} (σ : Hp) (hi : i < I.length) (hI : I[i].1 = i) (hf : FreeA I.length s.abs) : ACalls Try.prog 105 [.ptr I[i].2 0, plI p, .int .i64 d] (PWS.B cap pl p q I s ++ σ) (fun x σ' => ∃ s' : PWS, s'.abs = (stepP cap s.abs i).1 ∧ x = .bool (stepP cap s.abs i).2 ∧ σ' = PWS.B cap pl p q I s' ++ σ) := by
  have hz : i < s.Z.length := by
    have := hf.len
    have : (s.Z.map (·.2)).length = I.length := this
    simp at this; omega
  have hB := B_at (cap := cap) (pl := pl) (p := p) (q := q) σ hi hz
  have hto := fun s' y => B_to (cap := cap) (pl := pl) (p := p) (q := q) σ hi hz s' y
  have hW : s.abs.W[i]? = some s.Z[i].2 := by
    show (s.Z.map (·.2))[i]? = _
    rw [List.getElem?_map, List.getElem?_eq_getElem hz]; rfl
  have hok := hf.ok i _ hW
  have hbig := hf.big
  have hlen : s.ops.length ≤ 100000 := by have : s.ops.length + _ ≤ 100000 := hbig; omega
  have hset : ∀ (y : Nat × PW), (s.Z.set i y).map (·.2) = s.abs.W.set i y.2 := fun y => by show _ = (s.Z.map (·.2)).set i y.2; rw [List.map_set]
  have hI2 : (I[i].1 : Int) = i := by rw [hI]
  generalize s.Z[i] = z at hB hW hok
  obtain ⟨r, todo, now, op⟩ := z
  have hW : s.abs.W[i]? = some ⟨todo, now, op⟩ := hW
  have hst0 : stepP cap s.abs i = workP s.abs i (begP cap s.abs i ⟨todo, now, op⟩).1 (begP cap s.abs i ⟨todo, now, op⟩).2 := by
    unfold stepP; rw [hW]
  match now, todo, hW, hok, hB, hst0 with
  | none, [], hW, hok, hB, hst0 =>
    refine (aStepPn p q I[i].1 I[i].2 pl s.us cap [] op s.ops s.v s.acc s.ws d (((I.zip s.Z).eraseIdx i).flatMap (zB cap pl) ++ σ) s.hacc).via hB.symm ?_
    rintro _ _ ⟨rfl, rfl⟩
    refine ⟨_, hto ⟨s.ws, s.us, s.ops, s.Z.set i (r, ⟨[], none, op⟩), s.v, s.acc, s.hacc⟩ _ rfl, ⟨s.ws, s.us, s.ops, s.Z.set i (r, ⟨[], none, op⟩), s.v, s.acc, s.hacc⟩, ?_, ?_, rfl⟩
    · rw [hst0]; exact congrArg (PA.mk s.ws s.us s.ops) (hset _)
    · rw [hst0]; rfl
  | none, n :: l, hW, hok, hB, hst0 =>
    refine (aStepB p q I[i].1 I[i].2 pl s.us cap n l op s.ops s.v s.acc s.ws d (((I.zip s.Z).eraseIdx i).flatMap (zB cap pl) ++ σ) s.hacc hlen).via hB.symm ?_
    rintro _ _ ⟨r', b, q', hst, rfl, rfl⟩
    rw [hI] at hst ⊢
    have hA : Acc 6 (s.ops ++ [OpR.mk i (begK i n) (begN i n) (wr (s.us + 1)) 0 false]).length (.mref b 0 (s.ops.length + 1) 6) [(b, (s.ops ++ [OpR.mk i (begK i n) (begN i n) (wr (s.us + 1)) 0 false]).flatMap opC)] ((s.ops ++ [OpR.mk i (begK i n) (begN i n) (wr (s.us + 1)) 0 false]).flatMap opC) := by
      rw [List.length_append]
      exact .mref b _ _ (by rw [flat_length (es := 6) opC_len, List.length_append])
    have ht := hto ⟨s.ws, s.us, s.ops ++ [OpR.mk i (begK i n) (begN i n) (wr (s.us + 1)) 0 false], s.Z.set i (r', ⟨l, some (begK i n, q'), s.ops.length⟩), _, _, hA⟩ _ rfl
    rw [hI] at ht
    refine ⟨_, ht, ⟨s.ws, s.us, s.ops ++ [OpR.mk i (begK i n) (begN i n) (wr (s.us + 1)) 0 false], s.Z.set i (r', ⟨l, some (begK i n, q'), s.ops.length⟩), _, _, hA⟩, ?_, ?_, rfl⟩
    · rw [hst0]
      show _ = (workP s.abs i ⟨l, some (begK i n, q0P cap (wu (begN i n))), s.ops.length⟩ (s.ops ++ [OpR.mk i (begK i n) (begN i n) (wr (s.us + 1)) 0 false])).1
      unfold workP
      dsimp only
      have e : dqStep (begK i n) listOps (q0P cap (wu (begN i n))) s.abs.ws = (q', s.ws, false) := hst
      rw [e, if_neg (by simp)]
      exact congrArg (PA.mk s.ws s.us _) (hset _)
    · rw [hst0]
      show _ = AV.bool (workP s.abs i ⟨l, some (begK i n, q0P cap (wu (begN i n))), s.ops.length⟩ (s.ops ++ [OpR.mk i (begK i n) (begN i n) (wr (s.us + 1)) 0 false])).2
      unfold workP
      dsimp only
      have e : dqStep (begK i n) listOps (q0P cap (wu (begN i n))) s.abs.ws = (q', s.ws, false) := hst
      rw [e, if_neg (by simp)]
  | some (k, q1), todo, hW, hok, hB, hst0 =>
    obtain ⟨h1, h2, h3, h4, h5, _⟩ := hok
    have h1 : op < s.ops.length := h1
    obtain ⟨q', ws', e, hst⟩ : ∃ q' ws' e, dqStep k listOps q1 s.ws = (q', ws', e) := ⟨_, _, _, rfl⟩
    have hst2 : dqStep k listOps q1 s.abs.ws = (q', ws', e) := hst
    have hoa : s.ops[op]? = some s.ops[op] := List.getElem?_eq_getElem h1
    have hoa2 : s.abs.ops[op]? = some s.ops[op] := hoa
    have hstep : workP s.abs i ⟨todo, some (k, q1), op⟩ s.abs.ops = if e = true then (⟨ws', s.us, s.ops.set op (endP s.ops[op] s.us q'), s.abs.W.set i ⟨todo, none, op⟩⟩, todo.isEmpty) else (⟨ws', s.us, s.ops, s.abs.W.set i ⟨todo, some (k, q'), op⟩⟩, false) := by
      unfold workP
      dsimp only
      rw [hst2, hoa2]
      rfl
    have hst0 : stepP cap s.abs i = if e = true then (⟨ws', s.us, s.ops.set op (endP s.ops[op] s.us q'), s.abs.W.set i ⟨todo, none, op⟩⟩, todo.isEmpty) else (⟨ws', s.us, s.ops, s.abs.W.set i ⟨todo, some (k, q'), op⟩⟩, false) := hst0.trans hstep
    have hsp := s.hacc
    rcases acc_split hsp with ⟨h0, _⟩ | ⟨b, hv, ha⟩
    · omega
    rw [hv, ha] at hB
    have hA : ∀ o, Acc 6 (s.ops.set op o).length (.mref b 0 s.ops.length 6) [(b, (s.ops.set op o).flatMap opC)] ((s.ops.set op o).flatMap opC) := fun o => by
      have := Acc.mref (e := 6) b (s.ops.set op o).length ((s.ops.set op o).flatMap opC) (flat_length (es := 6) opC_len _)
      rw [List.length_set] at this ⊢
      exact this
    have hA2 : Acc 6 s.ops.length (.mref b 0 s.ops.length 6) [(b, s.ops.flatMap opC)] (s.ops.flatMap opC) := .mref b _ _ (flat_length (es := 6) opC_len _)
    have hn : k = 1 → o2P s.ops[op] s.us q'.ok = endP s.ops[op] s.us q' := fun hk => by
      have := h5 hk _ hoa
      have e1 : q'.n = q1.n := dq_end hk _ _ _ hst
      unfold o2P endP
      rw [e1, ← this]
    rcases h4 with rfl | rfl | rfl
    · cases e
      · refine (aStepF1 s.ops.length p q I[i].1 I[i].2 pl s.us cap todo r op s.ops b s.ws d (((I.zip s.Z).eraseIdx i).flatMap (zB cap pl) ++ σ) q1 h2 hst).via hB.symm ?_
        rintro _ _ ⟨rfl, rfl⟩
        refine ⟨_, hto ⟨ws', s.us, s.ops, s.Z.set i (r, ⟨todo, some (1, q'), op⟩), _, _, hA2⟩ _ rfl, ⟨ws', s.us, s.ops, s.Z.set i (r, ⟨todo, some (1, q'), op⟩), _, _, hA2⟩, ?_, ?_, rfl⟩
        · rw [hst0, if_neg (by simp)]; exact congrArg (PA.mk ws' s.us _) (hset _)
        · rw [hst0, if_neg (by simp)]
      · refine (aStepT1 s.ops.length p q I[i].1 I[i].2 pl s.us cap todo r op s.ops b s.ws d (((I.zip s.Z).eraseIdx i).flatMap (zB cap pl) ++ σ) rfl h1 hlen q1 h2 hst (hn rfl)).via hB.symm ?_
        rintro _ _ ⟨rfl, rfl⟩
        refine ⟨_, hto ⟨ws', s.us, s.ops.set op (endP s.ops[op] s.us q'), s.Z.set i (r, ⟨todo, none, op⟩), _, _, hA _⟩ _ rfl, ⟨ws', s.us, s.ops.set op (endP s.ops[op] s.us q'), s.Z.set i (r, ⟨todo, none, op⟩), _, _, hA _⟩, ?_, ?_, rfl⟩
        · rw [hst0, if_pos rfl]; exact congrArg (PA.mk ws' s.us _) (hset _)
        · rw [hst0, if_pos rfl]
    · cases e
      · refine (aStepF2 s.ops.length p q I[i].1 I[i].2 pl s.us cap todo r op s.ops b s.ws d (((I.zip s.Z).eraseIdx i).flatMap (zB cap pl) ++ σ) q1 h2 hst).via hB.symm ?_
        rintro _ _ ⟨rfl, rfl⟩
        refine ⟨_, hto ⟨ws', s.us, s.ops, s.Z.set i (r, ⟨todo, some (2, q'), op⟩), _, _, hA2⟩ _ rfl, ⟨ws', s.us, s.ops, s.Z.set i (r, ⟨todo, some (2, q'), op⟩), _, _, hA2⟩, ?_, ?_, rfl⟩
        · rw [hst0, if_neg (by simp)]; exact congrArg (PA.mk ws' s.us _) (hset _)
        · rw [hst0, if_neg (by simp)]
      · refine (aStepT2 s.ops.length p q I[i].1 I[i].2 pl s.us cap todo r op s.ops b s.ws d (((I.zip s.Z).eraseIdx i).flatMap (zB cap pl) ++ σ) rfl h1 hlen q1 h2 hst rfl).via hB.symm ?_
        rintro _ _ ⟨rfl, rfl⟩
        refine ⟨_, hto ⟨ws', s.us, s.ops.set op (endP s.ops[op] s.us q'), s.Z.set i (r, ⟨todo, none, op⟩), _, _, hA _⟩ _ rfl, ⟨ws', s.us, s.ops.set op (endP s.ops[op] s.us q'), s.Z.set i (r, ⟨todo, none, op⟩), _, _, hA _⟩, ?_, ?_, rfl⟩
        · rw [hst0, if_pos rfl]; exact congrArg (PA.mk ws' s.us _) (hset _)
        · rw [hst0, if_pos rfl]
    · cases e
      · refine (aStepF3 s.ops.length p q I[i].1 I[i].2 pl s.us cap todo r op s.ops b s.ws d (((I.zip s.Z).eraseIdx i).flatMap (zB cap pl) ++ σ) q1 h2 hst).via hB.symm ?_
        rintro _ _ ⟨rfl, rfl⟩
        refine ⟨_, hto ⟨ws', s.us, s.ops, s.Z.set i (r, ⟨todo, some (3, q'), op⟩), _, _, hA2⟩ _ rfl, ⟨ws', s.us, s.ops, s.Z.set i (r, ⟨todo, some (3, q'), op⟩), _, _, hA2⟩, ?_, ?_, rfl⟩
        · rw [hst0, if_neg (by simp)]; exact congrArg (PA.mk ws' s.us _) (hset _)
        · rw [hst0, if_neg (by simp)]
      · refine (aStepT3 s.ops.length p q I[i].1 I[i].2 pl s.us cap todo r op s.ops b s.ws d (((I.zip s.Z).eraseIdx i).flatMap (zB cap pl) ++ σ) rfl h1 hlen q1 h2 hst rfl).via hB.symm ?_
        rintro _ _ ⟨rfl, rfl⟩
        refine ⟨_, hto ⟨ws', s.us, s.ops.set op (endP s.ops[op] s.us q'), s.Z.set i (r, ⟨todo, none, op⟩), _, _, hA _⟩ _ rfl, ⟨ws', s.us, s.ops.set op (endP s.ops[op] s.us q'), s.Z.set i (r, ⟨todo, none, op⟩), _, _, hA _⟩, ?_, ?_, rfl⟩
        · rw [hst0, if_pos rfl]; exact congrArg (PA.mk ws' s.us _) (hset _)
        · rw [hst0, if_pos rfl]
end
/-- The workers that sched.Each runs. -/
def playW (cap : Int) (dn pl p q : Nat) (I : List (Nat × Nat)) (hI : ∀ i (h : i < I.length), I[i].1 = i) : AWorld where
  A := PA
  S := PWS
  abs := PWS.abs
  B s := (dn, [.ptr pl 0]) :: PWS.B cap pl p q I s
  L := I.map fun y => .iface 85 (.ptr y.2 0)
  mt := 24
  mp := p
  step a i _ := stepP cap a i
  tell := tellP
  free := FreeA I.length
  keeps a i _ h _ := h.step cap i
  told _ _ h := ⟨h.len, h.nn, h.ok, h.big, h.one, h.todo⟩
  mach i h := by
    have hi : i < I.length := by simpa using h
    refine .inr ⟨85, I[i].2, by simp, _, mWork_, fun s d σ hf => ?_⟩
    refine (aWorkAt (cap := cap) (pl := pl) (p := p) (q := q) (s := s) (d := d) ((dn, [.ptr pl 0]) :: σ) hi (hI i hi) hf).via List.perm_middle ?_
    rintro _ _ ⟨s', h1, rfl, rfl⟩
    exact ⟨_, List.perm_middle.symm, s', h1, rfl, rfl⟩
theorem aSeeP (cap : Int) (dn pl p q : Nat) (I : List (Nat × Nat)) (s : PWS) (k : Nat) (σ : Hp) : ACalls Try.prog 42 [.int .i64 k, .ptr dn 0] ((dn, [.ptr pl 0]) :: PWS.B cap pl p q I s ++ σ) (fun x σ' => ∃ s' : PWS, s'.abs = tellP s.abs k ∧ x = .tup [] ∧ σ' = (dn, [.ptr pl 0]) :: PWS.B cap pl p q I s' ++ σ) := by
  refine okF Try.func42 (by kernel_rfl) ?_
  refine LoadAt.mk 0 _ _ rfl rfl ?_
  refine StoreAt.mk 1 _ _ rfl rfl ?_
  exact .done ⟨⟨s.ws, k, s.ops, s.Z, s.v, s.acc, s.hacc⟩, rfl, rfl, rfl⟩
end Go.Proofs.Ytacacplipaeokaa
