/-
  Pm: what the claim uses of them.
-/
import Derived.Test.YtacacplipaeokaaBn38
namespace Go.Proofs.Ytacacplipaeokaa
open Go.RowKit
set_option maxRecDepth 100000
set_option maxHeartbeats 4000000
def endH (len w pl r b us op : Nat) (i : Nat) (cap : Int) (t : List Int) (nv : AV) (L : List OpR) (q : DQ) (σ : Hp) : Hp := (w, wkP i cap pl t nv op) :: (pl, opsH us (.mref b 0 len 6)) :: (r, dqC q) :: (b, L.flatMap opC) :: σ
def o1P (o : OpR) (us : Nat) : OpR := ⟨o.who, o.kind, o.n, o.bg, wr (us + 1), o.ok⟩
def o2P (o : OpR) (us : Nat) (ok : Bool) : OpR := ⟨o.who, o.kind, o.n, o.bg, wr (us + 1), ok⟩
theorem op_put1 {L : List OpR} {op us : Nat} (h : op < L.length) : writeAs ⟨.int .i64, 1, 8, [.int .i64 0]⟩ (L.flatMap opC) (0 + ((op : Int)).toNat * 6 + 4) (.int .i64 (wr (us + 1))) = some ((L.set op (o1P L[op] us)).flatMap opC) := op_put h (o1P L[op] us) (by decide) rfl rfl rfl rfl
theorem op_put2 {L : List OpR} {op us : Nat} {ok : Bool} (h : op < L.length) : writeAs ⟨.bool, 1, 1, [.bool false]⟩ ((L.set op (o1P L[op] us)).flatMap opC) (0 + ((op : Int)).toNat * 6 + 5) (.bool ok) = some ((L.set op (o2P L[op] us ok)).flatMap opC) := by
  rw [op_put (L := L.set op (o1P L[op] us)) (by simpa using h) (o2P L[op] us ok) (by decide) rfl rfl (by rw [List.getElem_set_self]; rfl) rfl, List.set_set]
theorem op_put3 {L : List OpR} {op us : Nat} {q : DQ} (h : op < L.length) : writeAs ⟨.int .i64, 1, 8, [.int .i64 0]⟩ ((L.set op (o2P L[op] us q.ok)).flatMap opC) (0 + ((op : Int)).toNat * 6 + 2) (.int .i64 (wr q.n)) = some ((L.set op (endP L[op] us q)).flatMap opC) := by
  rw [op_put (L := L.set op (o2P L[op] us q.ok)) (by simpa using h) (endP L[op] us q) (by decide) rfl rfl (by rw [List.getElem_set_self]; rfl) rfl, List.set_set]
theorem aEndP1 (len w pl r b us op i : Nat) (cap : Int) (t : List Int) (L : List OpR) (q : DQ) (σ : Hp) (hlen : len = L.length) (hop : op < L.length) (_hL : L.length ≤ 100000) :
    ACalls Try.prog 107 [.ptr w 0] (endH len w pl r b us op i cap t (.iface 166 (.ptr r 0)) L q σ) (Ret (.tup []) (endH len w pl r b us op i cap t .nilif (L.set op (o2P L[op] us q.ok)) q σ)) := by
  refine okF Try.func107 (by kernel_rfl) ?_
  refine .quiet (by kernel_rfl) ?_
  refine LoadAt.mk 0 _ _ rfl rfl ?_
  refine LoadAt.mk 1 _ _ rfl rfl ?_
  refine LoadAt.mk 0 _ _ rfl rfl ?_
  refine With.mk ⟨rfl, by omega, by omega⟩ ?_
  refine LoadAt.mk 0 _ _ rfl rfl ?_
  refine LoadAt.mk 1 _ _ rfl rfl ?_
  refine StoreAt.mk 3 _ _ rfl (op_put1 hop) ?_
  refine LoadAt.mk 0 _ _ rfl rfl ?_
  refine LoadAt.mk 2 _ _ rfl rfl ?_
  refine StoreAt.mk 3 _ _ rfl (op_put2 hop) ?_
  refine StoreAt.mk 0 _ _ rfl rfl ?_
  exact .done ⟨rfl, rfl⟩
theorem aEndP2 (len w pl r b us op i : Nat) (cap : Int) (t : List Int) (L : List OpR) (q : DQ) (σ : Hp) (hlen : len = L.length) (hop : op < L.length) (_hL : L.length ≤ 100000) :
    ACalls Try.prog 107 [.ptr w 0] (endH len w pl r b us op i cap t (.iface 168 (.ptr r 0)) L q σ) (Ret (.tup []) (endH len w pl r b us op i cap t .nilif (L.set op (endP L[op] us q)) q σ)) := by
  refine okF Try.func107 (by kernel_rfl) ?_
  refine .quiet (by kernel_rfl) ?_
  refine LoadAt.mk 0 _ _ rfl rfl ?_
  refine LoadAt.mk 1 _ _ rfl rfl ?_
  refine LoadAt.mk 0 _ _ rfl rfl ?_
  refine With.mk ⟨rfl, by omega, by omega⟩ ?_
  refine LoadAt.mk 0 _ _ rfl rfl ?_
  refine LoadAt.mk 1 _ _ rfl rfl ?_
  refine StoreAt.mk 3 _ _ rfl (op_put1 hop) ?_
  refine LoadAt.mk 0 _ _ rfl rfl ?_
  refine .sched [] (upto [] 17 0) (by kernel_rfl) ?_
  refine LoadAt.mk 2 _ _ rfl rfl ?_
  refine LoadAt.mk 2 _ _ rfl rfl ?_
  refine StoreAt.mk 3 _ _ rfl (op_put2 hop) ?_
  refine StoreAt.mk 3 _ _ rfl (op_put3 hop) ?_
  refine StoreAt.mk 0 _ _ rfl rfl ?_
  exact .done ⟨rfl, rfl⟩
theorem aEndP3 (len w pl r b us op i : Nat) (cap : Int) (t : List Int) (L : List OpR) (q : DQ) (σ : Hp) (hlen : len = L.length) (hop : op < L.length) (_hL : L.length ≤ 100000) :
    ACalls Try.prog 107 [.ptr w 0] (endH len w pl r b us op i cap t (.iface 161 (.ptr r 0)) L q σ) (Ret (.tup []) (endH len w pl r b us op i cap t .nilif (L.set op (endP L[op] us q)) q σ)) := by
  refine okF Try.func107 (by kernel_rfl) ?_
  refine .quiet (by kernel_rfl) ?_
  refine LoadAt.mk 0 _ _ rfl rfl ?_
  refine LoadAt.mk 1 _ _ rfl rfl ?_
  refine LoadAt.mk 0 _ _ rfl rfl ?_
  refine With.mk ⟨rfl, by omega, by omega⟩ ?_
  refine LoadAt.mk 0 _ _ rfl rfl ?_
  refine LoadAt.mk 1 _ _ rfl rfl ?_
  refine StoreAt.mk 3 _ _ rfl (op_put1 hop) ?_
  refine LoadAt.mk 0 _ _ rfl rfl ?_
  refine .sched [] (upto [] 17 0) (by kernel_rfl) ?_
  refine LoadAt.mk 2 _ _ rfl rfl ?_
  refine LoadAt.mk 2 _ _ rfl rfl ?_
  refine StoreAt.mk 3 _ _ rfl (op_put2 hop) ?_
  refine StoreAt.mk 3 _ _ rfl (op_put3 hop) ?_
  refine StoreAt.mk 0 _ _ rfl rfl ?_
  exact .done ⟨rfl, rfl⟩
theorem aStepPn (p q0 i w pl us : Nat) (cap : Int) (_t : List Int) (op : Nat) (L : List OpR) (v : AV) (acc : Hp) (ws : List Int) (d : Int) (σ : Hp) (_hacc : Acc 6 L.length v acc (L.flatMap opC)) :
    ACalls Try.prog 105 [.ptr w 0, plI p, .int .i64 d] ((w, wkP i cap pl [] .nilif op) :: (pl, opsH us v) :: (acc ++ plH p q0 ws σ)) (Ret (.bool true) ((w, wkP i cap pl [] .nilif op) :: (pl, opsH us v) :: (acc ++ plH p q0 ws σ))) := by
  refine okF Try.func105 (by kernel_rfl) ?_
  refine LoadAt.mk 0 _ _ rfl rfl ?_
  refine LoadAt.mk 0 _ _ rfl rfl ?_
  refine LoadAt.mk 0 _ _ rfl rfl ?_
  refine LoadAt.mk 0 _ _ rfl rfl ?_
  refine LoadAt.mk 0 _ _ rfl rfl ?_
  exact .done ⟨rfl, rfl⟩
theorem aStepT1 (len p q0 i w pl us : Nat) (cap : Int) (t : List Int) (r op : Nat) (L : List OpR) (b : Nat) (ws : List Int) (d : Int) (σ : Hp) (hlen : len = L.length) (hop : op < L.length) (hL : L.length ≤ 100000) (q : DQ) (hg : q.good) {q' : DQ} {ws' : List Int} (hst : dqStep 1 listOps q ws = (q', ws', true)) {o : OpR} (ho : o2P L[op] us q'.ok = o) :
    ACalls Try.prog 105 [.ptr w 0, plI p, .int .i64 d] (endH len w pl r b us op i cap t (.iface 166 (.ptr r 0)) L q (plH p q0 ws σ))
      (Ret (.bool t.isEmpty) ((w, wkP i cap pl t .nilif op) :: (pl, opsH us (.mref b 0 len 6)) :: (b, (L.set op o).flatMap opC) :: plH p q0 ws' σ)) := by
  subst ho
  refine okF Try.func105 (by kernel_rfl) ?_
  refine LoadAt.mk 0 _ _ rfl rfl ?_
  refine LoadAt.mk 0 _ _ rfl rfl ?_
  refine LoadAt.mk 0 _ _ rfl rfl ?_
  refine InvAt.mk _ mPush_ ?_
  refine callR [4, 5, 5] (aPushP p q0 r q ws d _ hg hst) ?_
  refine callR [5, 5, 1, 5] (aEndP1 len w pl r b us op i cap t L q' _ hlen hop hL) ?_
  refine LoadAt.mk 0 _ _ rfl rfl ?_
  refine LoadAt.mk 0 _ _ rfl rfl ?_
  cases t with
  | nil => exact .drop 2 1 (.done ⟨rfl, rfl⟩)
  | cons z t => exact .drop 2 1 (.done ⟨rfl, rfl⟩)
theorem aStepT2 (len p q0 i w pl us : Nat) (cap : Int) (t : List Int) (r op : Nat) (L : List OpR) (b : Nat) (ws : List Int) (d : Int) (σ : Hp) (hlen : len = L.length) (hop : op < L.length) (hL : L.length ≤ 100000) (q : DQ) (hg : q.good) {q' : DQ} {ws' : List Int} (hst : dqStep 2 listOps q ws = (q', ws', true)) {o : OpR} (ho : endP L[op] us q' = o) :
    ACalls Try.prog 105 [.ptr w 0, plI p, .int .i64 d] (endH len w pl r b us op i cap t (.iface 168 (.ptr r 0)) L q (plH p q0 ws σ))
      (Ret (.bool t.isEmpty) ((w, wkP i cap pl t .nilif op) :: (pl, opsH us (.mref b 0 len 6)) :: (b, (L.set op o).flatMap opC) :: plH p q0 ws' σ)) := by
  subst ho
  refine okF Try.func105 (by kernel_rfl) ?_
  refine LoadAt.mk 0 _ _ rfl rfl ?_
  refine LoadAt.mk 0 _ _ rfl rfl ?_
  refine LoadAt.mk 0 _ _ rfl rfl ?_
  refine InvAt.mk _ mPop_ ?_
  refine callR [4, 5, 5] (aPopP p q0 r q ws d _ hg hst) ?_
  refine callR [5, 5, 1, 5] (aEndP2 len w pl r b us op i cap t L q' _ hlen hop hL) ?_
  refine LoadAt.mk 0 _ _ rfl rfl ?_
  refine LoadAt.mk 0 _ _ rfl rfl ?_
  cases t with
  | nil => exact .drop 2 1 (.done ⟨rfl, rfl⟩)
  | cons z t => exact .drop 2 1 (.done ⟨rfl, rfl⟩)
theorem aStepT3 (len p q0 i w pl us : Nat) (cap : Int) (t : List Int) (r op : Nat) (L : List OpR) (b : Nat) (ws : List Int) (d : Int) (σ : Hp) (hlen : len = L.length) (hop : op < L.length) (hL : L.length ≤ 100000) (q : DQ) (hg : q.good) {q' : DQ} {ws' : List Int} (hst : dqStep 3 listOps q ws = (q', ws', true)) {o : OpR} (ho : endP L[op] us q' = o) :
    ACalls Try.prog 105 [.ptr w 0, plI p, .int .i64 d] (endH len w pl r b us op i cap t (.iface 161 (.ptr r 0)) L q (plH p q0 ws σ))
      (Ret (.bool t.isEmpty) ((w, wkP i cap pl t .nilif op) :: (pl, opsH us (.mref b 0 len 6)) :: (b, (L.set op o).flatMap opC) :: plH p q0 ws' σ)) := by
  subst ho
  refine okF Try.func105 (by kernel_rfl) ?_
  refine LoadAt.mk 0 _ _ rfl rfl ?_
  refine LoadAt.mk 0 _ _ rfl rfl ?_
  refine LoadAt.mk 0 _ _ rfl rfl ?_
  refine InvAt.mk _ mSteal_ ?_
  refine callR [4, 5, 5] (aStealP p q0 r 3 (by decide) (by decide) q ws d _ hg hst) ?_
  refine callR [5, 5, 1, 5] (aEndP3 len w pl r b us op i cap t L q' _ hlen hop hL) ?_
  refine LoadAt.mk 0 _ _ rfl rfl ?_
  refine LoadAt.mk 0 _ _ rfl rfl ?_
  cases t with
  | nil => exact .drop 2 1 (.done ⟨rfl, rfl⟩)
  | cons z t => exact .drop 2 1 (.done ⟨rfl, rfl⟩)
theorem aStepF1 (len p q0 i w pl us : Nat) (cap : Int) (t : List Int) (r op : Nat) (L : List OpR) (b : Nat) (ws : List Int) (d : Int) (σ : Hp) (q : DQ) (hg : q.good) {q' : DQ} {ws' : List Int} (hst : dqStep 1 listOps q ws = (q', ws', false)) :
    ACalls Try.prog 105 [.ptr w 0, plI p, .int .i64 d] (endH len w pl r b us op i cap t (.iface 166 (.ptr r 0)) L q (plH p q0 ws σ))
      (Ret (.bool false) (endH len w pl r b us op i cap t (.iface 166 (.ptr r 0)) L q' (plH p q0 ws' σ))) := by
  refine okF Try.func105 (by kernel_rfl) ?_
  refine LoadAt.mk 0 _ _ rfl rfl ?_
  refine LoadAt.mk 0 _ _ rfl rfl ?_
  refine LoadAt.mk 0 _ _ rfl rfl ?_
  refine InvAt.mk _ mPush_ ?_
  refine callR [4, 5, 5] (aPushP p q0 r q ws d _ hg hst) ?_
  refine LoadAt.mk 3 _ _ rfl rfl ?_
  exact .pull [5, 5, 3, 5, 2, 2] (.done ⟨rfl, rfl⟩)
theorem aStepF2 (len p q0 i w pl us : Nat) (cap : Int) (t : List Int) (r op : Nat) (L : List OpR) (b : Nat) (ws : List Int) (d : Int) (σ : Hp) (q : DQ) (hg : q.good) {q' : DQ} {ws' : List Int} (hst : dqStep 2 listOps q ws = (q', ws', false)) :
    ACalls Try.prog 105 [.ptr w 0, plI p, .int .i64 d] (endH len w pl r b us op i cap t (.iface 168 (.ptr r 0)) L q (plH p q0 ws σ))
      (Ret (.bool false) (endH len w pl r b us op i cap t (.iface 168 (.ptr r 0)) L q' (plH p q0 ws' σ))) := by
  refine okF Try.func105 (by kernel_rfl) ?_
  refine LoadAt.mk 0 _ _ rfl rfl ?_
  refine LoadAt.mk 0 _ _ rfl rfl ?_
  refine LoadAt.mk 0 _ _ rfl rfl ?_
  refine InvAt.mk _ mPop_ ?_
  refine callR [4, 5, 5] (aPopP p q0 r q ws d _ hg hst) ?_
  refine LoadAt.mk 3 _ _ rfl rfl ?_
  exact .pull [5, 5, 3, 5, 2, 2] (.done ⟨rfl, rfl⟩)
theorem aStepF3 (len p q0 i w pl us : Nat) (cap : Int) (t : List Int) (r op : Nat) (L : List OpR) (b : Nat) (ws : List Int) (d : Int) (σ : Hp) (q : DQ) (hg : q.good) {q' : DQ} {ws' : List Int} (hst : dqStep 3 listOps q ws = (q', ws', false)) :
    ACalls Try.prog 105 [.ptr w 0, plI p, .int .i64 d] (endH len w pl r b us op i cap t (.iface 161 (.ptr r 0)) L q (plH p q0 ws σ))
      (Ret (.bool false) (endH len w pl r b us op i cap t (.iface 161 (.ptr r 0)) L q' (plH p q0 ws' σ))) := by
  refine okF Try.func105 (by kernel_rfl) ?_
  refine LoadAt.mk 0 _ _ rfl rfl ?_
  refine LoadAt.mk 0 _ _ rfl rfl ?_
  refine LoadAt.mk 0 _ _ rfl rfl ?_
  refine InvAt.mk _ mSteal_ ?_
  refine callR [4, 5, 5] (aStealP p q0 r 3 (by decide) (by decide) q ws d _ hg hst) ?_
  refine LoadAt.mk 3 _ _ rfl rfl ?_
  exact .pull [5, 5, 3, 5, 2, 2] (.done ⟨rfl, rfl⟩)
theorem dqFirst {k : Int} {cap n : Int} (ws : List Int) : ∃ q' , dqStep k listOps (q0P cap n) ws = (q', ws, false) := by
  by_cases h1 : k = 1
  · subst h1; exact ⟨_, rfl⟩
  · by_cases h2 : k = 2
    · subst h2; exact ⟨_, rfl⟩
    · unfold dqStep
      rw [if_neg h1, if_neg h2]
      exact ⟨_, rfl⟩
theorem q0_good (cap n : Int) (h : 0 ≤ n) : (q0P cap n).good := ⟨by show 0 ≤ 6; decide, fun _ => by show 0 ≤ 5; decide, Int.le_refl _, Int.le_refl _, h, Int.le_refl _⟩
theorem aStepB (p q0 i w pl us : Nat) (cap : Int) (n : Int) (t : List Int) (op : Nat) (L : List OpR) (v : AV) (acc : Hp) (ws : List Int) (d : Int) (σ : Hp) (hacc : Acc 6 L.length v acc (L.flatMap opC)) (hL : L.length ≤ 100000) :
    ACalls Try.prog 105 [.ptr w 0, plI p, .int .i64 d] ((w, wkP i cap pl (n :: t) .nilif op) :: (pl, opsH us v) :: (acc ++ plH p q0 ws σ))
      (fun x σ' => ∃ (r b : Nat) (q' : DQ), dqStep (begK i n) listOps (q0P cap (wu (begN i n))) ws = (q', ws, false) ∧ x = .bool false ∧ σ' = endH (L.length + 1) w pl r b us L.length i cap t (nwP r (some (begK i n, q'))) (L ++ [OpR.mk i (begK i n) (begN i n) (wr (us + 1)) 0 false]) q' (plH p q0 ws σ)) := by
  have hB := aBeginP i w pl cap n t .nilif op us L v acc (plH p q0 ws σ) hacc hL
  obtain ⟨q', hst⟩ := dqFirst (k := begK i n) (cap := cap) (n := wu (begN i n)) ws
  have hg := q0_good cap (wu (begN i n)) (wu_nn _)
  refine okF Try.func105 (by kernel_rfl) ?_
  refine LoadAt.mk 0 _ _ rfl rfl ?_
  refine LoadAt.mk 0 _ _ rfl rfl ?_
  refine bcond_dec (fun c1 => ?_) (fun c1 => ?_)
  rotate_left
  · have c1 : ¬ (0 < ((t.length + 1 : Nat) : Int)) := c1
    omega
  refine CallAt.mk [] _ hB ?_
  rintro _ _ ⟨r, v', acc', hacc', rfl, rfl⟩
  rcases acc_split hacc' with ⟨h0, _⟩ | ⟨b, rfl, rfl⟩
  · omega
  have hk : begK i n = 1 ∨ begK i n = 2 ∨ begK i n = 3 := by unfold begK; (repeat' split) <;> simp
  rcases hk with e1 | e1 | e1
  · rw [e1] at hst ⊢
    refine LoadAt.mk 0 _ _ rfl rfl ?_
    refine LoadAt.mk 0 _ _ rfl rfl ?_
    refine InvAt.mk _ mPush_ ?_
    refine callR [4, 5, 5] (aPushP p q0 r _ ws d _ hg hst) ?_
    refine LoadAt.mk 3 _ _ rfl rfl ?_
    exact .pull [5, 5, 3, 5, 2, 2] (.done ⟨r, b, q', hst, rfl, rfl⟩)
  · rw [e1] at hst ⊢
    refine LoadAt.mk 0 _ _ rfl rfl ?_
    refine LoadAt.mk 0 _ _ rfl rfl ?_
    refine InvAt.mk _ mPop_ ?_
    refine callR [4, 5, 5] (aPopP p q0 r _ ws d _ hg hst) ?_
    refine LoadAt.mk 3 _ _ rfl rfl ?_
    exact .pull [5, 5, 3, 5, 2, 2] (.done ⟨r, b, q', hst, rfl, rfl⟩)
  · rw [e1] at hst ⊢
    refine LoadAt.mk 0 _ _ rfl rfl ?_
    refine LoadAt.mk 0 _ _ rfl rfl ?_
    refine InvAt.mk _ mSteal_ ?_
    refine callR [4, 5, 5] (aStealP p q0 r 3 (by decide) (by decide) _ ws d _ hg hst) ?_
    refine LoadAt.mk 3 _ _ rfl rfl ?_
    exact .pull [5, 5, 3, 5, 2, 2] (.done ⟨r, b, q', hst, rfl, rfl⟩)
end Go.Proofs.Ytacacplipaeokaa
