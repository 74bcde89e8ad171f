/-
  Sx: what the claim uses of them.
-/
import Derived.Test.YtacacplipaeokaaBn1
namespace Go.Proofs.Ytacacplipaeokaa
set_option maxRecDepth 100000
set_option maxHeartbeats 4000000
namespace SX
/-- A system, from far. -/
structure AP where
  n : Nat
  W : Nat
  /-- How many workers. -/
  k : Nat
  nx : Nat → List Nat
  jw : Int → Int → Int
  out : Nat → List Int → List Int
  ok : Nat → Int → Prop
  nx_lt : ∀ {v u}, v < n → u ∈ nx v → u < n
  idem : ∀ {i x}, ok i x → jw x x = x
  comm : ∀ {i x y}, ok i x → ok i y → jw x y = jw y x
  assoc : ∀ {i x y z}, ok i x → ok i y → ok i z → jw (jw x y) z = jw x (jw y z)
  okj : ∀ {i x y}, ok i x → ok i y → ok i (jw x y)
  okout : ∀ {v y}, v < n → y.length = W → (∀ i, i < W → ok i (y.getD i 0)) → (out v y).length = W ∧ ∀ i, i < W → ok i ((out v y).getD i 0)
  mono : ∀ {v y z}, v < n → y.length = W → z.length = W → (∀ i, i < W → ok i (y.getD i 0)) → (∀ i, i < W → ok i (z.getD i 0)) → (∀ i, i < W → jw (y.getD i 0) (z.getD i 0) = z.getD i 0) → ∀ i, i < W → jw ((out v y).getD i 0) ((out v z).getD i 0) = (out v z).getD i 0
/-- What a worker does. -/
inductive Ph where
  /-- A Pop (0), a Steal (1), a look at the count (2); its Steps so far. -/
  | idle (d a : Nat)
  | held (v : Nat)
  | clear (v : Nat)
  | read (v : Nat) (y : List Int)
  | join (v : Nat) (o : List Int) (u : Nat) (r : List Nat) (at_ : Nat) (ld : Option Int) (ch : Bool)
  | take (v : Nat) (o : List Int) (u : Nat) (r : List Nat)
  | add (v : Nat) (o : List Int) (u : Nat) (r : List Nat)
  | push (v : Nat) (o : List Int) (u : Nat) (r : List Nat) (a : Nat)
  | retire (v : Nat)
  | done
structure AS where
  cell : Nat → Nat → Int
  flag : Nat → Bool
  cnt : Nat
  dq : List (List Nat)
  ph : List Ph
  ev : Nat
  jo : Nat
/-- The next edge, or none. -/
def foll (v : Nat) (o : List Int) : List Nat → Ph
  | [] => .retire v
  | u :: r => .join v o u r 0 none false
def upd (c : Nat → Nat → Int) (v i : Nat) (x : Int) : Nat → Nat → Int := fun v' i' => if v' = v ∧ i' = i then x else c v' i'
/-- What comes behind a Join's word that is done. -/
def jNext (A : AP) (v : Nat) (o : List Int) (u : Nat) (r : List Nat) (at_ : Nat) (ch : Bool) : Ph × Nat :=
  if at_ + 1 < A.W then (.join v o u r (at_ + 1) none ch, 0) else if ch = true then (.take v o u r, 1) else (foll v o r, 0)
/-- What a Step may be, from far. -/
inductive Tr (A : AP) (S : AS) (i : Nat) : AS → Prop where
  | stay (h : S.ph[i]? = some .done ∨ S.ph[i]? = none) : Tr A S i S
  | pops (a : Nat) (h : S.ph[i]? = some (.idle 0 a)) (ha : a < 5) : Tr A S i { S with ph := S.ph.set i (.idle 0 (a + 1)) }
  | popf (a : Nat) (h : S.ph[i]? = some (.idle 0 a)) (hd : S.dq[i]? = some []) : Tr A S i { S with ph := S.ph.set i (.idle (if A.k < 2 then 2 else 1) 0) }
  | pop (v : Nat) (c : List Nat) (a : Nat) (h : S.ph[i]? = some (.idle 0 a)) (hd : S.dq[i]? = some (c ++ [v])) : Tr A S i { S with dq := S.dq.set i c, ph := S.ph.set i (.clear v) }
  | cas (v : Nat) (a : Nat) (h : S.ph[i]? = some (.idle 0 a)) (hd : S.dq[i]? = some [v]) : Tr A S i { S with dq := S.dq.set i [], ph := S.ph.set i (.held v) }
  | got (v : Nat) (h : S.ph[i]? = some (.held v)) : Tr A S i { S with ph := S.ph.set i (.clear v) }
  | steals (a : Nat) (h : S.ph[i]? = some (.idle 1 a)) (ha : a < 3) : Tr A S i { S with ph := S.ph.set i (.idle 1 (a + 1)) }
  | stealf (a : Nat) (h : S.ph[i]? = some (.idle 1 a)) : Tr A S i { S with ph := S.ph.set i (.idle 2 0) }
  | steal (j v : Nat) (c : List Nat) (a : Nat) (h : S.ph[i]? = some (.idle 1 a)) (hd : S.dq[j]? = some (v :: c)) : Tr A S i { S with dq := S.dq.set j c, ph := S.ph.set i (.clear v) }
  | ask (h : S.ph[i]? = some (.idle 2 0)) (hc : S.cnt ≠ 0) : Tr A S i { S with ph := S.ph.set i (.idle (if A.k < 2 then 0 else 1) 0) }
  | clear (v : Nat) (h : S.ph[i]? = some (.clear v)) : Tr A S i { S with flag := fun z => if z = v then false else S.flag z, ph := S.ph.set i (.read v []) }
  | readw (v : Nat) (y : List Int) (h : S.ph[i]? = some (.read v y)) (hy : y.length + 1 < A.W) : Tr A S i { S with ph := S.ph.set i (.read v (y ++ [S.cell v y.length])) }
  | reade (v : Nat) (y y' : List Int) (h : S.ph[i]? = some (.read v y)) (hy : (y.length + 1 = A.W ∧ y' = y ++ [S.cell v y.length]) ∨ (A.W = 0 ∧ y' = [])) : Tr A S i { S with ph := S.ph.set i (foll v (A.out v y') (A.nx v)), ev := S.ev + 1 }
  | load (v : Nat) (o : List Int) (u : Nat) (r : List Nat) (at_ : Nat) (ch : Bool) (h : S.ph[i]? = some (.join v o u r at_ none ch)) (ha : at_ < A.W) (hx : A.jw (S.cell u at_) (o.getD at_ 0) ≠ S.cell u at_) : Tr A S i { S with ph := S.ph.set i (.join v o u r at_ (some (S.cell u at_)) ch) }
  | same (v : Nat) (o : List Int) (u : Nat) (r : List Nat) (at_ : Nat) (ch : Bool) (h : S.ph[i]? = some (.join v o u r at_ none ch)) (ha : at_ < A.W) (hx : A.jw (S.cell u at_) (o.getD at_ 0) = S.cell u at_) : Tr A S i { S with ph := S.ph.set i (jNext A v o u r at_ ch).1, jo := S.jo + (jNext A v o u r at_ ch).2 }
  | lost (v : Nat) (o : List Int) (u : Nat) (r : List Nat) (at_ : Nat) (ch : Bool) (x : Int) (h : S.ph[i]? = some (.join v o u r at_ (some x) ch)) (ha : at_ < A.W) (hx : S.cell u at_ ≠ x) : Tr A S i { S with ph := S.ph.set i (.join v o u r at_ none ch) }
  | won (v : Nat) (o : List Int) (u : Nat) (r : List Nat) (at_ : Nat) (ch : Bool) (h : S.ph[i]? = some (.join v o u r at_ (some (S.cell u at_)) ch)) (ha : at_ < A.W) (hx : A.jw (S.cell u at_) (o.getD at_ 0) ≠ S.cell u at_) : Tr A S i { S with cell := upd S.cell u at_ (A.jw (S.cell u at_) (o.getD at_ 0)), ph := S.ph.set i (jNext A v o u r at_ true).1, jo := S.jo + (jNext A v o u r at_ true).2 }
  | none (v : Nat) (o : List Int) (u : Nat) (r : List Nat) (h : S.ph[i]? = some (.join v o u r 0 none false)) (ha : A.W = 0) : Tr A S i { S with ph := S.ph.set i (foll v o r) }
  | flag (v : Nat) (o : List Int) (u : Nat) (r : List Nat) (h : S.ph[i]? = some (.take v o u r)) (hf : S.flag u = false) : Tr A S i { S with flag := fun z => if z = u then true else S.flag z, ph := S.ph.set i (.add v o u r) }
  | miss (v : Nat) (o : List Int) (u : Nat) (r : List Nat) (h : S.ph[i]? = some (.take v o u r)) (hf : S.flag u = true) : Tr A S i { S with ph := S.ph.set i (foll v o r) }
  | add (v : Nat) (o : List Int) (u : Nat) (r : List Nat) (h : S.ph[i]? = some (.add v o u r)) : Tr A S i { S with cnt := S.cnt + 1, ph := S.ph.set i (.push v o u r 0) }
  | pushs (v : Nat) (o : List Int) (u : Nat) (r : List Nat) (a : Nat) (h : S.ph[i]? = some (.push v o u r a)) (ha : a < 3) : Tr A S i { S with ph := S.ph.set i (.push v o u r (a + 1)) }
  | push (v : Nat) (o : List Int) (u : Nat) (r : List Nat) (c : List Nat) (h : S.ph[i]? = some (.push v o u r 3)) (hd : S.dq[i]? = some c) : Tr A S i { S with dq := S.dq.set i (c ++ [u]), ph := S.ph.set i (foll v o r) }
  | retire (v : Nat) (h : S.ph[i]? = some (.retire v)) : Tr A S i { S with cnt := S.cnt - 1, ph := S.ph.set i (.idle 0 0) }
  | quit (h : S.ph[i]? = some (.idle 2 0)) (hc : S.cnt = 0) : Tr A S i { S with ph := S.ph.set i .done }
def sumL {α : Type} (f : α → Nat) (l : List α) : Nat := (l.map f).sum
theorem sum_set {α : Type} (f : α → Nat) : ∀ (l : List α) (i : Nat) (x y : α), l[i]? = some x → sumL f (l.set i y) + f x = sumL f l + f y
  | a :: l, 0, x, y, h => by
    simp at h; subst h
    show f y + sumL f l + f a = f a + sumL f l + f y
    omega
  | a :: l, i + 1, x, y, h => by
    have := sum_set f l i x y (by simpa using h)
    show f a + sumL f (l.set i y) + f x = f a + sumL f l + f y
    omega
theorem sum_mem {α : Type} (f : α → Nat) : ∀ (l : List α) (i : Nat) (x : α), l[i]? = some x → f x ≤ sumL f l
  | a :: l, 0, x, h => by
    simp at h; subst h
    show f a ≤ f a + sumL f l
    omega
  | a :: l, i + 1, x, h => by
    have := sum_mem f l i x (by simpa using h)
    show f x ≤ f a + sumL f l
    omega
/-- The node that a worker has waiting. -/
def wtok : Ph → List Nat
  | .held v | .clear v => [v]
  | .add _ _ u _ | .push _ _ u _ _ => [u]
  | _ => []
def tkc (z : Nat) (p : Ph) : Nat := (wtok p).count z
/-- How often a node waits. -/
def tok (S : AS) (v : Nat) : Nat := sumL (fun l => l.count v) S.dq + sumL (tkc v) S.ph
/-- How much of the count is a worker's. -/
def cw : Ph → Nat
  | .idle _ _ | .done => 0
  | .push .. => 2
  | _ => 1
/-- A worker's nodes. -/
def nodes : Ph → List Nat
  | .idle _ _ | .done => []
  | .held v | .clear v | .read v _ | .retire v => [v]
  | .join v _ u r _ _ _ | .take v _ u r | .add v _ u r | .push v _ u r _ => v :: u :: r
structure TI (A : AP) (S : AS) : Prop where
  tok : ∀ v, tok S v = if S.flag v then 1 else 0
  cnt : S.cnt = sumL List.length S.dq + sumL cw S.ph
  dqn : ∀ c ∈ S.dq, ∀ v ∈ c, v < A.n
  phn : ∀ p ∈ S.ph, ∀ v ∈ nodes p, v < A.n
theorem foll_cw (v : Nat) (o : List Int) (r : List Nat) : cw (foll v o r) = 1 := by cases r <;> rfl
theorem foll_tok (v : Nat) (o : List Int) (r : List Nat) : wtok (foll v o r) = [] := by cases r <;> rfl
theorem foll_nodes {v : Nat} {o : List Int} {r : List Nat} {z : Nat} (h : z ∈ nodes (foll v o r)) : z = v ∨ z ∈ r := by
  cases r with
  | nil => simp [foll, nodes] at h; exact .inl h
  | cons u r => simp [foll, nodes] at h; simp; omega
theorem jNext_cw (A : AP) (v : Nat) (o : List Int) (u : Nat) (r : List Nat) (at_ : Nat) (ch : Bool) : cw (jNext A v o u r at_ ch).1 = 1 := by
  unfold jNext; split
  · rfl
  · split
    · rfl
    · exact foll_cw _ _ _
theorem jNext_tok (A : AP) (v : Nat) (o : List Int) (u : Nat) (r : List Nat) (at_ : Nat) (ch : Bool) : wtok (jNext A v o u r at_ ch).1 = [] := by
  unfold jNext; split
  · rfl
  · split
    · rfl
    · exact foll_tok _ _ _
theorem jNext_nodes {A : AP} {v : Nat} {o : List Int} {u : Nat} {r : List Nat} {at_ : Nat} {ch : Bool} {z : Nat} (h : z ∈ nodes (jNext A v o u r at_ ch).1) : z ∈ v :: u :: r := by
  revert h
  unfold jNext; split
  · exact id
  · split
    · exact id
    · intro h
      rcases foll_nodes h with h | h <;> simp [h]
/-- A worker's part changes alone. -/
theorem TI.ph {A : AP} {S : AS} (h : TI A S) {i : Nat} {p q : Ph} (hi : S.ph[i]? = some p) (ht : wtok q = wtok p) (hc : cw q = cw p) (hn : ∀ z ∈ nodes q, z < A.n) {S' : AS} (e1 : S'.flag = S.flag) (e2 : S'.cnt = S.cnt) (e3 : S'.dq = S.dq) (e4 : S'.ph = S.ph.set i q) : TI A S' := by
  refine ⟨fun v => ?_, ?_, ?_, ?_⟩
  · have := sum_set (tkc v) S.ph i p q hi
    have e0 : tkc v q = tkc v p := by unfold tkc; rw [ht]
    have h1 := h.tok v
    unfold SX.tok at h1 ⊢
    rw [e1, e3, e4]
    omega
  · have := sum_set cw S.ph i p q hi
    have h1 := h.cnt
    rw [e2, e3, e4]
    omega
  · rw [e3]; exact h.dqn
  · rw [e4]
    intro x hx v hv
    rcases List.mem_or_eq_of_mem_set hx with hx | rfl
    · exact h.phn x hx v hv
    · exact hn v hv
theorem TI.at_ {A : AP} {S : AS} (h : TI A S) {i : Nat} {p : Ph} (hi : S.ph[i]? = some p) {v : Nat} (hv : v ∈ nodes p) : v < A.n := h.phn p (List.mem_of_getElem? hi) v hv
theorem mem_set_ph {S : AS} {A : AP} (h : ∀ p ∈ S.ph, ∀ v ∈ nodes p, v < A.n) {i : Nat} {q : Ph} (hn : ∀ z ∈ nodes q, z < A.n) : ∀ p ∈ S.ph.set i q, ∀ v ∈ nodes p, v < A.n := by
  intro x hx v hv
  rcases List.mem_or_eq_of_mem_set hx with hx | rfl
  · exact h x hx v hv
  · exact hn v hv
theorem mem_set_dq {S : AS} {A : AP} (h : ∀ c ∈ S.dq, ∀ v ∈ c, v < A.n) {i : Nat} {c : List Nat} (hn : ∀ z ∈ c, z < A.n) : ∀ c' ∈ S.dq.set i c, ∀ v ∈ c', v < A.n := by
  intro x hx v hv
  rcases List.mem_or_eq_of_mem_set hx with hx | rfl
  · exact h x hx v hv
  · exact hn v hv
theorem cnt_one (a b : Nat) : [a].count b = if a = b then 1 else 0 := by
  rw [List.count_singleton]
  by_cases h : a = b <;> simp [h]
/-- Tokens are kept. -/
theorem TI.step {A : AP} {S S' : AS} {i : Nat} (h : TI A S) (hs : Tr A S i S') : TI A S' := by
  cases hs with
  | stay => exact h
  | pops a hp ha => exact h.ph (q := .idle 0 (a + 1)) hp rfl rfl (by simp [nodes]) rfl rfl rfl rfl
  | popf a hp hd => exact h.ph (q := .idle (if A.k < 2 then 2 else 1) 0) hp rfl rfl (by simp [nodes]) rfl rfl rfl rfl
  | steals a hp ha => exact h.ph (q := .idle 1 (a + 1)) hp rfl rfl (by simp [nodes]) rfl rfl rfl rfl
  | stealf a hp => exact h.ph (q := .idle 2 0) hp rfl rfl (by simp [nodes]) rfl rfl rfl rfl
  | ask hp hc => exact h.ph (q := .idle (if A.k < 2 then 0 else 1) 0) hp rfl rfl (by simp [nodes]) rfl rfl rfl rfl
  | pushs v o u r a hp ha => exact h.ph (q := .push v o u r (a + 1)) hp rfl rfl (fun z hz => h.at_ hp hz) rfl rfl rfl rfl
  | pop v c a hp hd =>
    have hv : v < A.n := h.dqn _ (List.mem_of_getElem? hd) v (by simp)
    refine ⟨fun z => ?_, ?_, mem_set_dq h.dqn (fun z hz => h.dqn _ (List.mem_of_getElem? hd) z (by simp [hz])), mem_set_ph h.phn (by simpa [nodes] using hv)⟩
    · have k1 := sum_set (tkc z) S.ph i _ (.clear v) hp
      have k2 := sum_set (fun l => l.count z) S.dq i _ c hd
      have k3 := h.tok z
      unfold SX.tok at k3 ⊢
      simp only [tkc, wtok, List.count_append, cnt_one, List.count_nil] at k1 k2
      show sumL _ (S.dq.set i c) + sumL _ (S.ph.set i (.clear v)) = if S.flag z then 1 else 0
      omega
    · have k1 := sum_set cw S.ph i _ (.clear v) hp
      have k2 := sum_set List.length S.dq i _ c hd
      have k3 := h.cnt
      simp only [cw, List.length_append, List.length_singleton] at k1 k2
      show S.cnt = sumL List.length (S.dq.set i c) + sumL cw (S.ph.set i (.clear v))
      omega
  | cas v a hp hd =>
    have hv : v < A.n := h.dqn _ (List.mem_of_getElem? hd) v (by simp)
    refine ⟨fun z => ?_, ?_, mem_set_dq h.dqn (fun z hz => by cases hz), mem_set_ph h.phn (by simpa [nodes] using hv)⟩
    · have k1 := sum_set (tkc z) S.ph i _ (.held v) hp
      have k2 := sum_set (fun l => l.count z) S.dq i _ [] hd
      have k3 := h.tok z
      unfold SX.tok at k3 ⊢
      simp only [tkc, wtok, cnt_one, List.count_nil] at k1 k2
      show sumL _ (S.dq.set i []) + sumL _ (S.ph.set i (.held v)) = if S.flag z then 1 else 0
      omega
    · have k1 := sum_set cw S.ph i _ (.held v) hp
      have k2 := sum_set List.length S.dq i _ [] hd
      have k3 := h.cnt
      simp only [cw, List.length_nil, List.length_singleton] at k1 k2
      show S.cnt = sumL List.length (S.dq.set i []) + sumL cw (S.ph.set i (.held v))
      omega
  | got v hp => exact h.ph (q := .clear v) hp rfl rfl (by have := h.at_ hp (v := v) (by simp [nodes]); simpa [nodes] using this) rfl rfl rfl rfl
  | steal j v c a hp hd =>
    have hv : v < A.n := h.dqn _ (List.mem_of_getElem? hd) v (by simp)
    refine ⟨fun z => ?_, ?_, mem_set_dq h.dqn (fun z hz => h.dqn _ (List.mem_of_getElem? hd) z (by simp [hz])), mem_set_ph h.phn (by simpa [nodes] using hv)⟩
    · have k1 := sum_set (tkc z) S.ph i _ (.clear v) hp
      have k2 := sum_set (fun l => l.count z) S.dq j _ c hd
      have k3 := h.tok z
      unfold SX.tok at k3 ⊢
      have k4 : (v :: c).count z = [v].count z + c.count z := by rw [← List.count_append]; rfl
      simp only [tkc, wtok, cnt_one, List.count_nil, k4] at k1 k2
      show sumL _ (S.dq.set j c) + sumL _ (S.ph.set i (.clear v)) = if S.flag z then 1 else 0
      omega
    · have k1 := sum_set cw S.ph i _ (.clear v) hp
      have k2 := sum_set List.length S.dq j _ c hd
      have k3 := h.cnt
      simp only [cw, List.length_cons] at k1 k2
      show S.cnt = sumL List.length (S.dq.set j c) + sumL cw (S.ph.set i (.clear v))
      omega
  | clear v hp =>
    have hv := h.at_ hp (v := v) (by simp [nodes])
    refine ⟨fun z => ?_, ?_, h.dqn, mem_set_ph h.phn (by simpa [nodes] using hv)⟩
    · have k1 := sum_set (tkc z) S.ph i _ (.read v []) hp
      have k3 := h.tok z
      have k5 := sum_mem (tkc z) S.ph i _ hp
      unfold SX.tok at k3 ⊢
      simp only [tkc, wtok, cnt_one, List.count_nil] at k1 k5
      show sumL _ S.dq + sumL _ (S.ph.set i (.read v [])) = if (if z = v then false else S.flag z) then 1 else 0
      by_cases hz : v = z
      · subst hz
        simp only [if_true] at k1 k5 ⊢
        split at k3 <;> simp <;> omega
      · have ez : (if z = v then false else S.flag z) = S.flag z := if_neg fun e => hz e.symm
        rw [ez]
        simp only [if_neg hz] at k1
        omega
    · have k1 := sum_set cw S.ph i _ (.read v []) hp
      have k3 := h.cnt
      simp only [cw] at k1
      show S.cnt = sumL List.length S.dq + sumL cw (S.ph.set i (.read v []))
      omega
  | readw v y hp hy => exact h.ph (q := .read v (y ++ [S.cell v y.length])) hp rfl rfl (by have := h.at_ hp (v := v) (by simp [nodes]); simpa [nodes] using this) rfl rfl rfl rfl
  | reade v y y' hp hy =>
    have hv := h.at_ hp (v := v) (by simp [nodes])
    exact h.ph (q := foll v (A.out v y') (A.nx v)) hp (foll_tok _ _ _) (foll_cw _ _ _) (fun z hz => by
      rcases foll_nodes hz with rfl | hz
      · exact hv
      · exact A.nx_lt hv hz) rfl rfl rfl rfl
  | load v o u r at_ ch hp ha hx => exact h.ph (q := .join v o u r at_ (some (S.cell u at_)) ch) hp rfl rfl (fun z hz => h.at_ hp hz) rfl rfl rfl rfl
  | same v o u r at_ ch hp ha hx => exact h.ph (q := (jNext A v o u r at_ ch).1) hp (jNext_tok ..) (jNext_cw ..) (fun z hz => h.at_ hp (jNext_nodes hz)) rfl rfl rfl rfl
  | lost v o u r at_ ch x hp ha hx => exact h.ph (q := .join v o u r at_ none ch) hp rfl rfl (fun z hz => h.at_ hp hz) rfl rfl rfl rfl
  | won v o u r at_ ch hp ha hx => exact h.ph (q := (jNext A v o u r at_ true).1) hp (jNext_tok ..) (jNext_cw ..) (fun z hz => h.at_ hp (jNext_nodes hz)) rfl rfl rfl rfl
  | none v o u r hp ha => exact h.ph (q := foll v o r) hp (foll_tok _ _ _) (foll_cw _ _ _) (fun z hz => h.at_ hp (by rcases foll_nodes hz with hz | hz <;> simp [nodes, hz])) rfl rfl rfl rfl
  | flag v o u r hp hf =>
    refine ⟨fun z => ?_, ?_, h.dqn, mem_set_ph h.phn (fun z hz => h.at_ hp hz)⟩
    · have k1 := sum_set (tkc z) S.ph i _ (.add v o u r) hp
      have k3 := h.tok z
      unfold SX.tok at k3 ⊢
      simp only [tkc, wtok, cnt_one, List.count_nil] at k1
      show sumL _ S.dq + sumL _ (S.ph.set i (.add v o u r)) = if (if z = u then true else S.flag z) then 1 else 0
      by_cases hz : u = z
      · subst hz
        rw [hf] at k3
        simp at k1 k3 ⊢
        omega
      · have ez : (if z = u then true else S.flag z) = S.flag z := if_neg fun e => hz e.symm
        rw [ez]
        simp only [if_neg hz] at k1
        omega
    · have k1 := sum_set cw S.ph i _ (.add v o u r) hp
      have k3 := h.cnt
      simp only [cw] at k1
      show S.cnt = sumL List.length S.dq + sumL cw (S.ph.set i (.add v o u r))
      omega
  | miss v o u r hp hf => exact h.ph (q := foll v o r) hp (foll_tok _ _ _) (foll_cw _ _ _) (fun z hz => h.at_ hp (by rcases foll_nodes hz with hz | hz <;> simp [nodes, hz])) rfl rfl rfl rfl
  | add v o u r hp =>
    refine ⟨fun z => ?_, ?_, h.dqn, mem_set_ph h.phn (fun z hz => h.at_ hp hz)⟩
    · have k1 := sum_set (tkc z) S.ph i _ (.push v o u r 0) hp
      have k3 := h.tok z
      unfold SX.tok at k3 ⊢
      simp only [tkc, wtok] at k1
      show sumL _ S.dq + sumL _ (S.ph.set i (.push v o u r 0)) = if S.flag z then 1 else 0
      omega
    · have k1 := sum_set cw S.ph i _ (.push v o u r 0) hp
      have k3 := h.cnt
      simp only [cw] at k1
      show S.cnt + 1 = sumL List.length S.dq + sumL cw (S.ph.set i (.push v o u r 0))
      omega
  | push v o u r c hp hd =>
    have hu := h.at_ hp (v := u) (by simp [nodes])
    refine ⟨fun z => ?_, ?_, mem_set_dq h.dqn (fun z hz => ?_), mem_set_ph h.phn (fun z hz => h.at_ hp (by rcases foll_nodes hz with hz | hz <;> simp [nodes, hz]))⟩
    · have k1 := sum_set (tkc z) S.ph i _ (foll v o r) hp
      have k2 := sum_set (fun l => l.count z) S.dq i _ (c ++ [u]) hd
      have k3 := h.tok z
      unfold SX.tok at k3 ⊢
      have e0 : tkc z (foll v o r) = 0 := by unfold tkc; rw [foll_tok]; rfl
      rw [e0] at k1
      simp only [tkc, wtok, List.count_append, cnt_one] at k1 k2
      show sumL _ (S.dq.set i (c ++ [u])) + sumL _ (S.ph.set i (foll v o r)) = if S.flag z then 1 else 0
      omega
    · have k1 := sum_set cw S.ph i _ (foll v o r) hp
      have k2 := sum_set List.length S.dq i _ (c ++ [u]) hd
      have k3 := h.cnt
      rw [foll_cw] at k1
      simp only [cw, List.length_append, List.length_singleton] at k1 k2
      show S.cnt = sumL List.length (S.dq.set i (c ++ [u])) + sumL cw (S.ph.set i (foll v o r))
      omega
    · rcases List.mem_append.1 hz with hz | hz
      · exact h.dqn _ (List.mem_of_getElem? hd) z hz
      · rw [List.mem_singleton.1 hz]; exact hu
  | retire v hp =>
    refine ⟨fun z => ?_, ?_, h.dqn, mem_set_ph h.phn (by simp [nodes])⟩
    · have k1 := sum_set (tkc z) S.ph i _ (.idle 0 0) hp
      have k3 := h.tok z
      unfold SX.tok at k3 ⊢
      simp only [tkc, wtok] at k1
      show sumL _ S.dq + sumL _ (S.ph.set i (.idle 0 0)) = if S.flag z then 1 else 0
      omega
    · have k1 := sum_set cw S.ph i _ (.idle 0 0) hp
      have k3 := h.cnt
      simp only [cw] at k1
      show S.cnt - 1 = sumL List.length S.dq + sumL cw (S.ph.set i (.idle 0 0))
      omega
  | quit hp hc => exact h.ph (q := .done) hp rfl rfl (by simp [nodes]) rfl rfl rfl rfl
end SX
end Go.Proofs.Ytacacplipaeokaa
