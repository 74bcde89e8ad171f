/-
  Rc: what the claim uses of them.
-/
import Derived.Test.YtegpahamenjiaaaGreatBn23
namespace Go.Proofs.YtegpahamenjiaaaGreat
open Go.RowKit
set_option maxRecDepth 100000
theorem getD_setB {b : List Bool} {i j : Nat} {x : Bool} : (b.set i x).getD j false = if i = j ∧ j < b.length then x else b.getD j false := by
  simp only [List.getD_eq_getElem?_getD, List.getElem?_set]
  by_cases h : i = j
  · subst h
    by_cases h2 : i < b.length
    · simp [h2]
    · simp [h2]
  · simp [h]
theorem setT_keep {b : List Bool} {i j : Nat} (h : b.getD j false = true) : (b.set i true).getD j false = true := by
  rw [getD_setB]; split
  · rfl
  · exact h
theorem goB_keep {n : Int} {b : List Bool} {e : EdgeT} {j : Nat} (h : b.getD j false = true) : (goB n b e).getD j false = true := by
  unfold goB; split
  · exact setT_keep h
  · exact h
theorem roundB_keep {n : Int} : ∀ (l : List EdgeT) {b : List Bool} {j : Nat}, b.getD j false = true → (roundB n l b).getD j false = true
  | [], _, _, h => h
  | _ :: l, _, _, h => roundB_keep l (goB_keep h)
theorem roundsB_keep {n : Int} {l : List EdgeT} : ∀ (k : Nat) {b : List Bool} {j : Nat}, b.getD j false = true → (roundsB n l k b).getD j false = true
  | 0, _, _, h => h
  | k + 1, _, _, h => roundsB_keep k (roundB_keep l h)
theorem mem_listB {b : List Bool} {k : Nat} {z : Int} : z ∈ listB b k ↔ ∃ i : Nat, i < k ∧ b.getD i false = true ∧ z = i := by
  unfold listB
  rw [List.mem_map]
  constructor
  · rintro ⟨i, hi, rfl⟩
    rw [List.mem_filter, List.mem_range] at hi
    exact ⟨i, hi.1, hi.2, rfl⟩
  · rintro ⟨i, h1, h2, rfl⟩
    exact ⟨i, by rw [List.mem_filter, List.mem_range]; exact ⟨h1, h2⟩, rfl⟩
theorem reach_self {n : Nat} {l : List EdgeT} {a : Nat} (h : a < n) : (a : Int) ∈ reachR n l [(a : Int)] := by
  unfold reachR
  rw [mem_listB]
  refine ⟨a, by omega, ?_, rfl⟩
  unfold reachB
  refine roundsB_keep _ ?_
  show (markB n (List.replicate ((n : Int)).toNat false) a).getD a false = true
  unfold markB
  rw [if_pos (by omega), Int.toNat_natCast, Int.toNat_natCast, getD_setB, if_pos ⟨rfl, by simpa using h⟩]
theorem toB_self {n : Nat} {l : List EdgeT} {a : Nat} (h : a < n) : toB n l a a = true := inB_iff.2 (reach_self h)
theorem mem_partB {n : Nat} {l : List EdgeT} {a z : Int} : z ∈ partB n l a ↔ ∃ i : Nat, i < n ∧ (toB n l a i && toB n l i a) = true ∧ z = i := by
  unfold partB partUp
  rw [List.mem_map, Int.toNat_natCast]
  constructor
  · rintro ⟨i, hi, rfl⟩
    rw [List.mem_filter, List.mem_range] at hi
    exact ⟨i, hi.1, hi.2, rfl⟩
  · rintro ⟨i, h1, h2, rfl⟩
    exact ⟨i, by rw [List.mem_filter, List.mem_range]; exact ⟨h1, h2⟩, rfl⟩
theorem part_self {n : Nat} {l : List EdgeT} {a : Nat} (h : a < n) : 0 < (partB n l a).length :=
  List.length_pos_of_mem (mem_partB.2 ⟨a, h, by rw [toB_self h]; rfl, rfl⟩)
theorem part_in {n : Nat} {l : List EdgeT} {a z : Int} (h : z ∈ partB n l a) : 0 ≤ z ∧ z < n := by
  obtain ⟨i, h1, -, rfl⟩ := mem_partB.1 h
  omega
theorem part_length (n : Nat) (l : List EdgeT) (a : Int) : (partB n l a).length ≤ n := by
  have := partUp_length n l a ((n : Int)).toNat
  rw [Int.toNat_natCast] at this
  exact this
structure OfI (n : Nat) (ps : List (List Int)) (told : List Int) : Prop where
  told : told = ps.flatten
  ne : ∀ p ∈ ps, 0 < p.length ∧ p.length ≤ n
  node : ∀ p ∈ ps, ∀ z ∈ p, 0 ≤ z ∧ z < n
  ahead : ∀ i, i < ps.length → (ps.take i).flatten.length < n
theorem OfI.tlen {n : Nat} {ps : List (List Int)} {told : List Int} (h : OfI n ps told) : told.length ≤ 2 * n := by
  rw [h.told]
  rcases List.eq_nil_or_concat ps with rfl | ⟨qs, q, rfl⟩
  · simp
  · rw [List.concat_eq_append]
    have h1 := h.ahead qs.length (by simp)
    have h2 := (h.ne q (by simp)).2
    rw [List.concat_eq_append, List.take_left] at h1
    rw [List.flatten_append, List.length_append]
    simp only [List.flatten_cons, List.flatten_nil, List.append_nil]
    omega
theorem OfI.plen {n : Nat} {ps : List (List Int)} {told : List Int} (h : OfI n ps told) : ps.length ≤ 2 * n := by
  refine Nat.le_trans ?_ h.tlen
  rw [h.told]
  have := h.ne
  clear h
  induction ps with
  | nil => exact Nat.le_refl _
  | cons p ps ih =>
    have h1 := (this p (by simp)).1
    have h2 := ih fun q hq => this q (by simp [hq])
    simp only [List.length_cons, List.flatten_cons, List.length_append]
    omega
theorem OfI.nil (n : Nat) : OfI n [] [] := ⟨rfl, fun _ h => (List.not_mem_nil h).elim, fun _ h => (List.not_mem_nil h).elim, fun _ h => (Nat.not_lt_zero _ h).elim⟩
theorem OfI.snoc {n : Nat} {ps : List (List Int)} {told p : List Int} (h : OfI n ps told) (ht : told.length < n) (h1 : 0 < p.length) (h2 : p.length ≤ n) (h3 : ∀ z ∈ p, 0 ≤ z ∧ z < n) : OfI n (ps ++ [p]) (told ++ p) := by
  refine ⟨by rw [h.told, List.flatten_append]; simp, fun q hq => ?_, fun q hq => ?_, fun i hi => ?_⟩
  · rcases List.mem_append.1 hq with hq | hq
    · exact h.ne q hq
    · rw [List.mem_singleton.1 hq]; exact ⟨h1, h2⟩
  · rcases List.mem_append.1 hq with hq | hq
    · exact h.node q hq
    · rw [List.mem_singleton.1 hq]; exact h3
  · rw [List.length_append] at hi
    rw [List.take_append]
    by_cases hlt : i < ps.length
    · rw [show i - ps.length = 0 by omega, List.take_zero, List.append_nil]; exact h.ahead i hlt
    · obtain rfl : i = ps.length := by have : i < ps.length + 1 := hi; omega
      rw [Nat.sub_self, List.take_zero, List.append_nil, List.take_length, ← h.told]; exact ht
def psC (ps : List (List Int)) : List AV := ps.map (.fsl (.int .i64))
theorem psC_flat : ∀ ps : List (List Int), psC ps = ps.flatMap (Sh.cells (.slice (.int .i64)))
  | [] => rfl
  | p :: ps => congrArg (AV.fsl (.int .i64) p :: ·) (psC_flat ps)
abbrev OfS := List (List Int) × AV × Hp × List Int × AV × Hp
def OfOk (n : Nat) (s : OfS) : Prop := OfI n s.1 s.2.2.2.1 ∧ Acc 1 s.1.length s.2.1 s.2.2.1 (psC s.1) ∧ Acc 1 s.2.2.2.1.length s.2.2.2.2.1 s.2.2.2.2.2 (inC s.2.2.2.1)
abbrev ofH (s : OfS) (σ : Hp) : Hp := s.2.2.1 ++ (s.2.2.2.2.2 ++ σ)
theorem head_at {nx : List Int} (h : 0 < nx.length) : nx[((0 : Int)).toNat]? = some (nx.headD 0) := by
  cases nx with
  | nil => simp at h
  | cons z nx => rfl
theorem fin_dropA {R : AV → Hp → Prop} {r : AV} (a : Hp) {σ : Hp} (h : Fin R r σ) : Fin R r (a ++ σ) := .drop 0 a.length (by rw [List.take_zero, Nat.zero_add, List.drop_left]; exact h)
theorem aROf (n : Nat) (l : List EdgeT) (σ : Hp) (hl : l.length ≤ 100000) (hn : n ≤ 256) : ACalls Tryz.prog 183 [.int .i64 n, .fsl edgeSh l] σ (fun r σ' => ∃ ps told, r = .fsl (.slice (.int .i64)) ps ∧ σ' = σ ∧ OfI n ps told) := by
  refine okF Tryz.func183 (by kernel_rfl) ?_
  refine .wrap 5 _ rfl rfl ?_
  refine .wrap 6 _ rfl rfl ?_
  have hend : ∀ s : OfS, OfOk n s → Fin (fun r σ' => ∃ ps told, r = .fsl (.slice (.int .i64)) ps ∧ σ' = σ ∧ OfI n ps told) s.2.1 (ofH s σ) := fun s ⟨h1, h2, h3⟩ =>
    fin_acc (s := .slice (.int .i64)) [] h2 rfl (psC_flat _) (by decide) (fin_dropA s.2.2.2.2.2 (.done ⟨s.1, s.2.2.2.1, rfl, rfl, h1⟩))
  refine loopS (S := OfS) (fun s => [(0, .int .i64 n), (1, .fsl edgeSh l), (5, .via s.2.1), (6, .via s.2.2.2.2.1)]) (fun s => ofH s σ) (fun s => OfOk n s) (fun s => n - s.2.2.2.1.length) ([], .nils, [], [], .nils, []) ⟨⟨OfI.nil n, .nil, .nil⟩, ⟨rfl, rfl, rfl, rfl, trivial⟩, rfl⟩ ?_
  rintro ⟨ps, v1, a1, told0, v2, a2⟩ g ⟨hI0, h10, h20⟩
  have hI : OfI n ps told0 := hI0
  have h1 : Acc 1 ps.length v1 a1 (psC ps) := h10
  have h2 : Acc 1 told0.length v2 a2 (inC told0) := h20
  clear hI0 h10 h20
  have h2c := h2
  generalize hk2 : told0.length = k2 at h2c
  generalize hc2 : inC told0 = c2 at h2c
  cases h2c
  all_goals
    first | subst hc2 | clear hc2
    refine bcond_dec (fun c => ?_) (fun c => ?_)
    rotate_left
    · exact hend (ps, v1, a1, told0, _, _) ⟨hI, h1, h2⟩
    have hlt : told0.length < n := by first | (have c : (0 : Int) < n := c; omega) | (have c : ((k2 : Nat) : Int) < n := c; omega)
    clear c hk2
    refine loopS (S := Nat × Bool × OfS) (fun s => [(0, .int .i64 n), (1, .fsl edgeSh l), (5, .via s.2.2.2.1), (6, .via s.2.2.2.2.2.2.1), (7, .bool s.2.1), (8, .int .i64 s.1)]) (fun s => ofH s.2.2 σ) (fun s => s.1 ≤ n ∧ OfOk n s.2.2 ∧ (s.2.1 = false → s.2.2.2.2.2.1.length = told0.length) ∧ (s.2.1 = true → told0.length < s.2.2.2.2.2.1.length)) (fun s => n - s.1) (0, false, ps, v1, a1, told0, _, _) ⟨⟨Nat.zero_le _, ⟨hI, h1, h2⟩, fun _ => rfl, fun h => by cases h⟩, ⟨rfl, rfl, rfl, rfl, rfl, rfl, trivial⟩, rfl⟩ ?_
    clear h1 h2 hI
    rintro ⟨k, fnd, ps, v1, a1, told, v2, a2⟩ g2 ⟨hk0, ⟨hI0, h10, h20⟩, hf0, ht0⟩
    have hk : k ≤ n := hk0
    have hI : OfI n ps told := hI0
    have h1 : Acc 1 ps.length v1 a1 (psC ps) := h10
    have h2 : Acc 1 told.length v2 a2 (inC told) := h20
    have hf : fnd = false → told.length = told0.length := hf0
    have ht : fnd = true → told0.length < told.length := ht0
    clear hk0 hI0 h10 h20 hf0 ht0
    cases fnd with
    | true =>
      have htl := ht rfl
      refine bcond_dec (fun c1 => ?_) (fun c1 => ?_)
      all_goals exact nextS (ps, v1, a1, told, v2, a2) (by show n - told.length < n - told0.length; omega) ⟨hI, h1, h2⟩ ⟨rfl, rfl, rfl, rfl, trivial⟩ (.refl _)
    | false =>
      have hfl := hf rfl
      clear hf ht
      have htl := hI.tlen
      have hpl := hI.plen
      refine bcond_dec (p := (k : Int) < (n : Int)) (fun c1 => ?_) (fun c1 => ?_)
      rotate_left
      · exact hend (ps, v1, a1, told, v2, a2) ⟨hI, h1, h2⟩
      have hkn : k < n := by omega
      have hpp := part_self (l := l) hkn
      have hpn := part_length n l k
      have hp0 : (partB n l k)[((0 : Int)).toNat]? = some ((partB n l k).headD 0) := head_at hpp
      have hnx : k + 1 ≤ n ∧ OfOk n (ps, v1, a1, told, v2, a2) ∧ ((false : Bool) = false → told.length = told0.length) ∧ ((false : Bool) = true → told0.length < told.length) := ⟨hkn, ⟨hI, h1, h2⟩, fun _ => hfl, fun h => by cases h⟩
      refine callR [] (aRPart n l k _ hl (by omega)) ?_
      refine With.mk rfl (IdxF.mk _ (by decide) hp0 ?_)
      refine bcond_dec (p := (partB n l k).headD 0 = (k : Int)) (fun c2 => ?_) (fun c2 => ?_)
      rotate_left
      · exact nextS (k + 1, false, ps, v1, a1, told, v2, a2) (by show n - (k + 1) < n - k; omega) hnx ⟨rfl, rfl, rfl, rfl, rfl, inc64 (by omega), trivial⟩ (.refl _)
      refine callAB a1 (fun σ => aRInA told k σ (by omega) h2) (fun c3 => ?_) (fun c3 => ?_)
      · exact nextS (k + 1, false, ps, v1, a1, told, v2, a2) (by show n - (k + 1) < n - k; omega) hnx ⟨rfl, rfl, rfl, rfl, rfl, inc64 (by omega), trivial⟩ (.refl _)
      refine callAB a1 (fun σ => aRFree l (partB n l k) told σ hl (by omega) (by omega) h2) (fun c4 => ?_) (fun c4 => ?_)
      rotate_left
      · exact nextS (k + 1, false, ps, v1, a1, told, v2, a2) (by show n - (k + 1) < n - k; omega) hnx ⟨rfl, rfl, rfl, rfl, rfl, inc64 (by omega), trivial⟩ (.refl _)
      intro bl1
      refine append_acc [_] h1 (.mref 0 bl1 0 1 _ rfl (Nat.le_of_ble_eq_true rfl)) rfl (by omega) (by decide) (by decide) (fun v1' a1' h1' => ?_)
      refine append_acc ((bl1, [AV.fsl (.int .i64) (partB n l k)]) :: a1') h2 (.fsl (.int .i64) (partB n l k) rfl) (by rw [← inC_flat, inC_len]; exact (Nat.mul_one _).symm) (show told.length + (partB n l k).length ≤ 1048576 by omega) (by decide) (by decide) (fun v2' a2' h2' => ?_)
      refine nextS (k + 1, true, ps ++ [partB n l k], v1', a1', told ++ partB n l k, v2', a2') (by show n - (k + 1) < n - k; omega) ⟨hkn, ⟨hI.snoc (by omega) hpp hpn (fun z hz => part_in hz), ?_, ?_⟩, (fun h => by cases h), fun _ => ?_⟩ ⟨rfl, rfl, rfl, rfl, rfl, inc64 (by omega), trivial⟩ (.drop 0 1 (shed_eq rfl))
      · show Acc 1 (ps ++ [partB n l k]).length v1' a1' (psC (ps ++ [partB n l k]))
        rw [show psC (ps ++ [partB n l k]) = psC ps ++ [.fsl (.int .i64) (partB n l k)] from List.map_append, List.length_append]; exact h1'
      · show Acc 1 (told ++ partB n l k).length v2' a2' (inC (told ++ partB n l k))
        rw [inC, List.map_append, List.length_append]
        rw [← inC_flat] at h2'
        exact h2'
      · show told0.length < (told ++ partB n l k).length
        rw [List.length_append]; omega
end Go.Proofs.YtegpahamenjiaaaGreat
