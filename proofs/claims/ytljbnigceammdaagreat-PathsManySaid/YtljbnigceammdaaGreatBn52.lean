/-
  Ho: what the claim uses of them.
-/
import Derived.Test.YtljbnigceammdaaGreatBn50
import Derived.Test.YtljbnigceammdaaGreatBn51
import Derived.Test.YtljbnigceammdaaGreatBn22
namespace Go.Proofs.YtljbnigceammdaaGreat
open Go.RowKit
set_option maxRecDepth 100000
theorem gzL2 {l : List (List Int)} {j : Nat} (h : j < l.length) : l[((j : Int)).toNat]? = some (l.getD j []) := by
  rw [Int.toNat_natCast, List.getD_eq_getElem?_getD, List.getElem?_eq_getElem h]; rfl
structure FewP (s : Sy) : Prop where
  sm : SmallS s
  n : s.n ≤ 5
  e : s.edges.length ≤ 8
theorem aFew20 (s : Sy) (σ : Hp) : ACalls Tryz.prog 9 [.agg (sysC s)] σ (SaysP (FewP s) σ) := by
  refine okF Tryz.func9 (by kernel_rfl) ?_
  intro bl1
  refine LoadAt.mk 0 _ _ rfl rfl ?_
  refine callS [] (aSmall17 s _) (fun hsm => ?_) ?_
  rotate_left
  · exact .drop 0 1 (.done ⟨_, rfl, rfl, fun h => by cases h⟩)
  refine LoadAt.mk 0 _ _ rfl rfl ?_
  refine bcond_dec (fun c1 => ?_) (fun c1 => ?_)
  · have c1 : s.n ≤ 5 := c1
    refine LoadAt.mk 0 _ _ rfl rfl ?_
    refine bcond_dec (fun c2 => ?_) (fun c2 => ?_)
    · have c2 : (↑s.edges.length : Int) ≤ 8 := c2
      exact .drop 0 1 (.done ⟨_, rfl, rfl, fun _ => ⟨hsm, by omega, by omega⟩⟩)
    · have c2 : ¬ ((↑s.edges.length : Int) ≤ 8) := c2
      exact .drop 0 1 (.done ⟨_, rfl, rfl, fun h => by cases h⟩)
  · have c1 : ¬ (s.n ≤ 5) := c1
    exact .drop 0 1 (.done ⟨_, rfl, rfl, fun h => by cases h⟩)
/-- Few edges: few ways. -/
theorem few_sum {s : Sy} (h : FewP s) {M : Nat} (hM : M ≤ 3) (v : Nat) : sumC s v (M + 1) ≤ 4096 := by
  have hB : (sortedE s.edges).length ≤ 8 := Nat.le_trans (sortedE_len _) h.e
  have key : ∀ m : Nat, m ≤ 4 → sumC s v m ≤ 1000 * m := by
    intro m
    induction m with
    | zero => intro _; exact Int.le_refl _
    | succ m ih =>
      intro hm
      have h1 := ih (by omega)
      have h2 := (cntK_pow hB m v).2
      have h3 : 8 ^ m ≤ 8 ^ 3 := Nat.pow_le_pow_right (by decide) (by omega)
      rw [sumC_succ]
      omega
  have := key (M + 1) (by omega)
  omega
theorem few_long {s : Sy} (h : FewP s) {k : Nat} (hk : k ≤ 3) : (longP s k).length ≤ 100000 := by
  rw [long_ext]
  have h1 := flat_le (fun a : Nat => extP s k [(a : Int)]) (5 ^ k) (List.range s.n.toNat) fun a _ => ext_len s (by have := h.n; omega) k _
  have h2 : 5 ^ k ≤ 5 ^ 3 := Nat.pow_le_pow_right (by decide) hk
  have h3 : (List.range s.n.toNat).length * 5 ^ k ≤ 5 * 5 ^ 3 := Nat.mul_le_mul (by rw [List.length_range]; have := h.n; omega) h2
  omega
theorem few_all {s : Sy} (h : FewP s) {M : Nat} (hM : M ≤ 3) (v : Int) : (allP s v M).length ≤ 100000 := by
  have key : ∀ m : Nat, m ≤ 4 → (upP s v m).length ≤ 5000 * m := by
    intro m
    induction m with
    | zero => intro _; exact Nat.le_refl _
    | succ m ih =>
      intro hm
      have h1 := ih (by omega)
      have h2 := to_len s v (N := 5) (by have := h.n; omega) m
      have h3 : 5 ^ (m + 1) ≤ 5 ^ 4 := Nat.pow_le_pow_right (by decide) (by omega)
      rw [upP_succ, List.length_append]
      omega
  have := key (M + 1) (by omega)
  show (upP s v (M + 1)).length ≤ 100000
  omega
theorem pathsAll_walk (s : Sy) (v m : Int) (hi : A64 s.init) (ht : ∀ t ∈ s.T, A64 t.1 ∧ A64 t.2.1) : ACalls Tryz.prog 4 [.agg (sysC s), .int .i64 v, .int .i64 m] [] (fun r _ => r = .bool true) := by
  refine okF Tryz.func4 (by kernel_rfl) ?_
  intro bl1
  refine callR [] (aAwake20 _) ?_
  refine LoadAt.mk 0 _ _ rfl rfl ?_
  refine callS [] (aFew20 s _) (fun hfew => ?_) ?_
  rotate_left
  · exact .done rfl
  have hf := fit_of hfew.sm hi ht
  refine LoadAt.mk 0 _ _ rfl rfl ?_
  obtain ⟨m3, hm3⟩ : ∃ m3, (if 3 < m then 3 else m) = m3 := ⟨_, rfl⟩
  have hm33 : m3 ≤ 3 := by split at hm3 <;> omega
  obtain ⟨M, hM⟩ : ∃ M : Nat, mostK m3 = M := ⟨_, rfl⟩
  have hM3 : M ≤ 3 := by unfold mostK at hM; omega
  have hMx : (if m3 < 0 then 0 else m3) = (M : Int) := by unfold mostK at hM; split <;> omega
  have hlen : Good s → 0 ≤ v → v < s.n → sumC s v.toNat (mostK m3 + 1) ≤ 4096 → (allP s v (mostK m3)).length ≤ 100000 := fun _ _ _ _ => by rw [hM]; exact few_all hfew hM3 v
  have hA := fun σ => aPathsAll s v m3 σ hf hlen
  have hB := fun σ => aPathsMeet s v m3 σ hf hlen
  have hC := fun σ => aRCheck17 s σ hf
  by_cases c : checkS s = 0
  · have hg := good_of c
    rw [c] at hC
    by_cases cv : 0 ≤ v ∧ v < s.n
    · obtain ⟨V, rfl⟩ : ∃ V : Nat, v = V := ⟨v.toNat, by omega⟩
      have hE : allE s V m3 = 0 := by
        unfold allE
        rw [if_pos c, if_pos cv, if_pos]
        rw [hM, Int.toNat_natCast]
        exact few_sum hfew hM3 V
      rw [hE, okG_yes rfl, hM] at hA
      rw [hE, okL_pos rfl, hM] at hB
      have hR := fun σ => aRAll20 s V M σ hf hg (by omega) (fun k hk => few_long hfew (by omega)) (few_all hfew hM3 V)
      have hQ := fun σ => aRMeet20 s V M σ hf hg (by omega) (fun k hk => few_long hfew (by omega)) (few_all hfew hM3 V)
      have hrow : ∀ w ∈ allP s V M, w.length ≤ 1000000 := fun w hw => by
        obtain ⟨k, hk, h1, _⟩ := mem_allP.1 hw
        have h2 := long_way (by have := hg.n1; omega) k w h1
        omega
      have hal := few_all hfew hM3 V
      have hmv : (meetS s (allP s V M)).length ≤ 1000000 := by
        have := val_short (meetS_Val hf hg (L := allP s V M) fun w hw => by
          obtain ⟨k, hk, h1, _⟩ := mem_allP.1 hw
          exact (long_way (by have := hg.n1; omega) k w h1).1).v
        omega
      generalize allP s V M = L at hA hB hR hQ hrow hmv hal
      have hS := fun σ => aRSame09 L σ (by omega) hrow
      generalize meetS s L = x at hB hQ hmv
      have hT := fun σ => acalls_eq (same10 x x σ hmv) (av_bool (decide_eq_true rfl))
      rw [← hMx, ← hm3] at hR hQ
      rw [← hm3] at hA hB
      refine callR [] (hA _) ?_
      refine LoadAt.mk 0 _ _ rfl rfl ?_
      refine callR [] (hB _) ?_
      refine LoadAt.mk 0 _ _ rfl rfl ?_
      refine callR [] (hC _) ?_
      refine LoadAt.mk 0 _ _ rfl rfl ?_
      refine bcond_dec (fun c1 => ?_) (fun c1 => ?_)
      · have c1 : s.n ≤ (↑V : Int) := c1
        exact absurd cv (by omega)
      · have c1 : ¬ (s.n ≤ (↑V : Int)) := c1
        refine LoadAt.mk 0 _ _ rfl rfl ?_
        refine callR [] (hR _) ?_
        refine callR [] (hS _) ?_
        refine LoadAt.mk 0 _ _ rfl rfl ?_
        refine callR [] (hQ _) ?_
        refine callR [] (hT _) ?_
        exact .done rfl
    · have hE : allE s v m3 = 1 := by
        unfold allE
        rw [if_pos c, if_neg cv]
      rw [hE, okG_no (by decide), ← hm3] at hA
      rw [hE, okL_neg (by decide), ← hm3] at hB
      refine callR [] (hA _) ?_
      refine LoadAt.mk 0 _ _ rfl rfl ?_
      refine callR [] (hB _) ?_
      refine LoadAt.mk 0 _ _ rfl rfl ?_
      refine callR [] (hC _) ?_
      refine bcond_dec (fun c1 => ?_) (fun c1 => ?_)
      · have c1 : v < 0 := c1
        exact .done rfl
      · have c1 : ¬ (v < 0) := c1
        refine LoadAt.mk 0 _ _ rfl rfl ?_
        refine bcond_dec (fun c2 => ?_) (fun c2 => ?_)
        · have c2 : s.n ≤ v := c2
          exact .done rfl
        · have c2 : ¬ (s.n ≤ v) := c2
          exact absurd cv (by omega)
  · have hE : allE s v m3 = checkS s := if_neg c
    rw [hE, okG_no c, ← hm3] at hA
    rw [hE, okL_neg c, ← hm3] at hB
    generalize checkS s = e at hA hB hC c
    refine callR [] (hA _) ?_
    refine LoadAt.mk 0 _ _ rfl rfl ?_
    refine callR [] (hB _) ?_
    refine LoadAt.mk 0 _ _ rfl rfl ?_
    refine callR [] (hC _) ?_
    refine bcond_split (fun c1 => ?_) (fun c1 => ?_)
    · have c1 : ¬ (e = 0) := by simpa using c1
      refine bcond_dec (fun c2 => ?_) (fun c2 => ?_)
      · have c2 : e = e := c2
        refine bcond_dec (fun c3 => ?_) (fun c3 => ?_)
        · have c3 : e = e := c3
          exact .done rfl
        · exact absurd rfl c3
      · exact absurd rfl c2
    · exact absurd (by simpa using c1) c
theorem pathsMeet_walk (s : Sy) (v m : Int) (hi : A64 s.init) (ht : ∀ t ∈ s.T, A64 t.1 ∧ A64 t.2.1) : ACalls Tryz.prog 5 [.agg (sysC s), .int .i64 v, .int .i64 m] [] (fun r _ => r = .bool true) := by
  refine okF Tryz.func5 (by kernel_rfl) ?_
  intro bl1
  refine callR [] (aAwake20 _) ?_
  refine LoadAt.mk 0 _ _ rfl rfl ?_
  refine callS [] (aFew20 s _) (fun hfew => ?_) ?_
  rotate_left
  · exact .done rfl
  have hf := fit_of hfew.sm hi ht
  obtain ⟨m3, hm3⟩ : ∃ m3, (if 3 < if m < 0 then 0 else m then 3 else if m < 0 then 0 else m) = m3 := ⟨_, rfl⟩
  obtain ⟨M, hM⟩ : ∃ M : Nat, mostK m3 = M := ⟨_, rfl⟩
  have hm03 : 0 ≤ m3 ∧ m3 ≤ 3 := by split at hm3 <;> split at hm3 <;> omega
  have hM3 : M ≤ 3 := by unfold mostK at hM; omega
  have hMx : m3 = (M : Int) := by unfold mostK at hM; omega
  have hlen : Good s → 0 ≤ v → v < s.n → sumC s v.toNat (mostK m3 + 1) ≤ 4096 → (allP s v (mostK m3)).length ≤ 100000 := fun _ _ _ _ => by rw [hM]; exact few_all hfew hM3 v
  have hB := fun σ => aPathsMeet s v m3 σ hf hlen
  refine LoadAt.mk 0 _ _ rfl rfl ?_
  refine bcond_dec (p := s.what = 3) (fun h3 => ?_) (fun h3 => ?_)
  · exact .done rfl
  refine LoadAt.mk 0 _ _ rfl rfl ?_
  by_cases hE : allE s v m3 = 0
  · have c := allE_chk hE
    have cv := allE_v hE
    have hg := good_of c
    obtain ⟨V, rfl⟩ : ∃ V : Nat, v = V := ⟨v.toNat, by omega⟩
    obtain ⟨N, hN⟩ : ∃ N : Nat, s.n = N := ⟨s.n.toNat, by have := hg.n1; omega⟩
    rw [hE, okL_pos rfl, hM, meet_steps hf hg h3 M V cv.2.1, ← hm3] at hB
    have hVl := fun k => valK_Vals hf hg k
    have hsl : ∀ k u, u < N → ((valK s k).getD u []).length ≤ 1000000 := fun k u hu => by
      have := val_short ((hVl k).get (i := u) (by omega)).v
      omega
    refine callR [] (hB _) ?_
    refine LoadAt.mk 0 _ _ rfl rfl ?_
    have hn2 := hg.n2
    have hS0 := fun (k : Nat) σ => aRStart17 s (k : Int) σ hf hg
    refine .wrap 9 _ rfl rfl ?_
    refine loopS (S := Nat × AV × Hp) (fun x => [(1, .int .i64 V), (2, .int .i64 M), (3, .ptr bl1 0), (7, .fsl (.int .u64) ((valK s M).getD V [])), (8, .int .i64 0), (9, .via x.2.1), (37, .int .i64 N), (38, .int .i64 x.1)]) (fun x => (bl1, sysC s) :: (x.2.2 ++ [])) (fun x => x.1 ≤ N ∧ Acc 1 x.1 x.2.1 x.2.2 (uuC ((List.range x.1).map fun v : Nat => startS s v))) (fun x => N - x.1) (0, .nils, []) ⟨⟨Nat.zero_le _, .nil⟩, ⟨rfl, av_int (by omega), rfl, rfl, rfl, rfl, av_int hN, rfl, trivial⟩, rfl⟩ ?_
    rintro ⟨k, v9, acc⟩ g ⟨hk0, hacc0⟩
    have hk : k ≤ N := hk0
    have hacc : Acc 1 k v9 acc (uuC ((List.range k).map fun v : Nat => startS s v)) := hacc0
    clear hk0 hacc0
    refine bcond_dec (p := (k : Int) < N) (fun hlt => ?_) (fun hge => ?_)
    · have hlt : k < N := by omega
      have hsn : uuC ((List.range (k + 1)).map fun v : Nat => startS s v) = uuC ((List.range k).map fun v : Nat => startS s v) ++ [.fsl (.int .u64) (startS s k)] := by
        unfold uuC; rw [List.range_succ, List.map_append, List.map_append]; rfl
      refine LoadAt.mk 0 _ _ rfl rfl ?_
      refine callR [] (hS0 k _) ?_
      intro bl2
      refine append_acc [_, _] hacc (.mref 0 bl2 0 1 _ rfl (Nat.le_of_ble_eq_true rfl)) rfl (by omega) (by decide) (by decide) (fun v' acc' h' => ?_)
      exact nextS (k + 1, v', acc') (by show N - (k + 1) < N - k; omega) ⟨hlt, by show Acc 1 (k + 1) v' acc' (uuC ((List.range (k + 1)).map fun v : Nat => startS s v)); rw [hsn]; exact h'⟩ ⟨rfl, rfl, rfl, rfl, rfl, rfl, rfl, inc64 (by omega), trivial⟩ (.drop 0 1 (.refl _))
    · have hge : k = N := by omega
      subst hge
      obtain ⟨b, rfl, rfl⟩ := accA_one (by have := hg.n1; omega) hacc
      have hv0 : valK s 0 = (List.range k).map fun v : Nat => startS s v := by show (List.range s.n.toNat).map _ = _; rw [hN, Int.toNat_natCast]
      have hl0 : ((List.range k).map fun v : Nat => startS s v).length = k := by simp
      refine .frz 1 b 0 k 1 _ (.slice (.int .u64)) ((List.range k).map fun v : Nat => startS s v) rfl (by rw [List.drop_zero, List.take_of_length_le (by rw [uuC_length, hl0]; omega)]; exact uuC_flat _) ⟨hl0, rfl, by decide⟩ (frzV 9 rfl rfl) ?_
      refine loopS (S := Nat) (fun j => [(1, .int .i64 V), (3, .ptr bl1 0), (7, .fsl (.int .u64) ((valK s M).getD V [])), (8, .int .i64 0), (9, .fsl (.slice (.int .u64)) (valK s j)), (48, .int .i64 M), (49, .int .i64 j)]) (fun _ => [(bl1, sysC s)]) (fun j => j ≤ M) (fun j => M - j) 0 ⟨Nat.zero_le _, ⟨rfl, rfl, rfl, rfl, by rw [hv0]; rfl, rfl, rfl, trivial⟩, rfl⟩ ?_
      intro j g hj0
      have hj : j ≤ M := hj0
      clear hj0
      refine bcond_dec (p := (j : Int) < M) (fun hlt => ?_) (fun hge => ?_)
      · have hlt : j < M := by omega
        have hSt : ∀ σ, ACalls Tryz.prog 17 [.agg (sysC s), .fsl (.slice (.int .u64)) (valK s j)] σ (Ret (.tup [.fsl (.slice (.int .u64)) (valK s (j + 1)), .int .i64 0]) σ) := fun σ => acalls_eq (aSysStep s (valK s j) σ hf ((hVl j).ok hg)) (by rw [errS_ok hg (hVl j), okG_yes rfl]; rfl)
        refine LoadAt.mk 0 _ _ rfl rfl ?_
        refine callR [] (hSt _) ?_
        exact nextS (j + 1) (by show M - (j + 1) < M - j; omega) hlt ⟨rfl, rfl, rfl, rfl, rfl, rfl, inc64 (by omega), trivial⟩ (.refl _)
      · have hge : j = M := by omega
        subst hge
        have hvl := (hVl j).len
        have hss := hsl j V (by omega)
        refine With.mk rfl ?_
        refine IdxF.mk ((valK s j).getD V []) (by omega) (gzL2 (by omega)) ?_
        refine callR [] (acalls_eq (same10 ((valK s j).getD V []) ((valK s j).getD V []) _ hss) (av_bool (decide_eq_true rfl))) ?_
        exact .done rfl
  · rw [okL_neg hE, ← hm3] at hB
    generalize hE2 : allE s v m3 = e at hB hE
    rw [← hm3] at hE2
    rw [hE2] at hB
    refine callR [] (hB _) ?_
    refine bcond_split (fun c1 => ?_) (fun c1 => ?_)
    · have c1 : ¬ (e = 0) := by simpa using c1
      exact .done rfl
    · exact absurd (by simpa using c1) hE
/-- The transfers of a full graph's system, as they are put together. -/
def manyT (k : Nat) : List AV := (List.range k).flatMap fun _ => [.fsl (.int .u64) ([0] : List Int), .fsl (.int .u64) ([0] : List Int), .nils]
theorem manyT_succ (k : Nat) : manyT (k + 1) = manyT k ++ [.fsl (.int .u64) ([0] : List Int), .fsl (.int .u64) ([0] : List Int), .nils] := by unfold manyT; rw [List.range_succ, List.flatMap_append]; simp
theorem manyT_length : ∀ k : Nat, (manyT k).length = k * 3
  | 0 => rfl
  | k + 1 => by rw [manyT_succ, List.length_append, manyT_length k]; simp; omega
/-- The edges from fewer than a nodes. -/
def upE (N a : Nat) : List EdgeT := (List.range a).flatMap fun a : Nat => (List.range N).map fun b : Nat => ((a : Int), (b : Int), ())
def rowE (a j : Nat) : List EdgeT := (List.range j).map fun b : Nat => ((a : Int), (b : Int), ())
theorem upE_length (N : Nat) : ∀ a, (upE N a).length = a * N
  | 0 => by rw [Nat.zero_mul]; rfl
  | a + 1 => by
    have e : upE N (a + 1) = upE N a ++ rowE a N := by unfold upE rowE; rw [List.range_succ, List.flatMap_append]; simp
    rw [e, List.length_append, upE_length N a, Nat.succ_mul]
    unfold rowE
    rw [List.length_map, List.length_range]
theorem accE_one {e k : Nat} {v : AV} {acc : Hp} {cs : List AV} (h0 : 0 < k) (h : Acc e k v acc cs) : ∃ b, v = .mref b 0 k e ∧ acc = [(b, cs)] := by
  cases h with
  | nil => omega
  | mref b k cs h => exact ⟨b, rfl, rfl⟩
theorem get3a {k : Nat} (l : List AV) (x y z : AV) (h : l.length = k) : (l ++ [x, y, z])[k]? = some x := by subst h; simp
theorem get3b {k : Nat} (l : List AV) (x y z : AV) (h : l.length = k) : (l ++ [x, y, z])[k + 1]? = some y := by subst h; simp
theorem set3a {k : Nat} (l : List AV) (x y z w : AV) (h : l.length = k) : (l ++ [x, y, z]).set k w = l ++ [w, y, z] := by subst h; simp
theorem set3b {k : Nat} (l : List AV) (x y z w : AV) (h : l.length = k) : (l ++ [x, y, z]).set (k + 1) w = l ++ [x, w, z] := by subst h; simp
theorem flatE_snoc (l : List EdgeT) (a b : Int) : (l ++ [(a, b, ())]).flatMap edgeSh.cells = l.flatMap edgeSh.cells ++ [.int .i64 a, .int .i64 b] := List.flatMap_append (xs := l) (ys := [(a, b, ())]) (f := edgeSh.cells)
/-- The same, as lists that are there for good. -/
def tr0 : transSh.T := (([0] : List Int), ([0] : List Int), ([] : List CodeT), ())
def manyC (k : Nat) : List AV := (List.replicate k tr0).flatMap transSh.cells
theorem manyC_succ (k : Nat) : manyC (k + 1) = manyC k ++ [.fsl (.int .u64) ([0] : List Int), .fsl (.int .u64) ([0] : List Int), .fsl codeSh []] := by
  unfold manyC; rw [List.replicate_succ', List.flatMap_append]; rfl
theorem manyC_length : ∀ k : Nat, (manyC k).length = k * 3
  | 0 => rfl
  | k + 1 => by rw [manyC_succ, List.length_append, manyC_length k]; simp; omega
theorem many_nils : ∀ (a k : Nat) (x y : AV), (manyT a)[k]? = some x → (manyC a)[k]? = some y → x = y ∨ (x = .nils ∧ ∃ e : Sh, y = .fsl e [])
  | 0, k, x, y, h, _ => by cases h
  | a + 1, k, x, y, hx, hy => by
    rw [manyT_succ] at hx
    rw [manyC_succ] at hy
    have h1 := manyT_length a
    have h2 := manyC_length a
    by_cases hk : k < a * 3
    · rw [List.getElem?_append_left (by omega)] at hx hy
      exact many_nils a k x y hx hy
    · rw [List.getElem?_append_right (by omega)] at hx hy
      rw [h1] at hx
      rw [h2] at hy
      rcases Nat.lt_or_ge (k - a * 3) 3 with hlt | hge
      · match hm : k - a * 3 with
        | 0 => rw [hm] at hx hy; cases hx; cases hy; exact .inl rfl
        | 1 => rw [hm] at hx hy; cases hx; cases hy; exact .inl rfl
        | 2 => rw [hm] at hx hy; cases hx; cases hy; exact .inr ⟨rfl, _, rfl⟩
        | m + 3 => omega
      · rw [List.getElem?_eq_none (by simpa using hge)] at hx; cases hx
theorem wayN_small : ∀ n, n ≤ 6 → ∀ k, k ≤ 9 → (wayN n k).1 ≤ 100000000 ∧ (wayN n k).2 ≤ 100000000 := by decide +kernel
theorem many_fit (n : Nat) (hn : n ≤ 6) : Fit (manyS n) := ⟨one64 (by unfold W64; omega), Nat.le_of_ble_eq_true rfl, by
    have : (fullE n).length = n * n := upE_length n n
    show (fullE n).length ≤ 100000
    have h2 : n * n ≤ 6 * 6 := Nat.mul_le_mul hn hn
    omega, Nat.zero_le _, by show (List.replicate n tr0).length ≤ 100000; rw [List.length_replicate]; omega, fun t ht => by
    rw [(List.mem_replicate.1 ht).2]; exact ⟨one64 (by unfold W64; omega), one64 (by unfold W64; omega), Nat.le_of_ble_eq_true rfl, Nat.le_of_ble_eq_true rfl, Nat.zero_le _⟩⟩
theorem many_len (n : Nat) (hn : n ≤ 6) (v : Int) : Good (manyS n) → 0 ≤ v → v < (manyS n).n → sumC (manyS n) v.toNat (mostK 99 + 1) ≤ 4096 → (allP (manyS n) v (mostK 99)).length ≤ 100000 := fun _ h0 h1 h2 => by
  have h1 : v < n := h1
  have e : mostK 99 = 8 := rfl
  rw [e] at h2 ⊢
  rw [sumC_many n hn] at h2
  have hb : ¬ 3 ≤ n := fun h3 => Int.not_le.2 (cntJ_big n hn h3 v.toNat (by omega)) h2
  obtain ⟨V, rfl⟩ : ∃ V : Nat, v = V := ⟨v.toNat, by omega⟩
  have := way_few n (by omega) V (by omega)
  rw [allF_eq, this.1]
  have := (wayN_small n (by omega) 9 (by omega)).1
  have h3 := way_big n hn
  omega
theorem many_E (n : Nat) (hn : n ≤ 6) (h1 : 1 ≤ n) (v : Int) : allE (manyS n) v 99 = if 0 ≤ v ∧ v < n then (if 3 ≤ n then 6 else 0) else 1 := by
  unfold allE
  rw [if_pos (many_chk n hn h1)]
  show (if 0 ≤ v ∧ v < (n : Int) then (if sumC (manyS n) v.toNat (8 + 1) ≤ 4096 then (0 : Int) else 6) else 1) = _
  by_cases c : 0 ≤ v ∧ v < (n : Int)
  · rw [if_pos c, if_pos c, sumC_many n hn]
    by_cases h3 : 3 ≤ n
    · rw [if_pos h3, if_neg (Int.not_le.2 (cntJ_big n hn h3 v.toNat (by omega)))]
    · rw [if_neg h3, if_pos (cntJ_few n (by omega) v.toNat (by omega))]
  · rw [if_neg c, if_neg c]
theorem aRInts20 (l : List Int) (σ : Hp) (hl : l.length ≤ 1000000) : ACalls Tryz.prog 8 [.fsl (.int .i64) l, .fsl (.int .i64) l] σ (Ret (.bool true) σ) := by
  refine okF Tryz.func8 (by kernel_rfl) ?_
  refine bcond_split (fun c => absurd c (by simp)) (fun c => ?_)
  refine loopS (S := Nat) (fun k => [(0, .fsl (.int .i64) l), (1, .fsl (.int .i64) l), (12, .int .i64 l.length), (13, .int .i64 k)]) (fun _ => σ) (fun k => k ≤ l.length) (fun k => l.length - k) 0 ⟨Nat.zero_le _, ⟨rfl, rfl, rfl, rfl, trivial⟩, rfl⟩ ?_
  rintro k g hk0
  have hk : k ≤ l.length := hk0
  refine bcond_dec (fun hlt => ?_) (fun hge => ?_)
  · have hlt : k < l.length := by have hlt : (k : Int) < l.length := hlt; omega
    refine DrawW.quiet (by kernel_rfl) ?_
    refine With.mk rfl (IdxF.mk l[k] (by omega) (get_some hlt) ?_)
    refine With.mk rfl (IdxF.mk l[k] (by omega) (get_some hlt) ?_)
    refine bcond_split (fun c => absurd c (by simp)) (fun c => ?_)
    exact nextS (k + 1) (by show l.length - (k + 1) < l.length - k; omega) hlt ⟨rfl, rfl, rfl, inc64 (by omega), trivial⟩ (.refl _)
  · exact .done ⟨rfl, rfl⟩
theorem pathsMany_walk (n v : Int) (hn : 0 ≤ n ∧ n < 256) : ACalls Tryz.prog 3 [.int .u8 n, .int .i64 v] [] (fun r _ => r = .bool true) := by
  obtain ⟨N, hN⟩ : ∃ N : Nat, IntKind.i64.wrap (IntKind.i64.wrap (n.tmod 6) + 1) = N ∧ 1 ≤ N ∧ N ≤ 6 := ⟨(n.tmod 6 + 1).toNat, by
    have h1 : 0 ≤ n.tmod 6 := Int.tmod_nonneg _ hn.1
    have h2 : n.tmod 6 < 6 := Int.tmod_lt_of_pos _ (by decide)
    rw [w64 (n := n.tmod 6) (by omega), w64 (by omega)]
    omega⟩
  refine okF Tryz.func3 (by kernel_rfl) ?_
  refine callR [] (aAwake20 _) ?_
  refine With.mk (by omega) ?_
  intro bl1
  intro bl2
  refine StoreAt.mk 0 _ _ rfl rfl ?_
  have hNi : IntKind.i64.wrap (IntKind.i64.wrap (n.tmod 6) + 1) = N := hN.1
  refine loopS (S := Nat × AV × Hp × AV × Hp) (fun x => [(1, .int .i64 v), (5, .int .i64 N), (6, .ptr bl2 0), (22, .int .i64 N), (23, .int .i64 x.1)]) (fun x => (bl2, [.int .i64 1, .int .i64 1, .int .i64 N, x.2.1, .nils, .mref bl1 0 1 1, x.2.2.2.1]) :: (bl1, [.int .u64 0]) :: (x.2.2.1 ++ (x.2.2.2.2 ++ []))) (fun x => x.1 ≤ N ∧ Acc 2 (upE N x.1).length x.2.1 x.2.2.1 ((upE N x.1).flatMap edgeSh.cells) ∧ Acc 3 x.1 x.2.2.2.1 x.2.2.2.2 (manyT x.1)) (fun x => N - x.1) (0, .nils, [], .nils, []) ⟨⟨Nat.zero_le _, .nil, .nil⟩, ⟨rfl, av_int hNi, rfl, av_int hNi, rfl, trivial⟩, by rw [hNi]; rfl⟩ ?_
  rintro ⟨a, vE, accE, vT, accT⟩ g ⟨ha0, hE0, hT0⟩
  have ha : a ≤ N := ha0
  have hE : Acc 2 (upE N a).length vE accE ((upE N a).flatMap edgeSh.cells) := hE0
  have hT : Acc 3 a vT accT (manyT a) := hT0
  clear ha0 hE0 hT0
  refine bcond_dec (p := (a : Int) < N) (fun hlt => ?_) (fun hge => ?_)
  · have hlt : a < N := by omega
    refine LoadAt.mk 0 _ _ rfl rfl ?_
    intro bl3
    intro bl4
    intro bl5
    refine append_accV (_ :: _ :: _ :: _ :: _ :: accE) hT.unv (.mref 0 bl5 0 1 _ rfl (Nat.le_of_ble_eq_true rfl)) rfl (by omega) (by decide) (by decide) (fun v' acc' h' => ?_)
    obtain ⟨bT, rfl, rfl⟩ := accE_one (by omega) h'
    refine StoreAt.mk 3 _ _ rfl rfl ?_
    refine .shed (.drop 0 1 (.refl _)) ?_
    have hrow : ∀ j, rowE a (j + 1) = rowE a j ++ [((a : Int), (j : Int), ())] := fun j => by unfold rowE; rw [List.range_succ, List.map_append]; rfl
    have hrl : ∀ j, (rowE a j).length = j := fun j => by unfold rowE; simp
    have hul := upE_length N a
    have hup : upE N (a + 1) = upE N a ++ rowE a N := by unfold upE rowE; rw [List.range_succ, List.flatMap_append]; simp
    have haN : a * N ≤ 6 * 6 := Nat.mul_le_mul (by omega) (by omega)
    refine loopS (S := Nat × AV × Hp) (fun x => [(1, .int .i64 v), (5, .int .i64 N), (6, .ptr bl2 0), (7, .int .i64 a), (22, .int .i64 N), (23, .int .i64 a), (34, .int .i64 N), (35, .int .i64 x.1)]) (fun x => (bl4, [.int .u64 0]) :: (bl3, [.int .u64 0]) :: (bl2, [.int .i64 1, .int .i64 1, .int .i64 N, x.2.1, .nils, .mref bl1 0 1 1, .mref bT 0 (a + 1) 3]) :: (bl1, [.int .u64 0]) :: (x.2.2 ++ [(bT, manyT a ++ [.mref bl3 0 1 1, .mref bl4 0 1 1, .nils])])) (fun x => x.1 ≤ N ∧ Acc 2 (upE N a ++ rowE a x.1).length x.2.1 x.2.2 ((upE N a ++ rowE a x.1).flatMap edgeSh.cells)) (fun x => N - x.1) (0, vE, accE) ⟨⟨Nat.zero_le _, by show Acc 2 (upE N a ++ []).length vE accE ((upE N a ++ []).flatMap edgeSh.cells); rw [List.append_nil]; exact hE⟩, ⟨rfl, rfl, rfl, rfl, rfl, rfl, rfl, rfl, trivial⟩, rfl⟩ ?_
    rintro ⟨j, vE, accE⟩ g ⟨hj0, hE0⟩
    have hj : j ≤ N := hj0
    have hE : Acc 2 (upE N a ++ rowE a j).length vE accE ((upE N a ++ rowE a j).flatMap edgeSh.cells) := hE0
    clear hj0 hE0
    refine bcond_dec (p := (j : Int) < N) (fun hlt2 => ?_) (fun hge2 => ?_)
    · have hlt2 : j < N := by omega
      have hl2 : (upE N a ++ rowE a j).length ≤ 1000 := by rw [List.length_append, hul, hrl]; omega
      refine LoadAt.mk 2 _ _ rfl rfl ?_
      intro bl5
      refine append_accV [_, _, _, _, _] hE.unv (.mref 0 bl5 0 1 _ rfl (Nat.le_of_ble_eq_true rfl)) rfl (by omega) (by decide) (by decide) (fun v' acc' h' => ?_)
      obtain ⟨bE, rfl, rfl⟩ := accE_one (by omega) h'
      refine StoreAt.mk 3 _ _ rfl rfl ?_
      refine nextS (j + 1, .mref bE 0 ((upE N a ++ rowE a j).length + 1) 2, [(bE, (upE N a ++ rowE a (j + 1)).flatMap edgeSh.cells)]) (by show N - (j + 1) < N - j; omega) ⟨hlt2, ?_⟩ ⟨rfl, rfl, rfl, rfl, rfl, rfl, rfl, inc64 (by omega), trivial⟩ (.drop 0 1 (shed_eq ?_))
      · have e : (upE N a ++ rowE a (j + 1)).flatMap edgeSh.cells = (upE N a ++ rowE a j).flatMap edgeSh.cells ++ [.int .i64 a, .int .i64 j] := by rw [hrow, ← List.append_assoc]; exact flatE_snoc _ _ _
        show Acc 2 (upE N a ++ rowE a (j + 1)).length _ _ ((upE N a ++ rowE a (j + 1)).flatMap edgeSh.cells)
        rw [e, hrow, ← List.append_assoc, List.length_append]
        exact h'
      · have e : (upE N a ++ rowE a j).flatMap edgeSh.cells ++ [.int .i64 a, .int .i64 j] = (upE N a ++ rowE a (j + 1)).flatMap edgeSh.cells := by rw [hrow, ← List.append_assoc]; exact (flatE_snoc _ _ _).symm
        exact congrArg (fun c => [(bl4, [AV.int .u64 0]), (bl3, [AV.int .u64 0]), (bl2, [AV.int .i64 1, .int .i64 1, .int .i64 N, .mref bE 0 ((upE N a ++ rowE a j).length + 1) 2, .nils, .mref bl1 0 1 1, .mref bT 0 (a + 1) 3]), (bl1, [.int .u64 0]), (bE, c), (bT, manyT a ++ [.mref bl3 0 1 1, .mref bl4 0 1 1, .nils])]) e
    · have hge2 : j = N := by omega
      subst hge2
      rw [← hup] at hE
      have hl3 : 0 < (upE j (a + 1)).length := by rw [upE_length]; exact Nat.mul_pos (by omega) (by omega)
      obtain ⟨bE, rfl, rfl⟩ := accE_one hl3 hE
      have hml := (manyT_length a).symm
      refine .frzc 1 bl3 0 1 1 _ (.int .u64) ([0] : List Int) rfl rfl ⟨rfl, rfl, by decide⟩ 4 (a * 3) bT _ rfl (get3a _ _ _ _ hml.symm) ?_
      refine .frzc 0 bl4 0 1 1 _ (.int .u64) ([0] : List Int) rfl rfl ⟨rfl, rfl, by decide⟩ 3 (a * 3 + 1) bT _ rfl (by rw [set3a _ _ _ _ _ hml.symm]; exact get3b _ _ _ _ hml.symm) ?_
      refine nextS (a + 1, .mref bE 0 (upE j (a + 1)).length 2, [(bE, (upE j (a + 1)).flatMap edgeSh.cells)], .mref bT 0 (a + 1) 3, [(bT, manyT (a + 1))]) (by show j - (a + 1) < j - a; omega) ⟨hlt, hE, .mref bT (a + 1) _ (manyT_length (a + 1))⟩ ⟨rfl, rfl, rfl, rfl, inc64 (by omega), trivial⟩ (shed_eq ?_)
      have e : ((manyT a ++ [AV.mref bl3 0 1 1, AV.mref bl4 0 1 1, AV.nils]).set (a * 3) (.fsl (.int .u64) ([0] : List Int))).set (a * 3 + 1) (.fsl (.int .u64) ([0] : List Int)) = manyT (a + 1) := by rw [set3a _ _ _ _ _ hml.symm, set3b _ _ _ _ _ hml.symm, manyT_succ]
      exact congrArg (fun c => [(bl2, [AV.int .i64 1, .int .i64 1, .int .i64 j, .mref bE 0 (upE j (a + 1)).length 2, .nils, .mref bl1 0 1 1, .mref bT 0 (a + 1) 3]), (bl1, [.int .u64 0]), (bE, (upE j (a + 1)).flatMap edgeSh.cells), (bT, c)]) e
  · have hge : a = N := by omega
    subst hge
    have hlE : 0 < (upE a a).length := by rw [upE_length]; exact Nat.mul_pos (by omega) (by omega)
    obtain ⟨bE, rfl, rfl⟩ := accE_one hlE hE
    obtain ⟨bT, rfl, rfl⟩ := accE_one (by omega) hT
    have hway := wayN_small a (by omega)
    refine .shed (.nilc 3 bT (manyT a) (manyC a) rfl (by rw [manyC_length, manyT_length]) (many_nils a) (.refl _)) ?_
    refine loopS (S := Nat) (fun j => [(1, .int .i64 v), (5, .int .i64 a), (6, .ptr bl2 0), (9, .int .i64 (wayN a j).1), (10, .int .i64 (wayN a j).2), (48, .int .i64 j)]) (fun _ => [(bl2, [.int .i64 1, .int .i64 1, .int .i64 a, .mref bE 0 (upE a a).length 2, .nils, .mref bl1 0 1 1, .mref bT 0 a 3]), (bl1, [.int .u64 0]), (bE, (upE a a).flatMap edgeSh.cells), (bT, manyC a)]) (fun j => j ≤ 9) (fun j => 9 - j) 0 ⟨Nat.zero_le _, ⟨rfl, rfl, rfl, rfl, rfl, rfl, trivial⟩, rfl⟩ ?_
    intro j g hj0
    have hj : j ≤ 9 := hj0
    clear hj0
    refine bcond_dec (p := (j : Int) < 9) (fun hlt => ?_) (fun hge => ?_)
    · have hlt : j < 9 := by omega
      have hwj := hway j (by omega)
      have hw1 : AV.int .i64 (IntKind.i64.wrap (((wayN a j).1 : Int) + ((wayN a j).2 : Int))) = AV.int .i64 ((wayN a (j + 1)).1 : Int) := av_int (by rw [w64 (by omega)]; show _ = (((wayN a j).1 + (wayN a j).2 : Nat) : Int); omega)
      have hw2 : AV.int .i64 (IntKind.i64.wrap (((wayN a j).2 : Int) * (a : Int))) = AV.int .i64 ((wayN a (j + 1)).2 : Int) := av_int (by
        show _ = (((wayN a j).2 * a : Nat) : Int)
        have h2 : (((wayN a j).2 * a : Nat) : Int) ≤ ((100000000 * 6 : Nat) : Int) := Int.ofNat_le.2 (Nat.mul_le_mul hwj.2 (by omega))
        rw [← Int.natCast_mul, w64 (by omega)])
      exact nextS (j + 1) (by show 9 - (j + 1) < 9 - j; omega) hlt ⟨rfl, rfl, rfl, hw1, hw2, inc64 (by omega), trivial⟩ (.refl _)
    · have hge : j = 9 := by omega
      subst hge
      refine LoadAt.mk 0 _ _ rfl rfl ?_
      have hAll := fun σ => aPathsAll (manyS a) v 99 σ (many_fit a (by omega)) (many_len a (by omega) v)
      have hl0 : (List.replicate a tr0).length = a := List.length_replicate
      refine .frz (args' := [.agg [.int .i64 1, .int .i64 1, .int .i64 a, .mref bE 0 (upE a a).length 2, .fsl (.int .i64) ([] : List Int), .fsl (.int .u64) ([0] : List Int), .mref bT 0 a 3], .int .i64 v, .int .i64 99]) 1 bl1 0 1 1 _ (.int .u64) ([0] : List Int) rfl rfl ⟨rfl, rfl, by decide⟩ (frz_cons (frz_agg (frz_cons (.refl _) (frz_cons (.refl _) (frz_cons (.refl _) (frz_cons (.refl _) (frz_cons (.nil _) (frz_cons .here (frz_cons (.refl _) (.refl _)))))))) rfl) (.refl _)) ?_
      refine .frz (args' := [.agg [.int .i64 1, .int .i64 1, .int .i64 a, .fsl edgeSh (upE a a), .fsl (.int .i64) ([] : List Int), .fsl (.int .u64) ([0] : List Int), .mref bT 0 a 3], .int .i64 v, .int .i64 99]) 1 bE 0 (upE a a).length 2 _ edgeSh (upE a a) rfl (by rw [List.drop_zero]; exact List.take_of_length_le (Nat.le_of_eq hE.length)) ⟨rfl, rfl, by decide⟩ (frz_cons (frz_agg (frz_cons (.refl _) (frz_cons (.refl _) (frz_cons (.refl _) (frz_cons .here (frz_cons (.refl _) (frz_cons (.refl _) (frz_cons (.refl _) (.refl _)))))))) rfl) (.refl _)) ?_
      refine .frz (args' := [.agg (sysC (manyS a)), .int .i64 v, .int .i64 99]) 1 bT 0 a 3 _ transSh (List.replicate a tr0) rfl (by rw [List.drop_zero]; exact List.take_of_length_le (Nat.le_of_eq (manyC_length a))) ⟨hl0, rfl, by decide⟩ (frz_cons (frz_agg (frz_cons (.refl _) (frz_cons (.refl _) (frz_cons (.refl _) (frz_cons (.refl _) (frz_cons (.refl _) (frz_cons (.refl _) (frz_cons .here (.refl _)))))))) rfl) (.refl _)) ?_
      have hE := many_E a (by omega) (by omega) v
      have hbig := way_big a (by omega)
      generalize hW : (wayN a 9).1 = W at hbig
      have hWs := (wayN_small a (by omega) 9 (by omega)).1
      rw [hW] at hWs
      generalize allE (manyS a) v 99 = e at hE hAll
      have hlE : ¬ e = 0 → (okG e (allP (manyS a) v (mostK 99))).length = 0 := fun h => by rw [okG_no h]; rfl
      by_cases cv : 0 ≤ v ∧ v < a
      · rw [if_pos cv] at hE
        by_cases c3 : 3 ≤ a
        · rw [if_pos c3] at hE
          have hl := hlE (by omega)
          clear hlE
          generalize okG e (allP (manyS a) v (mostK 99)) = R at hAll hl
          refine callR [] (hAll _) ?_
          refine bcond_dec (fun c1 => ?_) (fun c1 => ?_)
          · have c1 : v < 0 := c1
            refine bcond_dec (fun c2 => ?_) (fun c2 => ?_)
            · have c2 : e = 1 := c2
              refine bcond_dec (fun c3 => ?_) (fun c3 => ?_)
              · have c3 : (↑R.length : Int) = 0 := c3
                exact .done rfl
              · have c3 : ¬ ((↑R.length : Int) = 0) := c3
                exact False.elim (by omega)
            · have c2 : ¬ (e = 1) := c2
              exact False.elim (by omega)
          · have c1 : ¬ (v < 0) := c1
            refine bcond_dec (fun c4 => ?_) (fun c4 => ?_)
            · have c4 : (↑a : Int) ≤ v := c4
              refine bcond_dec (fun c5 => ?_) (fun c5 => ?_)
              · have c5 : e = 1 := c5
                refine bcond_dec (fun c6 => ?_) (fun c6 => ?_)
                · have c6 : (↑R.length : Int) = 0 := c6
                  exact .done rfl
                · have c6 : ¬ ((↑R.length : Int) = 0) := c6
                  exact False.elim (by omega)
              · have c5 : ¬ (e = 1) := c5
                exact False.elim (by omega)
            · have c4 : ¬ ((↑a : Int) ≤ v) := c4
              refine bcond_dec (fun c7 => ?_) (fun c7 => ?_)
              · have c7 : 4096 < (↑W : Int) := c7
                refine bcond_dec (fun c8 => ?_) (fun c8 => ?_)
                · have c8 : e = 6 := c8
                  refine bcond_dec (fun c9 => ?_) (fun c9 => ?_)
                  · have c9 : (↑R.length : Int) = 0 := c9
                    exact .done rfl
                  · have c9 : ¬ ((↑R.length : Int) = 0) := c9
                    exact False.elim (by omega)
                · have c8 : ¬ (e = 6) := c8
                  exact False.elim (by omega)
              · have c7 : ¬ (4096 < (↑W : Int)) := c7
                refine bcond_dec (fun c10 => ?_) (fun c10 => ?_)
                · have c10 : e = 0 := c10
                  refine bcond_dec (fun c11 => ?_) (fun c11 => ?_)
                  · have c11 : (↑R.length : Int) = (↑W : Int) := c11
                    refine With.mk rfl ?_
                    exact False.elim (by omega)
                  · have c11 : ¬ ((↑R.length : Int) = (↑W : Int)) := c11
                    exact False.elim (by omega)
                · have c10 : ¬ (e = 0) := c10
                  exact False.elim (by omega)
        · rw [if_neg c3] at hE
          have hfew := way_few a (by omega) v.toNat (by omega)
          rw [Int.toNat_of_nonneg cv.1] at hfew
          rw [okG_yes hE, show mostK 99 = 8 from rfl, allF_eq] at hAll
          clear hlE
          generalize allF a v 8 = L at hAll hfew
          have hL0 : L[(0 : Int).toNat]? = some [v] := by rw [← hfew.2]; cases L <;> rfl
          have hLl := hfew.1.trans hW
          refine callR [] (hAll _) ?_
          refine bcond_dec (fun c1 => ?_) (fun c1 => ?_)
          · have c1 : v < 0 := c1
            refine bcond_dec (fun c2 => ?_) (fun c2 => ?_)
            · have c2 : e = 1 := c2
              refine bcond_dec (fun c3 => ?_) (fun c3 => ?_)
              · have c3 : (↑L.length : Int) = 0 := c3
                exact .done rfl
              · have c3 : ¬ ((↑L.length : Int) = 0) := c3
                exact False.elim (by omega)
            · have c2 : ¬ (e = 1) := c2
              exact False.elim (by omega)
          · have c1 : ¬ (v < 0) := c1
            refine bcond_dec (fun c4 => ?_) (fun c4 => ?_)
            · have c4 : (↑a : Int) ≤ v := c4
              refine bcond_dec (fun c5 => ?_) (fun c5 => ?_)
              · have c5 : e = 1 := c5
                refine bcond_dec (fun c6 => ?_) (fun c6 => ?_)
                · have c6 : (↑L.length : Int) = 0 := c6
                  exact .done rfl
                · have c6 : ¬ ((↑L.length : Int) = 0) := c6
                  exact False.elim (by omega)
              · have c5 : ¬ (e = 1) := c5
                exact False.elim (by omega)
            · have c4 : ¬ ((↑a : Int) ≤ v) := c4
              refine bcond_dec (fun c7 => ?_) (fun c7 => ?_)
              · have c7 : 4096 < (↑W : Int) := c7
                refine bcond_dec (fun c8 => ?_) (fun c8 => ?_)
                · have c8 : e = 6 := c8
                  refine bcond_dec (fun c9 => ?_) (fun c9 => ?_)
                  · have c9 : (↑L.length : Int) = 0 := c9
                    exact .done rfl
                  · have c9 : ¬ ((↑L.length : Int) = 0) := c9
                    exact False.elim (by omega)
                · have c8 : ¬ (e = 6) := c8
                  exact False.elim (by omega)
              · have c7 : ¬ (4096 < (↑W : Int)) := c7
                refine bcond_dec (fun c10 => ?_) (fun c10 => ?_)
                · have c10 : e = 0 := c10
                  refine bcond_dec (fun c11 => ?_) (fun c11 => ?_)
                  · have c11 : (↑L.length : Int) = (↑W : Int) := c11
                    refine With.mk rfl ?_
                    refine IdxF.mk [v] (by decide) hL0 ?_
                    intro bl6
                    refine .frz (args' := [.fsl (.int .i64) ([v] : List Int), .fsl (.int .i64) ([v] : List Int)]) 0 bl6 0 1 1 _ (.int .i64) ([v] : List Int) rfl rfl ⟨rfl, rfl, by decide⟩ (frz_cons (.refl _) (frz_cons .here (.refl _))) ?_
                    refine callR [] (aRInts20 [v] _ (show 1 ≤ 1000000 by decide)) ?_
                    exact .done rfl
                  · have c11 : ¬ ((↑L.length : Int) = (↑W : Int)) := c11
                    exact False.elim (by omega)
                · have c10 : ¬ (e = 0) := c10
                  exact False.elim (by omega)
      · rw [if_neg cv] at hE
        have hl := hlE (by omega)
        clear hlE
        generalize okG e (allP (manyS a) v (mostK 99)) = R at hAll hl
        refine callR [] (hAll _) ?_
        refine bcond_dec (fun c1 => ?_) (fun c1 => ?_)
        · have c1 : v < 0 := c1
          refine bcond_dec (fun c2 => ?_) (fun c2 => ?_)
          · have c2 : e = 1 := c2
            refine bcond_dec (fun c3 => ?_) (fun c3 => ?_)
            · have c3 : (↑R.length : Int) = 0 := c3
              exact .done rfl
            · have c3 : ¬ ((↑R.length : Int) = 0) := c3
              exact False.elim (by omega)
          · have c2 : ¬ (e = 1) := c2
            exact False.elim (by omega)
        · have c1 : ¬ (v < 0) := c1
          refine bcond_dec (fun c4 => ?_) (fun c4 => ?_)
          · have c4 : (↑a : Int) ≤ v := c4
            refine bcond_dec (fun c5 => ?_) (fun c5 => ?_)
            · have c5 : e = 1 := c5
              refine bcond_dec (fun c6 => ?_) (fun c6 => ?_)
              · have c6 : (↑R.length : Int) = 0 := c6
                exact .done rfl
              · have c6 : ¬ ((↑R.length : Int) = 0) := c6
                exact False.elim (by omega)
            · have c5 : ¬ (e = 1) := c5
              exact False.elim (by omega)
          · have c4 : ¬ ((↑a : Int) ≤ v) := c4
            refine bcond_dec (fun c7 => ?_) (fun c7 => ?_)
            · have c7 : 4096 < (↑W : Int) := c7
              refine bcond_dec (fun c8 => ?_) (fun c8 => ?_)
              · have c8 : e = 6 := c8
                refine bcond_dec (fun c9 => ?_) (fun c9 => ?_)
                · have c9 : (↑R.length : Int) = 0 := c9
                  exact .done rfl
                · have c9 : ¬ ((↑R.length : Int) = 0) := c9
                  exact False.elim (by omega)
              · have c8 : ¬ (e = 6) := c8
                exact False.elim (by omega)
            · have c7 : ¬ (4096 < (↑W : Int)) := c7
              refine bcond_dec (fun c10 => ?_) (fun c10 => ?_)
              · have c10 : e = 0 := c10
                refine bcond_dec (fun c11 => ?_) (fun c11 => ?_)
                · have c11 : (↑R.length : Int) = (↑W : Int) := c11
                  refine With.mk rfl ?_
                  exact False.elim (by omega)
                · have c11 : ¬ ((↑R.length : Int) = (↑W : Int)) := c11
                  exact False.elim (by omega)
              · have c10 : ¬ (e = 0) := c10
                exact False.elim (by omega)
end Go.Proofs.YtljbnigceammdaaGreat
