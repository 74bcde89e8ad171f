/-
  Df: what the claim uses of them.
-/
import Derived.Test.YtljbnigceammdaaGreatDoorBn45
namespace Go.Proofs.YtljbnigceammdaaGreatDoor
open Go.RowKit
set_option maxRecDepth 100000
theorem domAll_get {N : Nat} {l : List EdgeT} {r v : Nat} (hv : v < N) : (domAll N l r)[((v : Int)).toNat]? = some (domRow N l r v) := by
  unfold domAll
  rw [Int.toNat_natCast, List.getElem?_map, List.getElem?_range hv]; rfl
theorem domRow_small (N : Nat) (l : List EdgeT) (r v : Nat) : (domRow N l r v).length ≤ 8 := by
  unfold domRow
  split
  · unfold bitsL; rw [List.length_map]; exact Nat.le_trans (List.length_filter_le ..) (by simp)
  · exact Nat.zero_le _
/-- What Over tells. -/
def overE (N : Nat) (a b : Int) : Int := if 0 ≤ a ∧ a < N ∧ 0 ≤ b ∧ b < N then 0 else 2
def overB (N : Nat) (l : List EdgeT) (r : Nat) (a b : Int) : Bool := decide (0 ≤ a ∧ a < N ∧ 0 ≤ b ∧ b < N) && decide (a ∈ domRow N l r b.toNat)
theorem aDomOverNo (n r a b : Int) (l : List EdgeT) (σ : Hp) (hl : l.length ≤ 1000000) (h : ¬ (rightE n l = true ∧ 0 ≤ r ∧ r < n)) : ACalls Tryz.prog 13 [.int .i64 n, .fsl edgeSh l, .int .i64 r, .int .i64 a, .int .i64 b] σ (Ret (.tup [.bool false, .int .i64 1]) σ) := by
  refine okF Tryz.func13 (by kernel_rfl) ?_
  refine callR [] (aDomAllNo n r l _ hl h) ?_
  exact .done ⟨rfl, rfl⟩
theorem any_inD (l : List Int) (x : Int) : (l.any fun z => decide (x = z)) = decide (x ∈ l) := by
  rw [Bool.eq_iff_iff, List.any_eq_true, decide_eq_true_eq]
  exact ⟨fun ⟨z, h1, h2⟩ => by rw [of_decide_eq_true h2]; exact h1, fun h => ⟨x, h, decide_eq_true rfl⟩⟩
theorem aDomOver (N r : Nat) (a b : Int) (l : List EdgeT) (σ : Hp) (h1 : 1 ≤ N) (h8 : N ≤ 8) (hl : l.length ≤ 1000) (hri : rightE N l = true) (hr : r < N) (hg : (gT, tabT) ∈ σ) : ACalls Tryz.prog 13 [.int .i64 N, .fsl edgeSh l, .int .i64 r, .int .i64 a, .int .i64 b] σ (Ret (.tup [.bool (overB N l r a b), .int .i64 (overE N a b)]) σ) := by
  obtain ⟨z, hz⟩ : ∃ z : Int, z = 0 := ⟨_, rfl⟩
  have hA : ∀ σ, (gT, tabT) ∈ σ → ACalls Tryz.prog 11 [.int .i64 N, .fsl edgeSh l, .int .i64 r] σ (Ret (.tup [.fsl (.slice (.int .i64)) (domAll N l r), .int .i64 z]) σ) := fun σ h => hz ▸ aDomAll N r l σ h1 h8 hl hri hr h
  refine okF Tryz.func13 (by kernel_rfl) ?_
  refine callR [] (hA _ hg) ?_
  refine bcond_split (fun c1 => ?_) (fun c1 => ?_)
  · have c1 : ¬ (z = 0) := by simpa using c1
    exact absurd hz (by assumption)
  · have c1 : z = 0 := by simpa using c1
    refine bcond_dec (fun c2 => ?_) (fun c2 => ?_)
    · have c2 : a < 0 := c2
      exact .done ⟨by unfold overB overE; rw [decide_eq_false (by omega), if_neg (by omega)]; rfl, rfl⟩
    · have c2 : ¬ (a < 0) := c2
      refine bcond_dec (fun c3 => ?_) (fun c3 => ?_)
      · have c3 : (↑N : Int) ≤ a := c3
        exact .done ⟨by unfold overB overE; rw [decide_eq_false (by omega), if_neg (by omega)]; rfl, rfl⟩
      · have c3 : ¬ ((↑N : Int) ≤ a) := c3
        refine bcond_dec (fun c4 => ?_) (fun c4 => ?_)
        · have c4 : b < 0 := c4
          exact .done ⟨by unfold overB overE; rw [decide_eq_false (by omega), if_neg (by omega)]; rfl, rfl⟩
        · have c4 : ¬ (b < 0) := c4
          refine bcond_dec (fun c5 => ?_) (fun c5 => ?_)
          · have c5 : (↑N : Int) ≤ b := c5
            exact .done ⟨by unfold overB overE; rw [decide_eq_false (by omega), if_neg (by omega)]; rfl, rfl⟩
          · have c5 : ¬ ((↑N : Int) ≤ b) := c5
            refine With.mk rfl ?_
            have hrl := domRow_small N l r b.toNat
            refine IdxF.mk (domRow N l r b.toNat) (by omega) (by have := domAll_get (l := l) (r := r) (show b.toNat < N by omega); rwa [Int.toNat_of_nonneg (by omega)] at this) ?_
            refine callR [] (acalls_eq (aContainsI (domRow N l r b.toNat) a _ (by omega)) (av_bool (any_inD _ _))) ?_
            exact .done ⟨by unfold overB overE; rw [show decide (0 ≤ a ∧ a < (N : Int) ∧ 0 ≤ b ∧ b < (N : Int)) = true from decide_eq_true (by omega), if_pos (by omega), Bool.true_and]; rfl, rfl⟩
/-- Whether x has just one over it fewer than v. -/
def nearB (A : List (List Int)) (v : Int) (ov : List Int) (x : Int) : Bool := decide (x ≠ v) && decide (((A.getD x.toNat []).length : Int) = (ov.length : Int) - 1)
theorem aAbove1 (bv ba bo : Nat) (A : List (List Int)) (v x : Int) (ov : List Int) (σ : Hp) (hx : 0 ≤ x ∧ x < A.length) (hol : ov.length ≤ 1000) : ACalls Tryz.prog 44 [.int .i64 x, .ptr bv 0, .ptr ba 0, .ptr bo 0] ((bo, [.fsl (.int .i64) ov]) :: (bv, [.int .i64 v]) :: (ba, [.fsl (.slice (.int .i64)) A]) :: σ) (Ret (.bool (nearB A v ov x)) ((bo, [.fsl (.int .i64) ov]) :: (bv, [.int .i64 v]) :: (ba, [.fsl (.slice (.int .i64)) A]) :: σ)) := by
  obtain ⟨X, rfl⟩ : ∃ X : Nat, x = X := ⟨x.toNat, by omega⟩
  refine okF Tryz.func44 (by kernel_rfl) ?_
  refine .quiet (by kernel_rfl) ?_
  refine LoadAt.mk 1 _ _ rfl rfl ?_
  refine bcond_split (fun c1 => ?_) (fun c1 => ?_)
  · have c1 : ¬ ((↑X : Int) = v) := by simpa using c1
    refine LoadAt.mk 2 _ _ rfl rfl ?_
    refine With.mk rfl ?_
    refine IdxF.mk (A.getD X []) (by omega) (gzL2 (by omega)) ?_
    refine LoadAt.mk 0 _ _ rfl rfl ?_
    refine bcond_dec (fun c2 => ?_) (fun c2 => ?_)
    · have c2 : (↑(A.getD X []).length : Int) = IntKind.i64.wrap ((↑ov.length : Int) - 1) := c2
      exact .done ⟨av_bool (by unfold nearB; rw [w64 (by omega)] at c2; rw [Int.toNat_natCast, decide_eq_true c1, decide_eq_true c2]; rfl), rfl⟩
    · have c2 : ¬ ((↑(A.getD X []).length : Int) = IntKind.i64.wrap ((↑ov.length : Int) - 1)) := c2
      exact .done ⟨av_bool (by unfold nearB; rw [w64 (by omega)] at c2; rw [Int.toNat_natCast, decide_eq_false c2, Bool.and_false]), rfl⟩
  · have c1 : (↑X : Int) = v := by simpa using c1
    exact .done ⟨av_bool (by unfold nearB; rw [decide_eq_false (fun h => h c1)]; rfl), rfl⟩
theorem aIdxNear (bv ba bo : Nat) (A : List (List Int)) (v : Int) (ov : List Int) (σ : Hp) (hx : ∀ x ∈ ov, 0 ≤ x ∧ x < A.length) (hol : ov.length ≤ 1000) : ACalls Tryz.prog 45 [.fsl (.int .i64) ov, .fn (.func 44) [] [.ptr bv 0, .ptr ba 0, .ptr bo 0]] ((bo, [.fsl (.int .i64) ov]) :: (bv, [.int .i64 v]) :: (ba, [.fsl (.slice (.int .i64)) A]) :: σ) (fun q σ' => σ' = (bo, [.fsl (.int .i64) ov]) :: (bv, [.int .i64 v]) :: (ba, [.fsl (.slice (.int .i64)) A]) :: σ ∧ ((q = .int .i64 (-1) ∧ ∀ x ∈ ov, nearB A v ov x = false) ∨ ∃ (i : Nat) (h : i < ov.length), q = .int .i64 i ∧ nearB A v ov ov[i] = true ∧ ∀ x ∈ ov.take i, nearB A v ov x = false)) := by
  refine okF Tryz.func45 (by kernel_rfl) ?_
  refine loopS (S := Nat) (fun k => [(0, .fsl (.int .i64) ov), (1, .fn (.func 44) [] [.ptr bv 0, .ptr ba 0, .ptr bo 0]), (7, .int .i64 ov.length), (8, .int .i64 k)]) (fun _ => (bo, [.fsl (.int .i64) ov]) :: (bv, [.int .i64 v]) :: (ba, [.fsl (.slice (.int .i64)) A]) :: σ) (fun k => k ≤ ov.length ∧ ∀ x ∈ ov.take k, nearB A v ov x = false) (fun k => ov.length - k) 0 ⟨⟨Nat.zero_le _, fun x hx => by cases hx⟩, ⟨rfl, rfl, rfl, rfl, trivial⟩, rfl⟩ ?_
  rintro k g ⟨hk0, hn0⟩
  have hk : k ≤ ov.length := hk0
  have hn : ∀ x ∈ ov.take k, nearB A v ov x = false := hn0
  clear hk0 hn0
  refine bcond_dec (p := (k : Int) < ov.length) (fun hlt => ?_) (fun hge => ?_)
  · have hlt : k < ov.length := by omega
    have hxk := hx _ (List.getElem_mem hlt)
    have htk := List.take_succ_eq_append_getElem hlt
    obtain ⟨x, hxx⟩ : ∃ x, ov[k] = x := ⟨_, rfl⟩
    rw [hxx] at hxk htk
    refine With.mk rfl (IdxF.mk x (by omega) ((get_some hlt).trans (congrArg some hxx)) ?_)
    refine callB [] (aAbove1 bv ba bo A v x ov σ hxk hol) (fun c1 => ?_) (fun c1 => ?_)
    · exact .done ⟨rfl, .inr ⟨k, hlt, rfl, by rw [hxx]; exact c1, hn⟩⟩
    · exact nextS (k + 1) (by show ov.length - (k + 1) < ov.length - k; omega) ⟨hlt, fun y hy => by rw [htk] at hy; rcases List.mem_append.1 hy with hy | hy; exact hn y hy; rw [List.mem_singleton.1 hy]; exact c1⟩ ⟨rfl, rfl, rfl, inc64 (by omega), trivial⟩ (.refl _)
  · have hge : k = ov.length := by omega
    subst hge
    rw [List.take_length] at hn
    exact .done ⟨rfl, .inl ⟨rfl, hn⟩⟩
/-- The nearest one over v. -/
def aboveV (N : Nat) (l : List EdgeT) (r v : Nat) : Int := match (domRow N l r v).find? (nearB (domAll N l r) v (domRow N l r v)) with
  | some x => x
  | none => if (domRow N l r v).length = 0 then -2 else -1
def domAbove (N : Nat) (l : List EdgeT) (r : Nat) : List Int := (List.range N).map (aboveV N l r)
/-- What stands so far. -/
def upA (N : Nat) (l : List EdgeT) (r j : Nat) : List Int := (List.range j).map (aboveV N l r) ++ List.replicate (N - j) 0
theorem upA_length {N j : Nat} (l : List EdgeT) (r : Nat) (h : j ≤ N) : (upA N l r j).length = N := by unfold upA; simp; omega
theorem upA_set {N j : Nat} (l : List EdgeT) (r : Nat) (x : Int) (h : j < N) : (upA N l r j).set j x = (List.range j).map (aboveV N l r) ++ x :: List.replicate (N - (j + 1)) 0 := by
  unfold upA
  rw [show N - j = (N - (j + 1)) + 1 by omega, List.replicate_succ, List.set_append_right _ _ (by simp)]
  simp
theorem upA_succ {N j : Nat} (l : List EdgeT) (r : Nat) (h : j < N) : (upA N l r j).set j (aboveV N l r j) = upA N l r (j + 1) := by
  rw [upA_set l r _ h]
  unfold upA
  rw [List.range_succ, List.map_append, List.append_assoc]; rfl
theorem find_at {l : List Int} {p : Int → Bool} {i : Nat} (h : i < l.length) (h1 : p l[i] = true) (h2 : ∀ x ∈ l.take i, p x = false) : l.find? p = some l[i] := by
  have e : l = l.take i ++ l[i] :: l.drop (i + 1) := by rw [← List.drop_eq_getElem_cons h, List.take_append_drop]
  rw [List.find?_eq_some_iff_append]
  exact ⟨h1, l.take i, l.drop (i + 1), e, fun x hx => by rw [h2 x hx]; rfl⟩
theorem domAbove_length (N : Nat) (l : List EdgeT) (r : Nat) : (domAbove N l r).length = N := by unfold domAbove; simp
theorem upA_all (N : Nat) (l : List EdgeT) (r : Nat) : upA N l r N = domAbove N l r := by unfold upA; rw [Nat.sub_self]; simp [domAbove]
theorem aDomAboveNo (n r : Int) (l : List EdgeT) (σ : Hp) (hl : l.length ≤ 1000000) (h : ¬ (rightE n l = true ∧ 0 ≤ r ∧ r < n)) : ACalls Tryz.prog 12 [.int .i64 n, .fsl edgeSh l, .int .i64 r] σ (Ret (.tup [.fsl (.int .i64) ([] : List Int), .int .i64 1]) σ) := by
  refine okF Tryz.func12 (by kernel_rfl) ?_
  refine callR [] (aDomAllNo n r l _ hl h) ?_
  intro bl1
  refine StoreAt.mk 0 _ _ rfl rfl ?_
  exact .nil (frz_cons (.nil _) (.refl _)) (.drop 0 1 (.done ⟨rfl, rfl⟩))
theorem mem_bitsL {w : Nat} {x : Int} (h : x ∈ bitsL w) : ∃ k : Nat, x = k ∧ k < 8 ∧ w.testBit k = true := by
  unfold bitsL at h
  obtain ⟨k, hk, rfl⟩ := List.mem_map.1 h
  obtain ⟨h1, h2⟩ := List.mem_filter.1 hk
  exact ⟨k, rfl, List.mem_range.1 h1, h2⟩
theorem rep_inC0 : ∀ n : Nat, repC [.int .i64 0] n = inC (List.replicate n 0)
  | 0 => rfl
  | n + 1 => by
    show [AV.int .i64 0] ++ repC [.int .i64 0] n = _
    rw [rep_inC0 n]; rfl
theorem domRow_in {N r : Nat} {l : List EdgeT} (h1 : 1 ≤ N) (h8 : N ≤ 8) (hl : l.length ≤ 1000) (hri : rightE N l = true) (hr : r < N) {v : Nat} (x : Int) (hx : x ∈ domRow N l r v) : 0 ≤ x ∧ x < (domAll N l r).length := by
  have hee : ∀ e ∈ l, (0 ≤ e.1 ∧ e.1 < (N : Int)) ∧ 0 ≤ e.2.1 ∧ e.2.1 < (N : Int) := fun e he => by
    unfold rightE at hri
    simp only [Bool.and_eq_true, List.all_eq_true] at hri
    have := hri.2 e he
    exact ⟨node_iff.1 this.1, node_iff.1 this.2⟩
  rw [domAll_length]
  unfold domRow at hx
  split at hx
  · rename_i hv
    have hv := (mem_reachR _).1 hv
    have hvn := hv.node
    obtain ⟨k, rfl, hk, hb⟩ := mem_bitsL hx
    obtain ⟨_, q2, q3⟩ := dom_sol (r := r) h1 h8 (by omega) hee hr v (by omega)
    rw [Nat.testBit_or, pow_bit, Bool.or_eq_true, decide_eq_true_eq] at hb
    rcases hb with hb | hb
    · have := ((q3 k).1 hb).1; omega
    · omega
  · cases hx
theorem aDomAbove (N r : Nat) (l : List EdgeT) (σ : Hp) (h1 : 1 ≤ N) (h8 : N ≤ 8) (hl : l.length ≤ 1000) (hri : rightE N l = true) (hr : r < N) (hg : (gT, tabT) ∈ σ) : ACalls Tryz.prog 12 [.int .i64 N, .fsl edgeSh l, .int .i64 r] σ (Ret (.tup [.fsl (.int .i64) (domAbove N l r), .int .i64 0]) σ) := by
  obtain ⟨z, hz⟩ : ∃ z : Int, z = 0 := ⟨_, rfl⟩
  have hA : ∀ σ, (gT, tabT) ∈ σ → ACalls Tryz.prog 11 [.int .i64 N, .fsl edgeSh l, .int .i64 r] σ (Ret (.tup [.fsl (.slice (.int .i64)) (domAll N l r), .int .i64 z]) σ) := fun σ h => hz ▸ aDomAll N r l σ h1 h8 hl hri hr h
  have hlen := domAll_length N l r
  refine okF Tryz.func12 (by kernel_rfl) ?_
  refine callR [] (hA _ hg) ?_
  intro bl1
  refine StoreAt.mk 0 _ _ rfl rfl ?_
  refine bcond_split (fun c2 => ?_) (fun c2 => ?_)
  · have c2 : ¬ (z = 0) := by simpa using c2
    exact absurd hz (by assumption)
  · have c2 : z = 0 := by simpa using c2
    refine With.mk ⟨by omega, by omega, by omega, by decide⟩ ?_
    intro bl3
    refine LoadAt.mk 1 _ _ rfl rfl ?_
    have hNt : ((N : Nat) : Int).toNat = N := Int.toNat_natCast N
    refine loopS (S := Nat) (fun j => [(8, .ptr bl1 0), (10, .mref bl3 0 N 1), (27, .fsl (.slice (.int .i64)) (domAll N l r)), (28, .int .i64 (domAll N l r).length), (29, .int .i64 j)]) (fun j => (bl3, inC (upA N l r j)) :: (bl1, [.fsl (.slice (.int .i64)) (domAll N l r)]) :: σ) (fun j => j ≤ N) (fun j => N - j) 0 ⟨Nat.zero_le _, ⟨rfl, by rw [← hNt]; rfl, rfl, rfl, rfl, trivial⟩, by show _ = (bl3, inC (List.replicate N 0)) :: _; rw [← rep_inC0]; rfl⟩ ?_
    intro j g hj0
    have hj : j ≤ N := hj0
    clear hj0
    refine bcond_dec (p := (j : Int) < (domAll N l r).length) (fun hlt => ?_) (fun hge => ?_)
    · have hlt : j < N := by omega
      obtain ⟨J, hJ⟩ : ∃ J : Int, J = j := ⟨_, rfl⟩
      have hup := upA_length l r hj
      have hov := domRow_small N l r j
      have hgj := domAll_get (l := l) (r := r) hlt
      rw [← hJ] at hgj ⊢
      have hovx : ∀ x ∈ domRow N l r j, 0 ≤ x ∧ x < (domAll N l r).length := fun x hx => domRow_in h1 h8 hl hri hr x hx
      have hfind : aboveV N l r j = match (domRow N l r j).find? (nearB (domAll N l r) j (domRow N l r j)) with | some x => x | none => if (domRow N l r j).length = 0 then -2 else -1 := rfl
      rw [← hJ] at hfind
      generalize domRow N l r j = ov at hov hgj hovx hfind
      refine With.mk rfl (IdxF.mk ov (by omega) hgj ?_)
      intro bv
      intro bo
      refine StoreAt.mk 1 _ _ rfl rfl ?_
      refine StoreAt.mk 0 _ _ rfl rfl ?_
      refine LoadAt.mk 1 _ _ rfl rfl ?_
      refine With.mk ⟨rfl, by omega, by omega⟩ ?_
      refine StoreAt.mk 2 _ _ rfl (inC_writeK rfl (-1) hJ (by omega)) ?_
      refine LoadAt.mk 0 _ _ rfl rfl ?_
      refine bcond_dec (fun c1 => ?_) (fun c1 => ?_)
      · have c1 : (↑ov.length : Int) = 0 := c1
        refine LoadAt.mk 1 _ _ rfl rfl ?_
        refine With.mk ⟨rfl, by omega, by omega⟩ ?_
        refine StoreAt.mk 2 _ _ rfl (inC_writeK rfl (-2) hJ (by rw [List.length_set]; omega)) ?_
        refine LoadAt.mk 0 _ _ rfl rfl ?_
        refine .mk [3, 3, 3, 2] _ (aIdxNear bv bl1 bo (domAll N l r) J ov _ hovx (by omega)) ?_
        rintro q _ ⟨rfl, hq⟩
        rcases hq with ⟨rfl, hq⟩ | ⟨i, hi, rfl, hq1, hq2⟩
        · have hab : aboveV N l r j = (-2) := by rw [hfind, List.find?_eq_none.2 (fun x hx => by rw [hq x hx]; decide)]; exact if_pos (by omega)
          have hup1 := upA_succ l r hlt
          rw [hab] at hup1
          exact nextS (j + 1) (by show N - (j + 1) < N - j; omega) hlt ⟨rfl, rfl, rfl, rfl, by rw [hJ]; exact inc64 (by omega), trivial⟩ (.drop 0 2 (.pull [1] (shed_eq (by simp only [List.set_set, hup1]; rfl))))
        · have hab : aboveV N l r j = ov[i] := by rw [hfind, find_at hi hq1 hq2]
          have hup1 := upA_succ l r hlt
          rw [hab] at hup1
          have hgi := get_some hi
          generalize ov[i] = x at hgi hup1
          refine .sched [] (upto [] 8 0) (by kernel_rfl) ?_
          refine LoadAt.mk 1 _ _ rfl rfl ?_
          refine LoadAt.mk 0 _ _ rfl rfl ?_
          refine With.mk rfl ?_
          refine IdxF.mk x (by omega) hgi ?_
          refine With.mk ⟨rfl, by omega, by omega⟩ ?_
          refine StoreAt.mk 3 _ _ rfl (inC_writeK rfl x hJ (by simp only [List.length_set]; omega)) ?_
          exact nextS (j + 1) (by show N - (j + 1) < N - j; omega) hlt ⟨rfl, rfl, rfl, rfl, by rw [hJ]; exact inc64 (by omega), trivial⟩ (.drop 0 2 (.pull [1] (shed_eq (by simp only [List.set_set, hup1]; rfl))))
      · have c1 : ¬ ((↑ov.length : Int) = 0) := c1
        refine LoadAt.mk 0 _ _ rfl rfl ?_
        refine .mk [3, 3, 3, 2] _ (aIdxNear bv bl1 bo (domAll N l r) J ov _ hovx (by omega)) ?_
        rintro q _ ⟨rfl, hq⟩
        rcases hq with ⟨rfl, hq⟩ | ⟨i, hi, rfl, hq1, hq2⟩
        · have hab : aboveV N l r j = (-1) := by rw [hfind, List.find?_eq_none.2 (fun x hx => by rw [hq x hx]; decide)]; exact if_neg (by omega)
          have hup1 := upA_succ l r hlt
          rw [hab] at hup1
          exact nextS (j + 1) (by show N - (j + 1) < N - j; omega) hlt ⟨rfl, rfl, rfl, rfl, by rw [hJ]; exact inc64 (by omega), trivial⟩ (.drop 0 2 (.pull [1] (shed_eq (by simp only [hup1]; rfl))))
        · have hab : aboveV N l r j = ov[i] := by rw [hfind, find_at hi hq1 hq2]
          have hup1 := upA_succ l r hlt
          rw [hab] at hup1
          have hgi := get_some hi
          generalize ov[i] = x at hgi hup1
          refine .sched [] (upto [] 8 0) (by kernel_rfl) ?_
          refine LoadAt.mk 1 _ _ rfl rfl ?_
          refine LoadAt.mk 0 _ _ rfl rfl ?_
          refine With.mk rfl ?_
          refine IdxF.mk x (by omega) hgi ?_
          refine With.mk ⟨rfl, by omega, by omega⟩ ?_
          refine StoreAt.mk 3 _ _ rfl (inC_writeK rfl x hJ (by simp only [List.length_set]; omega)) ?_
          exact nextS (j + 1) (by show N - (j + 1) < N - j; omega) hlt ⟨rfl, rfl, rfl, rfl, by rw [hJ]; exact inc64 (by omega), trivial⟩ (.drop 0 2 (.pull [1] (shed_eq (by rw [List.set_set, hup1]; rfl))))
    · have hge : j = N := by omega
      subst hge
      exact .frz 0 bl3 0 j 1 _ (.int .i64) (domAbove j l r) rfl (by rw [List.drop_zero, upA_all, List.take_of_length_le (by rw [inC_length, domAbove_length, Nat.mul_one]; exact Nat.le_refl _)]; exact inC_flat _) ⟨domAbove_length j l r, rfl, by decide⟩ (frz_cons .here (.refl _)) (.drop 0 1 (.done ⟨rfl, rfl⟩))
/-- How many steps lead out, from a place: at most so many. -/
def stepsOut (A : List Int) : Nat → Int → Nat → Int × Nat
  | 0, at', n => (at', n)
  | f + 1, at', n => if 0 ≤ at' ∧ at' < A.length ∧ n ≤ A.length then stepsOut A f (A.getD at'.toNat 0) (n + 1) else (at', n)
def depthV (A : List Int) (i : Nat) : Int := let n := (stepsOut A (A.length + 2) i 0).2; if n ≤ A.length then n else -1
def upD (A : List Int) (j : Nat) : List Int := (List.range j).map (depthV A) ++ List.replicate (A.length - j) 0
theorem upD_length {A : List Int} {j : Nat} (h : j ≤ A.length) : (upD A j).length = A.length := by unfold upD; simp; omega
theorem upD_succ {A : List Int} {j : Nat} (h : j < A.length) : (upD A j).set j (depthV A j) = upD A (j + 1) := by
  unfold upD
  rw [show A.length - j = (A.length - (j + 1)) + 1 by omega, List.replicate_succ, List.set_append_right _ _ (by simp), List.range_succ, List.map_append, List.append_assoc]
  simp
theorem upD_all (A : List Int) : upD A A.length = (List.range A.length).map (depthV A) := by unfold upD; rw [Nat.sub_self]; simp
theorem gzD {way : List Int} {j : Nat} (h : j < way.length) {i : Int} (hi : i = (j : Int)) : way[i.toNat]? = some (way.getD j 0) := by
  subst hi
  rw [Int.toNat_natCast, List.getD_eq_getElem?_getD, List.getElem?_eq_getElem h]; rfl
theorem so_yes {A : List Int} {f : Nat} {x : Int} {n : Nat} (h1 : 0 ≤ x) (h2 : x < A.length) (h3 : n ≤ A.length) : stepsOut A (f + 1) x n = stepsOut A f (A.getD x.toNat 0) (n + 1) := if_pos ⟨h1, h2, h3⟩
theorem so_no {A : List Int} {f : Nat} {x : Int} {n : Nat} (h : ¬ (0 ≤ x ∧ x < A.length ∧ n ≤ A.length)) : stepsOut A (f + 1) x n = (x, n) := if_neg h
theorem aDomDepth (A : List Int) (σ : Hp) (hl : A.length ≤ 100000) : ACalls Tryz.prog 22 [.fsl (.int .i64) A] σ (Ret (.fsl (.int .i64) ((List.range A.length).map (depthV A))) σ) := by
  refine okF Tryz.func22 (by kernel_rfl) ?_
  have hl2 : ((List.length (α := Int) A : Nat) : Int) ≤ 1048576 := by omega
  refine With.mk ⟨Int.natCast_nonneg _, Int.le_refl _, hl2, by decide⟩ ?_
  intro bl1
  obtain ⟨N, hN⟩ : ∃ N, A.length = N := ⟨_, rfl⟩
  refine loopS (S := Nat) (fun j => [(0, .fsl (.int .i64) A), (3, .mref bl1 0 N 1), (11, .int .i64 N), (12, .int .i64 j)]) (fun j => (bl1, inC (upD A j)) :: σ) (fun j => j ≤ N) (fun j => N - j) 0 ⟨Nat.zero_le _, ⟨rfl, by rw [← hN]; rfl, by rw [← hN]; rfl, rfl, trivial⟩, by show _ = (bl1, inC (List.replicate A.length 0)) :: _; rw [← rep_inC0]; rfl⟩ ?_
  intro j g hj0
  have hj : j ≤ N := hj0
  clear hj0
  refine bcond_dec (p := (j : Int) < N) (fun hlt => ?_) (fun hge => ?_)
  · have hlt : j < N := by omega
    refine With.mk rfl ?_
    have hup := upD_length (A := A) (j := j) (by omega)
    have hw1 : IntKind.i64.wrap (0 + 1) = 1 := by rw [w64 (by omega)]; rfl
    obtain ⟨y, hy⟩ : ∃ y, A.getD j 0 = y := ⟨_, rfl⟩
    have hgj := gzD (way := A) (j := j) (by omega) (i := (j : Int)) rfl
    rw [hy] at hgj
    refine IdxF.mk y (by omega) hgj ?_
    refine bcond_dec (fun c1 => ?_) (fun c1 => ?_)
    · have c1 : 0 ≤ y := c1
      refine bcond_dec (fun c2 => ?_) (fun c2 => ?_)
      · have c2 : y < (↑A.length : Int) := c2
        refine bcond_dec (fun c3 => ?_) (fun c3 => ?_)
        · have c3 : IntKind.i64.wrap (0 + 1) ≤ (↑A.length : Int) := c3
          refine .loop (S := Int × Nat) (fun _ => 0) (fun x => [(0, .fsl (.int .i64) A), (3, .mref bl1 0 N 1), (4, .int .i64 j), (5, .int .i64 x.1), (6, .int .i64 x.2), (11, .int .i64 N), (12, .int .i64 j)]) (fun _ => (bl1, inC (upD A j)) :: σ) (fun x => (0 ≤ x.1 ∧ x.1 < A.length ∧ 1 ≤ x.2 ∧ x.2 ≤ A.length) ∧ depthV A j = (let n := (stepsOut A (A.length + 2 - x.2) x.1 x.2).2; if n ≤ A.length then (n : Int) else -1)) (fun x => A.length + 1 - x.2) (y, 1) ⟨rfl, ⟨⟨c1, c2, Nat.le_refl _, by omega⟩, ?_⟩, ⟨rfl, rfl, rfl, rfl, rfl, rfl, rfl, trivial⟩, .refl _⟩ ?_
          · unfold depthV
            rw [so_yes (by omega) (by omega) (by omega), Int.toNat_natCast, hy]; rfl
          rintro ⟨x, n⟩ t ⟨⟨hx1, hx2, hn1, hn2⟩, hdv⟩
          have hx1 : 0 ≤ x := hx1
          have hx2 : x < A.length := hx2
          have hn1 : 1 ≤ n := hn1
          have hn2 : n ≤ A.length := hn2
          have hdv : depthV A j = (let n := (stepsOut A (A.length + 2 - n) x n).2; if n ≤ A.length then (n : Int) else -1) := hdv
          obtain ⟨z, hz⟩ : ∃ z, A.getD x.toNat 0 = z := ⟨_, rfl⟩
          rw [show A.length + 2 - n = (A.length + 1 - n) + 1 by omega, so_yes hx1 hx2 hn2, hz] at hdv
          have hgx := gzD (way := A) (j := x.toNat) (by omega) (i := x) (by omega)
          rw [hz] at hgx
          refine With.mk rfl (IdxF.mk z hx1 hgx ?_)
          refine bcond_dec (fun c1 => ?_) (fun c1 => ?_)
          · have c1 : 0 ≤ z := c1
            refine bcond_dec (fun c2 => ?_) (fun c2 => ?_)
            · have c2 : z < (↑A.length : Int) := c2
              refine bcond_dec (fun c3 => ?_) (fun c3 => ?_)
              · have c3 : IntKind.i64.wrap ((↑n : Int) + 1) ≤ (↑A.length : Int) := c3
                have hwn : IntKind.i64.wrap ((n : Int) + 1) = ((n + 1 : Nat) : Int) := by rw [w64 (by omega)]; omega
                exact .mk (z, n + 1) rfl (by show A.length + 1 - (n + 1) < A.length + 1 - n; omega) ⟨⟨by omega, by omega, by show 1 ≤ n + 1; omega, by show n + 1 ≤ A.length; omega⟩, by rw [hdv, show A.length + 2 - (n + 1) = A.length + 1 - n by omega]⟩ ⟨rfl, rfl, rfl, rfl, av_int hwn, rfl, rfl, trivial⟩ (.refl _)
              · have c3 : ¬ (IntKind.i64.wrap ((↑n : Int) + 1) ≤ (↑A.length : Int)) := c3
                refine With.mk ⟨rfl, by omega, by omega⟩ ?_
                have hnn := inc64 (k := n) (by omega)
                have hwn : IntKind.i64.wrap ((n : Int) + 1) = ((n + 1 : Nat) : Int) := by rw [w64 (by omega)]; omega
                rw [show A.length + 1 - n = (A.length - n) + 1 by omega, so_no (by omega)] at hdv
                have hup1 := upD_succ (A := A) (j := j) (by omega)
                refine StoreAt.mk 0 _ _ rfl (inC_writeK rfl (IntKind.i64.wrap ((n : Int) + 1)) rfl (by omega)) ?_
                refine bcond_dec (p := (A.length : Int) < IntKind.i64.wrap ((n : Int) + 1)) (fun c5 => ?_) (fun c5 => ?_)
                · have hdv : depthV A j = -1 := by rw [hdv]; exact if_neg (show ¬ (n + 1 ≤ A.length) by omega)
                  rw [hdv] at hup1
                  refine With.mk ⟨rfl, by omega, by omega⟩ ?_
                  refine StoreAt.mk 0 _ _ rfl (inC_writeK rfl (-1) rfl (by rw [List.length_set]; omega)) ?_
                  exact nextS (j + 1) (by show N - (j + 1) < N - j; omega) hlt ⟨rfl, rfl, rfl, inc64 (by omega), trivial⟩ (shed_eq (congrArg (fun c => (bl1, inC c) :: σ) ((List.set_set ..).trans hup1)))
                · have hdv : depthV A j = (n + 1 : Nat) := by rw [hdv]; exact if_pos (show n + 1 ≤ A.length by omega)
                  rw [hdv, ← hwn] at hup1
                  exact nextS (j + 1) (by show N - (j + 1) < N - j; omega) hlt ⟨rfl, rfl, rfl, inc64 (by omega), trivial⟩ (shed_eq (by rw [hup1]; rfl))
            · have c2 : ¬ (z < (↑A.length : Int)) := c2
              refine With.mk ⟨rfl, by omega, by omega⟩ ?_
              have hnn := inc64 (k := n) (by omega)
              have hwn : IntKind.i64.wrap ((n : Int) + 1) = ((n + 1 : Nat) : Int) := by rw [w64 (by omega)]; omega
              rw [show A.length + 1 - n = (A.length - n) + 1 by omega, so_no (by omega)] at hdv
              have hup1 := upD_succ (A := A) (j := j) (by omega)
              refine StoreAt.mk 0 _ _ rfl (inC_writeK rfl (IntKind.i64.wrap ((n : Int) + 1)) rfl (by omega)) ?_
              refine bcond_dec (p := (A.length : Int) < IntKind.i64.wrap ((n : Int) + 1)) (fun c5 => ?_) (fun c5 => ?_)
              · have hdv : depthV A j = -1 := by rw [hdv]; exact if_neg (show ¬ (n + 1 ≤ A.length) by omega)
                rw [hdv] at hup1
                refine With.mk ⟨rfl, by omega, by omega⟩ ?_
                refine StoreAt.mk 0 _ _ rfl (inC_writeK rfl (-1) rfl (by rw [List.length_set]; omega)) ?_
                exact nextS (j + 1) (by show N - (j + 1) < N - j; omega) hlt ⟨rfl, rfl, rfl, inc64 (by omega), trivial⟩ (shed_eq (congrArg (fun c => (bl1, inC c) :: σ) ((List.set_set ..).trans hup1)))
              · have hdv : depthV A j = (n + 1 : Nat) := by rw [hdv]; exact if_pos (show n + 1 ≤ A.length by omega)
                rw [hdv, ← hwn] at hup1
                exact nextS (j + 1) (by show N - (j + 1) < N - j; omega) hlt ⟨rfl, rfl, rfl, inc64 (by omega), trivial⟩ (shed_eq (by rw [hup1]; rfl))
          · have c1 : ¬ (0 ≤ z) := c1
            refine With.mk ⟨rfl, by omega, by omega⟩ ?_
            have hnn := inc64 (k := n) (by omega)
            have hwn : IntKind.i64.wrap ((n : Int) + 1) = ((n + 1 : Nat) : Int) := by rw [w64 (by omega)]; omega
            rw [show A.length + 1 - n = (A.length - n) + 1 by omega, so_no (by omega)] at hdv
            have hup1 := upD_succ (A := A) (j := j) (by omega)
            refine StoreAt.mk 0 _ _ rfl (inC_writeK rfl (IntKind.i64.wrap ((n : Int) + 1)) rfl (by omega)) ?_
            refine bcond_dec (p := (A.length : Int) < IntKind.i64.wrap ((n : Int) + 1)) (fun c5 => ?_) (fun c5 => ?_)
            · have hdv : depthV A j = -1 := by rw [hdv]; exact if_neg (show ¬ (n + 1 ≤ A.length) by omega)
              rw [hdv] at hup1
              refine With.mk ⟨rfl, by omega, by omega⟩ ?_
              refine StoreAt.mk 0 _ _ rfl (inC_writeK rfl (-1) rfl (by rw [List.length_set]; omega)) ?_
              exact nextS (j + 1) (by show N - (j + 1) < N - j; omega) hlt ⟨rfl, rfl, rfl, inc64 (by omega), trivial⟩ (shed_eq (congrArg (fun c => (bl1, inC c) :: σ) ((List.set_set ..).trans hup1)))
            · have hdv : depthV A j = (n + 1 : Nat) := by rw [hdv]; exact if_pos (show n + 1 ≤ A.length by omega)
              rw [hdv, ← hwn] at hup1
              exact nextS (j + 1) (by show N - (j + 1) < N - j; omega) hlt ⟨rfl, rfl, rfl, inc64 (by omega), trivial⟩ (shed_eq (by rw [hup1]; rfl))
        · have c3 : ¬ (IntKind.i64.wrap (0 + 1) ≤ (↑A.length : Int)) := c3
          refine With.mk ⟨rfl, by omega, by omega⟩ ?_
          have hdv : depthV A j = 1 := by
            unfold depthV
            rw [so_yes (by omega) (by omega) (by omega), Int.toNat_natCast, hy, so_no (by omega)]
            exact if_pos (by omega)
          have hup1 := upD_succ (A := A) (j := j) (by omega)
          rw [hdv] at hup1
          refine StoreAt.mk 0 _ _ rfl (inC_writeK rfl (IntKind.i64.wrap (0 + 1)) rfl (by omega)) ?_
          refine bcond_dec (p := (A.length : Int) < IntKind.i64.wrap (0 + 1)) (fun c5 => ?_) (fun c5 => ?_)
          · rw [w64 (by omega)] at c5; omega
          · exact nextS (j + 1) (by show N - (j + 1) < N - j; omega) hlt ⟨rfl, rfl, rfl, inc64 (by omega), trivial⟩ (shed_eq (by rw [hw1, hup1]; rfl))
      · have c2 : ¬ (y < (↑A.length : Int)) := c2
        refine With.mk ⟨rfl, by omega, by omega⟩ ?_
        have hdv : depthV A j = 1 := by
          unfold depthV
          rw [so_yes (by omega) (by omega) (by omega), Int.toNat_natCast, hy, so_no (by omega)]
          exact if_pos (by omega)
        have hup1 := upD_succ (A := A) (j := j) (by omega)
        rw [hdv] at hup1
        refine StoreAt.mk 0 _ _ rfl (inC_writeK rfl (IntKind.i64.wrap (0 + 1)) rfl (by omega)) ?_
        refine bcond_dec (p := (A.length : Int) < IntKind.i64.wrap (0 + 1)) (fun c5 => ?_) (fun c5 => ?_)
        · rw [w64 (by omega)] at c5; omega
        · exact nextS (j + 1) (by show N - (j + 1) < N - j; omega) hlt ⟨rfl, rfl, rfl, inc64 (by omega), trivial⟩ (shed_eq (by rw [hw1, hup1]; rfl))
    · have c1 : ¬ (0 ≤ y) := c1
      refine With.mk ⟨rfl, by omega, by omega⟩ ?_
      have hdv : depthV A j = 1 := by
        unfold depthV
        rw [so_yes (by omega) (by omega) (by omega), Int.toNat_natCast, hy, so_no (by omega)]
        exact if_pos (by omega)
      have hup1 := upD_succ (A := A) (j := j) (by omega)
      rw [hdv] at hup1
      refine StoreAt.mk 0 _ _ rfl (inC_writeK rfl (IntKind.i64.wrap (0 + 1)) rfl (by omega)) ?_
      refine bcond_dec (p := (A.length : Int) < IntKind.i64.wrap (0 + 1)) (fun c5 => ?_) (fun c5 => ?_)
      · rw [w64 (by omega)] at c5; omega
      · exact nextS (j + 1) (by show N - (j + 1) < N - j; omega) hlt ⟨rfl, rfl, rfl, inc64 (by omega), trivial⟩ (shed_eq (by rw [hw1, hup1]; rfl))
  · have hge : j = N := by omega
    subst hge
    subst hN
    have hd : ((List.range A.length).map (depthV A)).length = A.length := by simp
    exact .frz 0 bl1 0 A.length 1 _ (.int .i64) ((List.range A.length).map (depthV A)) rfl (by rw [List.drop_zero, upD_all, List.take_of_length_le (by rw [inC_length, hd, Nat.mul_one]; exact Nat.le_refl _)]; exact inC_flat _) ⟨hd, rfl, by decide⟩ .here (.done ⟨rfl, rfl⟩)
end Go.Proofs.YtljbnigceammdaaGreatDoor
