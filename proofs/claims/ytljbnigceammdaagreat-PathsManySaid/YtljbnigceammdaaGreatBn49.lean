/-
  Hk: what the claim uses of them.
-/
import Derived.Test.YtljbnigceammdaaGreatBn45
import Derived.Test.YtljbnigceammdaaGreatBn47
import Derived.Test.YtljbnigceammdaaGreatBn48
namespace Go.Proofs.YtljbnigceammdaaGreat
open Go.RowKit
set_option maxRecDepth 100000
theorem inC_setK (l : List Int) (i : Nat) (x : Int) : (inC l).set i (.int .i64 x) = inC (l.set i x) := by unfold inC; rw [List.map_set]
theorem inC_getK (l : List Int) {i : Nat} (h : i < l.length) : (inC l)[i]? = some (.int .i64 (l.getD i 0)) := by
  unfold inC; rw [List.getElem?_map, List.getElem?_eq_getElem h, List.getD_eq_getElem?_getD, List.getElem?_eq_getElem h]; rfl
/-- Rows, in cells. -/
def iiC (l : List (List Int)) : List AV := l.map (AV.fsl (.int .i64))
theorem iiC_flat : ∀ l : List (List Int), iiC l = l.flatMap (Sh.cells (.slice (.int .i64)))
  | [] => rfl
  | x :: l => congrArg (AV.fsl (.int .i64) x :: ·) (iiC_flat l)
theorem inC_readK {l : List Int} {z : Int} {k : Nat} (hz : z = k) (h : k < l.length) : readAs ⟨.int .i64, 1, 8, [.int .i64 0]⟩ (inC l) (0 + z.toNat * 1) = some (.int .i64 (l.getD k 0)) := by
  subst hz
  rw [Nat.zero_add, Nat.mul_one, Int.toNat_natCast]
  exact read1 rfl (inC_getK l h)
theorem inC_writeK {i : TI} (hs : i.size = 1) {l : List Int} (x : Int) {z : Int} {k : Nat} (hz : z = k) (h : k < l.length) : writeAs i (inC l) (0 + z.toNat * 1) (.int .i64 x) = some (inC (l.set k x)) := by
  subst hz
  rw [Nat.zero_add, Nat.mul_one, Int.toNat_natCast, write1 hs rfl (by rw [inC_length]; omega), inC_setK]
theorem iiC_length (l : List (List Int)) : (iiC l).length = l.length := List.length_map ..
theorem Acc.unv {e k : Nat} {v : AV} {acc : Hp} {cs : List AV} (h : Acc e k v acc cs) : Acc e k (unvia v) acc cs := by
  cases h with
  | nil => exact .nil
  | mref b k cs h => exact .mref b k cs h
theorem YCalls.shed {l : Nat} {xs : List AV} {σ : Hp} {R R' : AV → Hp → Prop} (h : YCalls Tryz.prog l xs σ R) (hr : ∀ r σ3, R r σ3 → ∃ σ', Shed σ3 σ' ∧ R' r σ') : YCalls Tryz.prog l xs σ R' := fun F w vs hv hσ => by
  obtain ⟨f, tm, a, b, h1, h2⟩ := h F w vs hv hσ
  refine ⟨f, tm, a, b, h1, RoundIn.mono h2 fun e w' ⟨r, v, σ', F', k1, k2, k3, k4, k5⟩ => ?_⟩
  obtain ⟨σ4, h4, h5⟩ := hr _ _ k5
  exact ⟨r, v, σ4, F', k1, k2, k3.shed h4, k4, h5⟩
theorem iiC_snoc (l : List (List Int)) (w : List Int) : iiC l ++ [.fsl (.int .i64) w] = iiC (l ++ [w]) := (List.map_append (f := AV.fsl (.int .i64)) (l₁ := l) (l₂ := [w])).symm
theorem len_rows (l : List (List Int)) (w : List Int) : (l ++ [w]).length = l.length + 1 := by simp
/-- append to such a list; the list stays known. -/
theorem append_accV {i : TI} {K : AV → Hp → Prop} (fr : Hp) {acc σ : Hp} {k n : Nat} {v x : AV} {cs new : List AV} (h : Acc i.size k v acc cs) (hx : SrcAt (fr ++ (acc ++ σ)) i.size x n new) (hnew : new.length = n * i.size) (hn : k + n ≤ 1048576) (hb : i.bytes ≤ 1024) (h0 : 0 < i.size)
    (go : ∀ v' acc', Acc i.size (k + n) v' acc' (cs ++ new) → K v' (fr ++ (acc' ++ σ))) : AppendAt i (fr ++ (acc ++ σ)) v x K := by
  have hl := h.length
  cases h with
  | nil =>
    refine .perm _ (front_perm' fr [] σ) (.fresh n new (.inl rfl) (hx.perm (front_perm' fr [] σ)) (by omega) hb h0 (K := fun v σ3 => (n = 0 ∧ v = .nils ∧ σ3 = [] ++ (fr ++ σ)) ∨ (n ≠ 0 ∧ ∃ b, v = .mref b 0 n i.size ∧ σ3 = (b, new) :: ([] ++ (fr ++ σ)))) (fun hne b => .inr ⟨hne, b, rfl, rfl⟩) (fun h0 => .inl ⟨h0, rfl, rfl⟩)) ?_
    rintro v σ3 (⟨hz, rfl, rfl⟩ | ⟨hz, b, rfl, rfl⟩)
    · subst hz
      obtain rfl : new = [] := List.length_eq_zero_iff.1 (by simpa using hnew)
      exact ⟨_, (front_perm' fr [] σ).symm, .inl (go _ _ .nil)⟩
    · refine ⟨_, (front_perm' fr [(b, new)] σ).symm, .inl (go _ _ ?_)⟩
      have := Acc.mref (e := i.size) b (0 + n) new (by rw [hnew, Nat.zero_add])
      rw [Nat.zero_add] at this ⊢
      exact this
  | mref b k cs h =>
    refine .perm _ (front_perm' fr [(b, cs)] σ) (.more 0 b k n cs new rfl rfl (by rw [h]; exact Nat.le_refl _) (hx.perm (front_perm' fr [(b, cs)] σ)) hn hb h0 (K := fun v σ3 => ∃ b', v = .mref b' 0 (k + n) i.size ∧ σ3 = (b', cs.take (k * i.size) ++ new) :: (fr ++ σ)) (fun b' => ⟨b', rfl, rfl⟩)) ?_
    rintro v σ3 ⟨b', rfl, rfl⟩
    rw [List.take_of_length_le (by omega)]
    exact ⟨_, (front_perm' fr [(b', cs ++ new)] σ).symm, .inl (go _ _ (.mref _ _ _ (by rw [List.length_append, h, hnew, Nat.add_mul])))⟩
theorem rep0 (n : Nat) : repC [.int .i64 0] n = inC (List.replicate n 0) := rep_inC n
theorem aCount (s : Sy) (K : Nat) (σ : Hp) (_hf : Fit s) (hg : Good s) (hK : K ≤ 100) : ACalls Tryz.prog 20 [.agg (sysC s), .int .i64 K] σ (Ret (.fsl (.int .i64) (cntK s K)) σ) := by
  have hn1 := hg.n1
  have hn2 := hg.n2
  obtain ⟨N, hN⟩ : ∃ N : Nat, s.n = N := ⟨s.n.toNat, by omega⟩
  have hRp : ∀ σ, ACalls Tryz.prog 44 [.fsl (.int .i64) ([1] : List Int), .int .i64 s.n] σ (fun r σ' => ∃ b, r = .mref b 0 N 1 ∧ σ' = (b, inC (List.replicate N 1)) :: σ) := fun σ => hN ▸ aRepeat N σ (by omega) (by omega)
  have hlen : ∀ k, (cntK s k).length = N := fun k => by rw [cntK_length, hN, Int.toNat_natCast]
  have hfin : Fin (Ret (.fsl (.int .i64) (cntK s K)) σ) (.fsl (.int .i64) (cntK s K)) σ := .done ⟨rfl, rfl⟩
  refine okF Tryz.func20 (by kernel_rfl) ?_
  intro bl1
  intro bl2
  refine LoadAt.mk 1 _ _ rfl rfl ?_
  refine .frz (args' := [.fsl (.int .i64) ([1] : List Int), .int .i64 s.n]) 0 bl2 0 1 1 _ (.int .i64) ([1] : List Int) rfl rfl ⟨rfl, rfl, by decide⟩ (frz_cons .here (.refl _)) ?_
  refine .mk [] _ (hRp _) ?_
  rintro _ _ ⟨b0, rfl, rfl⟩
  refine loopS (S := Nat × Nat) (fun x => [(2, .ptr bl1 0), (5, .mref x.2 0 N 1), (13, .int .i64 K), (14, .int .i64 x.1)]) (fun x => (x.2, inC (cntK s x.1)) :: (bl1, sysC s) :: σ) (fun x => x.1 ≤ K) (fun x => K - x.1) (0, b0) ⟨Nat.zero_le _, ⟨rfl, rfl, rfl, rfl, trivial⟩, by show _ = (b0, inC (List.replicate s.n.toNat 1)) :: _; rw [hN]; rfl⟩ ?_
  rintro ⟨k, b⟩ g hk0
  have hk : k ≤ K := hk0
  clear hk0
  have hlenk := hlen k
  refine bcond_dec (p := (k : Int) < K) (fun hlt => ?_) (fun hge => ?_)
  · have hlt : k < K := by omega
    obtain ⟨E, hE⟩ : ∃ E, sortedE s.edges = E := ⟨_, rfl⟩
    have hFl : ∀ σ, ACalls Tryz.prog 45 [.fsl edgeSh s.edges] σ (Ret (.fsl edgeSh E) σ) := fun σ => hE ▸ aFlowSorted s.edges σ (by have := hg.el; omega)
    have hcnt : cntK s (k + 1) = cntE E N (cntK s k) E.length := by
      show cntE (sortedE s.edges) s.n.toNat (cntK s k) _ = _
      rw [hE, hN]; rfl
    have hEm : ∀ e ∈ E, (0 ≤ e.1 ∧ e.1 < N) ∧ (0 ≤ e.2.1 ∧ e.2.1 < N) := fun e he => by
      have := hg.edge e ((sortedE_mem _ _).1 (hE ▸ he))
      omega
    have hcap := cntK_cap s k
    have hEl : E.length ≤ 100000 := by
      rw [← hE]; have := sortedE_len s.edges; have := hg.el; omega
    have hNt : s.n.toNat = N := by omega
    refine LoadAt.mk 1 _ _ rfl rfl ?_
    refine With.mk ⟨by omega, by omega, by omega, by decide⟩ ?_
    intro bl3
    refine LoadAt.mk 2 _ _ rfl rfl ?_
    refine callR [] (hFl _) ?_
    refine loopS (S := Nat) (fun j => [(2, .ptr bl1 0), (5, .mref b 0 N 1), (6, .mref bl3 0 N 1), (13, .int .i64 K), (14, .int .i64 k), (21, .fsl edgeSh E), (22, .int .i64 E.length), (23, .int .i64 j)]) (fun j => (bl3, inC (cntE E N (cntK s k) j)) :: (b, inC (cntK s k)) :: (bl1, sysC s) :: σ) (fun j => j ≤ E.length) (fun j => E.length - j) 0 ⟨Nat.zero_le _, ⟨rfl, rfl, by rw [← hNt]; rfl, rfl, rfl, rfl, rfl, rfl, trivial⟩, by rw [cntE_zero, ← rep0, hNt]; rfl⟩ ?_
    intro j g hj0
    have hj : j ≤ E.length := hj0
    clear hj0
    refine bcond_dec (p := (j : Int) < E.length) (fun hjl => ?_) (fun hjg => ?_)
    · have hjl : j < E.length := by omega
      obtain ⟨e, he⟩ : ∃ e : EdgeT, E[j] = e := ⟨_, rfl⟩
      have hem := hEm e (he ▸ List.getElem_mem hjl)
      have hst := cntE_succ E N (cntK s k) hjl
      rw [he] at hst
      have hnl := cntE_length E N (cntK s k) j
      have hnc := cntE_cap (l := E) (n := N) hcap j
      obtain ⟨nx, hnx⟩ : ∃ nx, cntE E N (cntK s k) j = nx := ⟨_, rfl⟩
      rw [hnx] at hst hnl hnc ⊢
      obtain ⟨A, hA⟩ : ∃ A : Nat, e.1 = A := ⟨e.1.toNat, by omega⟩
      obtain ⟨C, hC⟩ : ∃ C : Nat, e.2.1 = C := ⟨e.2.1.toNat, by omega⟩
      have h1 := hnc C
      have h2 := hcap A
      have hwr := inC_writeK (i := ⟨.int .i64, 1, 8, [.int .i64 0]⟩) rfl (minI (IntKind.i64.wrap (nx.getD C 0 + (cntK s k).getD A 0)) 4097) hC (l := nx) (by omega)
      have hadd : nx.set C (minI (IntKind.i64.wrap (nx.getD C 0 + (cntK s k).getD A 0)) 4097) = addC (cntK s k) nx e := by
        unfold addC
        rw [hC, hA, Int.toNat_natCast, Int.toNat_natCast, w64 (by omega)]
      refine With.mk rfl (IdxF.mk e (by omega) ((get_some hjl).trans (congrArg some he)) ?_)
      intro bl1
      refine StoreAt.mk 0 _ _ rfl rfl ?_
      refine .sched [] (upto [] 17 0) (by kernel_rfl) ?_
      refine LoadAt.mk 0 _ _ rfl rfl ?_
      refine LoadAt.mk 0 _ _ rfl rfl ?_
      refine With.mk ⟨rfl, by omega, by omega⟩ ?_
      refine LoadAt.mk 1 _ _ rfl (inC_readK (k := C) (by omega) (by omega)) ?_
      refine LoadAt.mk 0 _ _ rfl rfl ?_
      refine With.mk ⟨rfl, by omega, by omega⟩ ?_
      refine LoadAt.mk 2 _ _ rfl (inC_readK (k := A) (by omega) (by omega)) ?_
      refine With.mk ⟨rfl, by omega, by omega⟩ ?_
      refine StoreAt.mk 1 _ (inC (addC (cntK s k) nx e)) rfl (hwr.trans (congrArg some (congrArg inC hadd))) ?_
      rw [← hst]
      exact nextS (j + 1) (by show E.length - (j + 1) < E.length - j; omega) hjl ⟨rfl, rfl, rfl, rfl, rfl, rfl, rfl, inc64 (by omega), trivial⟩ (.drop 0 1 (.refl _))
    · have hge : j = E.length := by omega
      subst hge
      rw [← hcnt]
      exact nextS (k + 1, bl3) (by show K - (k + 1) < K - k; omega) hlt ⟨rfl, rfl, rfl, inc64 (by omega), trivial⟩ (.drop 1 1 (.refl _))
  · have hge : k = K := by omega
    subst hge
    exact .drop 1 1 (.frz 0 b 0 N 1 _ (.int .i64) (cntK s k) rfl (by rw [List.drop_zero, List.take_of_length_le (by rw [inC_length, hlenk]; omega)]; exact inC_flat _) ⟨hlenk, rfl, by decide⟩ .here hfin)
theorem aPTo (s : Sy) (v : Int) (k : Nat) (σ : Hp) : ACalls Tryz.prog 21 [.agg (sysC s), .int .i64 v, .int .i64 k] σ (fun r σ' => ∃ bs bv be, r = .fn (.func 46) [] [.ptr be 0, .ptr bv 0, .ptr bs 0] ∧ σ' = (be, [.int .i64 k]) :: (bv, [.int .i64 v]) :: (bs, sysC s) :: σ) := by
  refine okF Tryz.func21 (by kernel_rfl) ?_
  intro bl1
  intro bl2
  intro bl3
  exact .done ⟨bl1, bl2, bl3, rfl, rfl⟩
/-- At most so many edges. -/
def mostK (m : Int) : Nat := (min (max m 0) 8).toNat
/-- The ways of fewer than j edges. -/
def upP (s : Sy) (v : Int) (j : Nat) : List (List Int) := (List.range j).flatMap (toP s v)
theorem upP_succ (s : Sy) (v : Int) (j : Nat) : upP s v (j + 1) = upP s v j ++ toP s v j := by
  unfold upP; rw [List.range_succ, List.flatMap_append]; simp
theorem upP_le (s : Sy) (v : Int) {j m : Nat} (h : j < m + 1) : (upP s v (j + 1)).length ≤ (allP s v m).length := by
  obtain ⟨d, hd⟩ : ∃ d, m + 1 = j + 1 + d := ⟨m + 1 - (j + 1), by omega⟩
  show (upP s v (j + 1)).length ≤ (upP s v (m + 1)).length
  rw [hd]
  clear hd h
  induction d with
  | zero => exact Nat.le_refl _
  | succ d ih => rw [← Nat.add_assoc, upP_succ s v (j + 1 + d), List.length_append]; omega
theorem okG_no {e : Int} {l : List (List Int)} (h : ¬ e = 0) : okG e l = [] := if_neg h
theorem okG_yes {e : Int} {l : List (List Int)} (h : e = 0) : okG e l = l := if_pos h
/-- What All tells. -/
def allE (s : Sy) (v m : Int) : Int := if checkS s = 0 then (if 0 ≤ v ∧ v < s.n then (if sumC s v.toNat (mostK m + 1) ≤ 4096 then 0 else 6) else 1) else checkS s
theorem aPathsAll (s : Sy) (v m : Int) (σ : Hp) (hf : Fit s) (hm : Good s → 0 ≤ v → v < s.n → sumC s v.toNat (mostK m + 1) ≤ 4096 → (allP s v (mostK m)).length ≤ 100000) : ACalls Tryz.prog 7 [.agg (sysC s), .int .i64 v, .int .i64 m] σ (Ret (.tup [.fsl (.slice (.int .i64)) (okG (allE s v m) (allP s v (mostK m))), .int .i64 (allE s v m)]) σ) := by
  refine okF Tryz.func7 (by kernel_rfl) ?_
  intro bl1
  refine LoadAt.mk 0 _ _ rfl rfl ?_
  refine callR [] (aSysCheck s _ hf) ?_
  refine bcond_split (fun c2 => ?_) (fun c2 => ?_)
  · have c2 : ¬ (checkS s = 0) := by simpa using c2
    exact .nil (frz_cons (.nil _) (.refl _)) (.drop 0 1 (.done ⟨by rw [show allE s v m = checkS s from if_neg c2, okG_no c2]; rfl, rfl⟩))
  · have c2 : checkS s = 0 := by simpa using c2
    refine bcond_dec (fun c3 => ?_) (fun c3 => ?_)
    · have c3 : v < 0 := c3
      exact .nil (frz_cons (.nil _) (.refl _)) (.drop 0 1 (.done ⟨by rw [show allE s v m = 1 from (if_pos c2).trans (if_neg (by omega)), okG_no (by decide)]; rfl, rfl⟩))
    · have c3 : ¬ (v < 0) := c3
      refine LoadAt.mk 0 _ _ rfl rfl ?_
      refine bcond_dec (fun c4 => ?_) (fun c4 => ?_)
      · have c4 : s.n ≤ v := c4
        exact .nil (frz_cons (.nil _) (.refl _)) (.drop 0 1 (.done ⟨by rw [show allE s v m = 1 from (if_pos c2).trans (if_neg (by omega)), okG_no (by decide)]; rfl, rfl⟩))
      · have c4 : ¬ (s.n ≤ v) := c4
        have hg := good_of c2
        have hn2 := hg.n2
        obtain ⟨V, rfl⟩ : ∃ V : Nat, v = V := ⟨v.toNat, by omega⟩
        obtain ⟨M, hMk⟩ : ∃ M : Nat, mostK m = M := ⟨_, rfl⟩
        have hM : (if 8 < if m < 0 then 0 else m then 8 else if m < 0 then 0 else m) = (M : Int) := by unfold mostK at hMk; split <;> split at * <;> omega
        have hM8 : M ≤ 8 := by unfold mostK at hMk; omega
        have hE : allE s V m = if sumC s V (M + 1) ≤ 4096 then 0 else 6 := by
          unfold allE
          rw [if_pos c2, if_pos (by omega), hMk, Int.toNat_natCast]
        rw [hMk] at hm ⊢
        have hm := hm hg (by omega) (by omega)
        rw [Int.toNat_natCast] at hm
        rw [hE]
        refine loopS (S := Nat) (fun j => [(1, .int .i64 V), (2, .int .i64 M), (3, .ptr bl1 0), (9, .int .i64 (sumC s V j)), (31, .int .i64 (M + 1 : Nat)), (32, .int .i64 j)]) (fun _ => (bl1, sysC s) :: σ) (fun j => j ≤ M + 1) (fun j => M + 1 - j) 0 ⟨Nat.zero_le _, ⟨rfl, av_int hM, rfl, rfl, av_int (by rw [hM, w64 (by omega)]; omega), rfl, trivial⟩, rfl⟩ ?_
        intro j g hj0
        have hj : j ≤ M + 1 := hj0
        clear hj0
        refine bcond_dec (p := (j : Int) < ((M + 1 : Nat) : Int)) (fun hlt => ?_) (fun hge => ?_)
        · have hlt : j < M + 1 := by omega
          refine LoadAt.mk 0 _ _ rfl rfl ?_
          refine callR [] (aCount s j _ hf hg (by omega)) ?_
          have hcl := cntK_length s j
          have hcc := cntK_cap s j V
          have hsc := sumC_cap s V j
          have hsu := sumC_succ s V j
          refine With.mk rfl ?_
          refine IdxF.mk ((cntK s j).getD V 0) (by omega) (gz (by omega) rfl) ?_
          exact nextS (j + 1) (by show M + 1 - (j + 1) < M + 1 - j; omega) hlt ⟨rfl, rfl, rfl, av_int (by rw [w64 (by omega), hsu]), rfl, inc64 (by omega), trivial⟩ (.refl _)
        · have hge : j = M + 1 := by omega
          subst hge
          refine bcond_dec (fun c1 => ?_) (fun c1 => ?_)
          · have c1 : 4096 < sumC s V (M + 1) := c1
            exact .nil (frz_cons (.nil _) (.refl _)) (.drop 0 1 (.done ⟨by rw [if_neg (by omega), okG_no (by decide)]; rfl, rfl⟩))
          · have c1 : ¬ (4096 < sumC s V (M + 1)) := c1
            intro bl2
            have hm := hm (by omega)
            rw [if_pos (show sumC s V (M + 1) ≤ 4096 by omega), okG_yes rfl]
            refine .shed (.pull [1] (shed_eq (σ2 := (bl1, sysC s) :: (bl2, [.nils]) :: ([] ++ σ)) rfl)) ?_
            refine loopS (S := Nat × AV × Hp) (fun x => [(1, .int .i64 V), (3, .ptr bl1 0), (11, .ptr bl2 0), (47, .int .i64 (M + 1 : Nat)), (48, .int .i64 x.1)]) (fun x => (bl1, sysC s) :: (bl2, [x.2.1]) :: (x.2.2 ++ σ)) (fun x => x.1 ≤ M + 1 ∧ Acc 1 (upP s V x.1).length x.2.1 x.2.2 (iiC (upP s V x.1))) (fun x => M + 1 - x.1) (0, .nils, []) ⟨⟨Nat.zero_le _, .nil⟩, ⟨rfl, rfl, rfl, av_int (by rw [w64 (by omega)]; omega), rfl, trivial⟩, rfl⟩ ?_
            rintro ⟨j, vo, acc⟩ g ⟨hj0, hacc0⟩
            have hj : j ≤ M + 1 := hj0
            have hacc : Acc 1 (upP s V j).length vo acc (iiC (upP s V j)) := hacc0
            clear hj0 hacc0
            refine bcond_dec (p := (j : Int) < ((M + 1 : Nat) : Int)) (fun hlt => ?_) (fun hge => ?_)
            · have hlt : j < M + 1 := by omega
              have hup : upP s V (j + 1) = upP s V j ++ toP s V j := upP_succ s V j
              have hle : (upP s V (j + 1)).length ≤ 100000 := Nat.le_trans (upP_le s V hlt) hm
              refine LoadAt.mk 0 _ _ rfl rfl ?_
              refine .mk [] _ (aPTo s V j _) ?_
              rintro _ _ ⟨bs, bv, be, rfl, rfl⟩
              refine .shed (.pull [2, 1] (shed_eq (σ2 := (bs, sysC s) :: (bv, [.int .i64 V]) :: (be, [.int .i64 j]) :: (((bl1, sysC s) :: (bl2, [vo]) :: acc) ++ σ)) rfl)) ?_
              refine .mk (fun l rd dn hY => ?_)
              refine (aTo1 l rd be bv bs s j V hf (by omega) (by omega) (by omega) (fun L τ => ∃ vo acc, τ = (bl1, sysC s) :: (bl2, [vo]) :: acc ∧ Acc 1 L.length vo acc (iiC L)) 100000 ?_ (upP s V j) ((bl1, sysC s) :: (bl2, [vo]) :: acc) σ ⟨vo, acc, rfl, hacc⟩ (by rw [← hup]; exact hle)).mono ?_
              · rintro L w _ ρ ⟨vo, acc, rfl, hacc⟩ hl
                refine (hY [.fsl (.int .i64) w] _ (fun e σ2 => e = .normal ∧ ∃ x vo' acc', Acc 1 (L ++ [w]).length vo' acc' (iiC (L ++ [w])) ∧ σ2 = x :: (bs, sysC s) :: (bv, [.int .i64 V]) :: (be, [.int .i64 j]) :: (bl1, sysC s) :: (bl2, [vo']) :: (acc' ++ ρ)) rfl ?_).shed ?_
                · refine LoadAt.mk 4 _ _ rfl rfl ?_
                  intro bl4
                  refine append_accV [_, _, _, _, _, _] hacc.unv (.mref 0 bl4 0 1 _ rfl (Nat.le_of_ble_eq_true rfl)) rfl (by omega) (by decide) (by decide) (fun v' acc' h' => ?_)
                  obtain ⟨b5, rfl, rfl⟩ := accA_one (by omega) h'
                  refine StoreAt.mk 5 _ _ rfl rfl ?_
                  refine ⟨rfl, (bl4, [.fsl (.int .i64) w]), .mref b5 0 (L.length + 1) 1, [(b5, iiC L ++ [.fsl (.int .i64) w])], ?_, ?_⟩
                  · rw [len_rows, ← iiC_snoc]; exact h'
                  · rfl
                · rintro r σ' (⟨rfl, σ2, rfl, _, x, vo', acc', h', rfl⟩ | ⟨rfl, e, σ2, hne, rfl, he, _⟩)
                  · exact ⟨_, .drop 1 1 (.refl _), rfl, _, ⟨vo', acc', rfl, h'⟩, rfl⟩
                  · exact absurd he hne
              · rintro r σ' ⟨_, ⟨vo', acc', rfl, hacc'⟩, rfl⟩
                rw [← hup] at hacc'
                refine .inl ⟨_, rfl, ?_⟩
                exact nextS (j + 1, vo', acc') (by show M + 1 - (j + 1) < M + 1 - j; omega) ⟨hlt, hacc'⟩ ⟨rfl, rfl, rfl, rfl, inc64 (by omega), trivial⟩ (.drop 0 3 (.refl _))
            · have hge : j = M + 1 := by omega
              subst hge
              have h0 : 0 < (upP s V (M + 1)).length := List.length_pos_of_mem (start_all (by omega) M)
              obtain ⟨b, rfl, rfl⟩ := accA_one h0 hacc
              refine LoadAt.mk 1 _ _ rfl rfl ?_
              exact .drop 0 2 (.frz 0 b 0 (upP s V (M + 1)).length 1 _ (.slice (.int .i64)) (upP s V (M + 1)) rfl (by rw [List.drop_zero, List.take_of_length_le (by show (iiC (upP s V (M + 1))).length ≤ _; rw [iiC_length, Nat.mul_one]; exact Nat.le_refl _)]; exact iiC_flat _) ⟨rfl, rfl, by decide⟩ (frz_cons .here (.refl _)) (.done ⟨rfl, rfl⟩))
theorem allE_chk {s : Sy} {v m : Int} (h : allE s v m = 0) : checkS s = 0 := by
  unfold allE at h
  by_cases c : checkS s = 0
  · exact c
  · rw [if_neg c] at h; exact absurd h c
theorem allE_v {s : Sy} {v m : Int} (h : allE s v m = 0) : 0 ≤ v ∧ v < s.n ∧ sumC s v.toNat (mostK m + 1) ≤ 4096 := by
  have c := allE_chk h
  unfold allE at h
  rw [if_pos c] at h
  by_cases c2 : 0 ≤ v ∧ v < s.n
  · rw [if_pos c2] at h
    by_cases c3 : sumC s v.toNat (mostK m + 1) ≤ 4096
    · exact ⟨c2.1, c2.2, c3⟩
    · rw [if_neg c3] at h; exact absurd h (by decide)
  · rw [if_neg c2] at h; exact absurd h (by decide)
theorem meetS_Val {s : Sy} (hf : Fit s) (hg : Good s) {L : List (List Int)} (h : ∀ w ∈ L, wayB s w = true) : Val s.what s.w (meetS s L) := by
  have key : ∀ (L : List (List Int)) (a : List Int), Val s.what s.w a → (∀ w ∈ L, wayB s w = true) → Val s.what s.w (L.foldl (fun a w => join12 s.what a (alongS s w)) a) := by
    intro L
    induction L with
    | nil => exact fun a ha _ => ha
    | cons w L ih => exact fun a ha hl => ih _ (ha.join (alongS_Val hf hg (hl w (List.mem_cons_self ..)))) fun x hx => hl x (List.mem_cons_of_mem _ hx)
  exact key L _ (botS_Val hf hg) h
/-- What Meet tells. -/
theorem aPathsMeet (s : Sy) (v m : Int) (σ : Hp) (hf : Fit s) (hm : Good s → 0 ≤ v → v < s.n → sumC s v.toNat (mostK m + 1) ≤ 4096 → (allP s v (mostK m)).length ≤ 100000) : ACalls Tryz.prog 10 [.agg (sysC s), .int .i64 v, .int .i64 m] σ (Ret (.tup [.fsl (.int .u64) (okL (allE s v m) (meetS s (allP s v (mostK m)))), .int .i64 (allE s v m)]) σ) := by
  refine okF Tryz.func10 (by kernel_rfl) ?_
  intro bl1
  refine LoadAt.mk 0 _ _ rfl rfl ?_
  refine callR [] (aPathsAll s v m _ hf hm) ?_
  refine bcond_split (fun c2 => ?_) (fun c2 => ?_)
  · have c2 : ¬ (allE s v m = 0) := by simpa using c2
    exact .nil (frz_cons (.nil _) (.refl _)) (.drop 0 1 (.done ⟨by rw [okL_neg c2]; rfl, rfl⟩))
  · have c2 : allE s v m = 0 := by simpa using c2
    refine LoadAt.mk 0 _ _ rfl rfl ?_
    refine LoadAt.mk 0 _ _ rfl rfl ?_
    have hE : allE s v m = 0 := c2
    have hc : checkS s = 0 := allE_chk hE
    have hg := good_of hc
    have hvn := allE_v hE
    have hle := hm hg hvn.1 hvn.2.1 hvn.2.2
    rw [okL_pos hE, hE, okG_yes rfl]
    have hrow : ∀ w ∈ allP s v (mostK m), wayB s w = true ∧ w.length ≤ 100 := fun w hw => by
      obtain ⟨k, hk, h1, _⟩ := mem_allP.1 hw
      have h2 := long_way (by have := hg.n1; omega) k w h1
      have : mostK m ≤ 8 := by unfold mostK; omega
      exact ⟨h2.1, by omega⟩
    generalize allP s v (mostK m) = L at hle hrow
    refine callR [] (aLBottom s.what s.w _) ?_
    have hV : ∀ j, Val s.what s.w (meetS s (L.take j)) := fun j => meetS_Val hf hg fun w hw => (hrow w (List.mem_of_mem_take hw)).1
    refine loopS (S := Nat) (fun j => [(3, .ptr bl1 0), (10, .fsl (.int .u64) (meetS s (L.take j))), (30, .fsl (.slice (.int .i64)) L), (31, .int .i64 L.length), (32, .int .i64 j)]) (fun _ => (bl1, sysC s) :: σ) (fun j => j ≤ L.length) (fun j => L.length - j) 0 ⟨Nat.zero_le _, ⟨rfl, rfl, rfl, rfl, rfl, trivial⟩, rfl⟩ ?_
    intro j g hj0
    have hj : j ≤ L.length := hj0
    clear hj0
    have hx := hV j
    have hxs := val_short hx.v
    refine bcond_dec (p := (j : Int) < L.length) (fun hlt => ?_) (fun hge => ?_)
    · have hlt : j < L.length := by omega
      obtain ⟨w, hw⟩ : ∃ w, L[j] = w := ⟨_, rfl⟩
      obtain ⟨hway, hwl⟩ := hrow w (hw ▸ List.getElem_mem hlt)
      have hst : meetS s (L.take (j + 1)) = join12 s.what (meetS s (L.take j)) (alongS s w) := by
        unfold meetS
        rw [List.take_succ_eq_append_getElem hlt, List.foldl_append, hw]; rfl
      have hy := alongS_Val hf hg hway
      have hys := val_short hy.v
      have hiE : isE s w = 0 := (if_pos hc).trans (if_pos hway)
      have hA : ∀ σ, ACalls Tryz.prog 18 [.agg (sysC s), .fsl (.int .i64) w] σ (Ret (.tup [.fsl (.int .u64) (alongS s w), .int .i64 0]) σ) := fun σ => acalls_eq (aPathAlong s w σ hf (by omega)) (by rw [hiE, okL_pos rfl])
      have hJ := fun σ => aLJoinOk s.what s.w (meetS s (L.take j)) (alongS s w) σ hx.w64 hy.w64 (by omega) (by omega) hx.v hy.v
      refine With.mk rfl (IdxF.mk w (by omega) ((get_some hlt).trans (congrArg some hw)) ?_)
      refine LoadAt.mk 0 _ _ rfl rfl ?_
      refine callR [] (hA _) ?_
      refine LoadAt.mk 0 _ _ rfl rfl ?_
      refine LoadAt.mk 0 _ _ rfl rfl ?_
      refine callR [] (hJ _) ?_
      exact nextS (j + 1) (by show L.length - (j + 1) < L.length - j; omega) hlt ⟨rfl, congrArg (AV.fsl (.int .u64)) hst.symm, rfl, rfl, inc64 (by omega), trivial⟩ (.refl _)
    · have hge : j = L.length := by omega
      subst hge
      rw [List.take_length] at hx
      exact .drop 0 1 (.done ⟨by show AV.tup [.fsl (.int .u64) (meetS s (L.take L.length)), .int .i64 0] = _; rw [List.take_length], rfl⟩)
end Go.Proofs.YtljbnigceammdaaGreat
