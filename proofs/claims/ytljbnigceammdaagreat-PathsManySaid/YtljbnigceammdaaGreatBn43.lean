/-
  Zd: what the claim uses of them.
-/
import Derived.Test.YtljbnigceammdaaGreatBn42
namespace Go.Proofs.YtljbnigceammdaaGreat
open Go.RowKit
set_option maxRecDepth 100000
theorem gz {way : List Int} {j : Nat} (h : j < way.length) {i : Int} (hi : i = (j : Int)) : way[i.toNat]? = some (way.getD j 0) := by
  subst hi
  rw [Int.toNat_natCast, List.getD_eq_getElem?_getD, List.getElem?_eq_getElem h]; rfl
theorem is_bad {s : Sy} {way : List Int} (h : ¬ checkS s = 0) : false = isS s way := by unfold isS; rw [decide_eq_false h]; rfl
theorem is_way {s : Sy} {way : List Int} (h : checkS s = 0) : wayB s way = isS s way := by unfold isS; rw [decide_eq_true h]; rfl
theorem way_nil {s : Sy} {way : List Int} (h : way.length = 0) : false = wayB s way := by unfold wayB; rw [h]; rfl
theorem way_out {s : Sy} {way : List Int} (h : ¬ (0 ≤ way.getD 0 0 ∧ way.getD 0 0 < s.n)) : false = wayB s way := by
  unfold wayB
  rw [Bool.eq_false_iff.2 fun h2 => h (node_iff.1 h2), Bool.and_false, Bool.false_and]
theorem way_ch {s : Sy} {way : List Int} (h1 : 0 < way.length) (h : 0 ≤ way.getD 0 0 ∧ way.getD 0 0 < s.n) : wayB s way = chainB s.n s.edges way way.length := by
  unfold wayB
  rw [decide_eq_true h1, node_iff.2 h, Bool.true_and, Bool.true_and]
theorem any_in (l : List Int) (x : Int) : (l.any fun z => decide (x = z)) = decide (x ∈ l) := by
  rw [Bool.eq_iff_iff, List.any_eq_true, decide_eq_true_eq]
  exact ⟨fun ⟨z, h1, h2⟩ => by rw [of_decide_eq_true h2]; exact h1, fun h => ⟨x, h, decide_eq_true rfl⟩⟩
theorem ch_step {n : Int} {l : List EdgeT} {way : List Int} {j : Nat} {b : Bool} (h : chainB n l way (j + 1) = true) (hb : decide (way.getD (j + 1) 0 ∈ toS n l (way.getD j 0)) = b) : chainB n l way (j + 2) = b := by
  rw [chainB_succ, h, Bool.true_and, Nat.add_sub_cancel, hb, decide_eq_false (by omega), Bool.false_or]
theorem ch_no {n : Int} {l : List EdgeT} {way : List Int} {j : Nat} (hj : j + 1 < way.length) (h : chainB n l way (j + 2) = false) : chainB n l way way.length = false := by
  rw [Bool.eq_false_iff] at h ⊢
  exact fun h2 => h (chainB_mono h2 hj)
theorem ch_one (n : Int) (l : List EdgeT) (way : List Int) : chainB n l way 1 = true := rfl
theorem aPathIs (s : Sy) (way : List Int) (σ : Hp) (hf : Fit s) (hl : way.length ≤ 100000) : ACalls Tryz.prog 37 [.agg (sysC s), .fsl (.int .i64) way] σ (Ret (.bool (isS s way)) σ) := by
  refine okF Tryz.func37 (by kernel_rfl) ?_
  intro bl1
  refine .quiet (by kernel_rfl) ?_
  refine LoadAt.mk 0 _ _ rfl rfl ?_
  refine callQ [] (aSysCheck s _ hf) ?_
  refine bcond_split (fun c1 => ?_) (fun c1 => ?_)
  · have c1 : (!decide (checkS s = 0)) = true := c1
    have c1 : ¬ checkS s = 0 := by simpa using c1
    exact .drop 0 1 (.done ⟨av_bool (is_bad c1), rfl⟩)
  have c1 : (!decide (checkS s = 0)) = false := c1
  have c1 : checkS s = 0 := by simpa using c1
  rw [← is_way c1]
  have hg := good_of c1
  have hn2 := hg.n2
  refine bcond_dec (p := (way.length : Int) = 0) (fun c2 => ?_) (fun c2 => ?_)
  · exact .drop 0 1 (.done ⟨av_bool (way_nil (by omega)), rfl⟩)
  have h0 : 0 < way.length := by omega
  refine With.mk rfl (IdxF.mk (way.getD 0 0) (by decide) (gz h0 rfl) ?_)
  refine bcond_dec (p := way.getD 0 0 < 0) (fun c3 => ?_) (fun c3 => ?_)
  · exact .drop 0 1 (.done ⟨av_bool (way_out (by omega)), rfl⟩)
  refine With.mk rfl (IdxF.mk (way.getD 0 0) (by decide) (gz h0 rfl) ?_)
  refine LoadAt.mk 0 _ _ rfl rfl ?_
  refine bcond_dec (p := s.n ≤ way.getD 0 0) (fun c4 => ?_) (fun c4 => ?_)
  · exact .drop 0 1 (.done ⟨av_bool (way_out (by omega)), rfl⟩)
  rw [way_ch h0 (by omega)]
  refine loopS (S := Nat) (fun j => [(1, .fsl (.int .i64) way), (2, .ptr bl1 0), (5, .int .i64 ((j + 1 : Nat) : Int))]) (fun _ => (bl1, sysC s) :: σ) (fun j => j + 1 ≤ way.length ∧ chainB s.n s.edges way (j + 1) = true) (fun j => way.length - j) 0 ⟨⟨h0, ch_one ..⟩, ⟨rfl, rfl, rfl, trivial⟩, rfl⟩ ?_
  rintro j g ⟨hj0, hc0⟩
  have hj : j + 1 ≤ way.length := hj0
  have hc : chainB s.n s.edges way (j + 1) = true := hc0
  clear hj0 hc0
  have hw : IntKind.i64.wrap (((j + 1 : Nat) : Int) - 1) = (j : Int) := by rw [w64 (by omega)]; omega
  refine bcond_dec (p := ((j + 1 : Nat) : Int) < (way.length : Int)) (fun hlt => ?_) (fun hge => ?_)
  · have hlt : j + 1 < way.length := by omega
    refine .quiet (by kernel_rfl) ?_
    refine LoadAt.mk 0 _ _ rfl rfl ?_
    refine LoadAt.mk 0 _ _ rfl rfl ?_
    refine With.mk rfl (IdxF.mk (way.getD j 0) (by rw [hw]; omega) (gz (by omega) hw) ?_)
    refine callQ [] (aNext s.n s.edges (way.getD j 0) _ hf.elen) ?_
    refine With.mk rfl (IdxF.mk (way.getD (j + 1) 0) (by omega) (gz hlt rfl) ?_)
    refine callQ [] (acalls_eq (aContainsI (toS s.n s.edges (way.getD j 0)) (way.getD (j + 1) 0) _ (by have := toS_length s.n s.edges (way.getD j 0); omega)) (av_bool (any_in _ _))) ?_
    cases hb : decide (way.getD (j + 1) 0 ∈ toS s.n s.edges (way.getD j 0)) with
    | false =>
      exact .drop 0 1 (.done ⟨av_bool (ch_no hlt (ch_step hc hb)).symm, rfl⟩)
    | true =>
      exact nextS (j + 1) (by show way.length - (j + 1) < way.length - j; omega) ⟨hlt, ch_step hc hb⟩ ⟨rfl, rfl, inc64 (by omega), trivial⟩ (.refl _)
  · have hge : j + 1 = way.length := by omega
    rw [hge] at hc
    exact .drop 0 1 (.done ⟨av_bool hc.symm, rfl⟩)
theorem aRNextI (n : Int) (l : List EdgeT) (a : Int) (σ : Hp) (hl : l.length ≤ 100000) (h0 : 0 ≤ n) (hn : n ≤ 100000) : ACalls Tryz.prog 59 [.int .i64 n, .fsl edgeSh l, .int .i64 a] σ (Ret (.fsl (.int .i64) (toS n l a)) σ) := by
  obtain ⟨m, rfl⟩ : ∃ m : Nat, n = m := ⟨n.toNat, by omega⟩
  exact aRNext m l a σ hl (by omega)
theorem aRAlong20 (s : Sy) (way : List Int) (σ : Hp) (hf : Fit s) (hg : Good s) (hw : wayB s way = true) (hl : way.length ≤ 100000) : ACalls Tryz.prog 32 [.agg (sysC s), .fsl (.int .i64) way] σ (Ret (.fsl (.int .u64) (alongS s way)) σ) := by
  have h0 : 0 < way.length := by
    unfold wayB at hw
    simp only [Bool.and_eq_true, decide_eq_true_eq] at hw
    exact hw.1.1
  refine okF Tryz.func32 (by kernel_rfl) ?_
  intro bl1
  refine .quiet (by kernel_rfl) ?_
  refine LoadAt.mk 0 _ _ rfl rfl ?_
  refine With.mk rfl (IdxF.mk (way.getD 0 0) (by decide) (gz h0 rfl) ?_)
  refine callQ [] (aRStart17 s (way.getD 0 0) _ hf hg) ?_
  refine loopS (S := Nat) (fun k => [(1, .fsl (.int .i64) way), (2, .ptr bl1 0), (5, .fsl (.int .u64) (alongK s way k)), (6, .int .i64 k)]) (fun _ => (bl1, sysC s) :: σ) (fun k => k + 1 ≤ way.length) (fun k => way.length - k) 0 ⟨h0, ⟨rfl, rfl, rfl, rfl, trivial⟩, rfl⟩ ?_
  intro k g hk0
  have hk : k + 1 ≤ way.length := hk0
  clear hk0
  have hww : IntKind.i64.wrap ((k : Int) + 1) = ((k + 1 : Nat) : Int) := by rw [w64 (by omega)]; omega
  refine bcond_dec (p := IntKind.i64.wrap ((k : Int) + 1) < (way.length : Int)) (fun hlt => ?_) (fun hge => ?_)
  · have hlt : k + 1 < way.length := by rw [hww] at hlt; omega
    have hn := way_node hw (i := k) (by omega)
    have hx := along_Val hf hg hw k (by omega)
    obtain ⟨v, hv⟩ : ∃ v : Nat, way.getD k 0 = v := ⟨(way.getD k 0).toNat, by omega⟩
    have hs := alongK_succ s way (k := k) (by omega)
    rw [hv, Int.toNat_natCast] at hs
    refine .quiet (by kernel_rfl) ?_
    refine LoadAt.mk 0 _ _ rfl rfl ?_
    refine With.mk rfl (IdxF.mk (v : Int) (by omega) ((gz (by omega) rfl).trans (congrArg some hv)) ?_)
    refine callQ [] (aROut17 s v (alongK s way k) _ hf hg (by omega) hx) ?_
    exact nextS (k + 1) (by show way.length - (k + 1) < way.length - k; omega) hlt ⟨rfl, rfl, congrArg (AV.fsl (.int .u64)) hs.symm, inc64 (by omega), trivial⟩ (.refl _)
  · have hge : k = way.length - 1 := by rw [hww] at hge; omega
    subst hge
    exact .drop 0 1 (.done ⟨rfl, rfl⟩)
/-- What Along tells. -/
def isE (s : Sy) (way : List Int) : Int := if checkS s = 0 then (if wayB s way = true then 0 else 1) else checkS s
theorem aPathAlong (s : Sy) (way : List Int) (σ : Hp) (hf : Fit s) (hl : way.length ≤ 100000) : ACalls Tryz.prog 18 [.agg (sysC s), .fsl (.int .i64) way] σ (Ret (.tup [.fsl (.int .u64) (okL (isE s way) (alongS s way)), .int .i64 (isE s way)]) σ) := by
  refine okF Tryz.func18 (by kernel_rfl) ?_
  intro bl1
  refine LoadAt.mk 0 _ _ rfl rfl ?_
  refine callR [] (aSysCheck s _ hf) ?_
  refine bcond_split (fun c1 => ?_) (fun c1 => ?_)
  · have c1 : (!decide (checkS s = 0)) = true := c1
    have c1 : ¬ checkS s = 0 := by simpa using c1
    have e : isE s way = checkS s := if_neg c1
    exact .nil (frz_cons (.nil _) (.refl _)) (.drop 0 1 (.done ⟨by rw [e, okL_neg c1]; rfl, rfl⟩))
  have c1 : (!decide (checkS s = 0)) = false := c1
  have c1 : checkS s = 0 := by simpa using c1
  have hg := good_of c1
  refine LoadAt.mk 0 _ _ rfl rfl ?_
  refine callB [] (acalls_eq (aPathIs s way _ hf hl) (av_bool (is_way c1).symm)) (fun c2 => ?_) (fun c2 => ?_)
  rotate_left
  · have e : isE s way = 1 := by unfold isE; rw [if_pos c1, c2]; rfl
    exact .nil (frz_cons (.nil _) (.refl _)) (.drop 0 1 (.done ⟨by rw [e, okL_neg (by decide)]; rfl, rfl⟩))
  have e : isE s way = 0 := by unfold isE; rw [if_pos c1, c2]; rfl
  rw [e, okL_pos rfl]
  have h0 : 0 < way.length := by
    have hw := c2
    unfold wayB at hw
    simp only [Bool.and_eq_true, decide_eq_true_eq] at hw
    exact hw.1.1
  have hn0 := way_node c2 (i := 0) h0
  have hnd := (nodeE_yes c1 hn0).symm
  refine .quiet (by kernel_rfl) ?_
  refine LoadAt.mk 0 _ _ rfl rfl ?_
  refine With.mk rfl (IdxF.mk (way.getD 0 0) (by decide) (gz h0 rfl) ?_)
  refine callQ [] (acalls_eq (aSysStart s (way.getD 0 0) _ hf) (by rw [hnd, okL_pos rfl])) ?_
  refine loopS (S := Nat × Int) (fun q => [(1, .fsl (.int .i64) way), (2, .ptr bl1 0), (7, .fsl (.int .u64) (alongK s way q.1)), (8, .int .i64 q.2), (9, .int .i64 ((q.1 + 1 : Nat) : Int))]) (fun _ => (bl1, sysC s) :: σ) (fun q => q.1 + 1 ≤ way.length ∧ q.2 = 0) (fun q => way.length - q.1) (0, 0) ⟨⟨h0, rfl⟩, ⟨rfl, rfl, rfl, rfl, rfl, trivial⟩, rfl⟩ ?_
  rintro ⟨k, z⟩ g ⟨hk0, hz0⟩
  have hk : k + 1 ≤ way.length := hk0
  have hz : z = 0 := hz0
  clear hk0 hz0
  refine bcond_dec (p := ((k + 1 : Nat) : Int) < (way.length : Int)) (fun hlt => ?_) (fun hge => ?_)
  · refine bcond_dec (p := z = 0) (fun _ => ?_) (fun c => absurd hz c)
    have hw : IntKind.i64.wrap (((k + 1 : Nat) : Int) - 1) = (k : Int) := by rw [w64 (by omega)]; omega
    have hn := way_node c2 (i := k) (by omega)
    have hx := along_Val hf hg c2 k (by omega)
    have hs := alongK_succ s way (k := k) (by omega)
    have ho := outE_val (nodeE_yes c1 hn).symm hx.v
    have hsl := val_short hx.v
    refine .quiet (by kernel_rfl) ?_
    refine LoadAt.mk 0 _ _ rfl rfl ?_
    refine With.mk rfl (IdxF.mk (way.getD k 0) (by rw [hw]; omega) (gz (by omega) hw) ?_)
    refine callQ [] (acalls_eq (aSysOut s (way.getD k 0) (alongK s way k) _ hf hx.w64 (by omega)) (by rw [ho, okL_pos rfl, ← hs])) ?_
    exact nextS (k + 1, 0) (by show way.length - (k + 1) < way.length - k; omega) ⟨by show k + 1 + 1 ≤ way.length; omega, rfl⟩ ⟨rfl, rfl, rfl, rfl, inc64 (by omega), trivial⟩ (.refl _)
  · have hge : k = way.length - 1 := by omega
    subst hge
    subst hz
    exact .drop 0 1 (.done ⟨rfl, rfl⟩)
theorem aAwake20 (σ : Hp) : ACalls Tryz.prog 6 [] σ (Ret (.bool true) σ) := by
  refine okF Tryz.func6 (by kernel_rfl) ?_
  intro bl1
  intro bl2
  intro bl3
  intro bl4
  intro bl5
  intro bl6
  refine StoreAt.mk 0 _ _ rfl rfl ?_
  refine LoadAt.mk 0 _ _ rfl rfl ?_
  intro bl7
  refine .frzc 4 bl3 0 1 1 _ (.int .u64) ([0] : List Int) rfl rfl ⟨rfl, rfl, by decide⟩ 2 0 bl5 _ rfl rfl ?_
  refine .frzc 3 bl4 0 1 1 _ (.int .u64) ([0] : List Int) rfl rfl ⟨rfl, rfl, by decide⟩ 2 1 bl5 _ rfl rfl ?_
  refine callNil 2 2 bl5 _ codeSh rfl rfl ?_
  refine .frz (args' := [.agg [.int .i64 1, .int .i64 2, .int .i64 1, .nils, .mref bl1 0 1 1, .mref bl2 0 1 1, .fsl transSh exS.T], .mref bl7 0 1 1]) 2 bl5 0 1 3 _ transSh exS.T rfl rfl ⟨rfl, rfl, by decide⟩ (frz_cons (frz_agg (frz_cons (.refl _) (frz_cons (.refl _) (frz_cons (.refl _) (frz_cons (.refl _) (frz_cons (.refl _) (frz_cons (.refl _) (frz_cons .here frz_nil))))))) rfl) (.refl _)) ?_
  refine .frz (args' := [.agg [.int .i64 1, .int .i64 2, .int .i64 1, .nils, .mref bl1 0 1 1, .fsl (.int .u64) exS.init, .fsl transSh exS.T], .mref bl7 0 1 1]) 2 bl2 0 1 1 _ (.int .u64) exS.init rfl rfl ⟨rfl, rfl, by decide⟩ (frz_cons (frz_agg (frz_cons (.refl _) (frz_cons (.refl _) (frz_cons (.refl _) (frz_cons (.refl _) (frz_cons (.refl _) (frz_cons .here (.refl _))))))) rfl) (.refl _)) ?_
  refine .frz (args' := [.agg (sysC exS), .mref bl7 0 1 1]) 2 bl1 0 1 1 _ (.int .i64) exS.entry rfl rfl ⟨rfl, rfl, by decide⟩ (frz_cons (frz_agg (frz_cons (.refl _) (frz_cons (.refl _) (frz_cons (.refl _) (frz_cons (.nil edgeSh) (frz_cons .here (.refl _)))))) rfl) (.refl _)) ?_
  refine .frz (args' := [.agg (sysC exS), .fsl (.int .i64) ([0] : List Int)]) 0 bl7 0 1 1 _ (.int .i64) ([0] : List Int) rfl rfl ⟨rfl, rfl, by decide⟩ (frz_cons (.refl _) (frz_cons .here frz_nil)) ?_
  refine callR [] (acalls_eq (aPathAlong exS [0] _ exS_fit (by decide)) (by rw [show isE exS [0] = 0 by decide +kernel, okL_pos rfl, show alongS exS [0] = [2] by decide +kernel])) ?_
  refine With.mk rfl ?_
  refine IdxF.mk (2 : Int) (by decide) rfl ?_
  exact .drop 0 1 (.done ⟨rfl, rfl⟩)
end Go.Proofs.YtljbnigceammdaaGreat
