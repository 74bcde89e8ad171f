/-
  soughref16.word, Apply; transfer.Apply.
-/
import Derived.Test.YtggcpiddnhipiaaGreatTd
namespace Go.Proofs.YtggcpiddnhipiaaGreat
open Go.RowKit
set_option maxRecDepth 100000
theorem aRWord16 (a : List Int) (n : Nat) (hn : a.length = n) (r : RefT) (b : Nat) (σ : Hp) (hr : refOk n r = true) : ACalls Tryz.prog 135 [.mref b 0 n 1, .agg (refC r)] ((b, woC a) :: σ) (Ret (.int .u64 (valR a r)) ((b, woC a) :: σ)) := by
  refine okF Tryz.func135 (by kernel_rfl) ?_
  intro bl1
  refine LoadAt.mk 0 _ _ rfl rfl ?_
  refine bcond_dec (p := r.1 < 0) (fun c2 => ?_) (fun c2 => ?_)
  · have c3 : r.1 = -1 := by
      by_cases h : r.1 = -1
      · exact h
      · have := refOk_var hr h; omega
    have e : valR a r = ofP r.2.1.1 r.2.1.2.1 := if_pos c3
    refine LoadAt.mk 0 _ _ rfl rfl ?_
    refine callR [] (rCOfX _ _ _) ?_
    exact .drop 0 1 (.done ⟨av_int e.symm, rfl⟩)
  · have c3 : ¬ r.1 = -1 := by omega
    have hv := refOk_var hr c3
    have e : valR a r = wd a r.1.toNat := if_neg c3
    refine LoadAt.mk 0 _ _ rfl rfl ?_
    refine With.mk ⟨rfl, hv.1, hv.2⟩ ?_
    refine LoadAt.mk 1 _ _ rfl (get64 (i := r.1.toNat) (by omega) (by omega)) ?_
    exact .drop 0 1 (.done ⟨av_int e.symm, rfl⟩)
/-- What a transfer makes of a value. -/
def applyR (what : Int) (g k : List Int) (l : List CodeT) (a : List Int) : List Int :=
  if what = 3 then (if (a.any fun z => decide (0 = z)) = true then List.replicate a.length 0 else doR a l) else bothW orW (bothW anW a k) g
theorem applyR_set {what : Int} (h : ¬ what = 3) (g k : List Int) (l : List CodeT) (a : List Int) : applyR what g k l a = bothW orW (bothW anW a k) g := if_neg h
theorem applyR_zero {what : Int} (h : what = 3) {a : List Int} (h0 : (a.any fun z => decide (0 = z)) = true) (g k : List Int) (l : List CodeT) : applyR what g k l a = List.replicate a.length 0 := by unfold applyR; rw [if_pos h, if_pos h0]
theorem applyR_do {what : Int} (h : what = 3) {a : List Int} (h0 : (a.any fun z => decide (0 = z)) = false) (g k : List Int) (l : List CodeT) : applyR what g k l a = doR a l := by unfold applyR; rw [if_pos h, h0]; rfl
theorem aRApply (what : Int) (g k : List Int) (l : List CodeT) (a : List Int) (σ : Hp) (hg : A64 g) (hk : A64 k) (ha : A64 a) (lg : g.length ≤ 10000) (lk : k.length ≤ 10000) (la : a.length ≤ 10000) (ll : l.length ≤ 1000000) (hl : what = 3 → l.all (codeR a.length) = true) : ACalls Tryz.prog 86 [.int .i64 what, .agg (trC g k l), .fsl (.int .u64) a] σ (Ret (.fsl (.int .u64) (applyR what g k l a)) σ) := by
  refine okF Tryz.func86 (by kernel_rfl) ?_
  intro q
  refine bcond_split (fun c => ?_) (fun c => ?_)
  · have c : ¬ (what = 3) := by simpa using c
    rw [applyR_set c]
    have hm : (bothW anW a k).length ≤ 10000 := by rw [bothW_length]; omega
    refine .quiet (by kernel_rfl) ?_
    refine LoadAt.mk 0 _ _ rfl rfl ?_
    refine callQ [] (aBothR3 a k _ ha hk la lk) ?_
    refine LoadAt.mk 0 _ _ rfl rfl ?_
    refine callQ [] (aBothR1 (bothW anW a k) g _ (minus_64 a k) hg hm lg) ?_
    exact .drop 0 1 (.done ⟨rfl, rfl⟩)
  · have c : what = 3 := by simpa using c
    have hl := hl c
    intro bl1
    refine AppendAt.more 0 bl1 0 a.length [] _ rfl rfl (Nat.le_of_ble_eq_true rfl) (.fsl (.int .u64) a rfl) (by omega) (by decide) (by decide) (fun b => ?_)
    have hcs : List.take (0 * 1) [] ++ a.flatMap (Sh.cells (.int .u64)) = woC a := by rw [woC_flat]; rfl
    rw [hcs, Nat.zero_add]
    refine loopS (S := Nat) (fun s => [(2, .fsl (.int .u64) a), (4, .ptr q 0), (7, .mref b 0 a.length 1), (25, .fsl (.int .u64) a), (26, .int .i64 a.length), (27, .int .i64 s)]) (fun _ => (b, woC a) :: (q, trC g k l) :: σ) (fun s => s ≤ a.length ∧ ((a.take s).any fun z => decide (0 = z)) = false) (fun s => a.length - s) 0 ⟨⟨Nat.zero_le _, rfl⟩, ⟨rfl, rfl, rfl, rfl, rfl, rfl, trivial⟩, rfl⟩ ?_
    rintro s t ⟨hs0, hz0⟩
    have hs : s ≤ a.length := hs0
    have hz : ((a.take s).any fun z => decide (0 = z)) = false := hz0
    clear hs0 hz0
    refine bcond_dec (fun hlt => ?_) (fun hge => ?_)
    · have hlt : s < a.length := by have hlt : (s : Int) < a.length := hlt; omega
      have hsn := any_take hlt fun z => decide (0 = z)
      rw [hz, Bool.false_or] at hsn
      refine With.mk rfl (IdxF.mk a[s] (by omega) (get_some hlt) ?_)
      refine bcond_dec (p := a[s] = 0) (fun e => ?_) (fun e => ?_)
      · have h0 : (a.any fun z => decide (0 = z)) = true := List.any_eq_true.2 ⟨a[s], List.getElem_mem hlt, decide_eq_true e.symm⟩
        rw [applyR_zero c h0]
        have la2 : (a.length : Int) ≤ 1048576 := by omega
        refine With.mk ⟨Int.natCast_nonneg _, Int.le_refl _, la2, by decide⟩ ?_
        intro bz
        show Fin _ (.mref bz 0 a.length 1) ((bz, repC [.int .u64 0] a.length) :: (b, woC a) :: (q, trC g k l) :: σ)
        rw [rep_woC]
        generalize hZ : List.replicate a.length (0 : Int) = Z
        have hl2 : Z.length = a.length := by rw [← hZ, List.length_replicate]
        refine .frz 0 bz 0 _ 1 _ (.int .u64) Z rfl ?_ ⟨hl2, rfl, by decide⟩ .here (.drop 0 2 (.done ⟨rfl, rfl⟩))
        rw [List.drop_zero, ← woC_flat]
        exact List.take_of_length_le (by rw [woC, List.length_map, hl2]; omega)
      · exact nextS (s + 1) (by show a.length - (s + 1) < a.length - s; omega) ⟨hlt, hsn.trans (decide_eq_false fun h => e h.symm)⟩ ⟨rfl, rfl, rfl, rfl, rfl, inc64 (by omega), trivial⟩ (.refl _)
    · have hge : s = a.length := by have hge : ¬ (s : Int) < a.length := hge; omega
      subst hge
      rw [List.take_length] at hz
      rw [applyR_do c hz]
      refine LoadAt.mk 1 _ _ rfl rfl ?_
      generalize hn : a.length = n at la hl
      refine loopS (S := Nat) (fun s => [(7, .mref b 0 n 1), (38, .fsl codeSh l), (39, .int .i64 l.length), (40, .int .i64 s)]) (fun s => (b, woC (doR a (l.take s))) :: (q, trC g k l) :: σ) (fun s => s ≤ l.length) (fun s => l.length - s) 0 ⟨Nat.zero_le _, ⟨rfl, rfl, rfl, rfl, trivial⟩, rfl⟩ ?_
      intro s t hs0
      have hs : s ≤ l.length := hs0
      clear hs0
      have hA : A64 (doR a (l.take s)) := doR_64 ha _
      have hlen : (doR a (l.take s)).length = n := (doR_length a _).trans hn
      refine bcond_dec (fun hlt => ?_) (fun hge => ?_)
      · have hlt : s < l.length := by have hlt : (s : Int) < l.length := hlt; omega
        have hd := doR_snoc a (l.take s) l[s]
        rw [← List.take_succ_eq_append_getElem hlt] at hd
        have hcr := List.all_eq_true.1 hl l[s] (List.getElem_mem hlt)
        obtain ⟨c, hc⟩ : ∃ c : CodeT, l[s] = c := ⟨_, rfl⟩
        rw [hc] at hd hcr
        have hv := codeR_var hcr
        have ho := codeR_op hcr
        refine With.mk rfl (IdxF.mk c (by omega) ((get_some hlt).trans (congrArg some hc)) ?_)
        clear hc hcr
        generalize doR a (l.take s) = A at hA hlen hd
        intro bl2
        refine StoreAt.mk 0 _ _ rfl rfl ?_
        refine LoadAt.mk 0 _ _ rfl rfl ?_
        refine bcond_dec (p := 0 ≤ c.2.1) (fun d5 => ?_) (fun d5 => ?_)
        · refine .quiet (by kernel_rfl) ?_
          refine LoadAt.mk 0 _ _ rfl rfl ?_
          refine LoadAt.mk 0 _ _ rfl rfl ?_
          refine callQ [1] (aRWord16 A n hlen c.2.2.1 b _ (ho.2 (by omega)).1) ?_
          refine LoadAt.mk 0 _ _ rfl rfl ?_
          refine callQ [1] (aRWord16 A n hlen c.2.2.2.1 b _ (ho.2 (by omega)).2) ?_
          refine callQ [] (aROp11 _ _ _ _ (valR_64 hA _) (valR_64 hA _)) ?_
          refine LoadAt.mk 0 _ _ rfl rfl ?_
          refine With.mk ⟨rfl, by omega, by omega⟩ ?_
          have hn1 : newR A c = opK c.2.1 (valR A c.2.2.1) (valR A c.2.2.2.1) := if_neg (by omega)
          refine StoreAt.mk 1 _ _ rfl (put64 (i := c.1.toNat) (by omega) _ (by omega)) ?_
          refine nextS (s + 1) (by show l.length - (s + 1) < l.length - s; omega) hlt ⟨rfl, rfl, rfl, inc64 (by omega), trivial⟩ (.drop 0 1 (shed_eq ?_))
          rw [hd, stepR, hn1]
          rfl
        · refine LoadAt.mk 0 _ _ rfl rfl ?_
          refine With.mk ⟨rfl, by omega, by omega⟩ ?_
          have hn1 : newR A c = 1 := if_pos (by omega)
          refine StoreAt.mk 1 _ _ rfl (put64 (i := c.1.toNat) (by omega) _ (by omega)) ?_
          refine nextS (s + 1) (by show l.length - (s + 1) < l.length - s; omega) hlt ⟨rfl, rfl, rfl, inc64 (by omega), trivial⟩ (.drop 0 1 (shed_eq ?_))
          rw [hd, stepR, hn1]
          rfl
      · have hge : s = l.length := by have hge : ¬ (s : Int) < l.length := hge; omega
        subst hge
        rw [List.take_length] at hlen ⊢
        have hfl : ((woC (doR a l)).drop 0).take (n * 1) = (doR a l).flatMap (Sh.cells (.int .u64)) := by
          rw [List.drop_zero, ← woC_flat]; exact List.take_of_length_le (by rw [woC, List.length_map]; omega)
        exact .frz 0 b 0 n 1 _ (.int .u64) (doR a l) rfl hfl ⟨hlen, rfl, by decide⟩ .here (.drop 0 1 (.done ⟨rfl, rfl⟩))
end Go.Proofs.YtggcpiddnhipiaaGreat
