/-
  soughlaw30: awake; the walk of CellReads.
-/
import Derived.Test.YtldiocdjgbehcaaCellR
import Derived.Test.YtldiocdjgbehcaaTplays
import Derived.Test.YtldiocdjgbehcaaSameTest
namespace Go.Proofs.Ytldiocdjgbehcaa
open Go.RowKit
set_option maxRecDepth 100000
set_option maxHeartbeats 4000000
/-- A Join's Step over a Plain. -/
theorem aJoinP (p q r : Nat) (j : Jn) (ws : List Int) (d : Int) (σ : Hp) (hat : j.at_ ≤ 2000) {j' : Jn} {ws' : List Int} {b : Bool} (h : jnStep listOps j ws = (j', ws', b)) : ACalls Try.prog 83 [.ptr r 0, plI p, .int .i64 d] ((r, jnC j) :: plH p q ws σ) (Ret (.bool b) ((r, jnC j') :: plH p q ws' σ)) :=
  ofMPost (aJoin (plainM p q) r j ws d σ trivial hat) h
theorem awake30a : ACalls Try.prog 76 [] [] (Ret (.bool true) []) := by
  have s1 : jnStep listOps ⟨0, 1, 1, [1], false, false, 0, 0, false, 0⟩ [2] = (⟨0, 1, 1, [1], false, false, 0, 0, true, 2⟩, [2], false) := by kernel_rfl
  have s2 : jnStep listOps ⟨0, 1, 1, [1], false, false, 0, 0, true, 2⟩ [2] = (⟨0, 1, 1, [1], true, true, 0, 1, false, 2⟩, [3], true) := by kernel_rfl
  refine okF Try.func76 (by kernel_rfl) ?_
  refine .mk [] _ (aNew 1 []) ?_
  rintro _ _ ⟨p, q, rfl, rfl⟩
  intro bl1
  refine StoreAt.mk 0 _ _ rfl rfl ?_
  refine LoadAt.mk 0 _ _ rfl rfl ?_
  intro bl2
  refine .frz 0 _ 0 1 1 _ (.int .u64) ([2] : List Int) rfl rfl ⟨rfl, rfl, by decide⟩ (frz_cons (.refl _) (frz_cons (.refl _) (frz_cons .here frz_nil))) ?_
  refine callR [2, 2] (aPut p q [0] 0 1 1 [2] _) ?_
  refine LoadAt.mk 2 _ _ rfl rfl ?_
  intro bl1
  intro bl2
  refine .frzc 1 _ 0 1 1 _ (.int .u64) ([1] : List Int) rfl rfl ⟨rfl, rfl, by decide⟩ 0 3 _ _ rfl rfl ?_
  refine callR [] (aJoinP p q bl2 _ _ 0 _ (by decide) s1) ?_
  refine callR [] (aJoinP p q bl2 _ _ 0 _ (by decide) s2) ?_
  refine LoadAt.mk 0 _ _ rfl rfl ?_
  refine LoadAt.mk 3 _ _ rfl rfl ?_
  refine callR [2, 2] (aGet p q _ _ _ _ _) ?_
  refine With.mk rfl ?_
  refine IdxF.mk (3 : Int) (by decide) rfl ?_
  exact .drop 0 20 (.done ⟨rfl, rfl⟩)

theorem same10n (σ : Hp) : ACalls Try.prog 36 [.nils, .fsl (.int .u64) []] σ (Ret (.bool true) σ) := by
  refine okF Try.func36 (by kernel_rfl) ?_
  refine loopS (S := Unit) (fun _ => [(0, .nils), (1, .fsl (.int .u64) []), (12, .int .i64 0), (13, .int .i64 0)]) (fun _ => σ) (fun _ => True) (fun _ => 0) () ⟨trivial, ⟨rfl, rfl, rfl, rfl, trivial⟩, rfl⟩ ?_
  intro _ g _
  exact .done ⟨rfl, rfl⟩
theorem cellReads_walk (w : Int) (a : List Int) (ha : A64 a) : ACalls Try.prog 13 [.int .i64 w, .fsl (.int .u64) a] [] (fun r _ => r = .bool true) := by
  refine okF Try.func13 (by kernel_rfl) ?_
  refine callR [] awake30a ?_
  refine bcond_dec (fun h => ?_) (fun h1 => ?_)
  · exact .done rfl
  have h1 : ¬ 8 < (a.length : Int) := h1
  refine bcond_dec (fun h => ?_) (fun h2 => ?_)
  · exact .done rfl
  have h2 : ¬ 5 < w := h2
  intro bc
  refine StoreAt.mk 0 _ _ rfl rfl ?_
  refine .mk [] _ (aNew 8 _) ?_
  rintro _ _ ⟨p, q, rfl, rfl⟩
  refine callR [] (aStore p q [0, 0, 0, 0, 0, 0, 0, 0] 7 99 _) ?_
  refine LoadAt.mk 2 _ _ rfl rfl ?_
  refine callR [] (aPut p q [0, 0, 0, 0, 0, 0, 0, 99] 1 1 w a _) ?_
  refine LoadAt.mk 2 _ _ rfl rfl ?_
  intro bl1
  refine callR [] (aRWords _ _) ?_
  obtain ⟨m, hm⟩ : ∃ m, m = cw w := ⟨_, rfl⟩
  have hm5 : m ≤ 5 := by rw [hm]; unfold cw; omega
  rw [← hm]
  obtain ⟨Z, hZ⟩ : ∃ Z, Z = ([0, 0, 0, 0, 0, 0, 0, 99] : List Int) := ⟨_, rfl⟩
  rw [← hZ]
  have hZl : Z.length = 8 := by rw [hZ]; rfl
  obtain ⟨WS, hWS⟩ : ∃ WS, WS = putW 1 a Z m := ⟨_, rfl⟩
  rw [← hWS]
  have hWSl : WS.length = 8 := by rw [hWS, putW_length, hZl]
  have hgw : getW 1 WS m = (List.range m).map (wd a) := by rw [hWS]; exact getW_putW 1 a Z m (by omega) (by omega)
  have h99 : mLoad WS 7 = 99 := by
    have := putW_get 1 a Z m (by omega) (by omega) m (Nat.le_refl _) 7
    rw [if_neg (by omega)] at this
    rw [hWS]
    refine (mLoad_nat _ 7).trans (this.trans ?_)
    rw [hZ]; rfl
  have hsum : sumL 1 (List.replicate m 0) [a] = getW 1 WS m := by rw [hgw]; exact sum_zero a m ha
  obtain ⟨E, hE⟩ : ∃ E : Int, E = (if (m : Int) < 1 then 1 else (m : Int)) := ⟨_, rfl⟩
  by_cases h0 : m = 0
  · subst h0
    have hE1 : E = 1 := by rw [hE]; rfl
    refine loopS (S := Nat) (fun s => [(0, .int .i64 w), (1, .fsl (.int .u64) a), (5, .ptr bc 0), (6, .ptr p 0), (7, .ptr bl1 0), (8, .int .i64 E), (38, .int .i64 E), (39, .int .i64 s)]) (fun s => (bl1, rdC .nils 1 1 w (decide (s = 1)) 0 false 0) :: plH p q WS [(bc, [.int .i64 1, .int .i64 1, .int .i64 w])]) (fun s => s ≤ 1) (fun s => 1 - s) 0 ⟨Nat.zero_le _, ⟨rfl, rfl, rfl, rfl, rfl, (show AV.int .i64 (if ((0 : Nat) : Int) < 1 then 1 else ((0 : Nat) : Int)) = _ by rw [hE]), (show AV.int .i64 (if ((0 : Nat) : Int) < 1 then 1 else ((0 : Nat) : Int)) = _ by rw [hE]), rfl, trivial⟩, rfl⟩ ?_
    intro k g hk
    have hk : k ≤ 1 := hk
    refine bcond_dec (fun hlt => ?_) (fun hge => ?_)
    · have hlt : (k : Int) < E := hlt
      obtain rfl : k = 0 := by omega
      refine callR [] (aRead0 p q bl1 WS 1 1 w 0 false 0 _ hm.symm) ?_
      have hEw : IntKind.i64.wrap (E - 1) = 0 := by rw [IntKind.wrap_i64]; omega
      refine bcond_dec (fun c1 => ?_) (fun c1 => ?_)
      · refine next 1 (by show 1 - 1 < 1 - 0; decide) (Nat.le_refl _) ⟨rfl, rfl, rfl, rfl, rfl, rfl, rfl, inc64 (k := 0) (by decide), trivial⟩ rfl
      · have c1 : ¬ (((0 : Nat) : Int) = IntKind.i64.wrap (E - 1)) := c1
        exact absurd (by rw [hEw]; rfl) c1
    · have hge : ¬ (k : Int) < E := hge
      obtain rfl : k = 1 := by omega
      refine callR [] (aRWords _ _) ?_
      refine With.mk ⟨by omega, by omega, by omega, by decide⟩ ?_
      intro bz
      intro bw
      have hS := fun σ => aRSum 1 [] [a] σ (fun z hz => by cases hz) (fun x hx => by rw [List.mem_singleton.1 hx]; exact ha) (by simp) (by simp)
      rw [show sumL 1 ([] : List Int) [a] = [] from rfl] at hS
      have hsame := fun σ => same10 [] [] σ (by simp)
      have hG := fun σ => aGet p q WS 1 1 w σ
      rw [← hm] at hG
      refine .frz 0 _ 0 1 1 _ (.slice (.int .u64)) ([a] : List (List Int)) rfl rfl ⟨rfl, rfl, by decide⟩ (frz_cons (.refl _) (frz_cons (.refl _) (frz_cons .here frz_nil))) ?_
      refine .frz 0 _ 0 _ 1 _ (.int .u64) ([] : List Int) rfl ?_ ⟨?_, rfl, by decide⟩ (frz_cons (.refl _) (frz_cons .here (frz_cons (.refl _) frz_nil))) ?_
      · show ((repC [AV.int .u64 0] ((cw w : Nat) : Int).toNat).drop 0).take (((cw w : Nat) : Int).toNat * 1) = _
        rw [show ((cw w : Nat) : Int).toNat = 0 by omega]; rfl
      · show 0 = ((cw w : Nat) : Int).toNat
        omega
      refine callR [] (hS _) ?_
      refine LoadAt.mk 0 _ _ rfl rfl ?_
      refine LoadAt.mk 0 _ _ rfl rfl ?_
      refine callR [] (same10n _) ?_
      refine LoadAt.mk 3 _ _ rfl rfl ?_
      refine callR [2, 2] (hG _) ?_
      refine callR [] (hsame _) ?_
      refine callR [] (aLoad p q WS 7 _) ?_
      refine bcond_dec (fun c1 => ?_) (fun c1 => ?_)
      · have c1 : mLoad WS 7 = 99 := c1
        refine callR [2] (aReadEnd bl1 _ 1 1 w 0 _ false _ 0 _) ?_
        refine callR [] (aReadNil _ _ _) ?_
        refine callR [] (aJoinNil _ _ _) ?_
        exact .done rfl
      · have c1 : ¬ (mLoad WS 7 = 99) := c1
        exact absurd h99 c1
  · have hEm : E = m := by rw [hE, if_neg (by omega)]
    refine loopS (S := Nat × AV × Hp) (fun s => [(0, .int .i64 w), (1, .fsl (.int .u64) a), (5, .ptr bc 0), (6, .ptr p 0), (7, .ptr bl1 0), (8, .int .i64 E), (38, .int .i64 E), (39, .int .i64 s.1)]) (fun s => (bl1, rdC s.2.1 1 1 w (decide (s.1 = cw w)) s.1 false 0) :: (s.2.2 ++ plH p q WS [(bc, [.int .i64 1, .int .i64 1, .int .i64 w])])) (fun s => s.1 ≤ m ∧ L64 s.2.1 s.2.2 (getW 1 WS s.1)) (fun s => m - s.1) (0, .nils, []) ⟨⟨Nat.zero_le _, .nil⟩, ⟨rfl, rfl, rfl, rfl, rfl, (show AV.int .i64 (if ((m : Nat) : Int) < 1 then 1 else (m : Int)) = _ by rw [hE]), (show AV.int .i64 (if ((m : Nat) : Int) < 1 then 1 else (m : Int)) = _ by rw [hE]), rfl, trivial⟩, by rw [decide_eq_false (show ¬ (0 : Nat) = cw w by omega)]; rfl⟩ ?_
    rintro ⟨k, c, acc⟩ g ⟨hk, hv⟩
    have hk : k ≤ m := hk
    have hv : L64 c acc (getW 1 WS k) := hv
    refine bcond_dec (fun hlt => ?_) (fun hge => ?_)
    · have hlt : (k : Int) < E := hlt
      have hkm : k < cw w := by omega
      rw [decide_eq_false (show ¬ k = cw w by omega)]
      refine .mk [] _ (aRead p q bl1 WS 1 1 w 0 k false (getW 1 WS k) c acc 0 _ hkm hv (by rw [getW_length]; omega)) ?_
      rintro _ _ ⟨c', acc', hv', rfl, rfl⟩
      rw [← getW_succ] at hv'
      have hEw : IntKind.i64.wrap (E - 1) = E - 1 := by rw [IntKind.wrap_i64]; omega
      refine bcond_dec (fun c1 => ?_) (fun c1 => ?_)
      · have c1 : (k : Int) = IntKind.i64.wrap (E - 1) := c1
        refine bcond_split (fun c2 => ?_) (fun c2 => ?_)
        · have c2 : (!(decide (k + 1 = cw w) == true)) = true := c2
          rw [decide_eq_true (show k + 1 = cw w by omega)] at c2
          cases c2
        · refine nextS (k + 1, c', acc') ?_ ⟨?_, hv'⟩ ⟨rfl, rfl, rfl, rfl, rfl, rfl, rfl, inc64 (by omega), trivial⟩ (shed_eq rfl)
          · show m - (k + 1) < m - k; omega
          · show k + 1 ≤ m; omega
      · have c1 : ¬ ((k : Int) = IntKind.i64.wrap (E - 1)) := c1
        refine bcond_split (fun c2 => ?_) (fun c2 => ?_)
        · have c2 : (!(decide (k + 1 = cw w) == false)) = true := c2
          rw [decide_eq_false (show ¬ k + 1 = cw w by omega)] at c2
          cases c2
        · refine nextS (k + 1, c', acc') ?_ ⟨?_, hv'⟩ ⟨rfl, rfl, rfl, rfl, rfl, rfl, rfl, inc64 (by omega), trivial⟩ (shed_eq rfl)
          · show m - (k + 1) < m - k; omega
          · show k + 1 ≤ m; omega
    · have hge : ¬ (k : Int) < E := hge
      obtain rfl : k = m := by omega
      rw [decide_eq_true hm]
      obtain ⟨l, hl⟩ : ∃ l, l = getW 1 WS k := ⟨_, rfl⟩
      rw [← hl] at hv hsum
      have hll : l.length = k := by rw [hl, getW_length]
      cases hv with
      | nil => exact absurd hll.symm h0
      | mref cb l =>
      refine callR [] (aRWords _ _) ?_
      refine With.mk ⟨by omega, by omega, by omega, by decide⟩ ?_
      intro bz
      intro bw
      have hz64 : A64 (List.replicate l.length 0) := fun z hz => by rw [List.eq_of_mem_replicate hz]; exact ⟨by decide, by decide⟩
      have hS := fun σ => aRSum 1 (List.replicate l.length 0) [a] σ hz64 (fun x hx => by rw [List.mem_singleton.1 hx]; exact ha) (by simp; omega) (by simp)
      rw [hll] at hS
      rw [hsum] at hS
      have hsame := fun σ => same10 l l σ (by omega)
      rw [show (decide (l = l)) = true from decide_eq_true rfl] at hsame
      have hG := fun σ => aGet p q WS 1 1 w σ
      rw [← hm, ← hl] at hG
      have htn : ((k : Nat) : Int).toNat = k := by omega
      refine .frz 0 _ 0 1 1 _ (.slice (.int .u64)) ([a] : List (List Int)) rfl rfl ⟨rfl, rfl, by decide⟩ (frz_cons (.refl _) (frz_cons (.refl _) (frz_cons .here frz_nil))) ?_
      refine .frz 0 _ 0 _ 1 _ (.int .u64) (List.replicate k 0 : List Int) rfl ?_ ⟨?_, rfl, by decide⟩ (frz_cons (.refl _) (frz_cons .here (frz_cons (.refl _) frz_nil))) ?_
      · show ((repC [AV.int .u64 0] ((cw w : Nat) : Int).toNat).drop 0).take (((cw w : Nat) : Int).toNat * 1) = _
        rw [rep_woC, show ((cw w : Nat) : Int).toNat = k by omega, List.drop_zero, ← woC_flat]
        exact List.take_of_length_le (by simp [woC])
      · show (List.replicate k (0 : Int)).length = ((cw w : Nat) : Int).toNat
        rw [List.length_replicate]; omega
      refine callR [] (hS _) ?_
      refine LoadAt.mk 0 _ _ rfl rfl ?_
      refine LoadAt.mk 0 _ _ rfl rfl ?_
      refine .frz 1 cb 0 l.length 1 _ (.int .u64) l rfl (by rw [← woC_flat, List.drop_zero]; exact List.take_of_length_le (by simp [woC])) ⟨rfl, rfl, by decide⟩ (frz_cons .here (frz_cons (.refl _) frz_nil)) ?_
      refine callR [] (hsame _) ?_
      refine LoadAt.mk 3 _ _ rfl rfl ?_
      refine callR [2, 2] (hG _) ?_
      refine callR [] (hsame _) ?_
      refine callR [] (aLoad p q WS 7 _) ?_
      refine bcond_dec (fun c1 => ?_) (fun c1 => ?_)
      · have c1 : mLoad WS 7 = 99 := c1
        refine callR [2] (aReadEnd bl1 _ 1 1 w 0 _ false _ 0 _) ?_
        refine callR [] (aReadNil _ _ _) ?_
        refine callR [] (aJoinNil _ _ _) ?_
        exact .done rfl
      · have c1 : ¬ (mLoad WS 7 = 99) := c1
        exact absurd h99 c1
end Go.Proofs.Ytldiocdjgbehcaa
