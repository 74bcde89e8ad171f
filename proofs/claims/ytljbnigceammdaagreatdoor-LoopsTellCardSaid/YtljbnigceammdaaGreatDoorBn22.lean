/-
  Tb: what the claim uses of them.
-/
import Derived.Test.YtljbnigceammdaaGreatDoorBn21
namespace Go.Proofs.YtljbnigceammdaaGreatDoor
open Go.RowKit
set_option maxRecDepth 100000
/-- What a reference stands for. -/
def valR (a : List Int) (r : RefT) : Int := if r.1 = -1 then ofP r.2.1.1 r.2.1.2.1 else wd a r.1.toNat
/-- What a code makes of a variable. -/
def newR (a : List Int) (c : CodeT) : Int := if c.2.1 = -1 then 1 else opK c.2.1 (valR a c.2.2.1) (valR a c.2.2.2.1)
def stepR (a : List Int) (c : CodeT) : List Int := a.set c.1.toNat (newR a c)
def doR (a : List Int) (l : List CodeT) : List Int := l.foldl stepR a
theorem stepR_length (a : List Int) (c : CodeT) : (stepR a c).length = a.length := List.length_set ..
theorem doR_length (a : List Int) (l : List CodeT) : (doR a l).length = a.length := by
  unfold doR
  induction l generalizing a with
  | nil => rfl
  | cons c l ih => exact (ih _).trans (stepR_length a c)
theorem doR_snoc (a : List Int) (l : List CodeT) (c : CodeT) : doR a (l ++ [c]) = stepR (doR a l) c := by
  unfold doR; rw [List.foldl_append]; rfl
theorem ofP_64 (x y : Int) : W64 (ofP x y) := by
  have h1 := wordP_lo x y
  have h2 := wordP_hi x y
  unfold W64 ofP; omega
theorem valR_64 {a : List Int} (ha : A64 a) (r : RefT) : W64 (valR a r) := by
  unfold valR; split
  · exact ofP_64 _ _
  · exact wd_64 ha _
theorem opW2_64 (op a b : Int) : W64 (opW2 op a b) := by
  unfold opW2 resP
  split
  · exact ⟨by omega, by omega⟩
  · split
    · exact ⟨by omega, by omega⟩
    · split
      · exact ofP_64 _ _
      · exact ⟨by omega, by omega⟩
theorem opK_64 (op a b : Int) : W64 (opK op a b) := by unfold opK; split <;> exact opW2_64 _ _ _
theorem newR_64 (a : List Int) (c : CodeT) : W64 (newR a c) := by
  unfold newR; split
  · exact ⟨by omega, by omega⟩
  · exact opK_64 _ _ _
theorem set_64 {a : List Int} (ha : A64 a) {i : Nat} {z : Int} (hz : W64 z) : A64 (a.set i z) := fun x hx => by
  rcases List.mem_or_eq_of_mem_set hx with h | rfl
  · exact ha x h
  · exact hz
theorem doR_64 {a : List Int} (ha : A64 a) (l : List CodeT) : A64 (doR a l) := by
  unfold doR
  induction l generalizing a with
  | nil => exact ha
  | cons c l ih => exact ih (set_64 ha (newR_64 a c))
/-- What codeR tells. -/
theorem codeR_var {w : Int} {c : CodeT} (h : codeR w c = true) : 0 ≤ c.1 ∧ c.1 < w := by
  unfold codeR at h
  by_cases h1 : c.1 < 0
  · rw [if_pos h1] at h; exact absurd h (by decide)
  · by_cases h2 : w ≤ c.1
    · rw [if_neg h1, if_pos h2] at h; exact absurd h (by decide)
    · omega
theorem codeR_op {w : Int} {c : CodeT} (h : codeR w c = true) : -1 ≤ c.2.1 ∧ (¬ c.2.1 = -1 → refOk w c.2.2.1 = true ∧ refOk w c.2.2.2.1 = true) := by
  have hv := codeR_var h
  unfold codeR at h
  rw [if_neg (by omega), if_neg (by omega)] at h
  by_cases h1 : c.2.1 < -1
  · rw [if_pos h1] at h; exact absurd h (by decide)
  · rw [if_neg h1] at h
    by_cases h2 : 4 < c.2.1
    · rw [if_pos h2] at h; exact absurd h (by decide)
    · rw [if_neg h2] at h
      refine ⟨by omega, fun h3 => ?_⟩
      rw [if_neg h3] at h
      exact Bool.and_eq_true_iff.1 h
theorem refOk_var {w : Int} {r : RefT} (h : refOk w r = true) (h1 : ¬ r.1 = -1) : 0 ≤ r.1 ∧ r.1 < w := by
  unfold refOk at h
  rw [if_neg h1] at h
  simp at h
  exact h.1
theorem aDo1 (a : List Int) (r : RefT) (q b : Nat) (σ : Hp) (hr : refOk a.length r = true) : ACalls Tryz.prog 177 [.agg (refC r), .ptr q 0] ((q, [.mref b 0 a.length 1]) :: (b, woC a) :: σ) (Ret (.int .u64 (valR a r)) ((q, [.mref b 0 a.length 1]) :: (b, woC a) :: σ)) := by
  refine okF Tryz.func177 (by kernel_rfl) ?_
  intro bl1
  refine LoadAt.mk 0 _ _ rfl rfl ?_
  refine bcond_dec (fun c2 => ?_) (fun c2 => ?_)
  · have c2 : r.fst = -1 := c2
    refine LoadAt.mk 0 _ _ rfl rfl ?_
    refine callR [] (gCOfX _ _ _) ?_
    have e : valR a r = ofP r.2.1.1 r.2.1.2.1 := if_pos c2
    exact .drop 0 1 (.done ⟨av_int e.symm, rfl⟩)
  · have c2 : ¬ (r.fst = -1) := c2
    refine LoadAt.mk 1 _ _ rfl rfl ?_
    refine LoadAt.mk 0 _ _ rfl rfl ?_
    have hv := refOk_var hr c2
    have e : valR a r = wd a r.1.toNat := if_neg c2
    refine With.mk ⟨rfl, hv.1, hv.2⟩ ?_
    refine LoadAt.mk 2 _ _ rfl (get64 (i := r.1.toNat) (by omega) (by omega)) ?_
    exact .drop 0 1 (.done ⟨av_int e.symm, rfl⟩)
theorem aDo2 (a : List Int) (n : Nat) (hn : a.length = n) (r : RefT) (q b : Nat) (σ : Hp) (hr : refOk n r = true) : ACalls Tryz.prog 177 [.agg (refC r), .ptr q 0] ((q, [.mref b 0 n 1]) :: (b, woC a) :: σ) (Ret (.int .u64 (valR a r)) ((q, [.mref b 0 n 1]) :: (b, woC a) :: σ)) := by
  subst hn
  exact aDo1 a r q b σ hr
/-- A frozen list is cloned: a row of its own. -/
theorem aCloneF (l : List Int) (σ : Hp) (hl : l.length ≤ 1000000) : ACalls Tryz.prog 159 [.fsl (.int .u64) l] σ (fun x σ' => ∃ acc, Acc 1 l.length x acc (woC l) ∧ σ' = acc ++ σ) := by
  refine acalls_fsl (fun h => ⟨?_, ?_⟩) (fun h => ?_)
  · subst h
    refine okF Tryz.func159 (by kernel_rfl) ?_
    exact .done ⟨[], .nil, rfl⟩
  · subst h
    refine okF Tryz.func159 (by kernel_rfl) ?_
    intro b
    refine AppendAt.more 0 b 0 0 [] _ rfl rfl (Nat.le_of_ble_eq_true rfl) .esl (by decide) (by decide) (by decide) (fun b' => ?_)
    exact .done ⟨[(b', [])], .mref b' 0 [] rfl, rfl⟩
  · refine okF Tryz.func159 (by kernel_rfl) ?_
    refine With.mk (List.length_pos_iff.2 h) ?_
    intro b
    refine AppendAt.more 0 b 0 l.length [] _ rfl rfl (Nat.le_of_ble_eq_true rfl) (.fsl (.int .u64) l rfl) (by omega) (by decide) (by decide) (fun b' => ?_)
    refine .done ⟨[(b', woC l)], ?_, ?_⟩
    · rw [Nat.zero_add]; exact .mref b' l.length _ (by simp [woC])
    · show (b', [] ++ l.flatMap (Sh.cells (.int .u64))) :: σ = _
      rw [woC_flat]; rfl
theorem aTDo (a : List Int) (l : List CodeT) (σ : Hp) (ha : A64 a) (la : a.length ≤ 10000) (ll : l.length ≤ 1000000) (hl : l.all (codeR a.length) = true) : ACalls Tryz.prog 162 [.fsl (.int .u64) a, .fsl codeSh l] σ (Ret (.fsl (.int .u64) (doR a l)) σ) := by
  refine okF Tryz.func162 (by kernel_rfl) ?_
  intro q
  refine LoadAt.mk 0 _ _ rfl rfl ?_
  refine .mk [] _ (aCloneF a _ (by omega)) ?_
  rintro v σ' ⟨acc, hacc, rfl⟩
  generalize hn : a.length = n at hacc la hl
  generalize hcs : woC a = cs at hacc
  cases hacc with
  | nil =>
    have h0 : a = [] := List.length_eq_zero_iff.1 hn
    subst h0
    cases l with
    | cons c l =>
      have := codeR_var (List.all_eq_true.1 hl c (List.mem_cons_self ..))
      exact absurd this (by omega)
    | nil =>
      refine StoreAt.mk 0 _ _ rfl rfl ?_
      refine loopS (S := Unit) (fun _ => [(2, .ptr q 0), (12, .int .i64 0), (13, .int .i64 0)]) (fun _ => (q, [.nils]) :: σ) (fun _ => True) (fun _ => 0) () ⟨trivial, ⟨rfl, rfl, rfl, trivial⟩, rfl⟩ ?_
      rintro _ _ _
      refine LoadAt.mk 0 _ _ rfl rfl ?_
      exact .drop 0 1 (.nil (.nil _) (.done ⟨rfl, rfl⟩))
  | mref b n cs h =>
  subst hcs
  refine StoreAt.mk 1 _ _ rfl rfl ?_
  refine loopS (S := Nat) (fun s => [(2, .ptr q 0), (5, .fn (.func 177) [] [.ptr q 0]), (11, .fsl codeSh l), (12, .int .i64 l.length), (13, .int .i64 s)]) (fun s => (b, woC (doR a (l.take s))) :: (q, [.mref b 0 n 1]) :: σ) (fun s => s ≤ l.length) (fun s => l.length - s) 0 ⟨Nat.zero_le _, ⟨rfl, rfl, rfl, rfl, rfl, trivial⟩, rfl⟩ ?_
  intro s t hs0
  have hs : s ≤ l.length := hs0
  clear hs0
  have hA : A64 (doR a (l.take s)) := doR_64 ha _
  have hlen : (doR a (l.take s)).length = n := (doR_length a _).trans hn
  refine bcond_dec (fun hlt => ?_) (fun hge => ?_)
  · have hlt : s < l.length := by have hlt : (s : Int) < l.length := hlt; omega
    have hd := doR_snoc a (l.take s) l[s]
    rw [← List.take_succ_eq_append_getElem hlt] at hd
    have hcr := List.all_eq_true.1 hl l[s] (List.getElem_mem hlt)
    obtain ⟨c, hc⟩ : ∃ c : CodeT, l[s] = c := ⟨_, rfl⟩
    rw [hc] at hd hcr
    have hv := codeR_var hcr
    have ho := codeR_op hcr
    refine With.mk rfl (IdxF.mk c (by omega) ((get_some hlt).trans (congrArg some hc)) ?_)
    clear hc hcr
    generalize doR a (l.take s) = A at hA hlen hd
    intro bl2
    refine StoreAt.mk 0 _ _ rfl rfl ?_
    refine LoadAt.mk 0 _ _ rfl rfl ?_
    refine bcond_dec (p := c.2.1 = -1) (fun d5 => ?_) (fun d5 => ?_)
    · refine LoadAt.mk 2 _ _ rfl rfl ?_
      refine LoadAt.mk 0 _ _ rfl rfl ?_
      refine With.mk ⟨rfl, by omega, by omega⟩ ?_
      have hn1 : newR A c = 1 := if_pos d5
      refine StoreAt.mk 1 _ _ rfl (put64 (i := c.1.toNat) (by omega) _ (by omega)) ?_
      refine nextS (s + 1) (by show l.length - (s + 1) < l.length - s; omega) hlt ⟨rfl, rfl, rfl, rfl, inc64 (by omega), trivial⟩ (.drop 0 1 (shed_eq ?_))
      rw [hd, stepR, hn1]
      rfl
    · have ho2 := ho.2 d5
      have hn1 : newR A c = opK c.2.1 (valR A c.2.2.1) (valR A c.2.2.2.1) := if_neg d5
      refine .sched [8, 12, 13] (upto [8, 12, 13] 16 0) (by kernel_rfl) ?_
      refine LoadAt.mk 2 _ _ rfl rfl ?_
      refine LoadAt.mk 0 _ _ rfl rfl ?_
      refine LoadAt.mk 0 _ _ rfl rfl ?_
      refine LoadAt.mk 0 _ _ rfl rfl ?_
      refine callQ [2, 1] (aDo2 A n hlen c.2.2.1 q b _ ho2.1) ?_
      refine LoadAt.mk 0 _ _ rfl rfl ?_
      refine callQ [2, 1] (aDo2 A n hlen c.2.2.2.1 q b _ ho2.2) ?_
      refine callQ [] (aCOp _ _ _ _ (valR_64 hA _) (valR_64 hA _)) ?_
      refine With.mk ⟨rfl, by omega, by omega⟩ ?_
      refine StoreAt.mk 1 _ _ rfl (put64 (i := c.1.toNat) (by omega) _ (by omega)) ?_
      refine nextS (s + 1) (by show l.length - (s + 1) < l.length - s; omega) hlt ⟨rfl, rfl, rfl, rfl, inc64 (by omega), trivial⟩ (.drop 0 1 (shed_eq ?_))
      rw [hd, stepR, hn1]
      rfl
  · have hge : s = l.length := by have hge : ¬ (s : Int) < l.length := hge; omega
    subst hge
    rw [List.take_length] at hlen ⊢
    refine LoadAt.mk 1 _ _ rfl rfl ?_
    have hfl : ((woC (doR a l)).drop 0).take (n * 1) = (doR a l).flatMap (Sh.cells (.int .u64)) := by
      rw [List.drop_zero, ← woC_flat]; exact List.take_of_length_le (by rw [woC, List.length_map]; omega)
    exact .frz 0 b 0 n 1 _ (.int .u64) (doR a l) rfl hfl ⟨hlen, rfl, by decide⟩ .here (.drop 0 1 (.done ⟨rfl, rfl⟩))
set_option maxRecDepth 100000
/-- What a transfer makes of a value. -/
def applyR (what : Int) (g k : List Int) (l : List CodeT) (a : List Int) : List Int :=
  if what = 3 then (if (a.any fun z => decide (0 = z)) = true then List.replicate a.length 0 else doR a l) else bothW orW (bothW anW a k) g
theorem applyR_set {what : Int} (h : ¬ what = 3) (g k : List Int) (l : List CodeT) (a : List Int) : applyR what g k l a = bothW orW (bothW anW a k) g := if_neg h
theorem applyR_zero {what : Int} (h : what = 3) {a : List Int} (h0 : (a.any fun z => decide (0 = z)) = true) (g k : List Int) (l : List CodeT) : applyR what g k l a = List.replicate a.length 0 := by unfold applyR; rw [if_pos h, if_pos h0]
theorem applyR_do {what : Int} (h : what = 3) {a : List Int} (h0 : (a.any fun z => decide (0 = z)) = false) (g k : List Int) (l : List CodeT) : applyR what g k l a = doR a l := by unfold applyR; rw [if_pos h, h0]; rfl
set_option maxRecDepth 100000
/-- What Apply tells. -/
def errA (what w : Int) (g k : List Int) (l : List CodeT) (a : List Int) : Int := if checkT what w g k l = 0 then (if valL what w a = true then 0 else 2) else checkT what w g k l
theorem errA_chk {what w : Int} {g k : List Int} {l : List CodeT} {a : List Int} (h : ¬ checkT what w g k l = 0) : errA what w g k l a = checkT what w g k l := if_neg h
theorem errA_ok {what w : Int} {g k : List Int} {l : List CodeT} {a : List Int} (h : checkT what w g k l = 0) (hv : valL what w a = true) : errA what w g k l a = 0 := by unfold errA; rw [if_pos h, if_pos hv]
theorem errA_val {what w : Int} {g k : List Int} {l : List CodeT} {a : List Int} (h : checkT what w g k l = 0) (hv : valL what w a = false) : errA what w g k l a = 2 := by unfold errA; rw [if_pos h, hv]; rfl
theorem chk_zero {what w : Int} {g k : List Int} {l : List CodeT} (h : checkT what w g k l = 0) : is12 what w = true ∧ trOk what w g k l = true := by
  unfold checkT at h
  cases hi : is12 what w with
  | false => rw [hi] at h; exact absurd h (by simp)
  | true =>
    rw [hi, if_pos rfl] at h
    cases ht : trOk what w g k l with
    | false => rw [ht] at h; exact absurd h (by simp)
    | true => exact ⟨rfl, rfl⟩
/-- A value of numbers is as long as it is wide. -/
theorem val_width {what w : Int} {a : List Int} (h : valL what w a = true) (h3 : what = 3) : (a.length : Int) = w := by
  have hl := val_len h
  have hi : is12 what w = true := by unfold valL at h; simp at h; exact h.1.1
  rw [hl]; unfold wordsL; rw [if_pos hi, if_pos h3]
theorem bot_zero {what w : Int} {a : List Int} (h : valL what w a = true) (h3 : what = 3) : botL what w = List.replicate a.length 0 := by
  unfold botL
  rw [if_neg (fun h => by omega), ← val_len h, Int.toNat_natCast]
theorem aTApply (what w : Int) (g k : List Int) (l : List CodeT) (a : List Int) (σ : Hp) (hg : A64 g) (hk : A64 k) (ha : A64 a) (lg : g.length ≤ 10000) (lk : k.length ≤ 10000) (la : a.length ≤ 10000) (ll : l.length ≤ 1000000) : ACalls Tryz.prog 136 [.int .i64 what, .int .i64 w, .agg (trC g k l), .fsl (.int .u64) a] σ (Ret (.tup [.fsl (.int .u64) (okL (errA what w g k l a) (applyR what g k l a)), .int .i64 (errA what w g k l a)]) σ) := by
  refine okF Tryz.func136 (by kernel_rfl) ?_
  have hm : (bothW anW a k).length ≤ 10000 := by rw [bothW_length]; omega
  intro bl1
  refine LoadAt.mk 0 _ _ rfl rfl ?_
  refine callR [] (aTCheck what w g k l _ hg hk lg lk ll) ?_
  refine bcond_split (fun c2 => ?_) (fun c2 => ?_)
  · have c2 : ¬ (checkT what w g k l = 0) := by simpa using c2
    rw [errA_chk c2, okL_neg c2]
    exact .nil (frz_cons (.nil _) (.refl _)) (.drop 0 1 (.done ⟨rfl, rfl⟩))
  · have c2 : checkT what w g k l = 0 := by simpa using c2
    refine callB [] (aLIs what w a _ ha (by omega)) (fun cV => ?_) (fun cV => ?_)
    · refine bcond_split (fun c3 => ?_) (fun c3 => ?_)
      · have c3 : ¬ (what = 3) := by simpa using c3
        refine .quiet (by kernel_rfl) ?_
        refine LoadAt.mk 0 _ _ rfl rfl ?_
        refine callQ [] (aMinus a k _ (by omega) (by omega)) ?_
        refine LoadAt.mk 0 _ _ rfl rfl ?_
        refine callQ [] (aUnion (bothW anW a k) g _ (by omega) (by omega)) ?_
        rw [errA_ok c2 cV, okL_pos rfl, applyR_set c3]
        exact .drop 0 1 (.done ⟨rfl, rfl⟩)
      · have c3 : what = 3 := by simpa using c3
        refine callB [] (aContainsE a 0 _ (by omega)) (fun cZ => ?_) (fun cZ => ?_)
        · refine callR [] (aLBottom what w _) ?_
          rw [errA_ok c2 cV, okL_pos rfl, applyR_zero c3 cZ, ← bot_zero cV c3]
          exact .drop 0 1 (.done ⟨rfl, rfl⟩)
        · refine LoadAt.mk 0 _ _ rfl rfl ?_
          have hal : l.all (codeR a.length) = true := by
            have ht := (chk_zero c2).2
            rw [trN c3, Bool.and_eq_true] at ht
            rw [val_width cV c3]; exact ht.2
          rw [errA_ok c2 cV, okL_pos rfl, applyR_do c3 cZ]
          refine callR [] (aTDo a l _ ha la ll hal) ?_
          exact .drop 0 1 (.done ⟨rfl, rfl⟩)
    · rw [errA_val c2 cV, okL_neg (by decide)]
      exact .nil (frz_cons (.nil _) (.refl _)) (.drop 0 1 (.done ⟨rfl, rfl⟩))
end Go.Proofs.YtljbnigceammdaaGreatDoor
