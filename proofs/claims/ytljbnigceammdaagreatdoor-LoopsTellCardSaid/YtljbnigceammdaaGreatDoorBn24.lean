/-
  Te; Th; Ya: what the claim uses of them.
-/
import Derived.Test.YtljbnigceammdaaGreatDoorBn23
namespace Go.Proofs.YtljbnigceammdaaGreatDoor
open Go.RowKit
set_option maxRecDepth 100000
instance instRefT : DecidableEq RefT := inferInstance
instance instCodeT : DecidableEq CodeT := inferInstance
end Go.Proofs.YtljbnigceammdaaGreatDoor
namespace Go.Proofs.YtljbnigceammdaaGreatDoor
open Go.RowKit
set_option maxRecDepth 100000
theorem one64 {n : Int} (h : W64 n) : A64 [n] := fun z hz => by rw [List.mem_singleton.1 hz]; exact h
/-- What is nil is an empty list. -/
theorem acalls_nil {f : FuncId} {xs ys : List AV} {σ : Hp} {R : AV → Hp → Prop} (h : FrzRel 0 0 0 0 .bool [] (.tup xs) (.tup ys)) (hc : ACalls Tryz.prog f ys σ R) : ACalls Tryz.prog f xs σ R :=
  ⟨hc.1, fun F w vs hvs hσ => hc.2 F w vs (by
    have := frzrel_sound (.refl F w) (fun v hv => by
      obtain ⟨a, cap, rfl, c, T, fz, m1, m2, m3, m4⟩ := hv.mrefv
      exact .fsl _ _ _ ⟨some a, cap, rfl, m2, m3, (fun e => by cases e), fun hne => absurd rfl hne⟩) h (.tuple vs) (.tup xs vs hvs.1 hvs.2)
    cases this with
    | tup _ _ h1 h2 => exact ⟨h1, h2⟩) hσ⟩
/-- Apply, of what is right. -/
theorem aTApplyOk (what w : Int) (g k : List Int) (l : List CodeT) (a : List Int) (σ : Hp) (hg : A64 g) (hk : A64 k) (ha : A64 a) (lg : g.length ≤ 10000) (lk : k.length ≤ 10000) (la : a.length ≤ 10000) (ll : l.length ≤ 1000000) (hc : checkT what w g k l = 0) (hv : valL what w a = true) : ACalls Tryz.prog 136 [.int .i64 what, .int .i64 w, .agg (trC g k l), .fsl (.int .u64) a] σ (Ret (.tup [.fsl (.int .u64) (applyR what g k l a), .int .i64 0]) σ) := by
  have h := aTApply what w g k l a σ hg hk ha lg lk la ll
  rw [errA_ok hc hv, okL_pos rfl] at h
  exact h
theorem aLJoinOk (what w : Int) (xs ys : List Int) (σ : Hp) (hx : A64 xs) (hy : A64 ys) (lx : xs.length ≤ 1000000) (ly : ys.length ≤ 1000000) (vx : valL what w xs = true) (vy : valL what w ys = true) : ACalls Tryz.prog 137 [.int .i64 what, .int .i64 w, .fsl (.int .u64) xs, .fsl (.int .u64) ys] σ (Ret (.tup [.fsl (.int .u64) (join12 what xs ys), .int .i64 0]) σ) := by
  have h := aLJoin what w xs ys σ hx hy lx ly
  rw [checkL_ok vx vy, okL_pos rfl] at h
  exact h
end Go.Proofs.YtljbnigceammdaaGreatDoor
namespace Go.Proofs.YtljbnigceammdaaGreatDoor
open Go.RowKit
set_option maxRecDepth 100000
/-- A system, as it is read. -/
abbrev edgeSh : Sh := .field (.int .i64) (.field (.int .i64) .nil)
abbrev EdgeT : Type := Int × Int × Unit
abbrev TrT : Type := List Int × List Int × List CodeT × Unit
structure Sy where
  what : Int
  w : Int
  n : Int
  edges : List EdgeT
  entry : List Int
  init : List Int
  T : List TrT
abbrev sysC (s : Sy) : List AV := [.int .i64 s.what, .int .i64 s.w, .int .i64 s.n, .fsl edgeSh s.edges, .fsl (.int .i64) s.entry, .fsl (.int .u64) s.init, .fsl transSh s.T]
/-- A transfer's words are words. -/
def okT (t : TrT) : Prop := A64 t.1 ∧ A64 t.2.1 ∧ t.1.length ≤ 10000 ∧ t.2.1.length ≤ 10000 ∧ t.2.2.1.length ≤ 100000
structure Fit (s : Sy) : Prop where
  i64 : A64 s.init
  ilen : s.init.length ≤ 10000
  elen : s.edges.length ≤ 100000
  nlen : s.entry.length ≤ 100000
  tlen : s.T.length ≤ 100000
  ts : ∀ t ∈ s.T, okT t
def nodeB (n a : Int) : Bool := decide (0 ≤ a) && decide (a < n)
theorem aNode (n a : Int) (σ : Hp) : ACalls Tryz.prog 53 [.int .i64 n, .int .i64 a] σ (Ret (.bool (nodeB n a)) σ) := by
  refine okF Tryz.func53 (by kernel_rfl) ?_
  refine bcond_dec (fun c1 => ?_) (fun c1 => ?_)
  · have c1 : 0 ≤ a := c1
    refine bcond_dec (fun c2 => ?_) (fun c2 => ?_)
    · have c2 : a < n := c2
      exact .done ⟨av_bool (by unfold nodeB; simp; omega), rfl⟩
    · have c2 : ¬ (a < n) := c2
      exact .done ⟨av_bool (by unfold nodeB; simp; omega), rfl⟩
  · have c1 : ¬ (0 ≤ a) := c1
    exact .done ⟨av_bool (by unfold nodeB; simp; omega), rfl⟩
def edgeV (e : EdgeT) : AV := .agg [.int .i64 e.1, .int .i64 e.2.1]
theorem aRight1 (n : Int) (e : EdgeT) (q : Nat) (σ : Hp) : ACalls Tryz.prog 65 [edgeV e, .ptr q 0] ((q, [.int .i64 n]) :: σ) (Ret (.bool (!(nodeB n e.1 && nodeB n e.2.1))) ((q, [.int .i64 n]) :: σ)) := by
  refine okF Tryz.func65 (by kernel_rfl) ?_
  unfold edgeV
  intro bl1
  refine LoadAt.mk 1 _ _ rfl rfl ?_
  refine LoadAt.mk 0 _ _ rfl rfl ?_
  refine callB [] (aNode n e.1 _) (fun c1 => ?_) (fun c1 => ?_)
  · refine LoadAt.mk 1 _ _ rfl rfl ?_
    refine LoadAt.mk 0 _ _ rfl rfl ?_
    refine callB [] (aNode n e.2.1 _) (fun c2 => ?_) (fun c2 => ?_)
    · exact .drop 0 1 (.done ⟨av_bool (by rw [c1, c2]; rfl), rfl⟩)
    · exact .drop 0 1 (.done ⟨av_bool (by rw [c1, c2]; rfl), rfl⟩)
  · exact .drop 0 1 (.done ⟨av_bool (by rw [c1]; rfl), rfl⟩)
theorem aIndexEd (g : Nat) (cap : List AV) (l : List (Sh.T edgeSh)) (p : Sh.T edgeSh → Bool) (σ : Hp) (hl : l.length ≤ 1000000) (hg : ∀ (i : Nat) (hi : i < l.length), ACalls Tryz.prog g (edgeV l[i] :: cap) σ (Ret (.bool (p l[i])) σ)) : ACalls Tryz.prog 96 [.fsl edgeSh l, .fn (.func g) [] cap] σ (fun r σ' => ∃ n : Int, r = .int .i64 n ∧ σ' = σ ∧ decide (0 ≤ n) = l.any p) := by
  refine okF Tryz.func96 (by kernel_rfl) ?_
  refine loopS (S := Nat) (fun s => [(0, .fsl edgeSh l), (1, .fn (.func g) [] cap), (7, .int .i64 l.length), (8, .int .i64 s)]) (fun _ => σ) (fun s => s ≤ l.length ∧ (l.take s).any p = false) (fun s => l.length - s) 0 ⟨⟨Nat.zero_le _, rfl⟩, ⟨rfl, rfl, rfl, rfl, trivial⟩, rfl⟩ ?_
  rintro k t ⟨hk0, hn0⟩
  have hk : k ≤ l.length := hk0
  have hn : (l.take k).any p = false := hn0
  clear hk0 hn0
  refine bcond_dec (fun hlt => ?_) (fun hge => ?_)
  · have hlt : k < l.length := by have hlt : (k : Int) < l.length := hlt; omega
    have hs := any_take hlt p
    rw [hn, Bool.false_or] at hs
    refine With.mk rfl (IdxF.mk l[k] (by omega) (get_some hlt) ?_)
    refine callB [] (hg k hlt) (fun c => ?_) (fun c => ?_)
    · have hp : l.any p = true := List.any_eq_true.2 ⟨l[k], List.getElem_mem hlt, c⟩
      exact .done ⟨_, rfl, rfl, by rw [hp]; exact decide_eq_true (by omega)⟩
    · exact nextS (k + 1) (by show l.length - (k + 1) < l.length - k; omega) ⟨hlt, hs.trans c⟩ ⟨rfl, rfl, rfl, inc64 (by omega), trivial⟩ (.refl _)
  · have hge : k = l.length := by have hge : ¬ (k : Int) < l.length := hge; omega
    subst hge
    rw [List.take_length] at hn
    exact .done ⟨_, rfl, rfl, by rw [hn]; rfl⟩
theorem aContainsEd (g : Nat) (cap : List AV) (l : List (Sh.T edgeSh)) (p : Sh.T edgeSh → Bool) (σ : Hp) (hl : l.length ≤ 1000000) (hg : ∀ (i : Nat) (hi : i < l.length), ACalls Tryz.prog g (edgeV l[i] :: cap) σ (Ret (.bool (p l[i])) σ)) : ACalls Tryz.prog 64 [.fsl edgeSh l, .fn (.func g) [] cap] σ (Ret (.bool (l.any p)) σ) := by
  refine okF Tryz.func64 (by kernel_rfl) ?_
  refine .mk [] _ (aIndexEd g cap l p _ hl hg) ?_
  rintro _ _ ⟨n, rfl, rfl, hn⟩
  rw [← hn]
  refine bcond_dec (fun c => ?_) (fun c => ?_)
  · have c : 0 ≤ n := c
    rw [decide_eq_true c]
    exact .done ⟨rfl, rfl⟩
  · have c : ¬ 0 ≤ n := c
    rw [decide_eq_false c]
    exact .done ⟨rfl, rfl⟩
/-- Do edges lead from nodes to nodes? -/
def rightE (n : Int) (l : List EdgeT) : Bool := decide (1 ≤ n) && decide (n ≤ 256) && decide (l.length ≤ 1024) && l.all fun e => nodeB n e.1 && nodeB n e.2.1
theorem all_e {n : Int} (l : List EdgeT) {b : Bool} (h : (l.any fun e => !(nodeB n e.1 && nodeB n e.2.1)) = b) : (l.all fun e => nodeB n e.1 && nodeB n e.2.1) = !b := by rw [all_not, h]
theorem aRight (n : Int) (l : List EdgeT) (σ : Hp) (hl : l.length ≤ 1000000) : ACalls Tryz.prog 38 [.int .i64 n, .fsl edgeSh l] σ (Ret (.bool (rightE n l)) σ) := by
  refine okF Tryz.func38 (by kernel_rfl) ?_
  intro bl1
  refine LoadAt.mk 0 _ _ rfl rfl ?_
  refine bcond_dec (fun c2 => ?_) (fun c2 => ?_)
  · have c2 : n < 1 := c2
    exact .drop 0 1 (.done ⟨av_bool (by unfold rightE; simp; omega), rfl⟩)
  · have c2 : ¬ (n < 1) := c2
    refine LoadAt.mk 0 _ _ rfl rfl ?_
    refine bcond_dec (fun c3 => ?_) (fun c3 => ?_)
    · have c3 : 256 < n := c3
      exact .drop 0 1 (.done ⟨av_bool (by unfold rightE; simp; omega), rfl⟩)
    · have c3 : ¬ (256 < n) := c3
      refine bcond_dec (fun c4 => ?_) (fun c4 => ?_)
      · have c4 : 1024 < (↑l.length : Int) := c4
        exact .drop 0 1 (.done ⟨av_bool (by unfold rightE; simp; omega), rfl⟩)
      · have c4 : ¬ (1024 < (↑l.length : Int)) := c4
        refine callB [] (aContainsEd 65 [.ptr bl1 0] l (fun e => !(nodeB n e.1 && nodeB n e.2.1)) _ hl (fun i hi => aRight1 n l[i] bl1 _)) (fun cL => ?_) (fun cL => ?_)
        · exact .drop 0 1 (.done ⟨av_bool (by unfold rightE; rw [all_e l cL]; simp), rfl⟩)
        · exact .drop 0 1 (.done ⟨av_bool (by unfold rightE; rw [all_e l cL]; simp; omega), rfl⟩)
def heightL (what w : Int) : Int := if is12 what w = true then (if what = 3 then 2 * w else w) else 0
theorem aLHeight (what w : Int) (σ : Hp) : ACalls Tryz.prog 103 [.int .i64 what, .int .i64 w] σ (Ret (.int .i64 (heightL what w)) σ) := by
  refine okF Tryz.func103 (by kernel_rfl) ?_
  refine callB [] (aLis what w _) (fun c0 => ?_) (fun c0 => ?_)
  · refine bcond_dec (fun c1 => ?_) (fun c1 => ?_)
    · have c1 : what = 3 := c1
      exact .done ⟨av_int (by unfold is12 at c0; simp at c0; unfold heightL; rw [if_pos (is_yes (by omega)), if_pos c1, w64 (by omega)]), rfl⟩
    · have c1 : ¬ (what = 3) := c1
      exact .done ⟨av_int (by unfold heightL; rw [if_pos c0, if_neg c1]), rfl⟩
  · exact .done ⟨av_int (by unfold heightL; rw [c0]; rfl), rfl⟩
theorem full_fits (w : Int) : fitsW (fullW w) w = true := by
  unfold fitsW
  rw [decide_eq_true (fullW_length w), Bool.true_and, List.all_eq_true]
  intro i hi
  have hi := List.mem_range.1 hi
  rw [fullW_length] at hi
  rw [decide_eq_true_eq, fullW_wd w hi, Int.toNat_natCast]
  have := Nat.two_pow_pos (min 64 (cutW w - 64 * i))
  omega
/-- The least value is one. -/
theorem bot_val {what w : Int} (h : is12 what w = true) : valL what w (botL what w) = true := by
  by_cases h3 : what = 3
  · rw [val_flat h h3]
    unfold botL
    rw [if_neg (fun h => by omega), words_flat h h3]
    unfold is12 at h; simp at h
    exact ⟨by rw [List.length_replicate]; omega, okW_zero _⟩
  · rw [val_set h h3]
    unfold botL
    split
    · exact full_fits w
    · rw [words_set h h3, Int.toNat_natCast]
      refine (fits_bit (rep_64 _) List.length_replicate).2 fun i k hi _ _ => ?_
      unfold bitW
      rw [wd_get _ hi, List.getElem_replicate]; exact zero_bit k
theorem bot_64 (what w : Int) : A64 (botL what w) := by
  unfold botL; split
  · exact fullW_64 w
  · exact rep_64 _
theorem bot_len (what w : Int) : (botL what w).length ≤ 1024 := by
  unfold botL; split
  · rw [fullW_length]; have := sizeW_le w; omega
  · rw [List.length_replicate]; have := wordsL_le what w; omega
/-- What is wrong with a system. -/
def checkS (s : Sy) : Int := if is12 s.what s.w = true then (if rightE s.n s.edges = true ∧ (s.T.length : Int) = s.n then (if (s.entry.any fun v => !nodeB s.n v) = true then 1 else if valL s.what s.w s.init = true then (if (s.T.any fun t => !decide (checkT s.what s.w t.1 t.2.1 t.2.2.1 = 0)) = true then 2 else 0) else 2) else 1) else 10
theorem chkS10 {s : Sy} (h : is12 s.what s.w = false) : 10 = checkS s := by unfold checkS; rw [h]; rfl
theorem chkS1 {s : Sy} (hi : is12 s.what s.w = true) (h : ¬ (rightE s.n s.edges = true ∧ (s.T.length : Int) = s.n)) : 1 = checkS s := by unfold checkS; rw [if_pos hi, if_neg h]
theorem chkS1e {s : Sy} (hi : is12 s.what s.w = true) (h : rightE s.n s.edges = true ∧ (s.T.length : Int) = s.n) (he : (s.entry.any fun v => !nodeB s.n v) = true) : 1 = checkS s := by unfold checkS; rw [if_pos hi, if_pos h, if_pos he]
theorem chkS2 {s : Sy} (hi : is12 s.what s.w = true) (h : rightE s.n s.edges = true ∧ (s.T.length : Int) = s.n) (he : (s.entry.any fun v => !nodeB s.n v) = false) (hv : valL s.what s.w s.init = false) : 2 = checkS s := by unfold checkS; rw [if_pos hi, if_pos h, he, hv]; rfl
theorem chkS2t {s : Sy} (hi : is12 s.what s.w = true) (h : rightE s.n s.edges = true ∧ (s.T.length : Int) = s.n) (he : (s.entry.any fun v => !nodeB s.n v) = false) (hv : valL s.what s.w s.init = true) (ht : (s.T.any fun t => !decide (checkT s.what s.w t.1 t.2.1 t.2.2.1 = 0)) = true) : 2 = checkS s := by unfold checkS; rw [if_pos hi, if_pos h, he, hv, ht]; rfl
theorem chkS0 {s : Sy} (hi : is12 s.what s.w = true) (h : rightE s.n s.edges = true ∧ (s.T.length : Int) = s.n) (he : (s.entry.any fun v => !nodeB s.n v) = false) (hv : valL s.what s.w s.init = true) (ht : (s.T.any fun t => !decide (checkT s.what s.w t.1 t.2.1 t.2.2.1 = 0)) = false) : 0 = checkS s := by unfold checkS; rw [if_pos hi, if_pos h, he, hv, ht]; rfl
theorem aSysCheck (s : Sy) (σ : Hp) (hf : Fit s) : ACalls Tryz.prog 132 [.agg (sysC s)] σ (Ret (.int .i64 (checkS s)) σ) := by
  refine okF Tryz.func132 (by kernel_rfl) ?_
  intro bl1
  refine .quiet (by kernel_rfl) ?_
  refine LoadAt.mk 0 _ _ rfl rfl ?_
  refine LoadAt.mk 0 _ _ rfl rfl ?_
  refine callQ [] (aLHeight _ _ _) ?_
  refine bcond_dec (fun c1 => ?_) (fun c1 => ?_)
  · have c1 : heightL s.what s.w = 0 := c1
    refine LoadAt.mk 0 _ _ rfl rfl ?_
    refine LoadAt.mk 0 _ _ rfl rfl ?_
    refine LoadAt.mk 0 _ _ rfl rfl ?_
    refine LoadAt.mk 0 _ _ rfl rfl ?_
    refine callQ [] (aLBottom _ _ _) ?_
    refine callQB [] (aLIs s.what s.w (botL s.what s.w) _ (bot_64 _ _) (Nat.le_trans (bot_len _ _) (by decide))) (fun c2 => ?_) (fun c2 => ?_)
    · have hi := val_is c2
      refine LoadAt.mk 0 _ _ rfl rfl ?_
      refine LoadAt.mk 0 _ _ rfl rfl ?_
      refine callB [] (aRight s.n s.edges _ (Nat.le_trans hf.elen (by decide))) (fun cr => ?_) (fun cr => ?_)
      · refine LoadAt.mk 0 _ _ rfl rfl ?_
        refine LoadAt.mk 0 _ _ rfl rfl ?_
        refine bcond_split (fun ct => ?_) (fun ct => ?_)
        · have ct : (!decide ((s.T.length : Int) = s.n)) = true := ct
          have ct : ¬ (s.T.length : Int) = s.n := by simpa using ct
          exact .fwd 1 (.drop 0 1 (.done ⟨av_int (chkS1 hi fun h => ct h.2), rfl⟩))
        · have ct : (!decide ((s.T.length : Int) = s.n)) = false := ct
          have ct : (s.T.length : Int) = s.n := by simpa using ct
          have hr : rightE s.n s.edges = true ∧ (s.T.length : Int) = s.n := ⟨cr, ct⟩
          refine LoadAt.mk 0 _ _ rfl rfl ?_
          refine loopS (S := Nat) (fun k => [(1, .ptr bl1 0), (3, .int .i64 1), (42, .fsl (.int .i64) s.entry), (43, .int .i64 s.entry.length), (44, .int .i64 k)]) (fun _ => (bl1, sysC s) :: σ) (fun k => k ≤ s.entry.length ∧ ((s.entry.take k).any fun v => !nodeB s.n v) = false) (fun k => s.entry.length - k) 0 ⟨⟨Nat.zero_le _, rfl⟩, ⟨rfl, rfl, rfl, rfl, rfl, trivial⟩, rfl⟩ ?_
          rintro k g ⟨hk0, ha0⟩
          have hk : k ≤ s.entry.length := hk0
          have ha : ((s.entry.take k).any fun v => !nodeB s.n v) = false := ha0
          clear hk0 ha0
          refine bcond_dec (fun hlt => ?_) (fun hge => ?_)
          · have hlt : k < s.entry.length := by have hlt : (k : Int) < s.entry.length := hlt; omega
            have hs := any_take hlt fun v => !nodeB s.n v
            rw [ha, Bool.false_or] at hs
            have hbad : nodeB s.n s.entry[k] = false → (s.entry.any fun v => !nodeB s.n v) = true := fun h => List.any_eq_true.2 ⟨s.entry[k], List.getElem_mem hlt, by rw [h]; rfl⟩
            refine With.mk rfl (IdxF.mk s.entry[k] (by omega) (get_some hlt) ?_)
            refine bcond_dec (p := s.entry[k] < 0) (fun d1 => ?_) (fun d1 => ?_)
            · exact .fwd 1 (.drop 0 1 (.done ⟨av_int (chkS1e hi hr (hbad (by unfold nodeB; simp; omega))), rfl⟩))
            · refine LoadAt.mk 0 _ _ rfl rfl ?_
              refine bcond_dec (p := s.n ≤ s.entry[k]) (fun d2 => ?_) (fun d2 => ?_)
              · exact .fwd 1 (.drop 0 1 (.done ⟨av_int (chkS1e hi hr (hbad (by unfold nodeB; simp; omega))), rfl⟩))
              · exact nextS (k + 1) (by show s.entry.length - (k + 1) < s.entry.length - k; omega) ⟨hlt, hs.trans (by unfold nodeB; simp; omega)⟩ ⟨rfl, rfl, rfl, rfl, inc64 (by have := hf.nlen; omega), trivial⟩ (.refl _)
          · have hge : k = s.entry.length := by have hge : ¬ (k : Int) < s.entry.length := hge; omega
            subst hge
            rw [List.take_length] at ha
            refine LoadAt.mk 0 _ _ rfl rfl ?_
            refine LoadAt.mk 0 _ _ rfl rfl ?_
            refine LoadAt.mk 0 _ _ rfl rfl ?_
            refine callB [] (aLIs s.what s.w s.init _ hf.i64 (Nat.le_trans hf.ilen (by decide))) (fun cv => ?_) (fun cv => ?_)
            · refine LoadAt.mk 0 _ _ rfl rfl ?_
              refine loopS (S := Nat) (fun k => [(1, .ptr bl1 0), (3, .int .i64 2), (66, .fsl transSh s.T), (67, .int .i64 s.T.length), (68, .int .i64 k)]) (fun _ => (bl1, sysC s) :: σ) (fun k => k ≤ s.T.length ∧ ((s.T.take k).any fun t => !decide (checkT s.what s.w t.1 t.2.1 t.2.2.1 = 0)) = false) (fun k => s.T.length - k) 0 ⟨⟨Nat.zero_le _, rfl⟩, ⟨rfl, rfl, rfl, rfl, rfl, trivial⟩, rfl⟩ ?_
              rintro k g ⟨hk0, ht0⟩
              have hk : k ≤ s.T.length := hk0
              have ht : ((s.T.take k).any fun t => !decide (checkT s.what s.w t.1 t.2.1 t.2.2.1 = 0)) = false := ht0
              clear hk0 ht0
              refine bcond_dec (fun hlt => ?_) (fun hge => ?_)
              · have hlt : k < s.T.length := by have hlt : (k : Int) < s.T.length := hlt; omega
                have hs := any_take hlt fun t => !decide (checkT s.what s.w t.1 t.2.1 t.2.2.1 = 0)
                rw [ht, Bool.false_or] at hs
                have ho := hf.ts _ (List.getElem_mem hlt)
                have hm := List.getElem_mem hlt
                obtain ⟨t, htk⟩ : ∃ t : TrT, s.T[k] = t := ⟨_, rfl⟩
                rw [htk] at hs ho hm
                refine With.mk rfl (IdxF.mk t (by omega) ((get_some hlt).trans (congrArg some htk)) ?_)
                intro bl2
                refine StoreAt.mk 0 _ _ rfl rfl ?_
                refine LoadAt.mk 1 _ _ rfl rfl ?_
                refine LoadAt.mk 1 _ _ rfl rfl ?_
                refine LoadAt.mk 0 _ _ rfl rfl ?_
                refine callR [] (aTCheck s.what s.w t.1 t.2.1 t.2.2.1 _ ho.1 ho.2.1 ho.2.2.1 ho.2.2.2.1 (Nat.le_trans ho.2.2.2.2 (by decide))) ?_
                refine bcond_split (fun d1 => ?_) (fun d1 => ?_)
                · exact .fwd 1 (.drop 0 2 (.done ⟨av_int (chkS2t hi hr ha cv (List.any_eq_true.2 ⟨t, hm, d1⟩)), rfl⟩))
                · exact nextS (k + 1) (by show s.T.length - (k + 1) < s.T.length - k; omega) ⟨hlt, hs.trans d1⟩ ⟨rfl, rfl, rfl, rfl, inc64 (by have := hf.tlen; omega), trivial⟩ (.drop 0 1 (.refl _))
              · have hge : k = s.T.length := by have hge : ¬ (k : Int) < s.T.length := hge; omega
                subst hge
                rw [List.take_length] at ht
                exact .drop 0 1 (.done ⟨av_int (chkS0 hi hr ha cv ht), rfl⟩)
            · exact .fwd 1 (.drop 0 1 (.done ⟨av_int (chkS2 hi hr ha cv), rfl⟩))
      · exact .fwd 1 (.drop 0 1 (.done ⟨av_int (chkS1 hi fun h => by rw [h.1] at cr; cases cr), rfl⟩))
    · have hi : is12 s.what s.w = false := by
        cases h : is12 s.what s.w with
        | false => rfl
        | true => rw [bot_val h] at c2; cases c2
      exact .fwd 1 (.drop 0 1 (.done ⟨av_int (chkS10 hi), rfl⟩))
  · have c1 : ¬ heightL s.what s.w = 0 := c1
    refine LoadAt.mk 0 _ _ rfl rfl ?_
    refine LoadAt.mk 0 _ _ rfl rfl ?_
    have hi : is12 s.what s.w = true := by
      cases h : is12 s.what s.w with
      | true => rfl
      | false => exact absurd (by unfold heightL; rw [h]; rfl) c1
    refine callB [] (aRight s.n s.edges _ (Nat.le_trans hf.elen (by decide))) (fun cr => ?_) (fun cr => ?_)
    · refine LoadAt.mk 0 _ _ rfl rfl ?_
      refine LoadAt.mk 0 _ _ rfl rfl ?_
      refine bcond_split (fun ct => ?_) (fun ct => ?_)
      · have ct : (!decide ((s.T.length : Int) = s.n)) = true := ct
        have ct : ¬ (s.T.length : Int) = s.n := by simpa using ct
        exact .fwd 1 (.drop 0 1 (.done ⟨av_int (chkS1 hi fun h => ct h.2), rfl⟩))
      · have ct : (!decide ((s.T.length : Int) = s.n)) = false := ct
        have ct : (s.T.length : Int) = s.n := by simpa using ct
        have hr : rightE s.n s.edges = true ∧ (s.T.length : Int) = s.n := ⟨cr, ct⟩
        refine LoadAt.mk 0 _ _ rfl rfl ?_
        refine loopS (S := Nat) (fun k => [(1, .ptr bl1 0), (3, .int .i64 1), (42, .fsl (.int .i64) s.entry), (43, .int .i64 s.entry.length), (44, .int .i64 k)]) (fun _ => (bl1, sysC s) :: σ) (fun k => k ≤ s.entry.length ∧ ((s.entry.take k).any fun v => !nodeB s.n v) = false) (fun k => s.entry.length - k) 0 ⟨⟨Nat.zero_le _, rfl⟩, ⟨rfl, rfl, rfl, rfl, rfl, trivial⟩, rfl⟩ ?_
        rintro k g ⟨hk0, ha0⟩
        have hk : k ≤ s.entry.length := hk0
        have ha : ((s.entry.take k).any fun v => !nodeB s.n v) = false := ha0
        clear hk0 ha0
        refine bcond_dec (fun hlt => ?_) (fun hge => ?_)
        · have hlt : k < s.entry.length := by have hlt : (k : Int) < s.entry.length := hlt; omega
          have hs := any_take hlt fun v => !nodeB s.n v
          rw [ha, Bool.false_or] at hs
          have hbad : nodeB s.n s.entry[k] = false → (s.entry.any fun v => !nodeB s.n v) = true := fun h => List.any_eq_true.2 ⟨s.entry[k], List.getElem_mem hlt, by rw [h]; rfl⟩
          refine With.mk rfl (IdxF.mk s.entry[k] (by omega) (get_some hlt) ?_)
          refine bcond_dec (p := s.entry[k] < 0) (fun d1 => ?_) (fun d1 => ?_)
          · exact .fwd 1 (.drop 0 1 (.done ⟨av_int (chkS1e hi hr (hbad (by unfold nodeB; simp; omega))), rfl⟩))
          · refine LoadAt.mk 0 _ _ rfl rfl ?_
            refine bcond_dec (p := s.n ≤ s.entry[k]) (fun d2 => ?_) (fun d2 => ?_)
            · exact .fwd 1 (.drop 0 1 (.done ⟨av_int (chkS1e hi hr (hbad (by unfold nodeB; simp; omega))), rfl⟩))
            · exact nextS (k + 1) (by show s.entry.length - (k + 1) < s.entry.length - k; omega) ⟨hlt, hs.trans (by unfold nodeB; simp; omega)⟩ ⟨rfl, rfl, rfl, rfl, inc64 (by have := hf.nlen; omega), trivial⟩ (.refl _)
        · have hge : k = s.entry.length := by have hge : ¬ (k : Int) < s.entry.length := hge; omega
          subst hge
          rw [List.take_length] at ha
          refine LoadAt.mk 0 _ _ rfl rfl ?_
          refine LoadAt.mk 0 _ _ rfl rfl ?_
          refine LoadAt.mk 0 _ _ rfl rfl ?_
          refine callB [] (aLIs s.what s.w s.init _ hf.i64 (Nat.le_trans hf.ilen (by decide))) (fun cv => ?_) (fun cv => ?_)
          · refine LoadAt.mk 0 _ _ rfl rfl ?_
            refine loopS (S := Nat) (fun k => [(1, .ptr bl1 0), (3, .int .i64 2), (66, .fsl transSh s.T), (67, .int .i64 s.T.length), (68, .int .i64 k)]) (fun _ => (bl1, sysC s) :: σ) (fun k => k ≤ s.T.length ∧ ((s.T.take k).any fun t => !decide (checkT s.what s.w t.1 t.2.1 t.2.2.1 = 0)) = false) (fun k => s.T.length - k) 0 ⟨⟨Nat.zero_le _, rfl⟩, ⟨rfl, rfl, rfl, rfl, rfl, trivial⟩, rfl⟩ ?_
            rintro k g ⟨hk0, ht0⟩
            have hk : k ≤ s.T.length := hk0
            have ht : ((s.T.take k).any fun t => !decide (checkT s.what s.w t.1 t.2.1 t.2.2.1 = 0)) = false := ht0
            clear hk0 ht0
            refine bcond_dec (fun hlt => ?_) (fun hge => ?_)
            · have hlt : k < s.T.length := by have hlt : (k : Int) < s.T.length := hlt; omega
              have hs := any_take hlt fun t => !decide (checkT s.what s.w t.1 t.2.1 t.2.2.1 = 0)
              rw [ht, Bool.false_or] at hs
              have ho := hf.ts _ (List.getElem_mem hlt)
              have hm := List.getElem_mem hlt
              obtain ⟨t, htk⟩ : ∃ t : TrT, s.T[k] = t := ⟨_, rfl⟩
              rw [htk] at hs ho hm
              refine With.mk rfl (IdxF.mk t (by omega) ((get_some hlt).trans (congrArg some htk)) ?_)
              intro bl2
              refine StoreAt.mk 0 _ _ rfl rfl ?_
              refine LoadAt.mk 1 _ _ rfl rfl ?_
              refine LoadAt.mk 1 _ _ rfl rfl ?_
              refine LoadAt.mk 0 _ _ rfl rfl ?_
              refine callR [] (aTCheck s.what s.w t.1 t.2.1 t.2.2.1 _ ho.1 ho.2.1 ho.2.2.1 ho.2.2.2.1 (Nat.le_trans ho.2.2.2.2 (by decide))) ?_
              refine bcond_split (fun d1 => ?_) (fun d1 => ?_)
              · exact .fwd 1 (.drop 0 2 (.done ⟨av_int (chkS2t hi hr ha cv (List.any_eq_true.2 ⟨t, hm, d1⟩)), rfl⟩))
              · exact nextS (k + 1) (by show s.T.length - (k + 1) < s.T.length - k; omega) ⟨hlt, hs.trans d1⟩ ⟨rfl, rfl, rfl, rfl, inc64 (by have := hf.tlen; omega), trivial⟩ (.drop 0 1 (.refl _))
            · have hge : k = s.T.length := by have hge : ¬ (k : Int) < s.T.length := hge; omega
              subst hge
              rw [List.take_length] at ht
              exact .drop 0 1 (.done ⟨av_int (chkS0 hi hr ha cv ht), rfl⟩)
          · exact .fwd 1 (.drop 0 1 (.done ⟨av_int (chkS2 hi hr ha cv), rfl⟩))
    · exact .fwd 1 (.drop 0 1 (.done ⟨av_int (chkS1 hi fun h => by rw [h.1] at cr; cases cr), rfl⟩))
end Go.Proofs.YtljbnigceammdaaGreatDoor
