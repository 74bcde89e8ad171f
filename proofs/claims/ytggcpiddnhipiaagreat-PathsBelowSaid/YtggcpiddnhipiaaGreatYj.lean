/-
  soughref12.Full, Bottom; soughref17.Start, Out, Bottom, Step; soughref18; system.Start, Out; least.Iterate, Outs.
-/
import Derived.Test.YtggcpiddnhipiaaGreatYi
namespace Go.Proofs.YtggcpiddnhipiaaGreat
open Go.RowKit
set_option maxRecDepth 100000
/-- Numbers, in cells. -/
def inC (l : List Int) : List AV := l.map (.int .i64)
theorem inC_flat : ∀ l : List Int, inC l = l.flatMap (Sh.cells (.int .i64))
  | [] => rfl
  | x :: l => congrArg (AV.int .i64 x :: ·) (inC_flat l)
def upL (n : Nat) : List Int := (List.range n).map fun i : Nat => (i : Int)
theorem upL_length (n : Nat) : (upL n).length = n := by simp [upL]
theorem upL_succ (n : Nat) : upL (n + 1) = upL n ++ [(n : Int)] := by unfold upL; rw [List.range_succ, List.map_append]; rfl
theorem upL_get {n k : Nat} (h : k < n) : (upL n)[k]? = some (k : Int) := by unfold upL; rw [List.getElem?_map, List.getElem?_range h]; rfl
/-- The set of the numbers below a width. -/
theorem aROfUp (n : Nat) (σ : Hp) (hn : n ≤ 1024) : ACalls Tryz.prog 145 [.int .i64 n, .fsl (.int .i64) (upL n)] σ (Ret (.fsl (.int .u64) (fullW n)) σ) := by
  have hcut : cutW n = n := by unfold cutW; omega
  have hsz := sizeW_le n
  refine okF Tryz.func145 (by kernel_rfl) ?_
  refine callR [] (aSizeR n _) ?_
  refine With.mk ⟨by omega, by omega, by omega, by decide⟩ ?_
  intro q
  refine loopS (S := Nat × Nat) (fun s => [(0, .int .i64 n), (5, .mref s.2 0 (sizeW n) 1), (11, .fsl (.int .i64) (upL n)), (12, .int .i64 n), (13, .int .i64 s.1)]) (fun s => (s.2, woC (ptW (fullW n) s.1)) :: σ) (fun s => s.1 ≤ n) (fun s => n - s.1) (0, q) ⟨Nat.zero_le _, ⟨rfl, rfl, rfl, congrArg (fun m : Nat => AV.int .i64 (m : Int)) (upL_length n), rfl, trivial⟩, ?_⟩ ?_
  · show (q, repC [.int .u64 0] (((sizeW n : Nat) : Int)).toNat) :: σ = (q, woC (ptW (fullW n) 0)) :: σ
    rw [ptW_zero, fullW_length, Int.toNat_natCast, rep_woC]
  rintro ⟨k, b⟩ g hk0
  have hk : k ≤ n := hk0
  clear hk0
  refine bcond_dec (fun hlt => ?_) (fun hge => ?_)
  · have hlt : k < n := by have hlt : (k : Int) < n := hlt; omega
    refine With.mk rfl (IdxF.mk (k : Int) (by omega) (by rw [Int.toNat_natCast]; exact upL_get hlt) ?_)
    refine callR [] (aWidthR n _) ?_
    refine bcond_dec (p := (k : Int) < (cutW n : Int)) (fun _ => ?_) (fun h => ?_)
    rotate_left
    · exact absurd (by omega) h
    have hi : k / 64 < sizeW n := by unfold sizeW; omega
    refine .mk [] _ (aWithB (ptW (fullW n) k) k b (sizeW n) σ (by rw [ptW_length, fullW_length]) (by omega) hi) ?_
    rintro _ _ ⟨b2, rfl, rfl⟩
    refine nextS (k + 1, b2) (by show n - (k + 1) < n - k; omega) hlt ⟨rfl, rfl, rfl, rfl, inc64 (by omega), trivial⟩ (.drop 1 1 (shed_eq ?_))
    rw [full_step n (by omega)]
    rfl
  · have hge : k = n := by have hge : ¬ (k : Int) < n := hge; omega
    subst hge
    have hc := full_cut k
    rw [hcut] at hc
    rw [hc]
    exact .frz 0 b 0 (sizeW k) 1 _ (.int .u64) (fullW k) rfl (by rw [List.drop_zero, ← woC_flat]; exact List.take_of_length_le (by simp [woC, fullW_length])) ⟨fullW_length k, rfl, by decide⟩ .here (.done ⟨rfl, rfl⟩)
theorem aRFull12 (n : Nat) (σ : Hp) (hn : n ≤ 1024) : ACalls Tryz.prog 109 [.int .i64 n] σ (Ret (.fsl (.int .u64) (fullW n)) σ) := by
  refine okF Tryz.func109 (by kernel_rfl) ?_
  refine .wrap 3 _ rfl rfl ?_
  refine loopS (S := Nat × AV × Hp) (fun s => [(0, .int .i64 n), (3, .via s.2.1), (4, .int .i64 s.1)]) (fun s => s.2.2 ++ σ) (fun s => s.1 ≤ n ∧ Acc 1 s.1 s.2.1 s.2.2 (inC (upL s.1))) (fun s => n - s.1) (0, .nils, []) ⟨⟨Nat.zero_le _, .nil⟩, ⟨rfl, rfl, rfl, trivial⟩, rfl⟩ ?_
  rintro ⟨k, v, acc⟩ g ⟨hk0, hacc0⟩
  have hk : k ≤ n := hk0
  have hacc : Acc 1 k v acc (inC (upL k)) := hacc0
  clear hk0 hacc0
  refine bcond_dec (fun hlt => ?_) (fun hge => ?_)
  · have hlt : k < n := by have hlt : (k : Int) < n := hlt; omega
    intro bl1
    refine append_acc [_] hacc (.mref 0 bl1 0 1 _ rfl (Nat.le_of_ble_eq_true rfl)) rfl (by omega) (by decide) (by decide) (fun v' acc' h' => ?_)
    refine nextS (k + 1, v', acc') (by show n - (k + 1) < n - k; omega) ⟨hlt, ?_⟩ ⟨rfl, rfl, inc64 (by omega), trivial⟩ (.drop 0 1 (shed_eq rfl))
    show Acc 1 (k + 1) v' acc' (inC (upL (k + 1)))
    rw [upL_succ, inC, List.map_append]
    exact h'
  · have hge : k = n := by have hge : ¬ (k : Int) < n := hge; omega
    subst hge
    have hO := fun σ => aROfUp k σ hn
    generalize hU : upL k = U at hacc hO
    have hlU : U.length = k := by rw [← hU]; exact upL_length k
    generalize hC : inC U = C at hacc
    cases hacc with
    | nil =>
      have hU0 : U = [] := List.length_eq_zero_iff.1 hlU
      rw [hU0] at hO
      refine callR [] (acalls_nil (frz_cons (.refl _) (frz_cons (.nil _) frz_nil)) (hO _)) ?_
      exact .done ⟨rfl, rfl⟩
    | mref b k cs h =>
      refine .frz (args' := [.int .i64 k, .fsl (.int .i64) U]) 0 b 0 k 1 _ (.int .i64) U rfl (by rw [List.drop_zero, ← inC_flat, hC]; exact List.take_of_length_le (by omega)) ⟨hlU, rfl, by decide⟩ (frz_cons (.refl _) (frz_cons .here frz_nil)) (callR [] (hO _) ?_)
      exact .done ⟨rfl, rfl⟩
theorem aRBottom12 (what w : Int) (σ : Hp) (hi : is12 what w = true) : ACalls Tryz.prog 69 [.int .i64 what, .int .i64 w] σ (Ret (.fsl (.int .u64) (botL what w)) σ) := by
  refine okF Tryz.func69 (by kernel_rfl) ?_
  have hw := wordsL_le what w
  refine callR [] (acalls_eq (aRIs what w _) (av_bool hi)) ?_
  refine bcond_dec (p := what = 2) (fun c => ?_) (fun c => ?_)
  · have hi' := hi
    unfold is12 at hi'; simp at hi'
    obtain ⟨n, rfl⟩ : ∃ n : Nat, w = n := ⟨w.toNat, by omega⟩
    refine callR [] (aRFull12 n _ (by omega)) ?_
    exact .done ⟨by rw [show botL what (n : Int) = fullW n from if_pos ⟨c, hi⟩]; rfl, rfl⟩
  · refine callR [] (aRWords12 what w _) ?_
    refine With.mk ⟨by omega, by omega, by omega, by decide⟩ ?_
    intro b
    have e : botL what w = List.replicate (wordsL what w).toNat 0 := if_neg fun h => c h.1
    rw [e]
    show Fin _ (.mref b 0 (wordsL what w).toNat 1) ((b, repC [.int .u64 0] (wordsL what w).toNat) :: σ)
    rw [rep_woC]
    have hl : (List.replicate (wordsL what w).toNat (0 : Int)).length = (wordsL what w).toNat := List.length_replicate
    generalize List.replicate (wordsL what w).toNat (0 : Int) = Z at hl
    refine .frz 0 b 0 (wordsL what w).toNat 1 _ (.int .u64) Z rfl ?_ ⟨hl, rfl, by decide⟩ .here (.done ⟨rfl, rfl⟩)
    rw [List.drop_zero, ← woC_flat]
    exact List.take_of_length_le (by rw [woC, List.length_map, hl]; omega)
theorem aRStart17 (s : Sy) (v : Int) (σ : Hp) (hf : Fit s) (hg : Good s) : ACalls Tryz.prog 38 [.agg (sysC s), .int .i64 v] σ (Ret (.fsl (.int .u64) (startS s v)) σ) := by
  refine okF Tryz.func38 (by kernel_rfl) ?_
  intro bl1
  refine LoadAt.mk 0 _ _ rfl rfl ?_
  refine callB [] (aRIn s.entry v _ (Nat.le_trans hf.nlen (by decide))) (fun c => ?_) (fun c => ?_)
  · intro bl2
    have hle := hf.ilen
    refine LoadAt.mk 1 _ _ rfl rfl ?_
    refine AppendAt.more 0 bl2 0 s.init.length [] _ rfl rfl (Nat.le_of_ble_eq_true rfl) (.fsl (.int .u64) s.init rfl) (by omega) (by decide) (by decide) (fun b => ?_)
    have e : startS s v = s.init := by unfold startS; rw [c]; rfl
    rw [e]
    refine .frz 0 b 0 (0 + s.init.length) 1 _ (.int .u64) s.init rfl ?_ ⟨(Nat.zero_add _).symm, rfl, by decide⟩ .here (.drop 0 1 (.done ⟨rfl, rfl⟩))
    rw [List.drop_zero]
    refine List.take_of_length_le ?_
    have := flat_length (fun d => Sh.cells_length (.int .u64) d) s.init
    simp only [List.take_nil, List.nil_append]
    rw [this]
    show s.init.length * 1 ≤ (0 + s.init.length) * 1
    omega
  · refine LoadAt.mk 0 _ _ rfl rfl ?_
    refine LoadAt.mk 0 _ _ rfl rfl ?_
    refine callR [] (aRBottom12 s.what s.w _ hg.isL) ?_
    exact .drop 0 1 (.done ⟨by unfold startS; rw [c]; rfl, rfl⟩)
theorem aROut17 (s : Sy) (v : Nat) (x : List Int) (σ : Hp) (hf : Fit s) (hg : Good s) (hv : (v : Int) < s.n) (hx : Val s.what s.w x) : ACalls Tryz.prog 51 [.agg (sysC s), .int .i64 v, .fsl (.int .u64) x] σ (Ret (.fsl (.int .u64) (outS s x v)) σ) := by
  refine okF Tryz.func51 (by kernel_rfl) ?_
  intro bl1
  obtain ⟨hT, hTe⟩ := T_get hg hv
  have ht := hf.ts _ (List.getElem_mem hT)
  have hc := hg.trs _ (List.getElem_mem hT)
  have hl := val_short hx.v
  refine .quiet (by kernel_rfl) ?_
  refine LoadAt.mk 0 _ _ rfl rfl ?_
  refine LoadAt.mk 0 _ _ rfl rfl ?_
  refine With.mk rfl (IdxF.mk s.T[v] (by omega) (by rw [Int.toNat_natCast]; exact List.getElem?_eq_getElem hT) ?_)
  refine callQ [] (aRApply s.what s.T[v].1 s.T[v].2.1 s.T[v].2.2.1 x _ ht.1 ht.2.1 hx.w64 ht.2.2.1 ht.2.2.2.1 (by omega) (Nat.le_trans ht.2.2.2.2 (by decide)) (fun h3 => by rw [val_width hx.v h3]; exact (tr_flat hc h3).2.2)) ?_
  exact .drop 0 1 (.done ⟨by unfold outS; rw [hTe]; rfl, rfl⟩)
theorem aRBottom17 (s : Sy) (σ : Hp) (hg : Good s) : ACalls Tryz.prog 105 [.agg (sysC s)] σ (Ret (.fsl (.slice (.int .u64)) (bottomS s)) σ) := by
  refine okF Tryz.func105 (by kernel_rfl) ?_
  intro bl1
  obtain ⟨N, hN⟩ : ∃ N : Nat, s.n = N := ⟨s.n.toNat, by have := hg.n1; omega⟩
  have hN2 := hg.n2
  refine .wrap 3 _ rfl rfl ?_
  refine loopS (S := Nat × AV × Hp) (fun x => [(1, .ptr bl1 0), (3, .via x.2.1), (4, .int .i64 x.1)]) (fun x => (bl1, sysC s) :: (x.2.2 ++ σ)) (fun x => x.1 ≤ N ∧ Acc 1 x.1 x.2.1 x.2.2 (uuC (List.replicate x.1 (botL s.what s.w)))) (fun x => N - x.1) (0, .nils, []) ⟨⟨Nat.zero_le _, .nil⟩, ⟨rfl, rfl, rfl, trivial⟩, rfl⟩ ?_
  rintro ⟨k, v, acc⟩ g ⟨hk0, hacc0⟩
  have hk : k ≤ N := hk0
  have hacc : Acc 1 k v acc (uuC (List.replicate k (botL s.what s.w))) := hacc0
  clear hk0 hacc0
  refine LoadAt.mk 0 _ _ rfl rfl ?_
  refine bcond_dec (p := (k : Int) < s.n) (fun hlt => ?_) (fun hge => ?_)
  · have hlt : k < N := by omega
    refine LoadAt.mk 0 _ _ rfl rfl ?_
    refine LoadAt.mk 0 _ _ rfl rfl ?_
    refine callR [] (aRBottom12 s.what s.w _ hg.isL) ?_
    intro bl2
    refine append_acc [_, _] hacc (.mref 0 bl2 0 1 _ rfl (Nat.le_of_ble_eq_true rfl)) rfl (by omega) (by decide) (by decide) (fun v' acc' h' => ?_)
    refine nextS (k + 1, v', acc') (by show N - (k + 1) < N - k; omega) ⟨hlt, ?_⟩ ⟨rfl, rfl, inc64 (by omega), trivial⟩ (.drop 0 1 (shed_eq rfl))
    show Acc 1 (k + 1) v' acc' (uuC (List.replicate (k + 1) (botL s.what s.w)))
    rw [List.replicate_succ', uuC, List.map_append]
    exact h'
  · have hge : k = N := by omega
    subst hge
    refine fin_acc (s := .slice (.int .u64)) (l := bottomS s) [_] hacc ?_ ?_ (by decide) (.drop 0 1 (.done ⟨rfl, rfl⟩))
    · exact ((bottomS_length s).trans (by rw [hN]; omega)).symm
    · rw [← uuC_flat]; unfold bottomS; rw [hN, Int.toNat_natCast]
theorem aRStep17 (s : Sy) (a : List (List Int)) (σ : Hp) (hf : Fit s) (hg : Good s) (ha : Vals s a) : ACalls Tryz.prog 106 [.agg (sysC s), .fsl (.slice (.int .u64)) a] σ (Ret (.fsl (.slice (.int .u64)) (stepS s a)) σ) := by
  refine okF Tryz.func106 (by kernel_rfl) ?_
  intro bl1
  obtain ⟨N, hN⟩ : ∃ N : Nat, s.n = N := ⟨s.n.toNat, by have := hg.n1; omega⟩
  have hN2 := hg.n2
  have hel := hg.el
  have hva := ha.len
  refine .wrap 5 _ rfl rfl ?_
  refine loopS (S := Nat × AV × Hp) (fun x => [(1, .fsl (.slice (.int .u64)) a), (2, .ptr bl1 0), (5, .via x.2.1), (6, .int .i64 x.1)]) (fun x => (bl1, sysC s) :: (x.2.2 ++ σ)) (fun x => x.1 ≤ N ∧ Acc 1 x.1 x.2.1 x.2.2 (uuC ((List.range x.1).map (stepV s a s.edges.length)))) (fun x => N - x.1) (0, .nils, []) ⟨⟨Nat.zero_le _, .nil⟩, ⟨rfl, rfl, rfl, rfl, trivial⟩, rfl⟩ ?_
  rintro ⟨v, av, acc⟩ g ⟨hk0, hacc0⟩
  have hv : v ≤ N := hk0
  have hacc : Acc 1 v av acc (uuC ((List.range v).map (stepV s a s.edges.length))) := hacc0
  clear hk0 hacc0
  refine LoadAt.mk 0 _ _ rfl rfl ?_
  refine bcond_dec (p := (v : Int) < s.n) (fun hlt => ?_) (fun hge => ?_)
  · have hlt : v < N := by omega
    refine LoadAt.mk 0 _ _ rfl rfl ?_
    refine callR [] (aRStart17 s v _ hf hg) ?_
    refine LoadAt.mk 0 _ _ rfl rfl ?_
    refine loopS (S := Nat) (fun k => [(1, .fsl (.slice (.int .u64)) a), (2, .ptr bl1 0), (5, .via av), (6, .int .i64 v), (7, .fsl (.int .u64) (stepV s a k v)), (20, .fsl edgeSh s.edges), (21, .int .i64 s.edges.length), (22, .int .i64 k)]) (fun _ => (bl1, sysC s) :: (acc ++ σ)) (fun k => k ≤ s.edges.length) (fun k => s.edges.length - k) 0 ⟨Nat.zero_le _, ⟨rfl, rfl, rfl, rfl, rfl, rfl, rfl, rfl, trivial⟩, rfl⟩ ?_
    intro k t hk0
    have hk : k ≤ s.edges.length := hk0
    clear hk0
    refine bcond_dec (fun hlt2 => ?_) (fun hge2 => ?_)
    · have hlt2 : k < s.edges.length := by have hlt2 : (k : Int) < s.edges.length := hlt2; omega
      have he := hg.edge _ (List.getElem_mem hlt2)
      have hsu := stepV_succ s a hlt2 v
      have hV := stepV_Val hf hg ha v k hk
      obtain ⟨d, hd⟩ : ∃ d : EdgeT, s.edges[k] = d := ⟨_, rfl⟩
      rw [hd] at he hsu
      refine With.mk rfl (IdxF.mk d (by omega) ((get_some hlt2).trans (congrArg some hd)) ?_)
      intro bl2
      refine StoreAt.mk 0 _ _ rfl rfl ?_
      refine LoadAt.mk 0 _ _ rfl rfl ?_
      refine bcond_dec (p := d.2.1 = (v : Int)) (fun d1 => ?_) (fun d1 => ?_)
      · obtain ⟨i, hi⟩ : ∃ i : Nat, d.1 = i := ⟨d.1.toNat, by omega⟩
        have hil : i < a.length := by omega
        have hga : a.getD d.1.toNat [] = a[i] := by rw [hi, Int.toNat_natCast, List.getD_eq_getElem?_getD, List.getElem?_eq_getElem hil]; rfl
        have hxa := ha.val _ (List.getElem_mem hil)
        have ho := out_val hf hg hxa.w64 hxa.v (v := i) (by omega)
        have hO := fun σ => aROut17 s i a[i] σ hf hg (by omega) hxa
        have he2 : stepV s a (k + 1) v = join12 s.what (stepV s a k v) (outS s a[i] i) := by rw [hsu]; unfold joinE; rw [if_pos d1, hga, hi, Int.toNat_natCast]
        rw [← hi] at hO
        generalize outS s a[i] i = o at ho hO he2
        refine .quiet (by kernel_rfl) ?_
        refine LoadAt.mk 1 _ _ rfl rfl ?_
        refine LoadAt.mk 1 _ _ rfl rfl ?_
        refine LoadAt.mk 0 _ _ rfl rfl ?_
        refine LoadAt.mk 0 _ _ rfl rfl ?_
        refine With.mk rfl (IdxF.mk a[i] (by omega) (by rw [hi, Int.toNat_natCast]; exact List.getElem?_eq_getElem hil) ?_)
        refine callQ [] (hO _) ?_
        refine callQ [] (aRJoin12 s.what (stepV s a k v) o _ hV.w64 ho.2 (val_eqlen hV.v ho.1) (Nat.le_trans (val_short hV.v) (by decide))) ?_
        refine nextS (k + 1) (by show s.edges.length - (k + 1) < s.edges.length - k; omega) hlt2 ⟨rfl, rfl, rfl, rfl, ?_, rfl, rfl, inc64 (by omega), trivial⟩ (.drop 0 1 (.refl _))
        rw [he2]; rfl
      · have he2 : stepV s a (k + 1) v = stepV s a k v := by rw [hsu]; unfold joinE; rw [if_neg d1]
        refine nextS (k + 1) (by show s.edges.length - (k + 1) < s.edges.length - k; omega) hlt2 ⟨rfl, rfl, rfl, rfl, ?_, rfl, rfl, inc64 (by omega), trivial⟩ (.drop 0 1 (.refl _))
        rw [he2]; rfl
    · have hge2 : k = s.edges.length := by have hge2 : ¬ (k : Int) < s.edges.length := hge2; omega
      subst hge2
      intro bl2
      refine append_acc [_, _] hacc (.mref 0 bl2 0 1 _ rfl (Nat.le_of_ble_eq_true rfl)) rfl (by omega) (by decide) (by decide) (fun v' acc' h' => ?_)
      refine nextS (v + 1, v', acc') (by show N - (v + 1) < N - v; omega) ⟨hlt, ?_⟩ ⟨rfl, rfl, rfl, inc64 (by omega), trivial⟩ (.drop 0 1 (shed_eq rfl))
      show Acc 1 (v + 1) v' acc' (uuC ((List.range (v + 1)).map (stepV s a s.edges.length)))
      rw [List.range_succ, List.map_append, uuC, List.map_append]
      exact h'
  · have hge : v = N := by omega
    subst hge
    refine fin_acc (s := .slice (.int .u64)) (l := stepS s a) [_] hacc ?_ ?_ (by decide) (.drop 0 1 (.done ⟨rfl, rfl⟩))
    · exact ((stepK_length s a _).trans (by rw [hN]; omega)).symm
    · rw [← uuC_flat]; unfold stepS stepK; rw [hN, Int.toNat_natCast]
end Go.Proofs.YtggcpiddnhipiaaGreat
