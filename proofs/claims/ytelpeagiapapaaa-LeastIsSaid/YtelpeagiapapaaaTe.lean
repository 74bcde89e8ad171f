/-
  slices.Grow, Concat, Equal of codes; transfer.Then, Same; soughref16.Same, Then.
-/
import Derived.Test.YtelpeagiapapaaaTg
namespace Go.Proofs.Ytelpeagiapapaaa
open Go.RowKit
set_option maxRecDepth 100000
/-- Such a list is handed back. -/
theorem fin_accO {R : AV → Hp → Prop} (fr : Hp) {acc σ : Hp} {s : Sh} {k : Nat} {v : AV} {cs : List AV} {l : List s.T} (h : AccO s.size k v acc cs) (hl : k = l.length) (hc : cs = l.flatMap s.cells) (hp : 0 < s.size) (go : Fin R (.fsl s l) (fr ++ σ)) : Fin R v (fr ++ (acc ++ σ)) := by
  subst hl
  refine .perm (front_perm' fr acc σ) ?_
  generalize hk : l.length = k at h
  cases h with
  | nil =>
    obtain rfl := List.length_eq_zero_iff.1 hk
    exact .nil (.nil _) go
  | mref b off k cs all h h2 =>
    subst hk
    exact .frz 0 b off l.length s.size all s l rfl (by rw [h]; exact hc) ⟨rfl, rfl, hp⟩ .here go
theorem aGrowC (n : Nat) (σ : Hp) (hn : n ≤ 1000000) : ACalls Try.prog 90 [.nils, .int .i64 n] σ (fun r σ' => ∃ acc, AccO 8 0 r acc [] ∧ σ' = acc ++ σ) := by
  refine okF Try.func90 (by kernel_rfl) ?_
  refine bcond_dec (fun c1 => ?_) (fun c1 => ?_)
  · have c1 : 0 < IntKind.i64.wrap ((↑n : Int) - IntKind.i64.wrap (0 - 0)) := c1
    refine With.mk (by omega) ?_
    have e : IntKind.i64.wrap ((n : Int) - IntKind.i64.wrap (0 - 0)) = n := by
      rw [show IntKind.i64.wrap (0 - 0) = 0 from rfl, w64 (by omega)]; omega
    refine AppendZ.nils .i64 _ rfl rfl (by omega) (by decide) (by decide) (fun _ b => ?_) (fun h => absurd h (by omega))
    refine With.mk (by omega) ?_
    exact .done ⟨[(b, repC _ _)], .mref b 0 0 [] _ (by simp) (by omega), rfl⟩
  · have c1 : ¬ (0 < IntKind.i64.wrap ((↑n : Int) - IntKind.i64.wrap (0 - 0))) := c1
    exact .done ⟨[], .nil, rfl⟩
/-- What is handed back, held as a list's variable. -/
theorem acalls_via {f : FuncId} {xs : List AV} {σ : Hp} {R R' : AV → Hp → Prop} (h : ACalls Try.prog f xs σ R) (hv : ∀ r σ', R r σ' → r.leaf = true ∧ R' (.via r) σ') : ACalls Try.prog f xs σ R' :=
  ⟨h.1, fun F w vs hvs hσ => (h.2 F w vs hvs hσ).mono fun _ _ ⟨r, v, σ', F', h1, h2, h3, h4, h5⟩ => ⟨.via r, v, σ', F', h1, h2, h3, .via _ _ (hv r σ' h5).1 h4, (hv r σ' h5).2⟩⟩
theorem aGrowV (n : Nat) (σ : Hp) (hn : n ≤ 1000000) : ACalls Try.prog 90 [.nils, .int .i64 n] σ (fun r σ' => ∃ v acc, r = .via v ∧ AccO 8 0 v acc [] ∧ σ' = acc ++ σ) :=
  acalls_via (aGrowC n σ hn) fun r _ ⟨acc, h1, h2⟩ => ⟨by cases h1 <;> rfl, r, acc, rfl, h1, h2⟩
theorem take_flat {α : Type} {L : List (List α)} {s : Nat} (h : s < L.length) : (L.take (s + 1)).flatten.length = (L.take s).flatten.length + L[s].length ∧ (L.take (s + 1)).flatten.length ≤ L.flatten.length ∧ (L.take (s + 1)).flatten = (L.take s).flatten ++ L[s] := by
  have e : (L.take (s + 1)).flatten = (L.take s).flatten ++ L[s] := by
    rw [List.take_succ_eq_append_getElem h, List.flatten_append]; simp
  refine ⟨by rw [e, List.length_append], ?_, e⟩
  have h2 : L.flatten = (L.take (s + 1)).flatten ++ (L.drop (s + 1)).flatten := by rw [← List.flatten_append, List.take_append_drop]
  rw [h2, List.length_append]; omega
theorem aConcatC (L : List (List CodeT)) (σ : Hp) (hL : L.length ≤ 1000000) (hn : L.flatten.length ≤ 1000000) : ACalls Try.prog 51 [.fsl (.slice codeSh) L] σ (Ret (.fsl codeSh L.flatten) σ) := by
  refine okF Try.func51 (by kernel_rfl) ?_
  refine loopS (S := Nat) (fun s => [(0, .fsl (.slice codeSh) L), (3, .int .i64 (L.take s).flatten.length), (9, .fsl (.slice codeSh) L), (10, .int .i64 L.length), (11, .int .i64 s)]) (fun _ => σ) (fun s => s ≤ L.length) (fun s => L.length - s) 0 ⟨Nat.zero_le _, ⟨rfl, rfl, rfl, rfl, rfl, trivial⟩, rfl⟩ ?_
  intro s t hs0
  have hs : s ≤ L.length := hs0
  clear hs0
  refine bcond_dec (fun hlt => ?_) (fun hge => ?_)
  · have hlt : s < L.length := by have hlt : (s : Int) < L.length := hlt; omega
    refine With.mk rfl ?_
    refine IdxF.mk L[s] (by omega) (get_some hlt) ?_
    have hb := take_flat hlt
    have e : IntKind.i64.wrap (((L.take s).flatten.length : Int) + ((L[s] : List CodeT).length : Int)) = ((L.take (s + 1)).flatten.length : Int) := by rw [w64 (by omega)]; omega
    refine bcond_dec (fun c1 => ?_) (fun c1 => ?_)
    · have c1 : IntKind.i64.wrap (((L.take s).flatten.length : Int) + ((L[s] : List CodeT).length : Int)) < 0 := c1
      exact absurd c1 (by rw [e]; omega)
    · exact nextS (s + 1) (by show L.length - (s + 1) < L.length - s; omega) hlt ⟨rfl, av_int e, rfl, rfl, inc64 (by omega), trivial⟩ (.refl _)
  · have hge : s = L.length := by have hge : ¬ (s : Int) < L.length := hge; omega
    subst hge
    rw [List.take_length]
    refine .mk [] _ (aGrowV L.flatten.length _ hn) ?_
    rintro _ _ ⟨v, acc, rfl, hacc, rfl⟩
    refine loopS (S := Nat × AV × Hp) (fun s => [(6, .via s.2.1), (25, .fsl (.slice codeSh) L), (26, .int .i64 L.length), (27, .int .i64 s.1)]) (fun s => s.2.2 ++ σ) (fun s => s.1 ≤ L.length ∧ AccO 8 (L.take s.1).flatten.length s.2.1 s.2.2 ((L.take s.1).flatten.flatMap codeC)) (fun s => L.length - s.1) (0, v, acc) ⟨⟨Nat.zero_le _, hacc⟩, ⟨rfl, rfl, rfl, rfl, trivial⟩, rfl⟩ ?_
    rintro ⟨s, v, acc⟩ t ⟨hs0, hacc0⟩
    have hs : s ≤ L.length := hs0
    have hacc : AccO 8 (L.take s).flatten.length v acc ((L.take s).flatten.flatMap codeC) := hacc0
    clear hs0 hacc0
    refine bcond_dec (fun hlt => ?_) (fun hge => ?_)
    · have hlt : s < L.length := by have hlt : (s : Int) < L.length := hlt; omega
      refine With.mk rfl ?_
      refine IdxF.mk L[s] (by omega) (get_some hlt) ?_
      have hb := take_flat hlt
      have hb2 : (L.take s).flatten.length + (L[s] : List CodeT).length ≤ 1048576 := by omega
      refine append_accO [] hacc (.fsl codeSh L[s] rfl) (flat_length (fun d => Sh.cells_length codeSh d) _) (hb2 : (L.take s).flatten.length + (L[s] : List CodeT).length ≤ 1048576) (by decide) (by decide) (fun v' acc' h' => ?_)
      refine nextS (s + 1, v', acc') (by show L.length - (s + 1) < L.length - s; omega) ⟨hlt, ?_⟩ ⟨rfl, rfl, rfl, inc64 (by omega), trivial⟩ (.refl _)
      show AccO 8 (L.take (s + 1)).flatten.length v' acc' ((L.take (s + 1)).flatten.flatMap codeC)
      rw [hb.1, hb.2.2, List.flatMap_append]
      exact h'
    · have hge : s = L.length := by have hge : ¬ (s : Int) < L.length := hge; omega
      subst hge
      rw [List.take_length] at hacc
      exact fin_accO (s := codeSh) [] hacc rfl rfl (by decide) (.done ⟨rfl, rfl⟩)
instance instRefT : DecidableEq RefT := inferInstance
instance instCodeT : DecidableEq CodeT := inferInstance
theorem eq8 (x y : CodeT) : allB (eqAll (codeC x) (codeC y)) = decide (x = y) := by
  obtain ⟨a1, a2, ⟨a3, ⟨a4, a5, _⟩, _⟩, ⟨a6, ⟨a7, a8, _⟩, _⟩, _⟩ := x
  obtain ⟨b1, b2, ⟨b3, ⟨b4, b5, _⟩, _⟩, ⟨b6, ⟨b7, b8, _⟩, _⟩, _⟩ := y
  rw [Bool.eq_iff_iff]
  simp [allB, eqAll, leafEq, Prod.ext_iff, and_assoc]
theorem aEqualC (xs ys : List CodeT) (σ : Hp) (h1 : xs.length ≤ 1000000) : ACalls Try.prog 53 [.fsl codeSh xs, .fsl codeSh ys] σ (Ret (.bool (decide (xs = ys))) σ) := by
  refine okF Try.func53 (by kernel_rfl) ?_
  refine bcond_split (fun c1 => ?_) (fun c1 => ?_)
  · have c1 : (!decide ((↑xs.length : Int) = (↑ys.length : Int))) = true := c1
    have : xs ≠ ys := by rintro rfl; simp at c1
    exact .done ⟨av_bool (decide_eq_false this).symm, rfl⟩
  · have c1 : (!decide ((↑xs.length : Int) = (↑ys.length : Int))) = false := c1
    have hlen : xs.length = ys.length := by simp at c1; omega
    refine loopS (S := Nat) (fun k => [(0, .fsl codeSh xs), (1, .fsl codeSh ys), (12, .int .i64 xs.length), (13, .int .i64 k)]) (fun _ => σ) (fun k => k ≤ xs.length ∧ xs.take k = ys.take k) (fun k => xs.length - k) 0 ⟨⟨Nat.zero_le _, rfl⟩, ⟨rfl, rfl, rfl, rfl, trivial⟩, rfl⟩ ?_
    rintro k g ⟨hk0, htk0⟩
    have hk : k ≤ xs.length := hk0
    have htk : xs.take k = ys.take k := htk0
    clear hk0 htk0
    refine bcond_dec (fun hlt => ?_) (fun hge => ?_)
    · have hk' : k < xs.length := by have hlt : (k : Int) < xs.length := hlt; omega
      have hk'' : k < ys.length := by omega
      refine .quiet (by kernel_rfl) ?_
      refine With.mk rfl ?_
      refine IdxF.mk xs[k] (by omega) (get_some hk') ?_
      refine With.mk rfl ?_
      refine IdxF.mk ys[k] (by omega) (get_some hk'') ?_
      refine EqAt.mk (by kernel_rfl) (by kernel_rfl) ?_
      refine bcond_split (fun hx => ?_) (fun hx => ?_)
      · have hx : (!allB (eqAll (codeC xs[k]) (codeC ys[k]))) = true := hx
        have : xs ≠ ys := by rintro rfl; rw [eq8] at hx; simp at hx
        exact .done ⟨av_bool (decide_eq_false this).symm, rfl⟩
      · have hx : (!allB (eqAll (codeC xs[k]) (codeC ys[k]))) = false := hx
        rw [eq8] at hx
        have hx' : xs[k] = ys[k] := by simpa using hx
        refine nextS (k + 1) (by show xs.length - (k + 1) < xs.length - k; omega) ⟨hk', ?_⟩ ⟨rfl, rfl, rfl, inc64 (by omega), trivial⟩ (.refl _)
        rw [List.take_succ_eq_append_getElem hk', List.take_succ_eq_append_getElem hk'', htk, hx']
    · have hge : k = xs.length := by have hge : ¬ (k : Int) < xs.length := hge; omega
      subst hge
      have : xs = ys := by
        rw [List.take_length] at htk
        rw [htk, hlen, List.take_length]
      exact .done ⟨av_bool (decide_eq_true this).symm, rfl⟩
theorem frzT3 {b off len es : Nat} {e : Sh} {l : List e.T} {x1 x2 x3 y1 y2 y3 : AV} (h1 : FrzRel b off len es e l x1 y1) (h2 : FrzRel b off len es e l x2 y2) (h3 : FrzRel b off len es e l x3 y3) (l1 : y1.leaf = true) (l2 : y2.leaf = true) (l3 : y3.leaf = true) : FrzRel b off len es e l (.agg [x1, x2, x3]) (.agg [y1, y2, y3]) := by
  refine .agg _ _ rfl (fun i y hy => ?_) (fun i x y hx hy => ?_)
  · match i, hy with
    | 0, hy => cases hy; exact l1
    | 1, hy => cases hy; exact l2
    | 2, hy => cases hy; exact l3
    | i + 3, hy => cases hy
  · match i, hx, hy with
    | 0, hx, hy => cases hx; cases hy; exact h1
    | 1, hx, hy => cases hx; cases hy; exact h2
    | 2, hx, hy => cases hx; cases hy; exact h3
    | i + 3, hx, hy => cases hx
/-- Are transfers alike? -/
def sameT (g1 k1 : List Int) (l1 : List CodeT) (g2 k2 : List Int) (l2 : List CodeT) : Bool := decide (g1 = g2) && decide (k1 = k2) && decide (l1 = l2)
theorem aTSame (g1 k1 : List Int) (l1 : List CodeT) (g2 k2 : List Int) (l2 : List CodeT) (σ : Hp) (lg : g1.length ≤ 1000000) (lk : k1.length ≤ 1000000) (ll : l1.length ≤ 1000000) : ACalls Try.prog 17 [.agg (trC g1 k1 l1), .agg (trC g2 k2 l2)] σ (Ret (.bool (sameT g1 k1 l1 g2 k2 l2)) σ) := by
  refine okF Try.func17 (by kernel_rfl) ?_
  intro bl1
  intro bl2
  refine LoadAt.mk 1 _ _ rfl rfl ?_
  refine LoadAt.mk 0 _ _ rfl rfl ?_
  refine callB [] (aEqualU g1 g2 _ lg) (fun c1 => ?_) (fun c1 => ?_)
  · refine LoadAt.mk 1 _ _ rfl rfl ?_
    refine LoadAt.mk 0 _ _ rfl rfl ?_
    refine callB [] (aEqualU k1 k2 _ lk) (fun c2 => ?_) (fun c2 => ?_)
    · refine LoadAt.mk 1 _ _ rfl rfl ?_
      refine LoadAt.mk 0 _ _ rfl rfl ?_
      refine callB [] (aEqualC l1 l2 _ ll) (fun c3 => ?_) (fun c3 => ?_)
      · exact .drop 0 2 (.done ⟨av_bool (by unfold sameT; rw [c1, c2, c3]; rfl), rfl⟩)
      · exact .drop 0 2 (.done ⟨av_bool (by unfold sameT; rw [c1, c2, c3]; rfl), rfl⟩)
    · exact .drop 0 2 (.done ⟨av_bool (by unfold sameT; rw [c1, c2]; rfl), rfl⟩)
  · exact .drop 0 2 (.done ⟨av_bool (by unfold sameT; rw [c1]; rfl), rfl⟩)
theorem aRSame16 (g1 k1 : List Int) (l1 : List CodeT) (g2 k2 : List Int) (l2 : List CodeT) (σ : Hp) (lg : g1.length ≤ 1000000) (lk : k1.length ≤ 1000000) (ll : l1.length ≤ 1000000) : ACalls Try.prog 18 [.agg (trC g1 k1 l1), .agg (trC g2 k2 l2)] σ (Ret (.bool (sameT g1 k1 l1 g2 k2 l2)) σ) := by
  refine okF Try.func18 (by kernel_rfl) ?_
  intro bl1
  intro bl2
  refine LoadAt.mk 1 _ _ rfl rfl ?_
  refine LoadAt.mk 0 _ _ rfl rfl ?_
  refine bcond_split (fun c3 => ?_) (fun c3 => ?_)
  · have c3 : (!decide ((↑l1.length : Int) = (↑l2.length : Int))) = true := c3
    have : l1 ≠ l2 := by rintro rfl; simp at c3
    exact .drop 0 2 (.done ⟨av_bool (by unfold sameT; rw [decide_eq_false this, Bool.and_false]), rfl⟩)
  · have c3 : (!decide ((↑l1.length : Int) = (↑l2.length : Int))) = false := c3
    refine LoadAt.mk 1 _ _ rfl rfl ?_
    have hlen : l1.length = l2.length := by simp at c3; omega
    refine loopS (S := Nat) (fun k => [(2, .ptr bl1 0), (3, .ptr bl2 0), (15, .int .i64 l1.length), (16, .int .i64 k)]) (fun _ => (bl2, trC g2 k2 l2) :: (bl1, trC g1 k1 l1) :: σ) (fun k => k ≤ l1.length ∧ l1.take k = l2.take k) (fun k => l1.length - k) 0 ⟨⟨Nat.zero_le _, rfl⟩, ⟨rfl, rfl, rfl, rfl, trivial⟩, rfl⟩ ?_
    rintro k g ⟨hk0, htk0⟩
    have hk : k ≤ l1.length := hk0
    have htk : l1.take k = l2.take k := htk0
    clear hk0 htk0
    refine bcond_dec (fun hlt => ?_) (fun hge => ?_)
    · have hk' : k < l1.length := by have hlt : (k : Int) < l1.length := hlt; omega
      have hk'' : k < l2.length := by omega
      refine .quiet (by kernel_rfl) ?_
      refine LoadAt.mk 1 _ _ rfl rfl ?_
      refine With.mk rfl ?_
      refine IdxF.mk l1[k] (by omega) (get_some hk') ?_
      refine LoadAt.mk 0 _ _ rfl rfl ?_
      refine With.mk rfl ?_
      refine IdxF.mk l2[k] (by omega) (get_some hk'') ?_
      refine EqAt.mk (by kernel_rfl) (by kernel_rfl) ?_
      refine bcond_split (fun hx => ?_) (fun hx => ?_)
      · have hx : (!allB (eqAll (codeC l1[k]) (codeC l2[k]))) = true := hx
        have : l1 ≠ l2 := by rintro rfl; rw [eq8] at hx; simp at hx
        exact .drop 0 2 (.done ⟨av_bool (by unfold sameT; rw [decide_eq_false this, Bool.and_false]), rfl⟩)
      · have hx : (!allB (eqAll (codeC l1[k]) (codeC l2[k]))) = false := hx
        rw [eq8] at hx
        have hx' : l1[k] = l2[k] := by simpa using hx
        refine nextS (k + 1) (by show l1.length - (k + 1) < l1.length - k; omega) ⟨hk', ?_⟩ ⟨rfl, rfl, rfl, inc64 (by omega), trivial⟩ (.refl _)
        rw [List.take_succ_eq_append_getElem hk', List.take_succ_eq_append_getElem hk'', htk, hx']
    · have hge : k = l1.length := by have hge : ¬ (k : Int) < l1.length := hge; omega
      subst hge
      have hl : l1 = l2 := by
        rw [List.take_length] at htk
        rw [htk, hlen, List.take_length]
      refine LoadAt.mk 1 _ _ rfl rfl ?_
      refine LoadAt.mk 0 _ _ rfl rfl ?_
      refine callB [] (same10 g1 g2 _ lg) (fun c1 => ?_) (fun c1 => ?_)
      · refine LoadAt.mk 1 _ _ rfl rfl ?_
        refine LoadAt.mk 0 _ _ rfl rfl ?_
        refine callB [] (same10 k1 k2 _ lk) (fun c2 => ?_) (fun c2 => ?_)
        · exact .drop 0 2 (.done ⟨av_bool (by unfold sameT; rw [c1, c2, decide_eq_true hl]; rfl), rfl⟩)
        · exact .drop 0 2 (.done ⟨av_bool (by unfold sameT; rw [c1, c2]; rfl), rfl⟩)
      · exact .drop 0 2 (.done ⟨av_bool (by unfold sameT; rw [c1]; rfl), rfl⟩)
theorem aRThen (what : Int) (g1 k1 : List Int) (l1 : List CodeT) (g2 k2 : List Int) (l2 : List CodeT) (σ : Hp) (hg1 : A64 g1) (hk1 : A64 k1) (hg2 : A64 g2) (hk2 : A64 k2) (lg1 : g1.length ≤ 10000) (lk1 : k1.length ≤ 10000) (ll1 : l1.length ≤ 100000) (lg2 : g2.length ≤ 10000) (lk2 : k2.length ≤ 10000) (ll2 : l2.length ≤ 100000) : ACalls Try.prog 19 [.int .i64 what, .agg (trC g1 k1 l1), .agg (trC g2 k2 l2)] σ (Ret (.agg (trC (thG what g1 g2 k2) (thK what g1 k1 g2 k2) (thL what l1 l2))) σ) := by
  refine okF Try.func19 (by kernel_rfl) ?_
  intro bl1
  intro bl2
  intro bl3
  refine bcond_dec (fun c4 => ?_) (fun c4 => ?_)
  · have c4 : what = 3 := c4
    have hn1 : 0 + l1.length ≤ 1048576 := by omega
    have hn2 : 0 + l1.length + l2.length ≤ 1048576 := by omega
    have e1 : thG what g1 g2 k2 = [] := if_pos c4
    have e2 : thK what g1 k1 g2 k2 = [] := if_pos c4
    have e3 : thL what l1 l2 = l1 ++ l2 := if_pos c4
    rw [e1, e2, e3]
    have hll : (l1 ++ l2).length = 0 + l1.length + l2.length := by rw [List.length_append, Nat.zero_add]
    have hfl : (((l1.flatMap codeC).take ((0 + l1.length) * 8) ++ l2.flatMap codeC).drop 0).take ((0 + l1.length + l2.length) * 8) = (l1 ++ l2).flatMap codeC := by
      have q1 : (l1.flatMap codeC).length = l1.length * 8 := flat_length (fun d => Sh.cells_length codeSh d) l1
      have q2 : (l2.flatMap codeC).length = l2.length * 8 := flat_length (fun d => Sh.cells_length codeSh d) l2
      rw [List.drop_zero, List.take_of_length_le (l := l1.flatMap codeC) (by omega), List.flatMap_append]
      exact List.take_of_length_le (by rw [List.length_append, q1, q2]; omega)
    refine .each (by kernel_rfl) ?_
    repeat' first
      | refine And.intro ?_ ?_
      | refine LoadAt.mk 2 _ _ rfl rfl ?_
      | refine LoadAt.mk 3 _ _ rfl rfl ?_
      | refine LoadAt.mk 1 _ _ rfl rfl ?_
      | (refine AppendAt.more 0 _ 0 l1.length [] _ rfl rfl (Nat.le_of_ble_eq_true rfl) (.fsl codeSh l1 rfl) hn1 (by decide) (by decide) (fun b' => ?_))
      | (refine AppendAt.more 0 _ (0 + l1.length) l2.length (l1.flatMap codeC) _ rfl rfl (Nat.le_of_eq (by rw [Nat.zero_add]; exact (flat_length (fun d => Sh.cells_length codeSh d) l1).symm)) (.fsl codeSh l2 rfl) hn2 (by decide) (by decide) (fun b' => ?_))
      | intro b1
    all_goals
      refine StoreAt.mk 1 _ _ rfl rfl ?_
      refine LoadAt.mk 1 _ _ rfl rfl ?_
      refine .frz 0 _ 0 _ 8 _ codeSh (l1 ++ l2) rfl hfl ⟨hll, rfl, by decide⟩ (frzT3 (.refl _) (.refl _) .here rfl rfl rfl) ?_
      exact .nil (frzT3 (.nil _) (.nil _) (.refl _) rfl rfl rfl) (.drop 0 3 (.done ⟨rfl, rfl⟩))

  · have c4 : ¬ (what = 3) := c4
    refine .quiet (by kernel_rfl) ?_
    refine LoadAt.mk 2 _ _ rfl rfl ?_
    refine LoadAt.mk 1 _ _ rfl rfl ?_
    refine callQ [] (aBothR3 g1 k2 _ hg1 hk2 lg1 lk2) ?_
    refine LoadAt.mk 1 _ _ rfl rfl ?_
    have m1 : (bothW anW g1 k2).length ≤ 10000 := by rw [bothW_length]; omega
    refine callQ [] (aBothR1 (bothW anW g1 k2) g2 _ (minus_64 _ _) hg2 m1 lg2) ?_
    have m2 : (thenG g1 g2 k2).length ≤ 10000 := by unfold thenG; rw [bothW_length]; omega
    have m3 : (bothW orW k1 k2).length ≤ 10000 := by rw [bothW_length]; omega
    refine LoadAt.mk 2 _ _ rfl rfl ?_
    refine LoadAt.mk 1 _ _ rfl rfl ?_
    refine callR [] (aBothR1 k1 k2 _ hk1 hk2 lk1 lk2) ?_
    refine callR [] (aBothR3 (bothW orW k1 k2) (thenG g1 g2 k2) _ (or_64 _ _) (or_64 _ _) m3 m2) ?_
    refine StoreAt.mk 0 _ _ rfl rfl ?_
    refine LoadAt.mk 0 _ _ rfl rfl ?_
    have e1 : thG what g1 g2 k2 = thenG g1 g2 k2 := if_neg c4
    have e2 : thK what g1 k1 g2 k2 = thenK g1 k1 g2 k2 := if_neg c4
    have e3 : thL what l1 l2 = [] := if_neg c4
    rw [e1, e2, e3]
    exact .nil (frzT3 (.refl _) (.refl _) (.nil codeSh) rfl rfl rfl) (.drop 0 3 (.done ⟨rfl, rfl⟩))
/-- What is wrong with two transfers. -/
def thE (what w : Int) (g1 k1 : List Int) (l1 : List CodeT) (g2 k2 : List Int) (l2 : List CodeT) : Int := if checkT what w g1 k1 l1 = 0 then checkT what w g2 k2 l2 else checkT what w g1 k1 l1
def okC (e : Int) (l : List CodeT) : List CodeT := if e = 0 then l else []
theorem thE_1 {what w : Int} {g1 k1 g2 k2 : List Int} {l1 l2 : List CodeT} (h : ¬ checkT what w g1 k1 l1 = 0) : thE what w g1 k1 l1 g2 k2 l2 = checkT what w g1 k1 l1 := if_neg h
theorem thE_2 {what w : Int} {g1 k1 g2 k2 : List Int} {l1 l2 : List CodeT} (h : checkT what w g1 k1 l1 = 0) : thE what w g1 k1 l1 g2 k2 l2 = checkT what w g2 k2 l2 := if_pos h
/-- What Then tells. -/
def thV (e : Int) (g k : List Int) (l : List CodeT) : AV := .tup [.agg (trC (okL e g) (okL e k) (okC e l)), .int .i64 e]
theorem thV_bad {e e' : Int} (g k : List Int) (l : List CodeT) (h : e = e') (hn : ¬ e' = 0) : AV.tup [.agg (trC [] [] []), .int .i64 e'] = thV e g k l := by
  subst h; unfold thV okC; rw [okL_neg hn, okL_neg hn, if_neg hn]
theorem thV_ok {e : Int} {g k g' k' : List Int} {l l' : List CodeT} (h : e = 0) (hg : g = g') (hk : k = k') (hl : l = l') : AV.tup [.agg (trC g k l), .int .i64 0] = thV e g' k' l' := by
  subst h hg hk hl; rfl
theorem aTThen (what w : Int) (g1 k1 : List Int) (l1 : List CodeT) (g2 k2 : List Int) (l2 : List CodeT) (σ : Hp) (hg1 : A64 g1) (hk1 : A64 k1) (hg2 : A64 g2) (hk2 : A64 k2) (lg1 : g1.length ≤ 10000) (lk1 : k1.length ≤ 10000) (ll1 : l1.length ≤ 100000) (lg2 : g2.length ≤ 10000) (lk2 : k2.length ≤ 10000) (ll2 : l2.length ≤ 100000) : ACalls Try.prog 16 [.int .i64 what, .int .i64 w, .agg (trC g1 k1 l1), .agg (trC g2 k2 l2)] σ (Ret (thV (thE what w g1 k1 l1 g2 k2 l2) (thG what g1 g2 k2) (thK what g1 k1 g2 k2) (thL what l1 l2)) σ) := by
  refine okF Try.func16 (by kernel_rfl) ?_
  intro bl1
  intro bl2
  intro bl3
  refine LoadAt.mk 2 _ _ rfl rfl ?_
  refine LoadAt.mk 1 _ _ rfl rfl ?_
  intro bl4
  refine loopS (S := Nat) (fun s => [(0, .int .i64 what), (1, .int .i64 w), (6, .ptr bl1 0), (7, .ptr bl2 0), (8, .ptr bl3 0), (16, .mref bl4 0 2 3), (17, .int .i64 2), (18, .int .i64 s)]) (fun _ => (bl4, trC g1 k1 l1 ++ trC g2 k2 l2) :: (bl3, [.nils, .nils, .nils]) :: (bl2, trC g2 k2 l2) :: (bl1, trC g1 k1 l1) :: σ) (fun s => s ≤ 2 ∧ (1 ≤ s → checkT what w g1 k1 l1 = 0) ∧ (2 ≤ s → checkT what w g2 k2 l2 = 0)) (fun s => 2 - s) 0 ⟨⟨by omega, fun h => absurd h (by omega), fun h => absurd h (by omega)⟩, ⟨rfl, rfl, rfl, rfl, rfl, rfl, rfl, rfl, trivial⟩, rfl⟩ ?_
  rintro s t ⟨hs0, h10, h20⟩
  have hs : s ≤ 2 := hs0
  have h1 : 1 ≤ s → checkT what w g1 k1 l1 = 0 := h10
  have h2 : 2 ≤ s → checkT what w g2 k2 l2 = 0 := h20
  clear hs0 h10 h20
  match s, hs, h1, h2 with
  | 0, _, _, _ =>
    refine With.mk ⟨rfl, by omega, by omega⟩ ?_
    refine LoadAt.mk 0 _ _ rfl rfl ?_
    intro bl5
    refine StoreAt.mk 0 _ _ rfl rfl ?_
    refine LoadAt.mk 0 _ _ rfl rfl ?_
    refine callR [0] (aTCheck what w g1 k1 l1 _ hg1 hk1 lg1 lk1 (by omega)) ?_
    refine bcond_split (fun c1 => ?_) (fun c1 => ?_)
    · have c1 : ¬ (checkT what w g1 k1 l1 = 0) := by simpa using c1
      refine StoreAt.mk 2 _ _ rfl rfl ?_
      refine LoadAt.mk 2 _ _ rfl rfl ?_
      exact .nil (frz_cons (frzT3 (.nil _) (.nil _) (.nil codeSh) rfl rfl rfl) (.refl _)) (.drop 0 5 (.done ⟨thV_bad _ _ _ (thE_1 c1) c1, rfl⟩))
    · have c1 : checkT what w g1 k1 l1 = 0 := by simpa using c1
      exact nextS 1 (by decide) ⟨by decide, fun _ => c1, fun h => absurd h (by decide)⟩ ⟨rfl, rfl, rfl, rfl, rfl, rfl, rfl, rfl, trivial⟩ (.drop 0 1 (.refl _))
  | 1, _, h1, _ =>
    refine With.mk ⟨rfl, by omega, by omega⟩ ?_
    refine LoadAt.mk 0 _ _ rfl rfl ?_
    intro bl5
    refine StoreAt.mk 0 _ _ rfl rfl ?_
    refine LoadAt.mk 0 _ _ rfl rfl ?_
    refine callR [0] (aTCheck what w g2 k2 l2 _ hg2 hk2 lg2 lk2 (by omega)) ?_
    refine bcond_split (fun c1 => ?_) (fun c1 => ?_)
    · have c1 : ¬ (checkT what w g2 k2 l2 = 0) := by simpa using c1
      refine StoreAt.mk 2 _ _ rfl rfl ?_
      refine LoadAt.mk 2 _ _ rfl rfl ?_
      exact .nil (frz_cons (frzT3 (.nil _) (.nil _) (.nil codeSh) rfl rfl rfl) (.refl _)) (.drop 0 5 (.done ⟨thV_bad _ _ _ (thE_2 (h1 (by decide))) c1, rfl⟩))
    · have c1 : checkT what w g2 k2 l2 = 0 := by simpa using c1
      exact nextS 2 (by decide) ⟨by decide, fun _ => h1 (by decide), fun _ => c1⟩ ⟨rfl, rfl, rfl, rfl, rfl, rfl, rfl, rfl, trivial⟩ (.drop 0 1 (.refl _))
  | 2, _, h1, h2 =>
    refine bcond_dec (fun c1 => ?_) (fun c1 => ?_)
    · have c1 : what = 3 := c1
      refine LoadAt.mk 3 _ _ rfl rfl ?_
      refine LoadAt.mk 2 _ _ rfl rfl ?_
      intro bl2
      refine .frz (args' := [.fsl (.slice codeSh) [l1, l2]]) 0 bl2 0 2 1 _ (.slice codeSh) [l1, l2] rfl rfl ⟨rfl, rfl, by decide⟩ (frz_cons .here frz_nil) (callR [] (aConcatC [l1, l2] _ (by show 2 ≤ 1000000; omega) (by simp; omega)) ?_)
      refine StoreAt.mk 1 _ _ rfl rfl ?_
      refine LoadAt.mk 1 _ _ rfl rfl ?_
      have hz : thE what w g1 k1 l1 g2 k2 l2 = 0 := (thE_2 (h1 (by decide))).trans (h2 (by decide))
      refine .nil (frz_cons (frzT3 (.nil _) (.nil _) (.refl _) rfl rfl rfl) (.refl _)) (.drop 0 4 (.done ⟨thV_ok hz (if_pos c1).symm (if_pos c1).symm ?_, rfl⟩))
      rw [show thL what l1 l2 = l1 ++ l2 from if_pos c1]; simp
    · have c1 : ¬ (what = 3) := c1
      refine .quiet (by kernel_rfl) ?_
      refine LoadAt.mk 2 _ _ rfl rfl ?_
      refine LoadAt.mk 3 _ _ rfl rfl ?_
      refine LoadAt.mk 2 _ _ rfl rfl ?_
      have m2 : (thenG g1 g2 k2).length ≤ 10000 := by unfold thenG; rw [bothW_length, bothW_length]; omega
      have m1 : (bothW anW g1 k2).length ≤ 10000 := by rw [bothW_length]; omega
      have m3 : (bothW orW k1 k2).length ≤ 10000 := by rw [bothW_length]; omega
      refine callQ [] (aMinus g1 k2 _ (by omega) (by omega)) ?_
      refine callQ [] (aUnion g2 (bothW anW g1 k2) _ (by omega) (by omega)) ?_
      refine LoadAt.mk 3 _ _ rfl rfl ?_
      refine LoadAt.mk 2 _ _ rfl rfl ?_
      refine callR [] (aUnion k1 k2 _ (by omega) (by omega)) ?_
      have m4 : (bothW orW g2 (bothW anW g1 k2)).length ≤ 10000 := by rw [bothW_length, bothW_length]; omega
      refine callR [] (aMinus (bothW orW k1 k2) (bothW orW g2 (bothW anW g1 k2)) _ (by omega) (by omega)) ?_
      refine StoreAt.mk 1 _ _ rfl rfl ?_
      refine LoadAt.mk 1 _ _ rfl rfl ?_
      have hz : thE what w g1 k1 l1 g2 k2 l2 = 0 := (thE_2 (h1 (by decide))).trans (h2 (by decide))
      have hc : bothW orW g2 (bothW anW g1 k2) = thenG g1 g2 k2 := or_comm10 hg2 (minus_64 _ _)
      refine .nil (frz_cons (frzT3 (.refl _) (.refl _) (.nil codeSh) rfl rfl rfl) (.refl _)) (.drop 0 4 (.done ⟨thV_ok hz ?_ ?_ (if_neg c1).symm, rfl⟩))
      · exact hc.trans (if_neg c1).symm
      · exact (congrArg (bothW anW (bothW orW k1 k2)) hc).trans (if_neg c1).symm
  | s + 3, hs, _, _ => exact absurd hs (by omega)
end Go.Proofs.Ytelpeagiapapaaa
