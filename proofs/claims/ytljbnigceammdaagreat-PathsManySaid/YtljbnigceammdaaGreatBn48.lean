/-
  Hm: what the claim uses of them.
-/
import Derived.Test.YtljbnigceammdaaGreatBn47
namespace Go.Proofs.YtljbnigceammdaaGreat
open Go.RowKit
set_option maxRecDepth 100000
theorem way_app {s : Sy} {w : List Int} (b : Int) (h0 : 0 < w.length) (hw : wayB s w = true) (hb : b ∈ toS s.n s.edges (lastD w)) : wayB s (w ++ [b]) = true := by
  have hg : ∀ i, i < w.length → (w ++ [b]).getD i 0 = w.getD i 0 := fun i hi => by
    rw [List.getD_eq_getElem?_getD, List.getD_eq_getElem?_getD, List.getElem?_append_left hi]
  unfold wayB at hw ⊢
  simp only [Bool.and_eq_true, decide_eq_true_eq] at hw ⊢
  refine ⟨⟨by simp, by rw [hg 0 h0]; exact hw.1.2⟩, ?_⟩
  rw [len_app, chainB_succ, Bool.and_eq_true]
  refine ⟨?_, ?_⟩
  · have h2 := hw.2
    unfold chainB at h2 ⊢
    rw [List.all_eq_true] at h2 ⊢
    intro i hi
    have hi' := List.mem_range.1 hi
    rw [hg i hi', hg (i - 1) (by omega)]
    exact h2 i hi
  · rw [hg (w.length - 1) (by omega), Bool.or_eq_true, decide_eq_true_eq, decide_eq_true_eq]
    refine .inr ?_
    have e : (w ++ [b]).getD w.length 0 = b := by
      have := last_app w b
      unfold lastD at this
      rw [len_app, Nat.add_sub_cancel] at this
      exact this
    rw [e]; exact hb
theorem along_app (s : Sy) (w : List Int) (b : Int) (h0 : 0 < w.length) : alongS s (w ++ [b]) = outS s (alongS s w) (lastD w).toNat := by
  unfold alongS
  rw [len_app, Nat.add_sub_cancel]
  have e : alongK s (w ++ [b]) w.length = alongK s w w.length := by
    unfold alongK
    rw [List.take_append_of_le_length (Nat.le_refl _), List.getD_eq_getElem?_getD, List.getElem?_append_left h0, List.getD_eq_getElem?_getD]
  rw [e]
  obtain ⟨k, hk⟩ : ∃ k, w.length = k + 1 := ⟨w.length - 1, by omega⟩
  have := alongK_succ s w (k := k) (by omega)
  unfold lastD
  rw [hk, this, Nat.add_sub_cancel]
theorem grow_mem {s : Sy} {w x : List Int} : x ∈ growP s w ↔ ∃ b ∈ toS s.n s.edges (lastD w), x = w ++ [b] := by
  unfold growP
  rw [List.mem_map]
  exact ⟨fun ⟨b, h, e⟩ => ⟨b, h, e.symm⟩, fun ⟨b, h, e⟩ => ⟨b, h, e.symm⟩⟩
theorem long_way {s : Sy} (hn : 0 ≤ s.n) : ∀ (k : Nat) (w : List Int), w ∈ longP s k → wayB s w = true ∧ w.length = k + 1
  | 0, w, h => by
    obtain ⟨a, ha, rfl⟩ := List.mem_map.1 h
    have ha := List.mem_range.1 ha
    refine ⟨?_, rfl⟩
    unfold wayB
    simp only [Bool.and_eq_true, decide_eq_true_eq]
    exact ⟨⟨Nat.zero_lt_one, node_iff.2 ⟨by show 0 ≤ (a : Int); omega, by show (a : Int) < s.n; omega⟩⟩, ch_one ..⟩
  | k + 1, w, h => by
    obtain ⟨x, hx, hw⟩ := List.mem_flatMap.1 h
    obtain ⟨b, hb, rfl⟩ := grow_mem.1 hw
    obtain ⟨h1, h2⟩ := long_way hn k x hx
    exact ⟨way_app b (by omega) h1 hb, by rw [len_app, h2]⟩
theorem last_node {s : Sy} {w : List Int} (h : wayB s w = true) (h0 : 0 < w.length) : 0 ≤ lastD w ∧ lastD w < s.n := by
  unfold lastD; exact way_node h (by omega)
theorem alongS_Val {s : Sy} (hf : Fit s) (hg : Good s) {w : List Int} (hw : wayB s w = true) : Val s.what s.w (alongS s w) := along_Val hf hg hw _ (by omega)
/-- The ways to a node of at most m edges. -/
def allP (s : Sy) (v : Int) (m : Nat) : List (List Int) := (List.range (m + 1)).flatMap (toP s v)
theorem mem_allP {s : Sy} {v : Int} {m : Nat} {w : List Int} : w ∈ allP s v m ↔ ∃ k, k ≤ m ∧ w ∈ longP s k ∧ lastD w = v := by
  unfold allP
  rw [List.mem_flatMap]
  constructor
  · rintro ⟨k, hk, h⟩
    rw [toP_long, List.mem_filter] at h
    exact ⟨k, by have := List.mem_range.1 hk; omega, h.1, of_decide_eq_true h.2⟩
  · rintro ⟨k, hk, h, e⟩
    refine ⟨k, List.mem_range.2 (by omega), ?_⟩
    rw [toP_long, List.mem_filter]
    exact ⟨h, decide_eq_true e⟩
def meetS (s : Sy) (L : List (List Int)) : List Int := L.foldl (fun a w => join12 s.what a (alongS s w)) (botL s.what s.w)
/-- What so many Steps make of what is known from the beginning. -/
def valK (s : Sy) : Nat → List (List Int)
  | 0 => (List.range s.n.toNat).map fun v : Nat => startS s v
  | k + 1 => stepS s (valK s k)
theorem valK_zero (s : Sy) {v : Nat} (h : (v : Int) < s.n) : (valK s 0).getD v [] = startS s v := by
  show ((List.range s.n.toNat).map fun v : Nat => startS s v).getD v [] = _
  rw [List.getD_eq_getElem?_getD, List.getElem?_map, List.getElem?_range (by omega)]; rfl
theorem valK_Vals {s : Sy} (hf : Fit s) (hg : Good s) : ∀ k, Vals s (valK s k)
  | 0 => by
    have h1 := hg.n1
    refine ⟨by show ((((List.range s.n.toNat).map fun v : Nat => startS s v).length : Nat) : Int) = s.n; simp; omega, fun x hx => ?_⟩
    obtain ⟨v, _, rfl⟩ := List.mem_map.1 hx
    exact start_Val hf hg v
  | k + 1 => step_Vals hf hg (valK_Vals hf hg k)
theorem valK_rise {s : Sy} (hf : Fit s) (hg : Good s) : ∀ k, leA s (valK s k) (valK s (k + 1))
  | 0 => ⟨valK_Vals hf hg 0, valK_Vals hf hg 1, fun i hi => by
    rw [valK_zero s hi]
    show leV s.what s.w (startS s i) ((stepS s (valK s 0)).getD i [])
    rw [stepS_get s _ hi]
    exact (stepV_edge hf hg (valK_Vals hf hg 0) i _ (Nat.le_refl _)).1⟩
  | k + 1 => step_mono hf hg (valK_rise hf hg k)
theorem valK_mono {s : Sy} (hf : Fit s) (hg : Good s) {k m : Nat} (h : k ≤ m) {v : Nat} (hv : (v : Int) < s.n) : leV s.what s.w ((valK s k).getD v []) ((valK s m).getD v []) := by
  induction h with
  | refl => exact leV.refl ((valK_Vals hf hg k).get hv)
  | step _ ih => exact ih.trans ((valK_rise hf hg _).2.2 v hv)
theorem start_along (s : Sy) (v : Nat) : alongS s [(v : Int)] = startS s v := rfl
theorem along_up {s : Sy} (hf : Fit s) (hg : Good s) : ∀ (k : Nat) (w : List Int), w ∈ longP s k → leV s.what s.w (alongS s w) ((valK s k).getD (lastD w).toNat [])
  | 0, w, h => by
    obtain ⟨a, ha, rfl⟩ := List.mem_map.1 h
    have ha := List.mem_range.1 ha
    rw [start_along]
    show leV s.what s.w (startS s a) ((valK s 0).getD ((a : Int)).toNat [])
    rw [Int.toNat_natCast, valK_zero s (by omega)]
    exact leV.refl (start_Val hf hg a)
  | k + 1, w, h => by
    obtain ⟨x, hx, hw⟩ := List.mem_flatMap.1 h
    obtain ⟨b, hb, rfl⟩ := grow_mem.1 hw
    have ih := along_up hf hg k x hx
    have hn := hg.n1
    obtain ⟨h1, h2⟩ := long_way (by omega) k x hx
    have hl := last_node h1 (by omega)
    rw [along_app s x b (by omega), last_app]
    have h3 := out_mono hf hg ih (v := (lastD x).toNat) (by omega)
    obtain ⟨hb1, _, d, hd, hd1, hd2⟩ := mem_toS.1 hb
    refine h3.trans ?_
    show leV s.what s.w _ ((stepS s (valK s k)).getD b.toNat [])
    rw [stepS_get s _ (by omega)]
    have := (stepV_edge hf hg (valK_Vals hf hg k) b.toNat s.edges.length (Nat.le_refl _)).2 d (by rw [List.take_length]; exact hd) (by omega)
    rw [hd1] at this
    exact this
theorem fold_le {s : Sy} {c : List Int} : ∀ (L : List (List Int)) (acc : List Int), leV s.what s.w acc c → (∀ w ∈ L, leV s.what s.w (alongS s w) c) → leV s.what s.w (L.foldl (fun a w => join12 s.what a (alongS s w)) acc) c
  | [], _, h, _ => h
  | w :: L, _acc, h, hl => fold_le L _ (leV.join h (hl w (List.mem_cons_self ..))) fun x hx => hl x (List.mem_cons_of_mem _ hx)
theorem fold_ge {s : Sy} : ∀ (L : List (List Int)) (acc : List Int), Val s.what s.w acc → (∀ w ∈ L, Val s.what s.w (alongS s w)) → leV s.what s.w acc (L.foldl (fun a w => join12 s.what a (alongS s w)) acc) ∧ ∀ w ∈ L, leV s.what s.w (alongS s w) (L.foldl (fun a w => join12 s.what a (alongS s w)) acc)
  | [], _, h, _ => ⟨leV.refl h, fun w hw => by cases hw⟩
  | w :: L, acc, h, hl => by
    have hw := hl w (List.mem_cons_self ..)
    obtain ⟨h1, h2⟩ := fold_ge L _ (h.join hw) fun x hx => hl x (List.mem_cons_of_mem _ hx)
    refine ⟨(leV.left h hw).trans h1, fun x hx => ?_⟩
    rcases List.mem_cons.1 hx with rfl | hx
    · exact (leV.right h hw).trans h1
    · exact h2 x hx
theorem out_dist {s : Sy} (hf : Fit s) (hg : Good s) (h3 : ¬ s.what = 3) {x y : List Int} (hx : Val s.what s.w x) (hy : Val s.what s.w y) {u : Nat} (hu : (u : Int) < s.n) : outS s (join12 s.what x y) u = join12 s.what (outS s x u) (outS s y u) := by
  obtain ⟨h2, e⟩ := T_get hg hu
  unfold outS
  rw [e]
  have ho := hf.ts _ (List.getElem_mem h2)
  exact ((rises ho.1 ho.2.1 hx.w64 hy.w64 (hg.trs _ (List.getElem_mem h2)) hx.v hy.v).2.2 h3).symm
theorem fold_out {s : Sy} (hf : Fit s) (hg : Good s) (h3 : ¬ s.what = 3) {c : List Int} {u : Nat} (hu : (u : Int) < s.n) : ∀ (L : List (List Int)) (acc : List Int), Val s.what s.w acc → leV s.what s.w (outS s acc u) c → (∀ w ∈ L, Val s.what s.w (alongS s w) ∧ leV s.what s.w (outS s (alongS s w) u) c) → leV s.what s.w (outS s (L.foldl (fun a w => join12 s.what a (alongS s w)) acc) u) c
  | [], _, _, h, _ => h
  | w :: L, acc, hv, h, hl => by
    obtain ⟨hw, hwc⟩ := hl w (List.mem_cons_self ..)
    exact fold_out hf hg h3 hu L _ (hv.join hw) (by rw [out_dist hf hg h3 hv hw hu]; exact leV.join h hwc) fun x hx => hl x (List.mem_cons_of_mem _ hx)
theorem meet_out {s : Sy} (hf : Fit s) (hg : Good s) (h3 : ¬ s.what = 3) {c : List Int} {u : Nat} (hu : (u : Int) < s.n) {L : List (List Int)} (h0 : L ≠ []) (hl : ∀ w ∈ L, Val s.what s.w (alongS s w) ∧ leV s.what s.w (outS s (alongS s w) u) c) : leV s.what s.w (outS s (meetS s L) u) c := by
  cases L with
  | nil => exact absurd rfl h0
  | cons w L =>
    obtain ⟨hw, hwc⟩ := hl w (List.mem_cons_self ..)
    show leV s.what s.w (outS s (L.foldl (fun a w => join12 s.what a (alongS s w)) (join12 s.what (botL s.what s.w) (alongS s w))) u) c
    rw [(bot_le hw).2.2]
    exact fold_out hf hg h3 hu L _ hw hwc fun x hx => hl x (List.mem_cons_of_mem _ hx)
theorem stepV_most {s : Sy} {a : List (List Int)} {c : List Int} (v : Nat) (h1 : leV s.what s.w (startS s v) c) (h2 : ∀ e ∈ s.edges, e.2.1 = v → leV s.what s.w (outS s (a.getD e.1.toNat []) e.1.toNat) c) : ∀ k, k ≤ s.edges.length → leV s.what s.w (stepV s a k v) c
  | 0, _ => h1
  | k + 1, hk => by
    have ih := stepV_most v h1 h2 k (by omega)
    have hlt : k < s.edges.length := by omega
    rw [stepV_succ s a hlt]
    unfold joinE
    by_cases e : s.edges[k].2.1 = v
    · rw [if_pos e]; exact leV.join ih (h2 _ (List.getElem_mem hlt) e)
    · rw [if_neg e]; exact ih
theorem all_Val {s : Sy} (hf : Fit s) (hg : Good s) {v : Int} {m : Nat} {w : List Int} (h : w ∈ allP s v m) : Val s.what s.w (alongS s w) := by
  obtain ⟨k, _, h1, _⟩ := mem_allP.1 h
  have hn := hg.n1
  exact alongS_Val hf hg (long_way (by omega) k w h1).1
theorem botS_Val {s : Sy} (hf : Fit s) (hg : Good s) : Val s.what s.w (botL s.what s.w) := (bot_le (start_Val hf hg 0)).1
theorem start_all {s : Sy} {v : Nat} (hv : (v : Int) < s.n) (m : Nat) : [(v : Int)] ∈ allP s v m := mem_allP.2 ⟨0, Nat.zero_le _, List.mem_map.2 ⟨v, List.mem_range.2 (by omega), rfl⟩, rfl⟩
theorem meet_low {s : Sy} (hf : Fit s) (hg : Good s) (h3 : ¬ s.what = 3) : ∀ (m v : Nat), (v : Int) < s.n → leV s.what s.w ((valK s m).getD v []) (meetS s (allP s v m))
  | 0, v, hv => by
    rw [valK_zero s hv, ← start_along]
    exact (fold_ge _ _ (botS_Val hf hg) fun w hw => all_Val hf hg hw).2 _ (start_all hv 0)
  | m + 1, v, hv => by
    have hge := (fold_ge (s := s) (allP s v (m + 1)) _ (botS_Val hf hg) fun w hw => all_Val hf hg hw).2
    show leV s.what s.w ((stepS s (valK s m)).getD v []) _
    rw [stepS_get s _ hv]
    refine stepV_most v ?_ (fun e he hev => ?_) _ (Nat.le_refl _)
    · rw [← start_along]; exact hge _ (start_all hv _)
    · have hed := hg.edge _ he
      obtain ⟨u, hu⟩ : ∃ u : Nat, e.1 = u := ⟨e.1.toNat, by omega⟩
      have hun : (u : Int) < s.n := by omega
      have hvt : (v : Int) ∈ toS s.n s.edges u := mem_toS.2 ⟨by omega, by omega, e, he, hu, hev⟩
      rw [hu, Int.toNat_natCast]
      refine (out_mono hf hg (meet_low hf hg h3 m u hun) hun).trans ?_
      refine meet_out hf hg h3 hun (List.ne_nil_of_mem (start_all hun m)) fun w hw => ⟨all_Val hf hg hw, ?_⟩
      obtain ⟨k, hk, h1, h2⟩ := mem_allP.1 hw
      have hn := hg.n1
      have hl := (long_way (by omega) k w h1).2
      have e2 : outS s (alongS s w) u = alongS s (w ++ [(v : Int)]) := by rw [along_app s w v (by omega), h2, Int.toNat_natCast]
      rw [e2]
      refine hge _ (mem_allP.2 ⟨k + 1, by omega, List.mem_flatMap.2 ⟨w, h1, grow_mem.2 ⟨v, by rw [h2]; exact hvt, rfl⟩⟩, last_app _ _⟩)
/-- Of sets: what is known along all ways is what Steps make. -/
theorem meet_steps {s : Sy} (hf : Fit s) (hg : Good s) (h3 : ¬ s.what = 3) (m v : Nat) (hv : (v : Int) < s.n) : meetS s (allP s v m) = (valK s m).getD v [] := by
  refine leV.anti ?_ (meet_low hf hg h3 m v hv)
  refine fold_le _ _ (bot_le ((valK_Vals hf hg m).get hv)) fun w hw => ?_
  obtain ⟨k, hk, h1, h2⟩ := mem_allP.1 hw
  have := along_up hf hg k w h1
  rw [h2, Int.toNat_natCast] at this
  exact this.trans (valK_mono hf hg hk hv)
end Go.Proofs.YtljbnigceammdaaGreat
