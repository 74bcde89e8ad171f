/-
  Ld: what the claim uses of them.
-/
import Derived.Test.YtacacplipaeokaaBn41
namespace Go.Proofs.Ytacacplipaeokaa
open Go.RowKit
set_option maxRecDepth 100000
set_option maxHeartbeats 4000000
noncomputable def fitsB (ops : List OpR) (R : Int) (ord : List Int) : Bool := @decide (FitsP ops (mxR R) ord) (Classical.propDecidable _)
theorem fitsB_is {ops : List OpR} {R : Int} {ord : List Int} : fitsB ops R ord = true ↔ FitsP ops (mxR R) ord := by unfold fitsB; exact @decide_eq_true_iff _ (Classical.propDecidable _)
theorem fitsB_no {ops : List OpR} {R : Int} {ord : List Int} (h : ¬ FitsP ops (mxR R) ord) : AV.bool false = AV.bool (fitsB ops R ord) := by
  cases hb : fitsB ops R ord with
  | false => rfl
  | true => exact absurd (fitsB_is.1 hb) h
theorem fitsB_yes {ops : List OpR} {R : Int} {ord : List Int} (h : FitsP ops (mxR R) ord) : AV.bool true = AV.bool (fitsB ops R ord) := by rw [fitsB_is.2 h]
/-- So far an order fits. -/
structure PreF (ops : List OpR) (R : Int) (p now : List Int) : Prop where
  inn : ∀ i ∈ p, 0 ≤ i ∧ i < ops.length
  nodup : p.Nodup
  rep : replayP R ops [] p = some now
  pairs : p.Pairwise fun y z => aheadP (opAt ops z) (opAt ops y) = false
theorem PreF.none {ops : List OpR} {R : Int} : PreF ops R [] [] := ⟨fun _ h => absurd h (by simp), List.nodup_nil, rfl, List.Pairwise.nil⟩
theorem PreF.snoc {ops : List OpR} {R o : Int} {p now : List Int} (h : PreF ops R p now) (h1 : 0 ≤ o ∧ o < ops.length) (h2 : o ∉ p) (h3 : (doP R now (opAt ops o)).2 = true) (h4 : ∀ y ∈ p, aheadP (opAt ops o) (opAt ops y) = false) : PreF ops R (p ++ [o]) (doP R now (opAt ops o)).1 := by
  refine ⟨fun i hi => ?_, ?_, ?_, ?_⟩
  · rcases List.mem_append.1 hi with hi | hi
    · exact h.inn i hi
    · rw [List.mem_singleton.1 hi]; exact h1
  · refine List.nodup_append.2 ⟨h.nodup, by simp, fun a ha b hb e => ?_⟩
    rw [List.mem_singleton.1 hb] at e
    exact h2 (e ▸ ha)
  · rw [replay_app, h.rep]
    show (if _ then _ else _) = _
    rw [if_pos h3]; rfl
  · refine List.pairwise_append.2 ⟨h.pairs, by simp, fun a ha b hb => ?_⟩
    rw [List.mem_singleton.1 hb]
    exact h4 a ha
theorem FitsP.pre {ops : List OpR} {R : Int} {ord now : List Int} {k : Nat} (h : FitsP ops R ord) (hk : k < ord.length) (hn : replayP R ops [] (ord.take k) = some now) : (0 ≤ ord[k] ∧ ord[k] < ops.length) ∧ ord[k] ∉ ord.take k ∧ (doP R now (opAt ops ord[k])).2 = true ∧ ∀ y ∈ ord.take k, aheadP (opAt ops ord[k]) (opAt ops y) = false := by
  have e : ord = ord.take k ++ ord[k] :: ord.drop (k + 1) := by simp
  have hnd := h.nodup
  have hpw := h.pairs
  have hdo := h.does
  rw [e] at hnd hpw
  have hnd := List.nodup_append.1 hnd
  have hpw := List.pairwise_append.1 hpw
  refine ⟨h.inn _ (List.getElem_mem hk), fun hm => hnd.2.2 _ hm _ (List.mem_cons_self ..) rfl, ?_, fun y hy => hpw.2.2 y hy _ (List.mem_cons_self ..)⟩
  rw [e, replay_app, hn] at hdo
  cases hb : (doP R now (opAt ops ord[k])).2 with
  | true => rfl
  | false =>
    have hdo : (if (doP R now (opAt ops ord[k])).2 = true then replayP R ops (doP R now (opAt ops ord[k])).1 (ord.drop (k + 1)) else none).isSome = true := hdo
    rw [hb] at hdo
    cases hdo
theorem PreF.fits {ops : List OpR} {R : Int} {ord now : List Int} (h : PreF ops R ord now) (ha : ∀ j : Nat, j < ops.length → (j : Int) ∈ ord ∨ ¬ 0 < (opAt ops (j : Int)).en) : FitsP ops R ord := by
  refine ⟨h.inn, h.nodup, by rw [h.rep]; rfl, h.pairs, fun j o ho he => ?_⟩
  have hj : j < ops.length := by
    rcases Nat.lt_or_ge j ops.length with h | h
    · exact h
    · rw [List.getElem?_eq_none h] at ho; cases ho
  rcases ha j hj with h | h
  · exact h
  · rw [op_at ho] at h
    exact absurd he h
theorem cut_len (l : List Int) (a b : Nat) : (List.take a (List.drop b l)).length ≤ l.length := by simp; omega
theorem cut_eq (l : List Int) (k : Nat) : List.take ((k : Int).toNat - (0 : Int).toNat) (List.drop (0 : Int).toNat l) = l.take k := by simp
def cutL (l : List Int) (k : Nat) : List Int := List.take ((k : Int).toNat - (0 : Int).toNat) (List.drop (0 : Int).toNat l)
theorem cutL_eq (l : List Int) (k : Nat) : cutL l k = l.take k := cut_eq l k
theorem cutL_len (l : List Int) (k : Nat) : (cutL l k).length ≤ l.length := cut_len l _ _
theorem ah_succ {o : OpR} {ops : List OpR} {l : List Int} {y : Nat} (hy : y < l.length) (h : ∀ z ∈ l.take y, aheadP o (opAt ops z) = false) (d : aheadP o (opAt ops l[y]) = false) : ∀ z ∈ l.take (y + 1), aheadP o (opAt ops z) = false := by
  rw [List.take_succ_eq_append_getElem hy]
  intro z hz
  rcases List.mem_append.1 hz with hz | hz
  · exact h z hz
  · rw [List.mem_singleton.1 hz]; exact d
theorem all_succ {P : Nat → Prop} {m : Nat} (h : ∀ j : Nat, j < m → P j) (d : P m) : ∀ j : Nat, j < m + 1 → P j := fun j hj => by
  rcases Nat.lt_succ_iff_lt_or_eq.1 hj with h2 | h2
  · exact h j h2
  · rw [h2]; exact d
theorem op_some {ops : List OpR} {m : Nat} (h : m < ops.length) : ops[m]? = some (opAt ops (m : Int)) := by
  rw [List.getElem?_eq_getElem h, op_at (List.getElem?_eq_getElem h)]
theorem aFits (ops : List OpR) (R : Int) (ord : List Int) (σ : Hp) (hl : ord.length ≤ 100000) (ho : ops.length ≤ 100000) : ACalls Try.prog 70 [.fsl opSh (ops.map opT), .int .i64 R, .fsl (.int .i64) ord] σ (Ret (.bool (fitsB ops R ord)) σ) := by
  refine okF Try.func70 (by kernel_rfl) ?_
  refine loopS (S := Nat × AV × Hp × Hp × List Int) (fun x => [(0, .fsl opSh (ops.map opT)), (1, .int .i64 (mxR R)), (2, .fsl (.int .i64) ord), (7, x.2.1), (17, .fsl (.int .i64) ord), (18, .int .i64 ord.length), (19, .int .i64 x.1)]) (fun x => x.2.2.1 ++ (x.2.2.2.1 ++ σ)) (fun x => x.1 ≤ ord.length ∧ AccO 1 x.2.2.2.2.length x.2.1 x.2.2.1 (inC x.2.2.2.2) ∧ PreF ops (mxR R) (ord.take x.1) x.2.2.2.2 ∧ x.2.2.2.2.length ≤ x.1) (fun x => ord.length - x.1) (0, .nils, [], [], []) ⟨⟨Nat.zero_le _, .nil, PreF.none, Nat.le_refl _⟩, ⟨rfl, rfl, rfl, rfl, rfl, rfl, rfl, trivial⟩, rfl⟩ ?_
  rintro ⟨k, v, acc, G, now⟩ g ⟨hk, hacc, hpre, hnow⟩
  have hk : k ≤ ord.length := hk
  have hacc : AccO 1 now.length v acc (inC now) := hacc
  have hpre : PreF ops (mxR R) (ord.take k) now := hpre
  have hnow : now.length ≤ k := hnow
  refine bcond_dec (fun hlt => ?_) (fun hge => ?_)
  · have hlt : (k : Int) < ord.length := hlt
    have hkl : k < ord.length := by omega
    have hno := fun (h : ¬ _) => fitsB_no (R := R) (fun hf => h (hf.pre hkl hpre.rep))
    have hlen := doP_len (mxR R) now (opAt ops ord[k])
    refine With.mk rfl (IdxF.mk ord[k] (by omega) (get_some hkl) ?_)
    refine bcond_dec (fun c1 => ?_) (fun c1 => ?_)
    · have c1 : ord[k] < 0 := c1
      exact fin_frontP acc (fin_frontP G (.done ⟨hno fun h => by have := h.1; omega, rfl⟩))
    · have c1 : ¬ ord[k] < 0 := c1
      refine bcond_dec (fun c2 => ?_) (fun c2 => ?_)
      · have c2 : ((ops.map opT).length : Int) ≤ ord[k] := c2
        rw [List.length_map] at c2
        exact fin_frontP acc (fin_frontP G (.done ⟨hno fun h => by have := h.1; omega, rfl⟩))
      · have c2 : ¬ ((ops.map opT).length : Int) ≤ ord[k] := c2
        rw [List.length_map] at c2
        refine With.mk ⟨by omega, by omega, (show (k : Int) ≤ (ord.length : Int) by omega), rfl⟩ ?_
        refine callB [] (aContL (List.take ((k : Int).toNat - (0 : Int).toNat) (List.drop (0 : Int).toNat ord)) ord[k] _ (Nat.le_trans (cut_len ord _ _) (by omega))) (fun c3 => ?_) (fun c3 => ?_)
        · rw [cut_eq] at c3
          exact fin_frontP acc (fin_frontP G (.done ⟨hno fun h => h.2.1 (of_decide_eq_true c3), rfl⟩))
        · rw [cut_eq] at c3
          have c3 := of_decide_eq_false c3
          rcases accO_val hacc with ⟨rfl, rfl, hn0⟩ | ⟨b1, off1, all1, rfl, rfl⟩
          · refine .each (by kernel_rfl) ?_
            refine With.mk rfl (IdxF.mk (opT (opAt ops ord[k])) (by omega) (op_get (by omega) (by omega)) ?_)
            refine And.intro ?_ ?_
            · refine .mk [] _ (aCloneO hacc _ (fun _ h => List.mem_append_left _ h) (by omega)) ?_
              rintro x _ ⟨acc2, hx, rfl⟩
              rcases accO_val hx with ⟨rfl, rfl, hx0⟩ | ⟨b2, off2, all2, rfl, rfl⟩
              · try refine With.mk rfl (IdxF.mk (opT (opAt ops ord[k])) (by omega) (op_get (by omega) (by omega)) ?_)
                refine .perm _ (.refl _) (aDoO (mxR R) (opAt ops ord[k]) now (.nils) [] hx (by omega) ([] ++ (G ++ σ))) ?_
                rintro _ _ ⟨v2, acc3, rfl, h3, rfl⟩
                refine ⟨acc3 ++ (([] ++ G) ++ σ), by rw [List.append_assoc []], ?_⟩
                rcases accO_val h3 with ⟨rfl, rfl, h0⟩ | ⟨b4, off4, all4, rfl, rfl⟩
                · refine bcond_split (fun c => ?_) (fun c => ?_)
                  · have c : (!(doP (mxR R) now (opAt ops ord[k])).2) = true := c
                    have c : (doP (mxR R) now (opAt ops ord[k])).2 = false := by simpa using c
                    exact fin_frontP ([]) (fin_frontP ([] ++ G) (.done ⟨hno fun h => by (have := h.2.2.1; rw [c] at this; cases this), rfl⟩))
                  · have c : (!(doP (mxR R) now (opAt ops ord[k])).2) = false := c
                    have c : (doP (mxR R) now (opAt ops ord[k])).2 = true := by simpa using c
                    refine With.mk ⟨by omega, by omega, (show (k : Int) ≤ (ord.length : Int) by omega), rfl⟩ ?_
                    refine loopS (S := Nat) (fun y => [(0, .fsl opSh (ops.map opT)), (1, .int .i64 (mxR R)), (2, .fsl (.int .i64) ord), (7, .nils), (9, .int .i64 ord[k]), (17, .fsl (.int .i64) ord), (18, .int .i64 ord.length), (19, .int .i64 k), (54, .fsl (.int .i64) (cutL ord k)), (55, .int .i64 (cutL ord k).length), (56, .int .i64 y)]) (fun _ => [] ++ (([] ++ G) ++ σ)) (fun y => y ≤ (cutL ord k).length ∧ ∀ z ∈ (cutL ord k).take y, aheadP (opAt ops ord[k]) (opAt ops z) = false) (fun y => (cutL ord k).length - y) 0 ⟨⟨Nat.zero_le _, fun z h => absurd h (by simp)⟩, ⟨rfl, rfl, rfl, rfl, rfl, rfl, rfl, rfl, rfl, rfl, rfl, trivial⟩, rfl⟩ ?_
                    rintro y g2 ⟨hy, hah⟩
                    have hy : y ≤ (cutL ord k).length := hy
                    have hah : ∀ z ∈ (cutL ord k).take y, aheadP (opAt ops ord[k]) (opAt ops z) = false := hah
                    refine bcond_dec (fun hl2 => ?_) (fun hg2 => ?_)
                    · have hl2 : (y : Int) < (cutL ord k).length := hl2
                      have hyl : y < (cutL ord k).length := by omega
                      have hzm : (cutL ord k)[y] ∈ ord.take k := by rw [← cutL_eq]; exact List.getElem_mem hyl
                      have hzr := hpre.inn _ hzm
                      have hkr : 0 ≤ ord[k] ∧ ord[k] < ops.length := ⟨by omega, by omega⟩
                      refine With.mk rfl (IdxF.mk (cutL ord k)[y] (by omega) (get_some hyl) ?_)
                      refine .quiet (by kernel_rfl) ?_
                      refine With.mk rfl ?_
                      refine IdxF.mk (opT (opAt ops ord[k])) hkr.1 (op_get hkr.1 hkr.2) ?_
                      refine With.mk rfl ?_
                      refine IdxF.mk (opT (opAt ops (cutL ord k)[y])) hzr.1 (op_get hzr.1 hzr.2) ?_
                      refine callQ [] (aAheadL (opAt ops ord[k]) (opAt ops (cutL ord k)[y]) _) ?_
                      refine bcond_split (fun d => ?_) (fun d => ?_)
                      · have d : aheadP (opAt ops ord[k]) (opAt ops (cutL ord k)[y]) = true := d
                        exact fin_frontP ([]) (fin_frontP ([] ++ G) (.done ⟨hno fun h => by (have := h.2.2.2 _ hzm; rw [d] at this; cases this), rfl⟩))
                      · have d : aheadP (opAt ops ord[k]) (opAt ops (cutL ord k)[y]) = false := d
                        exact nextS (y + 1) (by show (cutL ord k).length - (y + 1) < (cutL ord k).length - y; omega) ⟨hyl, ah_succ hyl hah d⟩ ⟨rfl, rfl, rfl, rfl, rfl, rfl, rfl, rfl, rfl, rfl, inc64 (by have := cutL_len ord k; omega), trivial⟩ (.refl _)
                    · have hg2 : ¬ (y : Int) < (cutL ord k).length := hg2
                      have hah : ∀ z ∈ ord.take k, aheadP (opAt ops ord[k]) (opAt ops z) = false := by rw [List.take_of_length_le (by omega), cutL_eq] at hah; exact hah
                      exact nextS (k + 1, .nils, [], [] ++ G, (doP (mxR R) now (opAt ops ord[k])).1) (by show ord.length - (k + 1) < ord.length - k; omega) ⟨hkl, h3, by show PreF ops (mxR R) (ord.take (k + 1)) _; rw [List.take_succ_eq_append_getElem hkl]; exact hpre.snoc ⟨by omega, by omega⟩ c3 c hah, by show (doP (mxR R) now (opAt ops ord[k])).1.length ≤ k + 1; omega⟩ ⟨rfl, rfl, rfl, rfl, rfl, rfl, inc64 (by omega), trivial⟩ (.refl _)
                · refine bcond_split (fun c => ?_) (fun c => ?_)
                  · have c : (!(doP (mxR R) now (opAt ops ord[k])).2) = true := c
                    have c : (doP (mxR R) now (opAt ops ord[k])).2 = false := by simpa using c
                    exact fin_frontP ([(b4, all4)]) (fin_frontP ([] ++ G) (.done ⟨hno fun h => by (have := h.2.2.1; rw [c] at this; cases this), rfl⟩))
                  · have c : (!(doP (mxR R) now (opAt ops ord[k])).2) = false := c
                    have c : (doP (mxR R) now (opAt ops ord[k])).2 = true := by simpa using c
                    refine With.mk ⟨by omega, by omega, (show (k : Int) ≤ (ord.length : Int) by omega), rfl⟩ ?_
                    refine loopS (S := Nat) (fun y => [(0, .fsl opSh (ops.map opT)), (1, .int .i64 (mxR R)), (2, .fsl (.int .i64) ord), (7, .mref b4 off4 (doP (mxR R) now (opAt ops ord[k])).1.length 1), (9, .int .i64 ord[k]), (17, .fsl (.int .i64) ord), (18, .int .i64 ord.length), (19, .int .i64 k), (54, .fsl (.int .i64) (cutL ord k)), (55, .int .i64 (cutL ord k).length), (56, .int .i64 y)]) (fun _ => [(b4, all4)] ++ (([] ++ G) ++ σ)) (fun y => y ≤ (cutL ord k).length ∧ ∀ z ∈ (cutL ord k).take y, aheadP (opAt ops ord[k]) (opAt ops z) = false) (fun y => (cutL ord k).length - y) 0 ⟨⟨Nat.zero_le _, fun z h => absurd h (by simp)⟩, ⟨rfl, rfl, rfl, rfl, rfl, rfl, rfl, rfl, rfl, rfl, rfl, trivial⟩, rfl⟩ ?_
                    rintro y g2 ⟨hy, hah⟩
                    have hy : y ≤ (cutL ord k).length := hy
                    have hah : ∀ z ∈ (cutL ord k).take y, aheadP (opAt ops ord[k]) (opAt ops z) = false := hah
                    refine bcond_dec (fun hl2 => ?_) (fun hg2 => ?_)
                    · have hl2 : (y : Int) < (cutL ord k).length := hl2
                      have hyl : y < (cutL ord k).length := by omega
                      have hzm : (cutL ord k)[y] ∈ ord.take k := by rw [← cutL_eq]; exact List.getElem_mem hyl
                      have hzr := hpre.inn _ hzm
                      have hkr : 0 ≤ ord[k] ∧ ord[k] < ops.length := ⟨by omega, by omega⟩
                      refine With.mk rfl (IdxF.mk (cutL ord k)[y] (by omega) (get_some hyl) ?_)
                      refine .quiet (by kernel_rfl) ?_
                      refine With.mk rfl ?_
                      refine IdxF.mk (opT (opAt ops ord[k])) hkr.1 (op_get hkr.1 hkr.2) ?_
                      refine With.mk rfl ?_
                      refine IdxF.mk (opT (opAt ops (cutL ord k)[y])) hzr.1 (op_get hzr.1 hzr.2) ?_
                      refine callQ [] (aAheadL (opAt ops ord[k]) (opAt ops (cutL ord k)[y]) _) ?_
                      refine bcond_split (fun d => ?_) (fun d => ?_)
                      · have d : aheadP (opAt ops ord[k]) (opAt ops (cutL ord k)[y]) = true := d
                        exact fin_frontP ([(b4, all4)]) (fin_frontP ([] ++ G) (.done ⟨hno fun h => by (have := h.2.2.2 _ hzm; rw [d] at this; cases this), rfl⟩))
                      · have d : aheadP (opAt ops ord[k]) (opAt ops (cutL ord k)[y]) = false := d
                        exact nextS (y + 1) (by show (cutL ord k).length - (y + 1) < (cutL ord k).length - y; omega) ⟨hyl, ah_succ hyl hah d⟩ ⟨rfl, rfl, rfl, rfl, rfl, rfl, rfl, rfl, rfl, rfl, inc64 (by have := cutL_len ord k; omega), trivial⟩ (.refl _)
                    · have hg2 : ¬ (y : Int) < (cutL ord k).length := hg2
                      have hah : ∀ z ∈ ord.take k, aheadP (opAt ops ord[k]) (opAt ops z) = false := by rw [List.take_of_length_le (by omega), cutL_eq] at hah; exact hah
                      exact nextS (k + 1, .mref b4 off4 (doP (mxR R) now (opAt ops ord[k])).1.length 1, [(b4, all4)], [] ++ G, (doP (mxR R) now (opAt ops ord[k])).1) (by show ord.length - (k + 1) < ord.length - k; omega) ⟨hkl, h3, by show PreF ops (mxR R) (ord.take (k + 1)) _; rw [List.take_succ_eq_append_getElem hkl]; exact hpre.snoc ⟨by omega, by omega⟩ c3 c hah, by show (doP (mxR R) now (opAt ops ord[k])).1.length ≤ k + 1; omega⟩ ⟨rfl, rfl, rfl, rfl, rfl, rfl, inc64 (by omega), trivial⟩ (.refl _)
              · try refine With.mk rfl (IdxF.mk (opT (opAt ops ord[k])) (by omega) (op_get (by omega) (by omega)) ?_)
                refine .perm _ (.refl _) (aDoO (mxR R) (opAt ops ord[k]) now (.mref b2 off2 now.length 1) [(b2, all2)] hx (by omega) ([] ++ (G ++ σ))) ?_
                rintro _ _ ⟨v2, acc3, rfl, h3, rfl⟩
                refine ⟨acc3 ++ (([] ++ G) ++ σ), by rw [List.append_assoc []], ?_⟩
                rcases accO_val h3 with ⟨rfl, rfl, h0⟩ | ⟨b4, off4, all4, rfl, rfl⟩
                · refine bcond_split (fun c => ?_) (fun c => ?_)
                  · have c : (!(doP (mxR R) now (opAt ops ord[k])).2) = true := c
                    have c : (doP (mxR R) now (opAt ops ord[k])).2 = false := by simpa using c
                    exact fin_frontP ([]) (fin_frontP ([] ++ G) (.done ⟨hno fun h => by (have := h.2.2.1; rw [c] at this; cases this), rfl⟩))
                  · have c : (!(doP (mxR R) now (opAt ops ord[k])).2) = false := c
                    have c : (doP (mxR R) now (opAt ops ord[k])).2 = true := by simpa using c
                    refine With.mk ⟨by omega, by omega, (show (k : Int) ≤ (ord.length : Int) by omega), rfl⟩ ?_
                    refine loopS (S := Nat) (fun y => [(0, .fsl opSh (ops.map opT)), (1, .int .i64 (mxR R)), (2, .fsl (.int .i64) ord), (7, .nils), (9, .int .i64 ord[k]), (17, .fsl (.int .i64) ord), (18, .int .i64 ord.length), (19, .int .i64 k), (54, .fsl (.int .i64) (cutL ord k)), (55, .int .i64 (cutL ord k).length), (56, .int .i64 y)]) (fun _ => [] ++ (([] ++ G) ++ σ)) (fun y => y ≤ (cutL ord k).length ∧ ∀ z ∈ (cutL ord k).take y, aheadP (opAt ops ord[k]) (opAt ops z) = false) (fun y => (cutL ord k).length - y) 0 ⟨⟨Nat.zero_le _, fun z h => absurd h (by simp)⟩, ⟨rfl, rfl, rfl, rfl, rfl, rfl, rfl, rfl, rfl, rfl, rfl, trivial⟩, rfl⟩ ?_
                    rintro y g2 ⟨hy, hah⟩
                    have hy : y ≤ (cutL ord k).length := hy
                    have hah : ∀ z ∈ (cutL ord k).take y, aheadP (opAt ops ord[k]) (opAt ops z) = false := hah
                    refine bcond_dec (fun hl2 => ?_) (fun hg2 => ?_)
                    · have hl2 : (y : Int) < (cutL ord k).length := hl2
                      have hyl : y < (cutL ord k).length := by omega
                      have hzm : (cutL ord k)[y] ∈ ord.take k := by rw [← cutL_eq]; exact List.getElem_mem hyl
                      have hzr := hpre.inn _ hzm
                      have hkr : 0 ≤ ord[k] ∧ ord[k] < ops.length := ⟨by omega, by omega⟩
                      refine With.mk rfl (IdxF.mk (cutL ord k)[y] (by omega) (get_some hyl) ?_)
                      refine .quiet (by kernel_rfl) ?_
                      refine With.mk rfl ?_
                      refine IdxF.mk (opT (opAt ops ord[k])) hkr.1 (op_get hkr.1 hkr.2) ?_
                      refine With.mk rfl ?_
                      refine IdxF.mk (opT (opAt ops (cutL ord k)[y])) hzr.1 (op_get hzr.1 hzr.2) ?_
                      refine callQ [] (aAheadL (opAt ops ord[k]) (opAt ops (cutL ord k)[y]) _) ?_
                      refine bcond_split (fun d => ?_) (fun d => ?_)
                      · have d : aheadP (opAt ops ord[k]) (opAt ops (cutL ord k)[y]) = true := d
                        exact fin_frontP ([]) (fin_frontP ([] ++ G) (.done ⟨hno fun h => by (have := h.2.2.2 _ hzm; rw [d] at this; cases this), rfl⟩))
                      · have d : aheadP (opAt ops ord[k]) (opAt ops (cutL ord k)[y]) = false := d
                        exact nextS (y + 1) (by show (cutL ord k).length - (y + 1) < (cutL ord k).length - y; omega) ⟨hyl, ah_succ hyl hah d⟩ ⟨rfl, rfl, rfl, rfl, rfl, rfl, rfl, rfl, rfl, rfl, inc64 (by have := cutL_len ord k; omega), trivial⟩ (.refl _)
                    · have hg2 : ¬ (y : Int) < (cutL ord k).length := hg2
                      have hah : ∀ z ∈ ord.take k, aheadP (opAt ops ord[k]) (opAt ops z) = false := by rw [List.take_of_length_le (by omega), cutL_eq] at hah; exact hah
                      exact nextS (k + 1, .nils, [], [] ++ G, (doP (mxR R) now (opAt ops ord[k])).1) (by show ord.length - (k + 1) < ord.length - k; omega) ⟨hkl, h3, by show PreF ops (mxR R) (ord.take (k + 1)) _; rw [List.take_succ_eq_append_getElem hkl]; exact hpre.snoc ⟨by omega, by omega⟩ c3 c hah, by show (doP (mxR R) now (opAt ops ord[k])).1.length ≤ k + 1; omega⟩ ⟨rfl, rfl, rfl, rfl, rfl, rfl, inc64 (by omega), trivial⟩ (.refl _)
                · refine bcond_split (fun c => ?_) (fun c => ?_)
                  · have c : (!(doP (mxR R) now (opAt ops ord[k])).2) = true := c
                    have c : (doP (mxR R) now (opAt ops ord[k])).2 = false := by simpa using c
                    exact fin_frontP ([(b4, all4)]) (fin_frontP ([] ++ G) (.done ⟨hno fun h => by (have := h.2.2.1; rw [c] at this; cases this), rfl⟩))
                  · have c : (!(doP (mxR R) now (opAt ops ord[k])).2) = false := c
                    have c : (doP (mxR R) now (opAt ops ord[k])).2 = true := by simpa using c
                    refine With.mk ⟨by omega, by omega, (show (k : Int) ≤ (ord.length : Int) by omega), rfl⟩ ?_
                    refine loopS (S := Nat) (fun y => [(0, .fsl opSh (ops.map opT)), (1, .int .i64 (mxR R)), (2, .fsl (.int .i64) ord), (7, .mref b4 off4 (doP (mxR R) now (opAt ops ord[k])).1.length 1), (9, .int .i64 ord[k]), (17, .fsl (.int .i64) ord), (18, .int .i64 ord.length), (19, .int .i64 k), (54, .fsl (.int .i64) (cutL ord k)), (55, .int .i64 (cutL ord k).length), (56, .int .i64 y)]) (fun _ => [(b4, all4)] ++ (([] ++ G) ++ σ)) (fun y => y ≤ (cutL ord k).length ∧ ∀ z ∈ (cutL ord k).take y, aheadP (opAt ops ord[k]) (opAt ops z) = false) (fun y => (cutL ord k).length - y) 0 ⟨⟨Nat.zero_le _, fun z h => absurd h (by simp)⟩, ⟨rfl, rfl, rfl, rfl, rfl, rfl, rfl, rfl, rfl, rfl, rfl, trivial⟩, rfl⟩ ?_
                    rintro y g2 ⟨hy, hah⟩
                    have hy : y ≤ (cutL ord k).length := hy
                    have hah : ∀ z ∈ (cutL ord k).take y, aheadP (opAt ops ord[k]) (opAt ops z) = false := hah
                    refine bcond_dec (fun hl2 => ?_) (fun hg2 => ?_)
                    · have hl2 : (y : Int) < (cutL ord k).length := hl2
                      have hyl : y < (cutL ord k).length := by omega
                      have hzm : (cutL ord k)[y] ∈ ord.take k := by rw [← cutL_eq]; exact List.getElem_mem hyl
                      have hzr := hpre.inn _ hzm
                      have hkr : 0 ≤ ord[k] ∧ ord[k] < ops.length := ⟨by omega, by omega⟩
                      refine With.mk rfl (IdxF.mk (cutL ord k)[y] (by omega) (get_some hyl) ?_)
                      refine .quiet (by kernel_rfl) ?_
                      refine With.mk rfl ?_
                      refine IdxF.mk (opT (opAt ops ord[k])) hkr.1 (op_get hkr.1 hkr.2) ?_
                      refine With.mk rfl ?_
                      refine IdxF.mk (opT (opAt ops (cutL ord k)[y])) hzr.1 (op_get hzr.1 hzr.2) ?_
                      refine callQ [] (aAheadL (opAt ops ord[k]) (opAt ops (cutL ord k)[y]) _) ?_
                      refine bcond_split (fun d => ?_) (fun d => ?_)
                      · have d : aheadP (opAt ops ord[k]) (opAt ops (cutL ord k)[y]) = true := d
                        exact fin_frontP ([(b4, all4)]) (fin_frontP ([] ++ G) (.done ⟨hno fun h => by (have := h.2.2.2 _ hzm; rw [d] at this; cases this), rfl⟩))
                      · have d : aheadP (opAt ops ord[k]) (opAt ops (cutL ord k)[y]) = false := d
                        exact nextS (y + 1) (by show (cutL ord k).length - (y + 1) < (cutL ord k).length - y; omega) ⟨hyl, ah_succ hyl hah d⟩ ⟨rfl, rfl, rfl, rfl, rfl, rfl, rfl, rfl, rfl, rfl, inc64 (by have := cutL_len ord k; omega), trivial⟩ (.refl _)
                    · have hg2 : ¬ (y : Int) < (cutL ord k).length := hg2
                      have hah : ∀ z ∈ ord.take k, aheadP (opAt ops ord[k]) (opAt ops z) = false := by rw [List.take_of_length_le (by omega), cutL_eq] at hah; exact hah
                      exact nextS (k + 1, .mref b4 off4 (doP (mxR R) now (opAt ops ord[k])).1.length 1, [(b4, all4)], [] ++ G, (doP (mxR R) now (opAt ops ord[k])).1) (by show ord.length - (k + 1) < ord.length - k; omega) ⟨hkl, h3, by show PreF ops (mxR R) (ord.take (k + 1)) _; rw [List.take_succ_eq_append_getElem hkl]; exact hpre.snoc ⟨by omega, by omega⟩ c3 c hah, by show (doP (mxR R) now (opAt ops ord[k])).1.length ≤ k + 1; omega⟩ ⟨rfl, rfl, rfl, rfl, rfl, rfl, inc64 (by omega), trivial⟩ (.refl _)
            · refine .mk [] _ (aCloneO hacc _ (fun _ h => List.mem_append_left _ h) (by omega)) ?_
              rintro x _ ⟨acc2, hx, rfl⟩
              rcases accO_val hx with ⟨rfl, rfl, hx0⟩ | ⟨b2, off2, all2, rfl, rfl⟩
              · try refine With.mk rfl (IdxF.mk (opT (opAt ops ord[k])) (by omega) (op_get (by omega) (by omega)) ?_)
                refine .perm _ (.refl _) (aDoO (mxR R) (opAt ops ord[k]) now (.nils) [] hx (by omega) ([] ++ (G ++ σ))) ?_
                rintro _ _ ⟨v2, acc3, rfl, h3, rfl⟩
                refine ⟨acc3 ++ (([] ++ G) ++ σ), by rw [List.append_assoc []], ?_⟩
                rcases accO_val h3 with ⟨rfl, rfl, h0⟩ | ⟨b4, off4, all4, rfl, rfl⟩
                · refine bcond_split (fun c => ?_) (fun c => ?_)
                  · have c : (!(doP (mxR R) now (opAt ops ord[k])).2) = true := c
                    have c : (doP (mxR R) now (opAt ops ord[k])).2 = false := by simpa using c
                    exact fin_frontP ([]) (fin_frontP ([] ++ G) (.done ⟨hno fun h => by (have := h.2.2.1; rw [c] at this; cases this), rfl⟩))
                  · have c : (!(doP (mxR R) now (opAt ops ord[k])).2) = false := c
                    have c : (doP (mxR R) now (opAt ops ord[k])).2 = true := by simpa using c
                    refine With.mk ⟨by omega, by omega, (show (k : Int) ≤ (ord.length : Int) by omega), rfl⟩ ?_
                    refine loopS (S := Nat) (fun y => [(0, .fsl opSh (ops.map opT)), (1, .int .i64 (mxR R)), (2, .fsl (.int .i64) ord), (7, .nils), (9, .int .i64 ord[k]), (17, .fsl (.int .i64) ord), (18, .int .i64 ord.length), (19, .int .i64 k), (54, .fsl (.int .i64) (cutL ord k)), (55, .int .i64 (cutL ord k).length), (56, .int .i64 y)]) (fun _ => [] ++ (([] ++ G) ++ σ)) (fun y => y ≤ (cutL ord k).length ∧ ∀ z ∈ (cutL ord k).take y, aheadP (opAt ops ord[k]) (opAt ops z) = false) (fun y => (cutL ord k).length - y) 0 ⟨⟨Nat.zero_le _, fun z h => absurd h (by simp)⟩, ⟨rfl, rfl, rfl, rfl, rfl, rfl, rfl, rfl, rfl, rfl, rfl, trivial⟩, rfl⟩ ?_
                    rintro y g2 ⟨hy, hah⟩
                    have hy : y ≤ (cutL ord k).length := hy
                    have hah : ∀ z ∈ (cutL ord k).take y, aheadP (opAt ops ord[k]) (opAt ops z) = false := hah
                    refine bcond_dec (fun hl2 => ?_) (fun hg2 => ?_)
                    · have hl2 : (y : Int) < (cutL ord k).length := hl2
                      have hyl : y < (cutL ord k).length := by omega
                      have hzm : (cutL ord k)[y] ∈ ord.take k := by rw [← cutL_eq]; exact List.getElem_mem hyl
                      have hzr := hpre.inn _ hzm
                      have hkr : 0 ≤ ord[k] ∧ ord[k] < ops.length := ⟨by omega, by omega⟩
                      refine With.mk rfl (IdxF.mk (cutL ord k)[y] (by omega) (get_some hyl) ?_)
                      refine .quiet (by kernel_rfl) ?_
                      refine With.mk rfl ?_
                      refine IdxF.mk (opT (opAt ops ord[k])) hkr.1 (op_get hkr.1 hkr.2) ?_
                      refine With.mk rfl ?_
                      refine IdxF.mk (opT (opAt ops (cutL ord k)[y])) hzr.1 (op_get hzr.1 hzr.2) ?_
                      refine callQ [] (aAheadL (opAt ops ord[k]) (opAt ops (cutL ord k)[y]) _) ?_
                      refine bcond_split (fun d => ?_) (fun d => ?_)
                      · have d : aheadP (opAt ops ord[k]) (opAt ops (cutL ord k)[y]) = true := d
                        exact fin_frontP ([]) (fin_frontP ([] ++ G) (.done ⟨hno fun h => by (have := h.2.2.2 _ hzm; rw [d] at this; cases this), rfl⟩))
                      · have d : aheadP (opAt ops ord[k]) (opAt ops (cutL ord k)[y]) = false := d
                        exact nextS (y + 1) (by show (cutL ord k).length - (y + 1) < (cutL ord k).length - y; omega) ⟨hyl, ah_succ hyl hah d⟩ ⟨rfl, rfl, rfl, rfl, rfl, rfl, rfl, rfl, rfl, rfl, inc64 (by have := cutL_len ord k; omega), trivial⟩ (.refl _)
                    · have hg2 : ¬ (y : Int) < (cutL ord k).length := hg2
                      have hah : ∀ z ∈ ord.take k, aheadP (opAt ops ord[k]) (opAt ops z) = false := by rw [List.take_of_length_le (by omega), cutL_eq] at hah; exact hah
                      exact nextS (k + 1, .nils, [], [] ++ G, (doP (mxR R) now (opAt ops ord[k])).1) (by show ord.length - (k + 1) < ord.length - k; omega) ⟨hkl, h3, by show PreF ops (mxR R) (ord.take (k + 1)) _; rw [List.take_succ_eq_append_getElem hkl]; exact hpre.snoc ⟨by omega, by omega⟩ c3 c hah, by show (doP (mxR R) now (opAt ops ord[k])).1.length ≤ k + 1; omega⟩ ⟨rfl, rfl, rfl, rfl, rfl, rfl, inc64 (by omega), trivial⟩ (.refl _)
                · refine bcond_split (fun c => ?_) (fun c => ?_)
                  · have c : (!(doP (mxR R) now (opAt ops ord[k])).2) = true := c
                    have c : (doP (mxR R) now (opAt ops ord[k])).2 = false := by simpa using c
                    exact fin_frontP ([(b4, all4)]) (fin_frontP ([] ++ G) (.done ⟨hno fun h => by (have := h.2.2.1; rw [c] at this; cases this), rfl⟩))
                  · have c : (!(doP (mxR R) now (opAt ops ord[k])).2) = false := c
                    have c : (doP (mxR R) now (opAt ops ord[k])).2 = true := by simpa using c
                    refine With.mk ⟨by omega, by omega, (show (k : Int) ≤ (ord.length : Int) by omega), rfl⟩ ?_
                    refine loopS (S := Nat) (fun y => [(0, .fsl opSh (ops.map opT)), (1, .int .i64 (mxR R)), (2, .fsl (.int .i64) ord), (7, .mref b4 off4 (doP (mxR R) now (opAt ops ord[k])).1.length 1), (9, .int .i64 ord[k]), (17, .fsl (.int .i64) ord), (18, .int .i64 ord.length), (19, .int .i64 k), (54, .fsl (.int .i64) (cutL ord k)), (55, .int .i64 (cutL ord k).length), (56, .int .i64 y)]) (fun _ => [(b4, all4)] ++ (([] ++ G) ++ σ)) (fun y => y ≤ (cutL ord k).length ∧ ∀ z ∈ (cutL ord k).take y, aheadP (opAt ops ord[k]) (opAt ops z) = false) (fun y => (cutL ord k).length - y) 0 ⟨⟨Nat.zero_le _, fun z h => absurd h (by simp)⟩, ⟨rfl, rfl, rfl, rfl, rfl, rfl, rfl, rfl, rfl, rfl, rfl, trivial⟩, rfl⟩ ?_
                    rintro y g2 ⟨hy, hah⟩
                    have hy : y ≤ (cutL ord k).length := hy
                    have hah : ∀ z ∈ (cutL ord k).take y, aheadP (opAt ops ord[k]) (opAt ops z) = false := hah
                    refine bcond_dec (fun hl2 => ?_) (fun hg2 => ?_)
                    · have hl2 : (y : Int) < (cutL ord k).length := hl2
                      have hyl : y < (cutL ord k).length := by omega
                      have hzm : (cutL ord k)[y] ∈ ord.take k := by rw [← cutL_eq]; exact List.getElem_mem hyl
                      have hzr := hpre.inn _ hzm
                      have hkr : 0 ≤ ord[k] ∧ ord[k] < ops.length := ⟨by omega, by omega⟩
                      refine With.mk rfl (IdxF.mk (cutL ord k)[y] (by omega) (get_some hyl) ?_)
                      refine .quiet (by kernel_rfl) ?_
                      refine With.mk rfl ?_
                      refine IdxF.mk (opT (opAt ops ord[k])) hkr.1 (op_get hkr.1 hkr.2) ?_
                      refine With.mk rfl ?_
                      refine IdxF.mk (opT (opAt ops (cutL ord k)[y])) hzr.1 (op_get hzr.1 hzr.2) ?_
                      refine callQ [] (aAheadL (opAt ops ord[k]) (opAt ops (cutL ord k)[y]) _) ?_
                      refine bcond_split (fun d => ?_) (fun d => ?_)
                      · have d : aheadP (opAt ops ord[k]) (opAt ops (cutL ord k)[y]) = true := d
                        exact fin_frontP ([(b4, all4)]) (fin_frontP ([] ++ G) (.done ⟨hno fun h => by (have := h.2.2.2 _ hzm; rw [d] at this; cases this), rfl⟩))
                      · have d : aheadP (opAt ops ord[k]) (opAt ops (cutL ord k)[y]) = false := d
                        exact nextS (y + 1) (by show (cutL ord k).length - (y + 1) < (cutL ord k).length - y; omega) ⟨hyl, ah_succ hyl hah d⟩ ⟨rfl, rfl, rfl, rfl, rfl, rfl, rfl, rfl, rfl, rfl, inc64 (by have := cutL_len ord k; omega), trivial⟩ (.refl _)
                    · have hg2 : ¬ (y : Int) < (cutL ord k).length := hg2
                      have hah : ∀ z ∈ ord.take k, aheadP (opAt ops ord[k]) (opAt ops z) = false := by rw [List.take_of_length_le (by omega), cutL_eq] at hah; exact hah
                      exact nextS (k + 1, .mref b4 off4 (doP (mxR R) now (opAt ops ord[k])).1.length 1, [(b4, all4)], [] ++ G, (doP (mxR R) now (opAt ops ord[k])).1) (by show ord.length - (k + 1) < ord.length - k; omega) ⟨hkl, h3, by show PreF ops (mxR R) (ord.take (k + 1)) _; rw [List.take_succ_eq_append_getElem hkl]; exact hpre.snoc ⟨by omega, by omega⟩ c3 c hah, by show (doP (mxR R) now (opAt ops ord[k])).1.length ≤ k + 1; omega⟩ ⟨rfl, rfl, rfl, rfl, rfl, rfl, inc64 (by omega), trivial⟩ (.refl _)
              · try refine With.mk rfl (IdxF.mk (opT (opAt ops ord[k])) (by omega) (op_get (by omega) (by omega)) ?_)
                refine .perm _ (.refl _) (aDoO (mxR R) (opAt ops ord[k]) now (.mref b2 off2 now.length 1) [(b2, all2)] hx (by omega) ([] ++ (G ++ σ))) ?_
                rintro _ _ ⟨v2, acc3, rfl, h3, rfl⟩
                refine ⟨acc3 ++ (([] ++ G) ++ σ), by rw [List.append_assoc []], ?_⟩
                rcases accO_val h3 with ⟨rfl, rfl, h0⟩ | ⟨b4, off4, all4, rfl, rfl⟩
                · refine bcond_split (fun c => ?_) (fun c => ?_)
                  · have c : (!(doP (mxR R) now (opAt ops ord[k])).2) = true := c
                    have c : (doP (mxR R) now (opAt ops ord[k])).2 = false := by simpa using c
                    exact fin_frontP ([]) (fin_frontP ([] ++ G) (.done ⟨hno fun h => by (have := h.2.2.1; rw [c] at this; cases this), rfl⟩))
                  · have c : (!(doP (mxR R) now (opAt ops ord[k])).2) = false := c
                    have c : (doP (mxR R) now (opAt ops ord[k])).2 = true := by simpa using c
                    refine With.mk ⟨by omega, by omega, (show (k : Int) ≤ (ord.length : Int) by omega), rfl⟩ ?_
                    refine loopS (S := Nat) (fun y => [(0, .fsl opSh (ops.map opT)), (1, .int .i64 (mxR R)), (2, .fsl (.int .i64) ord), (7, .nils), (9, .int .i64 ord[k]), (17, .fsl (.int .i64) ord), (18, .int .i64 ord.length), (19, .int .i64 k), (54, .fsl (.int .i64) (cutL ord k)), (55, .int .i64 (cutL ord k).length), (56, .int .i64 y)]) (fun _ => [] ++ (([] ++ G) ++ σ)) (fun y => y ≤ (cutL ord k).length ∧ ∀ z ∈ (cutL ord k).take y, aheadP (opAt ops ord[k]) (opAt ops z) = false) (fun y => (cutL ord k).length - y) 0 ⟨⟨Nat.zero_le _, fun z h => absurd h (by simp)⟩, ⟨rfl, rfl, rfl, rfl, rfl, rfl, rfl, rfl, rfl, rfl, rfl, trivial⟩, rfl⟩ ?_
                    rintro y g2 ⟨hy, hah⟩
                    have hy : y ≤ (cutL ord k).length := hy
                    have hah : ∀ z ∈ (cutL ord k).take y, aheadP (opAt ops ord[k]) (opAt ops z) = false := hah
                    refine bcond_dec (fun hl2 => ?_) (fun hg2 => ?_)
                    · have hl2 : (y : Int) < (cutL ord k).length := hl2
                      have hyl : y < (cutL ord k).length := by omega
                      have hzm : (cutL ord k)[y] ∈ ord.take k := by rw [← cutL_eq]; exact List.getElem_mem hyl
                      have hzr := hpre.inn _ hzm
                      have hkr : 0 ≤ ord[k] ∧ ord[k] < ops.length := ⟨by omega, by omega⟩
                      refine With.mk rfl (IdxF.mk (cutL ord k)[y] (by omega) (get_some hyl) ?_)
                      refine .quiet (by kernel_rfl) ?_
                      refine With.mk rfl ?_
                      refine IdxF.mk (opT (opAt ops ord[k])) hkr.1 (op_get hkr.1 hkr.2) ?_
                      refine With.mk rfl ?_
                      refine IdxF.mk (opT (opAt ops (cutL ord k)[y])) hzr.1 (op_get hzr.1 hzr.2) ?_
                      refine callQ [] (aAheadL (opAt ops ord[k]) (opAt ops (cutL ord k)[y]) _) ?_
                      refine bcond_split (fun d => ?_) (fun d => ?_)
                      · have d : aheadP (opAt ops ord[k]) (opAt ops (cutL ord k)[y]) = true := d
                        exact fin_frontP ([]) (fin_frontP ([] ++ G) (.done ⟨hno fun h => by (have := h.2.2.2 _ hzm; rw [d] at this; cases this), rfl⟩))
                      · have d : aheadP (opAt ops ord[k]) (opAt ops (cutL ord k)[y]) = false := d
                        exact nextS (y + 1) (by show (cutL ord k).length - (y + 1) < (cutL ord k).length - y; omega) ⟨hyl, ah_succ hyl hah d⟩ ⟨rfl, rfl, rfl, rfl, rfl, rfl, rfl, rfl, rfl, rfl, inc64 (by have := cutL_len ord k; omega), trivial⟩ (.refl _)
                    · have hg2 : ¬ (y : Int) < (cutL ord k).length := hg2
                      have hah : ∀ z ∈ ord.take k, aheadP (opAt ops ord[k]) (opAt ops z) = false := by rw [List.take_of_length_le (by omega), cutL_eq] at hah; exact hah
                      exact nextS (k + 1, .nils, [], [] ++ G, (doP (mxR R) now (opAt ops ord[k])).1) (by show ord.length - (k + 1) < ord.length - k; omega) ⟨hkl, h3, by show PreF ops (mxR R) (ord.take (k + 1)) _; rw [List.take_succ_eq_append_getElem hkl]; exact hpre.snoc ⟨by omega, by omega⟩ c3 c hah, by show (doP (mxR R) now (opAt ops ord[k])).1.length ≤ k + 1; omega⟩ ⟨rfl, rfl, rfl, rfl, rfl, rfl, inc64 (by omega), trivial⟩ (.refl _)
                · refine bcond_split (fun c => ?_) (fun c => ?_)
                  · have c : (!(doP (mxR R) now (opAt ops ord[k])).2) = true := c
                    have c : (doP (mxR R) now (opAt ops ord[k])).2 = false := by simpa using c
                    exact fin_frontP ([(b4, all4)]) (fin_frontP ([] ++ G) (.done ⟨hno fun h => by (have := h.2.2.1; rw [c] at this; cases this), rfl⟩))
                  · have c : (!(doP (mxR R) now (opAt ops ord[k])).2) = false := c
                    have c : (doP (mxR R) now (opAt ops ord[k])).2 = true := by simpa using c
                    refine With.mk ⟨by omega, by omega, (show (k : Int) ≤ (ord.length : Int) by omega), rfl⟩ ?_
                    refine loopS (S := Nat) (fun y => [(0, .fsl opSh (ops.map opT)), (1, .int .i64 (mxR R)), (2, .fsl (.int .i64) ord), (7, .mref b4 off4 (doP (mxR R) now (opAt ops ord[k])).1.length 1), (9, .int .i64 ord[k]), (17, .fsl (.int .i64) ord), (18, .int .i64 ord.length), (19, .int .i64 k), (54, .fsl (.int .i64) (cutL ord k)), (55, .int .i64 (cutL ord k).length), (56, .int .i64 y)]) (fun _ => [(b4, all4)] ++ (([] ++ G) ++ σ)) (fun y => y ≤ (cutL ord k).length ∧ ∀ z ∈ (cutL ord k).take y, aheadP (opAt ops ord[k]) (opAt ops z) = false) (fun y => (cutL ord k).length - y) 0 ⟨⟨Nat.zero_le _, fun z h => absurd h (by simp)⟩, ⟨rfl, rfl, rfl, rfl, rfl, rfl, rfl, rfl, rfl, rfl, rfl, trivial⟩, rfl⟩ ?_
                    rintro y g2 ⟨hy, hah⟩
                    have hy : y ≤ (cutL ord k).length := hy
                    have hah : ∀ z ∈ (cutL ord k).take y, aheadP (opAt ops ord[k]) (opAt ops z) = false := hah
                    refine bcond_dec (fun hl2 => ?_) (fun hg2 => ?_)
                    · have hl2 : (y : Int) < (cutL ord k).length := hl2
                      have hyl : y < (cutL ord k).length := by omega
                      have hzm : (cutL ord k)[y] ∈ ord.take k := by rw [← cutL_eq]; exact List.getElem_mem hyl
                      have hzr := hpre.inn _ hzm
                      have hkr : 0 ≤ ord[k] ∧ ord[k] < ops.length := ⟨by omega, by omega⟩
                      refine With.mk rfl (IdxF.mk (cutL ord k)[y] (by omega) (get_some hyl) ?_)
                      refine .quiet (by kernel_rfl) ?_
                      refine With.mk rfl ?_
                      refine IdxF.mk (opT (opAt ops ord[k])) hkr.1 (op_get hkr.1 hkr.2) ?_
                      refine With.mk rfl ?_
                      refine IdxF.mk (opT (opAt ops (cutL ord k)[y])) hzr.1 (op_get hzr.1 hzr.2) ?_
                      refine callQ [] (aAheadL (opAt ops ord[k]) (opAt ops (cutL ord k)[y]) _) ?_
                      refine bcond_split (fun d => ?_) (fun d => ?_)
                      · have d : aheadP (opAt ops ord[k]) (opAt ops (cutL ord k)[y]) = true := d
                        exact fin_frontP ([(b4, all4)]) (fin_frontP ([] ++ G) (.done ⟨hno fun h => by (have := h.2.2.2 _ hzm; rw [d] at this; cases this), rfl⟩))
                      · have d : aheadP (opAt ops ord[k]) (opAt ops (cutL ord k)[y]) = false := d
                        exact nextS (y + 1) (by show (cutL ord k).length - (y + 1) < (cutL ord k).length - y; omega) ⟨hyl, ah_succ hyl hah d⟩ ⟨rfl, rfl, rfl, rfl, rfl, rfl, rfl, rfl, rfl, rfl, inc64 (by have := cutL_len ord k; omega), trivial⟩ (.refl _)
                    · have hg2 : ¬ (y : Int) < (cutL ord k).length := hg2
                      have hah : ∀ z ∈ ord.take k, aheadP (opAt ops ord[k]) (opAt ops z) = false := by rw [List.take_of_length_le (by omega), cutL_eq] at hah; exact hah
                      exact nextS (k + 1, .mref b4 off4 (doP (mxR R) now (opAt ops ord[k])).1.length 1, [(b4, all4)], [] ++ G, (doP (mxR R) now (opAt ops ord[k])).1) (by show ord.length - (k + 1) < ord.length - k; omega) ⟨hkl, h3, by show PreF ops (mxR R) (ord.take (k + 1)) _; rw [List.take_succ_eq_append_getElem hkl]; exact hpre.snoc ⟨by omega, by omega⟩ c3 c hah, by show (doP (mxR R) now (opAt ops ord[k])).1.length ≤ k + 1; omega⟩ ⟨rfl, rfl, rfl, rfl, rfl, rfl, inc64 (by omega), trivial⟩ (.refl _)
          · refine .each (by kernel_rfl) ?_
            refine With.mk rfl (IdxF.mk (opT (opAt ops ord[k])) (by omega) (op_get (by omega) (by omega)) ?_)
            refine And.intro ?_ ?_
            · refine .mk [] _ (aCloneO hacc _ (fun _ h => List.mem_append_left _ h) (by omega)) ?_
              rintro x _ ⟨acc2, hx, rfl⟩
              rcases accO_val hx with ⟨rfl, rfl, hx0⟩ | ⟨b2, off2, all2, rfl, rfl⟩
              · try refine With.mk rfl (IdxF.mk (opT (opAt ops ord[k])) (by omega) (op_get (by omega) (by omega)) ?_)
                refine .perm _ (.refl _) (aDoO (mxR R) (opAt ops ord[k]) now (.nils) [] hx (by omega) ([(b1, all1)] ++ (G ++ σ))) ?_
                rintro _ _ ⟨v2, acc3, rfl, h3, rfl⟩
                refine ⟨acc3 ++ (([(b1, all1)] ++ G) ++ σ), by rw [List.append_assoc [(b1, all1)]], ?_⟩
                rcases accO_val h3 with ⟨rfl, rfl, h0⟩ | ⟨b4, off4, all4, rfl, rfl⟩
                · refine bcond_split (fun c => ?_) (fun c => ?_)
                  · have c : (!(doP (mxR R) now (opAt ops ord[k])).2) = true := c
                    have c : (doP (mxR R) now (opAt ops ord[k])).2 = false := by simpa using c
                    exact fin_frontP ([]) (fin_frontP ([(b1, all1)] ++ G) (.done ⟨hno fun h => by (have := h.2.2.1; rw [c] at this; cases this), rfl⟩))
                  · have c : (!(doP (mxR R) now (opAt ops ord[k])).2) = false := c
                    have c : (doP (mxR R) now (opAt ops ord[k])).2 = true := by simpa using c
                    refine With.mk ⟨by omega, by omega, (show (k : Int) ≤ (ord.length : Int) by omega), rfl⟩ ?_
                    refine loopS (S := Nat) (fun y => [(0, .fsl opSh (ops.map opT)), (1, .int .i64 (mxR R)), (2, .fsl (.int .i64) ord), (7, .nils), (9, .int .i64 ord[k]), (17, .fsl (.int .i64) ord), (18, .int .i64 ord.length), (19, .int .i64 k), (54, .fsl (.int .i64) (cutL ord k)), (55, .int .i64 (cutL ord k).length), (56, .int .i64 y)]) (fun _ => [] ++ (([(b1, all1)] ++ G) ++ σ)) (fun y => y ≤ (cutL ord k).length ∧ ∀ z ∈ (cutL ord k).take y, aheadP (opAt ops ord[k]) (opAt ops z) = false) (fun y => (cutL ord k).length - y) 0 ⟨⟨Nat.zero_le _, fun z h => absurd h (by simp)⟩, ⟨rfl, rfl, rfl, rfl, rfl, rfl, rfl, rfl, rfl, rfl, rfl, trivial⟩, rfl⟩ ?_
                    rintro y g2 ⟨hy, hah⟩
                    have hy : y ≤ (cutL ord k).length := hy
                    have hah : ∀ z ∈ (cutL ord k).take y, aheadP (opAt ops ord[k]) (opAt ops z) = false := hah
                    refine bcond_dec (fun hl2 => ?_) (fun hg2 => ?_)
                    · have hl2 : (y : Int) < (cutL ord k).length := hl2
                      have hyl : y < (cutL ord k).length := by omega
                      have hzm : (cutL ord k)[y] ∈ ord.take k := by rw [← cutL_eq]; exact List.getElem_mem hyl
                      have hzr := hpre.inn _ hzm
                      have hkr : 0 ≤ ord[k] ∧ ord[k] < ops.length := ⟨by omega, by omega⟩
                      refine With.mk rfl (IdxF.mk (cutL ord k)[y] (by omega) (get_some hyl) ?_)
                      refine .quiet (by kernel_rfl) ?_
                      refine With.mk rfl ?_
                      refine IdxF.mk (opT (opAt ops ord[k])) hkr.1 (op_get hkr.1 hkr.2) ?_
                      refine With.mk rfl ?_
                      refine IdxF.mk (opT (opAt ops (cutL ord k)[y])) hzr.1 (op_get hzr.1 hzr.2) ?_
                      refine callQ [] (aAheadL (opAt ops ord[k]) (opAt ops (cutL ord k)[y]) _) ?_
                      refine bcond_split (fun d => ?_) (fun d => ?_)
                      · have d : aheadP (opAt ops ord[k]) (opAt ops (cutL ord k)[y]) = true := d
                        exact fin_frontP ([]) (fin_frontP ([(b1, all1)] ++ G) (.done ⟨hno fun h => by (have := h.2.2.2 _ hzm; rw [d] at this; cases this), rfl⟩))
                      · have d : aheadP (opAt ops ord[k]) (opAt ops (cutL ord k)[y]) = false := d
                        exact nextS (y + 1) (by show (cutL ord k).length - (y + 1) < (cutL ord k).length - y; omega) ⟨hyl, ah_succ hyl hah d⟩ ⟨rfl, rfl, rfl, rfl, rfl, rfl, rfl, rfl, rfl, rfl, inc64 (by have := cutL_len ord k; omega), trivial⟩ (.refl _)
                    · have hg2 : ¬ (y : Int) < (cutL ord k).length := hg2
                      have hah : ∀ z ∈ ord.take k, aheadP (opAt ops ord[k]) (opAt ops z) = false := by rw [List.take_of_length_le (by omega), cutL_eq] at hah; exact hah
                      exact nextS (k + 1, .nils, [], [(b1, all1)] ++ G, (doP (mxR R) now (opAt ops ord[k])).1) (by show ord.length - (k + 1) < ord.length - k; omega) ⟨hkl, h3, by show PreF ops (mxR R) (ord.take (k + 1)) _; rw [List.take_succ_eq_append_getElem hkl]; exact hpre.snoc ⟨by omega, by omega⟩ c3 c hah, by show (doP (mxR R) now (opAt ops ord[k])).1.length ≤ k + 1; omega⟩ ⟨rfl, rfl, rfl, rfl, rfl, rfl, inc64 (by omega), trivial⟩ (.refl _)
                · refine bcond_split (fun c => ?_) (fun c => ?_)
                  · have c : (!(doP (mxR R) now (opAt ops ord[k])).2) = true := c
                    have c : (doP (mxR R) now (opAt ops ord[k])).2 = false := by simpa using c
                    exact fin_frontP ([(b4, all4)]) (fin_frontP ([(b1, all1)] ++ G) (.done ⟨hno fun h => by (have := h.2.2.1; rw [c] at this; cases this), rfl⟩))
                  · have c : (!(doP (mxR R) now (opAt ops ord[k])).2) = false := c
                    have c : (doP (mxR R) now (opAt ops ord[k])).2 = true := by simpa using c
                    refine With.mk ⟨by omega, by omega, (show (k : Int) ≤ (ord.length : Int) by omega), rfl⟩ ?_
                    refine loopS (S := Nat) (fun y => [(0, .fsl opSh (ops.map opT)), (1, .int .i64 (mxR R)), (2, .fsl (.int .i64) ord), (7, .mref b4 off4 (doP (mxR R) now (opAt ops ord[k])).1.length 1), (9, .int .i64 ord[k]), (17, .fsl (.int .i64) ord), (18, .int .i64 ord.length), (19, .int .i64 k), (54, .fsl (.int .i64) (cutL ord k)), (55, .int .i64 (cutL ord k).length), (56, .int .i64 y)]) (fun _ => [(b4, all4)] ++ (([(b1, all1)] ++ G) ++ σ)) (fun y => y ≤ (cutL ord k).length ∧ ∀ z ∈ (cutL ord k).take y, aheadP (opAt ops ord[k]) (opAt ops z) = false) (fun y => (cutL ord k).length - y) 0 ⟨⟨Nat.zero_le _, fun z h => absurd h (by simp)⟩, ⟨rfl, rfl, rfl, rfl, rfl, rfl, rfl, rfl, rfl, rfl, rfl, trivial⟩, rfl⟩ ?_
                    rintro y g2 ⟨hy, hah⟩
                    have hy : y ≤ (cutL ord k).length := hy
                    have hah : ∀ z ∈ (cutL ord k).take y, aheadP (opAt ops ord[k]) (opAt ops z) = false := hah
                    refine bcond_dec (fun hl2 => ?_) (fun hg2 => ?_)
                    · have hl2 : (y : Int) < (cutL ord k).length := hl2
                      have hyl : y < (cutL ord k).length := by omega
                      have hzm : (cutL ord k)[y] ∈ ord.take k := by rw [← cutL_eq]; exact List.getElem_mem hyl
                      have hzr := hpre.inn _ hzm
                      have hkr : 0 ≤ ord[k] ∧ ord[k] < ops.length := ⟨by omega, by omega⟩
                      refine With.mk rfl (IdxF.mk (cutL ord k)[y] (by omega) (get_some hyl) ?_)
                      refine .quiet (by kernel_rfl) ?_
                      refine With.mk rfl ?_
                      refine IdxF.mk (opT (opAt ops ord[k])) hkr.1 (op_get hkr.1 hkr.2) ?_
                      refine With.mk rfl ?_
                      refine IdxF.mk (opT (opAt ops (cutL ord k)[y])) hzr.1 (op_get hzr.1 hzr.2) ?_
                      refine callQ [] (aAheadL (opAt ops ord[k]) (opAt ops (cutL ord k)[y]) _) ?_
                      refine bcond_split (fun d => ?_) (fun d => ?_)
                      · have d : aheadP (opAt ops ord[k]) (opAt ops (cutL ord k)[y]) = true := d
                        exact fin_frontP ([(b4, all4)]) (fin_frontP ([(b1, all1)] ++ G) (.done ⟨hno fun h => by (have := h.2.2.2 _ hzm; rw [d] at this; cases this), rfl⟩))
                      · have d : aheadP (opAt ops ord[k]) (opAt ops (cutL ord k)[y]) = false := d
                        exact nextS (y + 1) (by show (cutL ord k).length - (y + 1) < (cutL ord k).length - y; omega) ⟨hyl, ah_succ hyl hah d⟩ ⟨rfl, rfl, rfl, rfl, rfl, rfl, rfl, rfl, rfl, rfl, inc64 (by have := cutL_len ord k; omega), trivial⟩ (.refl _)
                    · have hg2 : ¬ (y : Int) < (cutL ord k).length := hg2
                      have hah : ∀ z ∈ ord.take k, aheadP (opAt ops ord[k]) (opAt ops z) = false := by rw [List.take_of_length_le (by omega), cutL_eq] at hah; exact hah
                      exact nextS (k + 1, .mref b4 off4 (doP (mxR R) now (opAt ops ord[k])).1.length 1, [(b4, all4)], [(b1, all1)] ++ G, (doP (mxR R) now (opAt ops ord[k])).1) (by show ord.length - (k + 1) < ord.length - k; omega) ⟨hkl, h3, by show PreF ops (mxR R) (ord.take (k + 1)) _; rw [List.take_succ_eq_append_getElem hkl]; exact hpre.snoc ⟨by omega, by omega⟩ c3 c hah, by show (doP (mxR R) now (opAt ops ord[k])).1.length ≤ k + 1; omega⟩ ⟨rfl, rfl, rfl, rfl, rfl, rfl, inc64 (by omega), trivial⟩ (.refl _)
              · try refine With.mk rfl (IdxF.mk (opT (opAt ops ord[k])) (by omega) (op_get (by omega) (by omega)) ?_)
                refine .perm _ (.refl _) (aDoO (mxR R) (opAt ops ord[k]) now (.mref b2 off2 now.length 1) [(b2, all2)] hx (by omega) ([(b1, all1)] ++ (G ++ σ))) ?_
                rintro _ _ ⟨v2, acc3, rfl, h3, rfl⟩
                refine ⟨acc3 ++ (([(b1, all1)] ++ G) ++ σ), by rw [List.append_assoc [(b1, all1)]], ?_⟩
                rcases accO_val h3 with ⟨rfl, rfl, h0⟩ | ⟨b4, off4, all4, rfl, rfl⟩
                · refine bcond_split (fun c => ?_) (fun c => ?_)
                  · have c : (!(doP (mxR R) now (opAt ops ord[k])).2) = true := c
                    have c : (doP (mxR R) now (opAt ops ord[k])).2 = false := by simpa using c
                    exact fin_frontP ([]) (fin_frontP ([(b1, all1)] ++ G) (.done ⟨hno fun h => by (have := h.2.2.1; rw [c] at this; cases this), rfl⟩))
                  · have c : (!(doP (mxR R) now (opAt ops ord[k])).2) = false := c
                    have c : (doP (mxR R) now (opAt ops ord[k])).2 = true := by simpa using c
                    refine With.mk ⟨by omega, by omega, (show (k : Int) ≤ (ord.length : Int) by omega), rfl⟩ ?_
                    refine loopS (S := Nat) (fun y => [(0, .fsl opSh (ops.map opT)), (1, .int .i64 (mxR R)), (2, .fsl (.int .i64) ord), (7, .nils), (9, .int .i64 ord[k]), (17, .fsl (.int .i64) ord), (18, .int .i64 ord.length), (19, .int .i64 k), (54, .fsl (.int .i64) (cutL ord k)), (55, .int .i64 (cutL ord k).length), (56, .int .i64 y)]) (fun _ => [] ++ (([(b1, all1)] ++ G) ++ σ)) (fun y => y ≤ (cutL ord k).length ∧ ∀ z ∈ (cutL ord k).take y, aheadP (opAt ops ord[k]) (opAt ops z) = false) (fun y => (cutL ord k).length - y) 0 ⟨⟨Nat.zero_le _, fun z h => absurd h (by simp)⟩, ⟨rfl, rfl, rfl, rfl, rfl, rfl, rfl, rfl, rfl, rfl, rfl, trivial⟩, rfl⟩ ?_
                    rintro y g2 ⟨hy, hah⟩
                    have hy : y ≤ (cutL ord k).length := hy
                    have hah : ∀ z ∈ (cutL ord k).take y, aheadP (opAt ops ord[k]) (opAt ops z) = false := hah
                    refine bcond_dec (fun hl2 => ?_) (fun hg2 => ?_)
                    · have hl2 : (y : Int) < (cutL ord k).length := hl2
                      have hyl : y < (cutL ord k).length := by omega
                      have hzm : (cutL ord k)[y] ∈ ord.take k := by rw [← cutL_eq]; exact List.getElem_mem hyl
                      have hzr := hpre.inn _ hzm
                      have hkr : 0 ≤ ord[k] ∧ ord[k] < ops.length := ⟨by omega, by omega⟩
                      refine With.mk rfl (IdxF.mk (cutL ord k)[y] (by omega) (get_some hyl) ?_)
                      refine .quiet (by kernel_rfl) ?_
                      refine With.mk rfl ?_
                      refine IdxF.mk (opT (opAt ops ord[k])) hkr.1 (op_get hkr.1 hkr.2) ?_
                      refine With.mk rfl ?_
                      refine IdxF.mk (opT (opAt ops (cutL ord k)[y])) hzr.1 (op_get hzr.1 hzr.2) ?_
                      refine callQ [] (aAheadL (opAt ops ord[k]) (opAt ops (cutL ord k)[y]) _) ?_
                      refine bcond_split (fun d => ?_) (fun d => ?_)
                      · have d : aheadP (opAt ops ord[k]) (opAt ops (cutL ord k)[y]) = true := d
                        exact fin_frontP ([]) (fin_frontP ([(b1, all1)] ++ G) (.done ⟨hno fun h => by (have := h.2.2.2 _ hzm; rw [d] at this; cases this), rfl⟩))
                      · have d : aheadP (opAt ops ord[k]) (opAt ops (cutL ord k)[y]) = false := d
                        exact nextS (y + 1) (by show (cutL ord k).length - (y + 1) < (cutL ord k).length - y; omega) ⟨hyl, ah_succ hyl hah d⟩ ⟨rfl, rfl, rfl, rfl, rfl, rfl, rfl, rfl, rfl, rfl, inc64 (by have := cutL_len ord k; omega), trivial⟩ (.refl _)
                    · have hg2 : ¬ (y : Int) < (cutL ord k).length := hg2
                      have hah : ∀ z ∈ ord.take k, aheadP (opAt ops ord[k]) (opAt ops z) = false := by rw [List.take_of_length_le (by omega), cutL_eq] at hah; exact hah
                      exact nextS (k + 1, .nils, [], [(b1, all1)] ++ G, (doP (mxR R) now (opAt ops ord[k])).1) (by show ord.length - (k + 1) < ord.length - k; omega) ⟨hkl, h3, by show PreF ops (mxR R) (ord.take (k + 1)) _; rw [List.take_succ_eq_append_getElem hkl]; exact hpre.snoc ⟨by omega, by omega⟩ c3 c hah, by show (doP (mxR R) now (opAt ops ord[k])).1.length ≤ k + 1; omega⟩ ⟨rfl, rfl, rfl, rfl, rfl, rfl, inc64 (by omega), trivial⟩ (.refl _)
                · refine bcond_split (fun c => ?_) (fun c => ?_)
                  · have c : (!(doP (mxR R) now (opAt ops ord[k])).2) = true := c
                    have c : (doP (mxR R) now (opAt ops ord[k])).2 = false := by simpa using c
                    exact fin_frontP ([(b4, all4)]) (fin_frontP ([(b1, all1)] ++ G) (.done ⟨hno fun h => by (have := h.2.2.1; rw [c] at this; cases this), rfl⟩))
                  · have c : (!(doP (mxR R) now (opAt ops ord[k])).2) = false := c
                    have c : (doP (mxR R) now (opAt ops ord[k])).2 = true := by simpa using c
                    refine With.mk ⟨by omega, by omega, (show (k : Int) ≤ (ord.length : Int) by omega), rfl⟩ ?_
                    refine loopS (S := Nat) (fun y => [(0, .fsl opSh (ops.map opT)), (1, .int .i64 (mxR R)), (2, .fsl (.int .i64) ord), (7, .mref b4 off4 (doP (mxR R) now (opAt ops ord[k])).1.length 1), (9, .int .i64 ord[k]), (17, .fsl (.int .i64) ord), (18, .int .i64 ord.length), (19, .int .i64 k), (54, .fsl (.int .i64) (cutL ord k)), (55, .int .i64 (cutL ord k).length), (56, .int .i64 y)]) (fun _ => [(b4, all4)] ++ (([(b1, all1)] ++ G) ++ σ)) (fun y => y ≤ (cutL ord k).length ∧ ∀ z ∈ (cutL ord k).take y, aheadP (opAt ops ord[k]) (opAt ops z) = false) (fun y => (cutL ord k).length - y) 0 ⟨⟨Nat.zero_le _, fun z h => absurd h (by simp)⟩, ⟨rfl, rfl, rfl, rfl, rfl, rfl, rfl, rfl, rfl, rfl, rfl, trivial⟩, rfl⟩ ?_
                    rintro y g2 ⟨hy, hah⟩
                    have hy : y ≤ (cutL ord k).length := hy
                    have hah : ∀ z ∈ (cutL ord k).take y, aheadP (opAt ops ord[k]) (opAt ops z) = false := hah
                    refine bcond_dec (fun hl2 => ?_) (fun hg2 => ?_)
                    · have hl2 : (y : Int) < (cutL ord k).length := hl2
                      have hyl : y < (cutL ord k).length := by omega
                      have hzm : (cutL ord k)[y] ∈ ord.take k := by rw [← cutL_eq]; exact List.getElem_mem hyl
                      have hzr := hpre.inn _ hzm
                      have hkr : 0 ≤ ord[k] ∧ ord[k] < ops.length := ⟨by omega, by omega⟩
                      refine With.mk rfl (IdxF.mk (cutL ord k)[y] (by omega) (get_some hyl) ?_)
                      refine .quiet (by kernel_rfl) ?_
                      refine With.mk rfl ?_
                      refine IdxF.mk (opT (opAt ops ord[k])) hkr.1 (op_get hkr.1 hkr.2) ?_
                      refine With.mk rfl ?_
                      refine IdxF.mk (opT (opAt ops (cutL ord k)[y])) hzr.1 (op_get hzr.1 hzr.2) ?_
                      refine callQ [] (aAheadL (opAt ops ord[k]) (opAt ops (cutL ord k)[y]) _) ?_
                      refine bcond_split (fun d => ?_) (fun d => ?_)
                      · have d : aheadP (opAt ops ord[k]) (opAt ops (cutL ord k)[y]) = true := d
                        exact fin_frontP ([(b4, all4)]) (fin_frontP ([(b1, all1)] ++ G) (.done ⟨hno fun h => by (have := h.2.2.2 _ hzm; rw [d] at this; cases this), rfl⟩))
                      · have d : aheadP (opAt ops ord[k]) (opAt ops (cutL ord k)[y]) = false := d
                        exact nextS (y + 1) (by show (cutL ord k).length - (y + 1) < (cutL ord k).length - y; omega) ⟨hyl, ah_succ hyl hah d⟩ ⟨rfl, rfl, rfl, rfl, rfl, rfl, rfl, rfl, rfl, rfl, inc64 (by have := cutL_len ord k; omega), trivial⟩ (.refl _)
                    · have hg2 : ¬ (y : Int) < (cutL ord k).length := hg2
                      have hah : ∀ z ∈ ord.take k, aheadP (opAt ops ord[k]) (opAt ops z) = false := by rw [List.take_of_length_le (by omega), cutL_eq] at hah; exact hah
                      exact nextS (k + 1, .mref b4 off4 (doP (mxR R) now (opAt ops ord[k])).1.length 1, [(b4, all4)], [(b1, all1)] ++ G, (doP (mxR R) now (opAt ops ord[k])).1) (by show ord.length - (k + 1) < ord.length - k; omega) ⟨hkl, h3, by show PreF ops (mxR R) (ord.take (k + 1)) _; rw [List.take_succ_eq_append_getElem hkl]; exact hpre.snoc ⟨by omega, by omega⟩ c3 c hah, by show (doP (mxR R) now (opAt ops ord[k])).1.length ≤ k + 1; omega⟩ ⟨rfl, rfl, rfl, rfl, rfl, rfl, inc64 (by omega), trivial⟩ (.refl _)
            · refine .mk [] _ (aCloneO hacc _ (fun _ h => List.mem_append_left _ h) (by omega)) ?_
              rintro x _ ⟨acc2, hx, rfl⟩
              rcases accO_val hx with ⟨rfl, rfl, hx0⟩ | ⟨b2, off2, all2, rfl, rfl⟩
              · try refine With.mk rfl (IdxF.mk (opT (opAt ops ord[k])) (by omega) (op_get (by omega) (by omega)) ?_)
                refine .perm _ (.refl _) (aDoO (mxR R) (opAt ops ord[k]) now (.nils) [] hx (by omega) ([(b1, all1)] ++ (G ++ σ))) ?_
                rintro _ _ ⟨v2, acc3, rfl, h3, rfl⟩
                refine ⟨acc3 ++ (([(b1, all1)] ++ G) ++ σ), by rw [List.append_assoc [(b1, all1)]], ?_⟩
                rcases accO_val h3 with ⟨rfl, rfl, h0⟩ | ⟨b4, off4, all4, rfl, rfl⟩
                · refine bcond_split (fun c => ?_) (fun c => ?_)
                  · have c : (!(doP (mxR R) now (opAt ops ord[k])).2) = true := c
                    have c : (doP (mxR R) now (opAt ops ord[k])).2 = false := by simpa using c
                    exact fin_frontP ([]) (fin_frontP ([(b1, all1)] ++ G) (.done ⟨hno fun h => by (have := h.2.2.1; rw [c] at this; cases this), rfl⟩))
                  · have c : (!(doP (mxR R) now (opAt ops ord[k])).2) = false := c
                    have c : (doP (mxR R) now (opAt ops ord[k])).2 = true := by simpa using c
                    refine With.mk ⟨by omega, by omega, (show (k : Int) ≤ (ord.length : Int) by omega), rfl⟩ ?_
                    refine loopS (S := Nat) (fun y => [(0, .fsl opSh (ops.map opT)), (1, .int .i64 (mxR R)), (2, .fsl (.int .i64) ord), (7, .nils), (9, .int .i64 ord[k]), (17, .fsl (.int .i64) ord), (18, .int .i64 ord.length), (19, .int .i64 k), (54, .fsl (.int .i64) (cutL ord k)), (55, .int .i64 (cutL ord k).length), (56, .int .i64 y)]) (fun _ => [] ++ (([(b1, all1)] ++ G) ++ σ)) (fun y => y ≤ (cutL ord k).length ∧ ∀ z ∈ (cutL ord k).take y, aheadP (opAt ops ord[k]) (opAt ops z) = false) (fun y => (cutL ord k).length - y) 0 ⟨⟨Nat.zero_le _, fun z h => absurd h (by simp)⟩, ⟨rfl, rfl, rfl, rfl, rfl, rfl, rfl, rfl, rfl, rfl, rfl, trivial⟩, rfl⟩ ?_
                    rintro y g2 ⟨hy, hah⟩
                    have hy : y ≤ (cutL ord k).length := hy
                    have hah : ∀ z ∈ (cutL ord k).take y, aheadP (opAt ops ord[k]) (opAt ops z) = false := hah
                    refine bcond_dec (fun hl2 => ?_) (fun hg2 => ?_)
                    · have hl2 : (y : Int) < (cutL ord k).length := hl2
                      have hyl : y < (cutL ord k).length := by omega
                      have hzm : (cutL ord k)[y] ∈ ord.take k := by rw [← cutL_eq]; exact List.getElem_mem hyl
                      have hzr := hpre.inn _ hzm
                      have hkr : 0 ≤ ord[k] ∧ ord[k] < ops.length := ⟨by omega, by omega⟩
                      refine With.mk rfl (IdxF.mk (cutL ord k)[y] (by omega) (get_some hyl) ?_)
                      refine .quiet (by kernel_rfl) ?_
                      refine With.mk rfl ?_
                      refine IdxF.mk (opT (opAt ops ord[k])) hkr.1 (op_get hkr.1 hkr.2) ?_
                      refine With.mk rfl ?_
                      refine IdxF.mk (opT (opAt ops (cutL ord k)[y])) hzr.1 (op_get hzr.1 hzr.2) ?_
                      refine callQ [] (aAheadL (opAt ops ord[k]) (opAt ops (cutL ord k)[y]) _) ?_
                      refine bcond_split (fun d => ?_) (fun d => ?_)
                      · have d : aheadP (opAt ops ord[k]) (opAt ops (cutL ord k)[y]) = true := d
                        exact fin_frontP ([]) (fin_frontP ([(b1, all1)] ++ G) (.done ⟨hno fun h => by (have := h.2.2.2 _ hzm; rw [d] at this; cases this), rfl⟩))
                      · have d : aheadP (opAt ops ord[k]) (opAt ops (cutL ord k)[y]) = false := d
                        exact nextS (y + 1) (by show (cutL ord k).length - (y + 1) < (cutL ord k).length - y; omega) ⟨hyl, ah_succ hyl hah d⟩ ⟨rfl, rfl, rfl, rfl, rfl, rfl, rfl, rfl, rfl, rfl, inc64 (by have := cutL_len ord k; omega), trivial⟩ (.refl _)
                    · have hg2 : ¬ (y : Int) < (cutL ord k).length := hg2
                      have hah : ∀ z ∈ ord.take k, aheadP (opAt ops ord[k]) (opAt ops z) = false := by rw [List.take_of_length_le (by omega), cutL_eq] at hah; exact hah
                      exact nextS (k + 1, .nils, [], [(b1, all1)] ++ G, (doP (mxR R) now (opAt ops ord[k])).1) (by show ord.length - (k + 1) < ord.length - k; omega) ⟨hkl, h3, by show PreF ops (mxR R) (ord.take (k + 1)) _; rw [List.take_succ_eq_append_getElem hkl]; exact hpre.snoc ⟨by omega, by omega⟩ c3 c hah, by show (doP (mxR R) now (opAt ops ord[k])).1.length ≤ k + 1; omega⟩ ⟨rfl, rfl, rfl, rfl, rfl, rfl, inc64 (by omega), trivial⟩ (.refl _)
                · refine bcond_split (fun c => ?_) (fun c => ?_)
                  · have c : (!(doP (mxR R) now (opAt ops ord[k])).2) = true := c
                    have c : (doP (mxR R) now (opAt ops ord[k])).2 = false := by simpa using c
                    exact fin_frontP ([(b4, all4)]) (fin_frontP ([(b1, all1)] ++ G) (.done ⟨hno fun h => by (have := h.2.2.1; rw [c] at this; cases this), rfl⟩))
                  · have c : (!(doP (mxR R) now (opAt ops ord[k])).2) = false := c
                    have c : (doP (mxR R) now (opAt ops ord[k])).2 = true := by simpa using c
                    refine With.mk ⟨by omega, by omega, (show (k : Int) ≤ (ord.length : Int) by omega), rfl⟩ ?_
                    refine loopS (S := Nat) (fun y => [(0, .fsl opSh (ops.map opT)), (1, .int .i64 (mxR R)), (2, .fsl (.int .i64) ord), (7, .mref b4 off4 (doP (mxR R) now (opAt ops ord[k])).1.length 1), (9, .int .i64 ord[k]), (17, .fsl (.int .i64) ord), (18, .int .i64 ord.length), (19, .int .i64 k), (54, .fsl (.int .i64) (cutL ord k)), (55, .int .i64 (cutL ord k).length), (56, .int .i64 y)]) (fun _ => [(b4, all4)] ++ (([(b1, all1)] ++ G) ++ σ)) (fun y => y ≤ (cutL ord k).length ∧ ∀ z ∈ (cutL ord k).take y, aheadP (opAt ops ord[k]) (opAt ops z) = false) (fun y => (cutL ord k).length - y) 0 ⟨⟨Nat.zero_le _, fun z h => absurd h (by simp)⟩, ⟨rfl, rfl, rfl, rfl, rfl, rfl, rfl, rfl, rfl, rfl, rfl, trivial⟩, rfl⟩ ?_
                    rintro y g2 ⟨hy, hah⟩
                    have hy : y ≤ (cutL ord k).length := hy
                    have hah : ∀ z ∈ (cutL ord k).take y, aheadP (opAt ops ord[k]) (opAt ops z) = false := hah
                    refine bcond_dec (fun hl2 => ?_) (fun hg2 => ?_)
                    · have hl2 : (y : Int) < (cutL ord k).length := hl2
                      have hyl : y < (cutL ord k).length := by omega
                      have hzm : (cutL ord k)[y] ∈ ord.take k := by rw [← cutL_eq]; exact List.getElem_mem hyl
                      have hzr := hpre.inn _ hzm
                      have hkr : 0 ≤ ord[k] ∧ ord[k] < ops.length := ⟨by omega, by omega⟩
                      refine With.mk rfl (IdxF.mk (cutL ord k)[y] (by omega) (get_some hyl) ?_)
                      refine .quiet (by kernel_rfl) ?_
                      refine With.mk rfl ?_
                      refine IdxF.mk (opT (opAt ops ord[k])) hkr.1 (op_get hkr.1 hkr.2) ?_
                      refine With.mk rfl ?_
                      refine IdxF.mk (opT (opAt ops (cutL ord k)[y])) hzr.1 (op_get hzr.1 hzr.2) ?_
                      refine callQ [] (aAheadL (opAt ops ord[k]) (opAt ops (cutL ord k)[y]) _) ?_
                      refine bcond_split (fun d => ?_) (fun d => ?_)
                      · have d : aheadP (opAt ops ord[k]) (opAt ops (cutL ord k)[y]) = true := d
                        exact fin_frontP ([(b4, all4)]) (fin_frontP ([(b1, all1)] ++ G) (.done ⟨hno fun h => by (have := h.2.2.2 _ hzm; rw [d] at this; cases this), rfl⟩))
                      · have d : aheadP (opAt ops ord[k]) (opAt ops (cutL ord k)[y]) = false := d
                        exact nextS (y + 1) (by show (cutL ord k).length - (y + 1) < (cutL ord k).length - y; omega) ⟨hyl, ah_succ hyl hah d⟩ ⟨rfl, rfl, rfl, rfl, rfl, rfl, rfl, rfl, rfl, rfl, inc64 (by have := cutL_len ord k; omega), trivial⟩ (.refl _)
                    · have hg2 : ¬ (y : Int) < (cutL ord k).length := hg2
                      have hah : ∀ z ∈ ord.take k, aheadP (opAt ops ord[k]) (opAt ops z) = false := by rw [List.take_of_length_le (by omega), cutL_eq] at hah; exact hah
                      exact nextS (k + 1, .mref b4 off4 (doP (mxR R) now (opAt ops ord[k])).1.length 1, [(b4, all4)], [(b1, all1)] ++ G, (doP (mxR R) now (opAt ops ord[k])).1) (by show ord.length - (k + 1) < ord.length - k; omega) ⟨hkl, h3, by show PreF ops (mxR R) (ord.take (k + 1)) _; rw [List.take_succ_eq_append_getElem hkl]; exact hpre.snoc ⟨by omega, by omega⟩ c3 c hah, by show (doP (mxR R) now (opAt ops ord[k])).1.length ≤ k + 1; omega⟩ ⟨rfl, rfl, rfl, rfl, rfl, rfl, inc64 (by omega), trivial⟩ (.refl _)
              · try refine With.mk rfl (IdxF.mk (opT (opAt ops ord[k])) (by omega) (op_get (by omega) (by omega)) ?_)
                refine .perm _ (.refl _) (aDoO (mxR R) (opAt ops ord[k]) now (.mref b2 off2 now.length 1) [(b2, all2)] hx (by omega) ([(b1, all1)] ++ (G ++ σ))) ?_
                rintro _ _ ⟨v2, acc3, rfl, h3, rfl⟩
                refine ⟨acc3 ++ (([(b1, all1)] ++ G) ++ σ), by rw [List.append_assoc [(b1, all1)]], ?_⟩
                rcases accO_val h3 with ⟨rfl, rfl, h0⟩ | ⟨b4, off4, all4, rfl, rfl⟩
                · refine bcond_split (fun c => ?_) (fun c => ?_)
                  · have c : (!(doP (mxR R) now (opAt ops ord[k])).2) = true := c
                    have c : (doP (mxR R) now (opAt ops ord[k])).2 = false := by simpa using c
                    exact fin_frontP ([]) (fin_frontP ([(b1, all1)] ++ G) (.done ⟨hno fun h => by (have := h.2.2.1; rw [c] at this; cases this), rfl⟩))
                  · have c : (!(doP (mxR R) now (opAt ops ord[k])).2) = false := c
                    have c : (doP (mxR R) now (opAt ops ord[k])).2 = true := by simpa using c
                    refine With.mk ⟨by omega, by omega, (show (k : Int) ≤ (ord.length : Int) by omega), rfl⟩ ?_
                    refine loopS (S := Nat) (fun y => [(0, .fsl opSh (ops.map opT)), (1, .int .i64 (mxR R)), (2, .fsl (.int .i64) ord), (7, .nils), (9, .int .i64 ord[k]), (17, .fsl (.int .i64) ord), (18, .int .i64 ord.length), (19, .int .i64 k), (54, .fsl (.int .i64) (cutL ord k)), (55, .int .i64 (cutL ord k).length), (56, .int .i64 y)]) (fun _ => [] ++ (([(b1, all1)] ++ G) ++ σ)) (fun y => y ≤ (cutL ord k).length ∧ ∀ z ∈ (cutL ord k).take y, aheadP (opAt ops ord[k]) (opAt ops z) = false) (fun y => (cutL ord k).length - y) 0 ⟨⟨Nat.zero_le _, fun z h => absurd h (by simp)⟩, ⟨rfl, rfl, rfl, rfl, rfl, rfl, rfl, rfl, rfl, rfl, rfl, trivial⟩, rfl⟩ ?_
                    rintro y g2 ⟨hy, hah⟩
                    have hy : y ≤ (cutL ord k).length := hy
                    have hah : ∀ z ∈ (cutL ord k).take y, aheadP (opAt ops ord[k]) (opAt ops z) = false := hah
                    refine bcond_dec (fun hl2 => ?_) (fun hg2 => ?_)
                    · have hl2 : (y : Int) < (cutL ord k).length := hl2
                      have hyl : y < (cutL ord k).length := by omega
                      have hzm : (cutL ord k)[y] ∈ ord.take k := by rw [← cutL_eq]; exact List.getElem_mem hyl
                      have hzr := hpre.inn _ hzm
                      have hkr : 0 ≤ ord[k] ∧ ord[k] < ops.length := ⟨by omega, by omega⟩
                      refine With.mk rfl (IdxF.mk (cutL ord k)[y] (by omega) (get_some hyl) ?_)
                      refine .quiet (by kernel_rfl) ?_
                      refine With.mk rfl ?_
                      refine IdxF.mk (opT (opAt ops ord[k])) hkr.1 (op_get hkr.1 hkr.2) ?_
                      refine With.mk rfl ?_
                      refine IdxF.mk (opT (opAt ops (cutL ord k)[y])) hzr.1 (op_get hzr.1 hzr.2) ?_
                      refine callQ [] (aAheadL (opAt ops ord[k]) (opAt ops (cutL ord k)[y]) _) ?_
                      refine bcond_split (fun d => ?_) (fun d => ?_)
                      · have d : aheadP (opAt ops ord[k]) (opAt ops (cutL ord k)[y]) = true := d
                        exact fin_frontP ([]) (fin_frontP ([(b1, all1)] ++ G) (.done ⟨hno fun h => by (have := h.2.2.2 _ hzm; rw [d] at this; cases this), rfl⟩))
                      · have d : aheadP (opAt ops ord[k]) (opAt ops (cutL ord k)[y]) = false := d
                        exact nextS (y + 1) (by show (cutL ord k).length - (y + 1) < (cutL ord k).length - y; omega) ⟨hyl, ah_succ hyl hah d⟩ ⟨rfl, rfl, rfl, rfl, rfl, rfl, rfl, rfl, rfl, rfl, inc64 (by have := cutL_len ord k; omega), trivial⟩ (.refl _)
                    · have hg2 : ¬ (y : Int) < (cutL ord k).length := hg2
                      have hah : ∀ z ∈ ord.take k, aheadP (opAt ops ord[k]) (opAt ops z) = false := by rw [List.take_of_length_le (by omega), cutL_eq] at hah; exact hah
                      exact nextS (k + 1, .nils, [], [(b1, all1)] ++ G, (doP (mxR R) now (opAt ops ord[k])).1) (by show ord.length - (k + 1) < ord.length - k; omega) ⟨hkl, h3, by show PreF ops (mxR R) (ord.take (k + 1)) _; rw [List.take_succ_eq_append_getElem hkl]; exact hpre.snoc ⟨by omega, by omega⟩ c3 c hah, by show (doP (mxR R) now (opAt ops ord[k])).1.length ≤ k + 1; omega⟩ ⟨rfl, rfl, rfl, rfl, rfl, rfl, inc64 (by omega), trivial⟩ (.refl _)
                · refine bcond_split (fun c => ?_) (fun c => ?_)
                  · have c : (!(doP (mxR R) now (opAt ops ord[k])).2) = true := c
                    have c : (doP (mxR R) now (opAt ops ord[k])).2 = false := by simpa using c
                    exact fin_frontP ([(b4, all4)]) (fin_frontP ([(b1, all1)] ++ G) (.done ⟨hno fun h => by (have := h.2.2.1; rw [c] at this; cases this), rfl⟩))
                  · have c : (!(doP (mxR R) now (opAt ops ord[k])).2) = false := c
                    have c : (doP (mxR R) now (opAt ops ord[k])).2 = true := by simpa using c
                    refine With.mk ⟨by omega, by omega, (show (k : Int) ≤ (ord.length : Int) by omega), rfl⟩ ?_
                    refine loopS (S := Nat) (fun y => [(0, .fsl opSh (ops.map opT)), (1, .int .i64 (mxR R)), (2, .fsl (.int .i64) ord), (7, .mref b4 off4 (doP (mxR R) now (opAt ops ord[k])).1.length 1), (9, .int .i64 ord[k]), (17, .fsl (.int .i64) ord), (18, .int .i64 ord.length), (19, .int .i64 k), (54, .fsl (.int .i64) (cutL ord k)), (55, .int .i64 (cutL ord k).length), (56, .int .i64 y)]) (fun _ => [(b4, all4)] ++ (([(b1, all1)] ++ G) ++ σ)) (fun y => y ≤ (cutL ord k).length ∧ ∀ z ∈ (cutL ord k).take y, aheadP (opAt ops ord[k]) (opAt ops z) = false) (fun y => (cutL ord k).length - y) 0 ⟨⟨Nat.zero_le _, fun z h => absurd h (by simp)⟩, ⟨rfl, rfl, rfl, rfl, rfl, rfl, rfl, rfl, rfl, rfl, rfl, trivial⟩, rfl⟩ ?_
                    rintro y g2 ⟨hy, hah⟩
                    have hy : y ≤ (cutL ord k).length := hy
                    have hah : ∀ z ∈ (cutL ord k).take y, aheadP (opAt ops ord[k]) (opAt ops z) = false := hah
                    refine bcond_dec (fun hl2 => ?_) (fun hg2 => ?_)
                    · have hl2 : (y : Int) < (cutL ord k).length := hl2
                      have hyl : y < (cutL ord k).length := by omega
                      have hzm : (cutL ord k)[y] ∈ ord.take k := by rw [← cutL_eq]; exact List.getElem_mem hyl
                      have hzr := hpre.inn _ hzm
                      have hkr : 0 ≤ ord[k] ∧ ord[k] < ops.length := ⟨by omega, by omega⟩
                      refine With.mk rfl (IdxF.mk (cutL ord k)[y] (by omega) (get_some hyl) ?_)
                      refine .quiet (by kernel_rfl) ?_
                      refine With.mk rfl ?_
                      refine IdxF.mk (opT (opAt ops ord[k])) hkr.1 (op_get hkr.1 hkr.2) ?_
                      refine With.mk rfl ?_
                      refine IdxF.mk (opT (opAt ops (cutL ord k)[y])) hzr.1 (op_get hzr.1 hzr.2) ?_
                      refine callQ [] (aAheadL (opAt ops ord[k]) (opAt ops (cutL ord k)[y]) _) ?_
                      refine bcond_split (fun d => ?_) (fun d => ?_)
                      · have d : aheadP (opAt ops ord[k]) (opAt ops (cutL ord k)[y]) = true := d
                        exact fin_frontP ([(b4, all4)]) (fin_frontP ([(b1, all1)] ++ G) (.done ⟨hno fun h => by (have := h.2.2.2 _ hzm; rw [d] at this; cases this), rfl⟩))
                      · have d : aheadP (opAt ops ord[k]) (opAt ops (cutL ord k)[y]) = false := d
                        exact nextS (y + 1) (by show (cutL ord k).length - (y + 1) < (cutL ord k).length - y; omega) ⟨hyl, ah_succ hyl hah d⟩ ⟨rfl, rfl, rfl, rfl, rfl, rfl, rfl, rfl, rfl, rfl, inc64 (by have := cutL_len ord k; omega), trivial⟩ (.refl _)
                    · have hg2 : ¬ (y : Int) < (cutL ord k).length := hg2
                      have hah : ∀ z ∈ ord.take k, aheadP (opAt ops ord[k]) (opAt ops z) = false := by rw [List.take_of_length_le (by omega), cutL_eq] at hah; exact hah
                      exact nextS (k + 1, .mref b4 off4 (doP (mxR R) now (opAt ops ord[k])).1.length 1, [(b4, all4)], [(b1, all1)] ++ G, (doP (mxR R) now (opAt ops ord[k])).1) (by show ord.length - (k + 1) < ord.length - k; omega) ⟨hkl, h3, by show PreF ops (mxR R) (ord.take (k + 1)) _; rw [List.take_succ_eq_append_getElem hkl]; exact hpre.snoc ⟨by omega, by omega⟩ c3 c hah, by show (doP (mxR R) now (opAt ops ord[k])).1.length ≤ k + 1; omega⟩ ⟨rfl, rfl, rfl, rfl, rfl, rfl, inc64 (by omega), trivial⟩ (.refl _)
  · have hge : k = ord.length := by have hge : ¬ (k : Int) < ord.length := hge; omega
    rw [hge, List.take_length] at hpre
    refine loopS (S := Nat) (fun x => [(2, .fsl (.int .i64) ord), (71, .fsl opSh (ops.map opT)), (72, .int .i64 (ops.map opT).length), (73, .int .i64 x)]) (fun _ => acc ++ (G ++ σ)) (fun x => x ≤ ops.length ∧ ∀ j : Nat, j < x → (j : Int) ∈ ord ∨ ¬ 0 < (opAt ops (j : Int)).en) (fun x => ops.length - x) 0 ⟨⟨Nat.zero_le _, fun j h => absurd h (Nat.not_lt_zero j)⟩, ⟨rfl, rfl, rfl, rfl, trivial⟩, rfl⟩ ?_
    rintro m g ⟨hm, hall⟩
    have hm : m ≤ ops.length := hm
    have hall : ∀ j : Nat, j < m → (j : Int) ∈ ord ∨ ¬ 0 < (opAt ops (j : Int)).en := hall
    refine bcond_dec (fun hlt => ?_) (fun hge => ?_)
    · have hlt : (m : Int) < (ops.map opT).length := hlt
      rw [List.length_map] at hlt
      refine With.mk rfl (IdxF.mk (opT (opAt ops (m : Int))) (by omega) (op_get (by omega) (by omega)) ?_)
      intro bl1
      refine StoreAt.mk 0 _ _ rfl rfl ?_
      refine callB [] (aContL ord (m : Int) _ (by omega)) (fun d => ?_) (fun d => ?_)
      · have d : (m : Int) ∈ ord := of_decide_eq_true d
        exact nextS (m + 1) (by show ops.length - (m + 1) < ops.length - m; omega) ⟨by show m + 1 ≤ ops.length; omega, all_succ hall (.inl d)⟩ ⟨rfl, rfl, rfl, inc64 (by omega), trivial⟩ (.drop 0 1 (.refl _))
      · refine LoadAt.mk 0 _ _ rfl rfl ?_
        have d : ¬ (m : Int) ∈ ord := of_decide_eq_false d
        refine bcond_dec (p := 0 < (opAt ops (m : Int)).en) (fun e => ?_) (fun e => ?_)
        · have e : 0 < (opAt ops (m : Int)).en := e
          exact .drop 0 1 (fin_frontP acc (fin_frontP G (.done ⟨fitsB_no fun hf => d (hf.all m _ (op_some (by omega)) e), rfl⟩)))
        · have e : ¬ 0 < (opAt ops (m : Int)).en := e
          exact nextS (m + 1) (by show ops.length - (m + 1) < ops.length - m; omega) ⟨by show m + 1 ≤ ops.length; omega, all_succ hall (.inr e)⟩ ⟨rfl, rfl, rfl, inc64 (by omega), trivial⟩ (.drop 0 1 (.refl _))
    · have hge : ¬ (m : Int) < (ops.map opT).length := hge
      rw [List.length_map] at hge
      exact fin_frontP acc (fin_frontP G (.done ⟨fitsB_yes (hpre.fits fun j hj => hall j (by omega)), rfl⟩))
end Go.Proofs.Ytacacplipaeokaa
