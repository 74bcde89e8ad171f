/-
  Dk; Dn; Lpn: what the claim uses of them.
-/
import Derived.FnData
import Derived.LaidHandle
import Derived.LaidLaws
import Derived.OpenShut
import Derived.Stop.Joined
import Derived.Test.YtljbnigceammdaaGreatDoorRows
import Derived.Test.YtljbnigceammdaaGreatDoorBn40
import Derived.Test.YtljbnigceammdaaGreatDoorBn46
import Derived.Test.YtljbnigceammdaaGreatDoorBn12
namespace Go.Proofs.YtljbnigceammdaaGreatDoor
open Go.RowKit
set_option maxRecDepth 100000
def tabA : Array Value := (Lib.deBruijn64tab.map fun k : Nat => Value.int .u8 k).toArray
theorem gTab : Tryz.prog.globalNamed "math/bits.deBruijn64tab" = some gT := by kernel_rfl
theorem gTabT : (Tryz.prog.globals[gT]?).map (·.type) = some 158 := by kernel_rfl
theorem laid_eq : (Rows.laid_math_bits_deBruijn64tab : DataW Unit) = .agg (Lib.deBruijn64tab.map fun k : Nat => .lit (.int .u8 k)) := by kernel_rfl
theorem laid_plain {W : World} (h : laidMetH Tryz.prog [("math/bits.deBruijn64tab", Rows.laid_math_bits_deBruijn64tab)] W) : laidMet Tryz.prog [("math/bits.deBruijn64tab", Rows.laid_math_bits_deBruijn64tab)] W := h
theorem laid_of {W : World} (h : laidMet Tryz.prog [("math/bits.deBruijn64tab", Rows.laid_math_bits_deBruijn64tab)] W) : laidMetH Tryz.prog [("math/bits.deBruijn64tab", Rows.laid_math_bits_deBruijn64tab)] W := h
theorem tab_of_laid {W : World} (h : laidMetH Tryz.prog [("math/bits.deBruijn64tab", Rows.laid_math_bits_deBruijn64tab)] W) : ∃ T, W.heap[gT]? = some (.cells tabA T (0, 0)) := by
  obtain ⟨ps, ⟨g, t, cs, fuel, p, q, hg, ht, hv, hd, _, rfl⟩, _, hps⟩ := laid_plain h
  obtain rfl := Option.some.inj (gTab.symm.trans hg)
  obtain rfl := Option.some.inj (gTabT.symm.trans ht)
  obtain ⟨xs, m, rfl, hx, hlen, hn, hel⟩ := DataW.trod_array Tryz.underlying158 hd
  have cT : Tryz.prog.cellsOf 158 = 64 := by kernel_rfl
  have c1 : Tryz.prog.cellsOf 5 = 1 := by kernel_rfl
  rw [cT] at hlen
  have hlen : cs.size = 64 := by simpa using hlen
  rw [laid_eq] at hx
  simp only [Prod.mk.injEq, DataW.agg.injEq] at hx
  have hcs : cs = tabA := by
    refine Array.ext ?_ fun i h1 h2 => ?_
    · rw [hlen]; rfl
    · have hi : i < 64 := by omega
      have he := hel i hi
      rw [c1, Nat.mul_one] at he
      have hxi : (xs.map (·.1))[i]? = some (.lit (.int .u8 (Lib.deBruijn64tab.getD i 0))) := by
        rw [← hx.1, List.getElem?_map, List.getElem?_eq_getElem (show i < Lib.deBruijn64tab.length from hi), List.getD_eq_getElem?_getD, List.getElem?_eq_getElem (show i < Lib.deBruijn64tab.length from hi)]; rfl
      rw [List.getElem?_map] at hxi
      cases hy : xs[i]? with
      | none => rw [hy] at hxi; cases hxi
      | some y =>
        rw [hy] at hxi he
        obtain ⟨n, e1, e2, _⟩ := DataW.trod_int Tryz.underlying5 he
        rw [e2] at hxi
        have hn2 : n = (Lib.deBruijn64tab.getD i 0 : Nat) := by simpa using hxi
        have h3 : cs.toList[i]? = some (.int .u8 n) := by
          have := congrArg (·[0]?) e1
          simpa using this
        rw [Array.getElem?_toList, Array.getElem?_eq_getElem h1] at h3
        rw [Option.some.inj h3, hn2]
        have h4 : tabA[i]? = some (.int .u8 (Lib.deBruijn64tab.getD i 0 : Nat)) := by
          unfold tabA
          rw [List.getElem?_toArray, List.getElem?_map, List.getD_eq_getElem?_getD, List.getElem?_eq_getElem (show i < Lib.deBruijn64tab.length from hi)]; rfl
        exact (Option.some.inj ((Array.getElem?_eq_getElem h2).symm.trans h4)).symm
  subst hcs
  have hm : MemPlace.cell gT 0 ∈ MemPlace.row ⟨gT, 0, none⟩ tabA.size ++ p ++ q := List.mem_append_left _ (List.mem_append_left _ (List.mem_map.2 ⟨0, List.mem_range.2 (by decide), rfl⟩))
  obtain ⟨⟨c, T, hc⟩, _⟩ := hps _ _ hm
  refine ⟨T, ?_⟩
  unfold World.var? at hv
  rw [gTab, Option.bind_some, hc] at hv
  rw [hc, Option.some.inj hv]
theorem tab_at {i : Nat} {x : AV} (h : tabT[i]? = some x) : x = .int .u8 (Lib.deBruijn64tab.getD i 0 : Nat) ∧ tabA[i]? = some (.int .u8 (Lib.deBruijn64tab.getD i 0 : Nat)) ∧ i < 64 := by
  have hi : i < Lib.deBruijn64tab.length := by
    obtain ⟨h, _⟩ := List.getElem?_eq_some_iff.1 h
    unfold tabT at h
    rwa [List.length_map] at h
  unfold tabT at h
  rw [List.getElem?_map, List.getElem?_eq_getElem hi] at h
  have hg : Lib.deBruijn64tab.getD i 0 = Lib.deBruijn64tab[i] := by rw [List.getD_eq_getElem?_getD, List.getElem?_eq_getElem hi]; rfl
  refine ⟨by rw [hg]; exact (Option.some.inj h).symm, ?_, hi⟩
  unfold tabA
  rw [List.getElem?_toArray, List.getElem?_map, List.getElem?_eq_getElem hi, hg]; rfl
/-- What is frozen to begin with: all that there is, but for the table. -/
def FT (w : World) (b : Nat) : Prop := b < w.heap.size ∧ b ≠ gT
theorem relhp_tab {w : World} {T : TypeId} (h : w.heap[gT]? = some (.cells tabA T (0, 0))) : RelHp (FT w) w [(gT, tabT)] := by
  refine ⟨by simp, fun p hp => ?_, fun _ h => h.1⟩
  obtain rfl := List.mem_singleton.1 hp
  refine ⟨fun h => h.2 rfl, .inl ⟨tabA, T, h, by decide, fun i x hx => ?_⟩⟩
  obtain ⟨rfl, h2, _⟩ := tab_at hx
  refine ⟨rfl, ?_⟩
  rw [Array.getD_eq_getD_getElem?, h2]
  exact .int _ _
/-- A law, out of its walk over the table. -/
theorem law_tab {f : FuncId} {xs : List AV} (h : ACalls Tryz.prog f xs [(gT, tabT)] (fun r σ => r = .bool true ∧ (gT, tabT) ∈ σ)) {w : World} {T : TypeId} (ht : w.heap[gT]? = some (.cells tabA T (0, 0))) {vs : Array Value} (hv : VRels (FT w) w xs vs) :
    Calls Tryz.prog f vs w fun e w' => e = .returned (.bool true) ∧ Below w.heap.size w w' := by
  refine (h.2 _ w vs hv (relhp_tab ht)).mono ?_
  rintro e w' ⟨r, v, σ', F', rfl, h1, h2, h3, rfl, hm⟩
  rw [h3.boolv]
  refine ⟨rfl, h1.os, h1.tape, h1.output, h1.size, fun k hk => ?_⟩
  by_cases hk2 : k = gT
  · subst hk2
    obtain ⟨c', fz', e1, e2⟩ := h1.rows _ _ _ _ ht
    obtain ⟨_, c, T2, q1, q2, q3⟩ := (h2.holds _ hm).leafs (k := 0) (x := .int .u8 0) rfl rfl
    rw [e1] at q1
    injection q1 with q1
    injection q1 with qa qb qc
    subst qa; subst qb
    rw [ht, e1, qc]
    congr 2
    refine Array.ext e2 fun i i1 i2 => ?_
    have hi : i < 64 := by rw [e2] at i1; exact i1
    have hx : tabT[i]? = some (.int .u8 (Lib.deBruijn64tab.getD i 0 : Nat)) := by
      unfold tabT
      rw [List.getElem?_map, List.getElem?_eq_getElem (show i < Lib.deBruijn64tab.length from hi), List.getD_eq_getElem?_getD, List.getElem?_eq_getElem (show i < Lib.deBruijn64tab.length from hi)]; rfl
    obtain ⟨_, h4, _⟩ := tab_at hx
    have h5 := (q3 i _ hx).2.intv
    rw [Array.getD_eq_getD_getElem?, Array.getElem?_eq_getElem i1] at h5
    have h6 := Option.some.inj ((Array.getElem?_eq_getElem i2).symm.trans h4)
    rw [h6]
    exact h5
  · exact h1.fix k ⟨hk, hk2⟩
def h64 : Sh → Bool | .int k => k == .i64 | .field f _ => h64 f | _ => false
def far : Sh → Bool | .slice e => decide (0 < e.size) && h64 e && far e | .field f r => far f && far r | _ => true
theorem h64_cell {w : World} : ∀ (e : Sh) (cs : List Value) (d : e.T), h64 e = true → Reads w e cs d → ∃ n, cs.head? = some (.int .i64 n) := by
  intro e
  induction e with
  | int k =>
    rintro cs d h ⟨rfl, _⟩
    have : k = .i64 := by simpa [h64] using h
    subst this
    exact ⟨d, rfl⟩
  | field f r ihf _ =>
    rintro cs d h ⟨c1, c2, rfl, _, h3, _⟩
    obtain ⟨n, hn⟩ := ihf _ _ (by simpa [h64] using h) h3
    refine ⟨n, ?_⟩
    cases c1 with
    | nil => cases hn
    | cons u c1 => exact hn
  | _ => intro _ _ h; cases h
theorem freads_far {w : World} {T : TypeId} (ht : w.heap[gT]? = some (.cells tabA T (0, 0))) : ∀ (s : Sh) (cs : List Value) (d : s.T), far s = true → Reads w s cs d → FReads (FT w) w s cs d := by
  intro s
  induction s with
  | int k => exact fun _ _ _ h => h.1
  | bool => exact fun _ _ _ h => h
  | str => exact fun _ _ _ h => h.1
  | nil => exact fun _ _ _ h => h
  | slice e ih =>
    rintro cs l hp ⟨a, c, h1, h2, h3, h0, h4⟩
    simp only [far, Bool.and_eq_true, decide_eq_true_eq] at hp
    refine ⟨a, c, h1, h2, h3, h0, fun hne => ?_⟩
    obtain ⟨b, o, rfl, hi⟩ := h4 hne
    have hpos : 0 < l.length := List.length_pos_iff.2 hne
    refine ⟨b, o, rfl, ?_, fun i h => ?_⟩
    · obtain ⟨cs', q1, q2, q3⟩ := hi 0 hpos
      obtain ⟨n, hn⟩ := h64_cell _ _ _ hp.1.2 q3
      cases cs' with
      | nil => cases hn
      | cons u cs' =>
        obtain rfl : u = .int .i64 n := Option.some.inj hn
        have hcell := q2 0 _ rfl
        unfold World.cell? at hcell
        cases ho : w.heap[b]? with
        | none => simp [ho] at hcell
        | some x =>
          cases x with
          | cells c T2 fz =>
            refine ⟨⟨at_lt ho, fun hb => ?_⟩, c, T2, fz, ho⟩
            subst hb
            rw [ht] at ho
            injection ho with ho
            injection ho with ho _ _
            subst ho
            rw [ht] at hcell
            have hc2 : tabA[o + 0 * e.size + 0]? = some (.int .i64 n) := by simpa using hcell
            have hlt : o + 0 * e.size + 0 < 64 := by
              obtain ⟨h, _⟩ := Array.getElem?_eq_some_iff.1 hc2
              exact h
            have h8 : ∀ i, i < 64 → tabA[i]? ≠ some (.int .i64 n) := fun i hi hh => by
              have hx : tabT[i]? = some (.int .u8 (Lib.deBruijn64tab.getD i 0 : Nat)) := by
                unfold tabT
                rw [List.getElem?_map, List.getElem?_eq_getElem (show i < Lib.deBruijn64tab.length from hi), List.getD_eq_getElem?_getD, List.getElem?_eq_getElem (show i < Lib.deBruijn64tab.length from hi)]; rfl
              obtain ⟨_, h4, _⟩ := tab_at hx
              rw [h4] at hh
              cases hh
            exact h8 _ hlt hc2
          | _ => simp [ho] at hcell
    · obtain ⟨cs', q1, q2, q3⟩ := hi i h
      exact ⟨cs', q1, q2, ih _ _ hp.2 q3⟩
  | field f r ihf ihr =>
    rintro cs d hp ⟨c1, c2, h1, h2, h3, h4⟩
    simp only [far, Bool.and_eq_true] at hp
    exact ⟨c1, c2, h1, h2, ihf _ _ hp.1 h3, ihr _ _ hp.2 h4⟩
theorem vlT {w : World} {T : TypeId} (ht : w.heap[gT]? = some (.cells tabA T (0, 0))) {e : Sh} {a : Option Addr} {n c : Nat} {l : List e.T} (hp : far (Sh.slice e) = true) (h : Reads w (.slice e) (Value.slice a n c).cells.toList l) : VRel (FT w) w (.fsl e l) (.slice a n c) :=
  .fsl e l _ (freads_far ht (.slice e) _ l hp h)
end Go.Proofs.YtljbnigceammdaaGreatDoor
namespace Go.Proofs.YtljbnigceammdaaGreatDoor
open Go.RowKit
set_option maxRecDepth 100000
theorem aRSameE51 (l : List PrT) (σ : Hp) (hl : l.length ≤ 1000000) : ACalls Tryz.prog 34 [.fsl prSh l, .fsl prSh l] σ (Ret (.bool true) σ) := by
  refine okF Tryz.func34 (by kernel_rfl) ?_
  refine bcond_split (fun c => absurd c (by simp)) (fun c => ?_)
  refine loopS (S := Nat) (fun k => [(0, .fsl prSh l), (1, .fsl prSh l), (12, .int .i64 l.length), (13, .int .i64 k)]) (fun _ => σ) (fun k => k ≤ l.length) (fun k => l.length - k) 0 ⟨Nat.zero_le _, ⟨rfl, rfl, rfl, rfl, trivial⟩, rfl⟩ ?_
  rintro k g hk0
  have hk : k ≤ l.length := hk0
  refine bcond_dec (fun hlt => ?_) (fun hge => ?_)
  · have hlt : k < l.length := by have hlt : (k : Int) < l.length := hlt; omega
    obtain ⟨x, hx⟩ : ∃ x : PrT, l[k] = x := ⟨_, rfl⟩
    obtain ⟨x1, x2, xu⟩ := x
    refine DrawW.quiet (by kernel_rfl) ?_
    refine With.mk rfl (IdxF.mk (x1, x2, xu) (by omega) ((get_some hlt).trans (congrArg some hx)) ?_)
    refine With.mk rfl (IdxF.mk (x1, x2, xu) (by omega) ((get_some hlt).trans (congrArg some hx)) ?_)
    refine .mk (by kernel_rfl) (by kernel_rfl) ?_
    refine bcond_split (fun c => ?_) (fun c => ?_)
    · have c : (!allB [decide (x1 = x1), decide (x2 = x2)]) = true := c
      simp [allB] at c
    exact nextS (k + 1) (by show l.length - (k + 1) < l.length - k; omega) hlt ⟨rfl, rfl, rfl, inc64 (by omega), trivial⟩ (.refl _)
  · exact .done ⟨rfl, rfl⟩
def fewB (n : Int) (l : List EdgeT) : Bool := (decide (n ≤ 8) || decide (256 < n)) && decide (l.length ≤ 20)
/-- What a graph is that is right, and few. -/
theorem few_dg {n r : Int} {l : List EdgeT} (hf : fewB n l = true) (h : rightE n l = true ∧ 0 ≤ r ∧ r < n) : ∃ N R : Nat, n = N ∧ r = R ∧ DG N R l := by
  unfold fewB at hf
  rw [Bool.and_eq_true, Bool.or_eq_true, decide_eq_true_eq, decide_eq_true_eq, decide_eq_true_eq] at hf
  have hri := h.1
  unfold rightE at hri
  simp only [Bool.and_eq_true, decide_eq_true_eq] at hri
  refine ⟨n.toNat, r.toNat, by omega, by omega, by omega, by omega, by omega, ?_, by omega⟩
  rw [Int.toNat_of_nonneg (by omega)]; exact h.1
theorem over_yes {N r : Nat} {l : List EdgeT} {a b : Int} (d : DG N r l) (h : 0 ≤ a ∧ a < N ∧ 0 ≤ b ∧ b < N) : overE N a b = 0 ∧ overR N l r a b = overB N l r a b := by
  unfold overE overB
  rw [if_pos h, decide_eq_true h, Bool.true_and]
  refine ⟨rfl, Bool.eq_iff_iff.2 ?_⟩
  rw [decide_eq_true_eq, row_eq d.h1 d.h8 d.hl d.ri d.hr (by omega), Int.toNat_of_nonneg h.2.2.1]
  unfold rowR
  rw [List.mem_filter, List.mem_map]
  exact ⟨fun h2 => ⟨⟨a.toNat, List.mem_range.2 (by omega), by omega⟩, h2⟩, fun h2 => h2.2⟩
end Go.Proofs.YtljbnigceammdaaGreatDoor
namespace Go.Proofs.YtljbnigceammdaaGreatDoor
open Go.RowKit
set_option maxRecDepth 100000
def awE52 : List EdgeT := [(0, 1, ()), (1, 2, ()), (2, 1, ())]
theorem awD52 : DG 3 0 awE52 := ⟨by decide, by decide, by decide, by decide +kernel, by decide⟩
theorem awBack52 : backP 3 awE52 0 = (sortedE awE52).filter fun x => decide (x.2.1 ∈ rowR 3 awE52 0 x.1.toNat) := by
  have h : ∀ v, v < 3 → domRow 3 awE52 0 v = rowR 3 awE52 0 v := fun v hv => row_eq (by decide) (by decide) (by decide) (by decide +kernel) (by decide) hv
  have hs : ∀ x ∈ sortedE awE52, x.1.toNat < 3 := fun x hx => (show ∀ x ∈ awE52, x.1.toNat < 3 by decide +kernel) x ((sortedE_mem awE52 x).1 hx)
  unfold backP
  refine List.filter_congr fun x hx => ?_
  rw [h _ (hs x hx)]
theorem awLoops52 : loopsP 3 awE52 0 3 = [(1, [1, 2], ())] := by
  unfold loopsP
  rw [awBack52, ← insK_all]
  decide +kernel
def awL52 : List LoopT := [((1 : Int), ([1, 2] : List Int), ())]
theorem aAwake52 (σ : Hp) (hg : (gT, tabT) ∈ σ) : ACalls Tryz.prog 27 [] σ (Ret (.bool true) σ) := by
  refine okF Tryz.func27 (by kernel_rfl) ?_
  intro bl1
  refine .frz (args' := [.int .i64 3, .fsl edgeSh awE52, .int .i64 0]) 0 bl1 0 3 2 _ edgeSh awE52 rfl rfl ⟨rfl, rfl, by decide⟩ (frz_cons (.refl _) (frz_cons .here (.refl _))) ?_
  obtain ⟨z, hz⟩ : ∃ z : Int, z = 0 := ⟨_, rfl⟩
  have hA : ∀ σ, (gT, tabT) ∈ σ → ACalls Tryz.prog 29 [.int .i64 3, .fsl edgeSh awE52, .int .i64 0] σ (Ret (.tup [.fsl loopSh awL52, .int .i64 z]) σ) := fun σ h => by
    have h2 := aLoopsOf 3 0 awE52 σ awD52 h
    rw [awLoops52] at h2
    rw [hz]
    exact h2
  refine callR [] (hA _ hg) ?_
  refine bcond_dec (p := z = 0) (fun c1 => ?_) (fun c1 => absurd hz c1)
  refine With.mk rfl (IdxF.mk (l := awL52) ((1 : Int), ([1, 2] : List Int), ()) (by decide) rfl ?_)
  refine With.mk rfl ?_
  refine IdxF.mk (l := awL52) ((1 : Int), ([1, 2] : List Int), ()) (by decide) rfl ?_
  intro bl1
  refine .frz (args' := [.fsl (.int .i64) ([1, 2] : List Int), .fsl (.int .i64) ([1, 2] : List Int)]) 0 bl1 0 2 1 _ (.int .i64) ([1, 2] : List Int) rfl rfl ⟨rfl, rfl, by decide⟩ (frz_cons (.refl _) (frz_cons .here (.refl _))) ?_
  refine callR [] (aRInts20 [1, 2] _ (show 2 ≤ 1000000 by decide)) ?_
  exact .done ⟨rfl, rfl⟩
def few52B (n : Int) (l : List EdgeT) : Bool := (decide (n ≤ 7) || decide (256 < n)) && decide (l.length ≤ 16)
theorem few52_few {n : Int} {l : List EdgeT} (h : few52B n l = true) : fewB n l = true ∧ (n ≤ 7 ∨ 256 < n) ∧ l.length ≤ 16 := by
  unfold few52B at h
  unfold fewB
  rw [Bool.and_eq_true, Bool.or_eq_true, decide_eq_true_eq, decide_eq_true_eq, decide_eq_true_eq] at h
  rw [Bool.and_eq_true, Bool.or_eq_true, decide_eq_true_eq, decide_eq_true_eq, decide_eq_true_eq]
  omega
theorem aFew52 (n : Int) (l : List EdgeT) (σ : Hp) : ACalls Tryz.prog 28 [.int .i64 n, .fsl edgeSh l] σ (Ret (.bool (few52B n l)) σ) := by
  refine okF Tryz.func28 (by kernel_rfl) ?_
  have hE : ∀ x : Bool, (decide (n ≤ 7) || decide (256 < n)) = x → few52B n l = (x && decide (l.length ≤ 16)) := fun x hx => by unfold few52B; rw [hx]
  have h1 : (l.length : Int) ≤ 16 → decide (l.length ≤ 16) = true := fun h => decide_eq_true (by omega)
  have h0 : ¬ (l.length : Int) ≤ 16 → decide (l.length ≤ 16) = false := fun h => decide_eq_false (by omega)
  refine bcond_dec (p := n ≤ 7) (fun c1 => ?_) (fun c1 => ?_)
  · have hx := hE true (by rw [decide_eq_true c1]; rfl)
    refine bcond_dec (p := (l.length : Int) ≤ 16) (fun c3 => ?_) (fun c3 => ?_)
    · exact .done ⟨av_bool (by rw [hx, h1 c3]; rfl), rfl⟩
    · exact .done ⟨av_bool (by rw [hx, h0 c3]; rfl), rfl⟩
  · refine bcond_dec (p := 256 < n) (fun c2 => ?_) (fun c2 => ?_)
    · have hx := hE true (by rw [decide_eq_true c2, Bool.or_true])
      refine bcond_dec (p := (l.length : Int) ≤ 16) (fun c3 => ?_) (fun c3 => ?_)
      · exact .done ⟨av_bool (by rw [hx, h1 c3]; rfl), rfl⟩
      · exact .done ⟨av_bool (by rw [hx, h0 c3]; rfl), rfl⟩
    · exact .done ⟨av_bool (hE false (by rw [decide_eq_false c1, decide_eq_false c2]; rfl)).symm, rfl⟩
end Go.Proofs.YtljbnigceammdaaGreatDoor
