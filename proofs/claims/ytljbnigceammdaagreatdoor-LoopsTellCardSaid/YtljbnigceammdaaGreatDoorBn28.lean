/-
  Za: what the claim uses of them.
-/
import Derived.Test.YtljbnigceammdaaGreatDoorBn27
import Derived.Test.YtljbnigceammdaaGreatDoorBn26
namespace Go.Proofs.YtljbnigceammdaaGreatDoor
open Go.RowKit
set_option maxRecDepth 100000
section
variable {F : Nat → Prop} {w : World} {σ : Hp}
theorem grow_rel (h : RelHp F w σ) (os : Array Obj) : Stp F w F (Go.Sort.grow w os) ∧ RelHp F (Go.Sort.grow w os) σ := by
  have hsz : (Go.Sort.grow w os).heap.size = w.heap.size + os.size := by simp [Go.Sort.grow]
  have hge : ∀ b, b < w.heap.size → (Go.Sort.grow w os).heap[b]? = w.heap[b]? := fun b hb => by
    show (w.heap ++ os)[b]? = _
    rw [Array.getElem?_append_left hb]
  have hst : Stp F w F (Go.Sort.grow w os) := ⟨rfl, rfl, rfl, by omega, fun _ h => h, fun b hb => hge b (h.low b hb), fun b c T fz hc => ⟨c, fz, by
    rw [hge b (Array.getElem?_eq_some_iff.1 hc).1]; exact hc, rfl⟩, Nat.le_refl _⟩
  exact ⟨hst, h.nodup, fun p hp => (h.holds p hp).mono hst (hge _ (h.holds p hp).lt) (h.holds p hp).1, fun b hb => by have := h.low b hb; omega⟩
theorem inC_length (zs : List Int) : (inC zs).length = zs.length := by unfold inC; simp
theorem inC_get (zs : List Int) {i : Nat} {x : AV} (h : (inC zs)[i]? = some x) : ∃ h2 : i < zs.length, x = .int .i64 zs[i] := by
  unfold inC at h
  rw [List.getElem?_map] at h
  cases hz : zs[i]? with
  | none => rw [hz] at h; cases h
  | some z =>
    rw [hz] at h
    obtain ⟨h2, h3⟩ := List.getElem?_eq_some_iff.1 hz
    exact ⟨h2, by cases h; rw [h3]⟩
theorem get_inC (zs : List Int) {i : Nat} (h : i < zs.length) : (inC zs)[i]? = some (.int .i64 zs[i]) := by unfold inC; rw [List.getElem?_map, List.getElem?_eq_getElem h]; rfl
theorem Holds.not_map {F : Nat → Prop} {w : World} {b : Nat} {cs : List AV} (h : Holds F w b cs) (hn : ∀ x ∈ cs, x.leaf = true) : ¬ F b ∧ HoldsC F w b cs := by
  obtain ⟨hF, h | ⟨l, e, _⟩ | ⟨L, t, e, _⟩⟩ := h
  · exact ⟨hF, h⟩
  · subst e; cases hn _ (List.mem_cons_self ..)
  · subst e; cases hn _ (List.mem_cons_self ..)
theorem inC_leaf (zs : List Int) : ∀ x ∈ inC zs, x.leaf = true := fun x hx => by
  obtain ⟨z, _, rfl⟩ := List.mem_map.1 hx; rfl
theorem put_rel {b n : Nat} {zs zs' : List Int} (h : RelHp F w ((b, inC zs) :: σ)) (hl : zs'.length = zs.length) (os : Array Obj) :
    Stp F w F (Go.Sort.grow (Go.Sort.putRow (Value.int .i64) (Go.Sort.ahead w n) b 0 zs'.toArray) os) ∧ RelHp F (Go.Sort.grow (Go.Sort.putRow (Value.int .i64) (Go.Sort.ahead w n) b 0 zs'.toArray) os) ((b, inC zs') :: σ) := by
  obtain ⟨hF, c, T, hc, hle, hcr⟩ := (h.holds _ (List.mem_cons_self ..)).not_map (inC_leaf zs)
  have hle : (inC zs).length ≤ c.size := hle
  rw [inC_length] at hle
  have hc : w.heap[b]? = some (.cells c T (0, 0)) := hc
  have hput : ∀ k, k < zs'.length → (Go.Sort.putCells (Value.int .i64) 0 zs'.toArray c).getD k undef = Value.int .i64 (zs'.getD k 0) := fun k hk => by
    have hkc : k < c.size := by omega
    unfold Go.Sort.putCells
    rw [Array.getD_eq_getD_getElem?, Array.getElem?_mapIdx, Array.getElem?_eq_getElem hkc]
    simp only [Option.map_some, Option.getD_some]
    rw [if_pos ⟨Nat.zero_le _, by simpa using hk⟩, Nat.sub_zero, List.getD_eq_getElem?_getD, List.getElem?_eq_getElem hk]
    simp [hk]
  have key := relhp_set (F := F) (w := w) (w' := Go.Sort.putRow (Value.int .i64) (Go.Sort.ahead w n) b 0 zs'.toArray) h (j := 0) (b := b) (cs := inC zs) (cs' := inC zs') rfl hc (c' := Go.Sort.putCells (Value.int .i64) 0 zs'.toArray c) (by simp [Go.Sort.putCells]) (by rw [inC_length]; simp [Go.Sort.putCells]; omega)
    (fun i x hx => by
      obtain ⟨h2, rfl⟩ := inC_get zs' hx
      refine ⟨rfl, ?_⟩
      rw [hput i h2, List.getD_eq_getElem?_getD, List.getElem?_eq_getElem h2]
      exact .int _ _)
    (fun k hk => by
      show (w.heap.modify b _)[k]? = _
      rw [Array.getElem?_modify, if_neg (fun e => hk e.symm)])
    (by
      show (w.heap.modify b _)[b]? = _
      rw [Array.getElem?_modify, if_pos rfl, hc]; rfl)
    rfl rfl rfl (by simp [Go.Sort.ahead])
  obtain ⟨k1, k2⟩ := key
  obtain ⟨g1, g2⟩ := grow_rel k2 os
  exact ⟨k1.trans g1, g2⟩
theorem holds_in {b : Nat} {zs : List Int} (h : RelHp F w ((b, inC zs) :: σ)) : Go.Sort.Holds (Value.int .i64) w b 0 zs.toArray ∧ b < w.heap.size := by
  obtain ⟨hF, c, T, hc, hle, hcr⟩ := (h.holds _ (List.mem_cons_self ..)).not_map (inC_leaf zs)
  have hc : w.heap[b]? = some (.cells c T (0, 0)) := hc
  have hle : (inC zs).length ≤ c.size := hle
  rw [inC_length] at hle
  refine ⟨fun j hj => ?_, (Array.getElem?_eq_some_iff.1 hc).1⟩
  have hj : j < zs.length := by simpa using hj
  have hr := (hcr j _ (get_inC zs hj)).2.intv
  rw [Nat.zero_add]
  constructor
  · rw [cell_at hc, Array.getElem?_eq_getElem (by omega)]
    rw [Array.getD_eq_getD_getElem?, Array.getElem?_eq_getElem (by omega)] at hr
    simp only [Option.getD_some] at hr
    rw [hr]
    simp [hj]
  · unfold World.frozen?
    simp [hc]
end
theorem compact_len (l : List Int) : (Go.Lib.compact l).length ≤ l.length := by
  unfold Go.Lib.compact Go.Lib.compactUpTo
  rw [List.length_map]
  exact Nat.le_trans (List.length_filter_le _ _) (by simp)
def sortI (zs : List Int) : List Int := zs.mergeSort fun x y => decide (x ≤ y)
theorem sortI_length (zs : List Int) : (sortI zs).length = zs.length := List.length_mergeSort ..
theorem inc_ext : ∀ {l m : List Int}, l.Pairwise (· < ·) → m.Pairwise (· < ·) → (∀ x, x ∈ l ↔ x ∈ m) → l = m
  | [], [], _, _, _ => rfl
  | [], y :: m, _, _, h => absurd ((h y).2 (List.mem_cons_self ..)) List.not_mem_nil
  | x :: l, [], _, _, h => absurd ((h x).1 (List.mem_cons_self ..)) List.not_mem_nil
  | x :: l, y :: m, hl, hm, h => by
    have h1 := List.pairwise_cons.1 hl
    have h2 := List.pairwise_cons.1 hm
    have hxy : x = y := by
      have a := (h x).1 (List.mem_cons_self ..)
      have b := (h y).2 (List.mem_cons_self ..)
      rcases List.mem_cons.1 a with a | a
      · exact a
      · rcases List.mem_cons.1 b with b | b
        · exact b.symm
        · have := h1.1 y b; have := h2.1 x a; omega
    subst hxy
    refine congrArg (x :: ·) (inc_ext h1.2 h2.2 fun z => ⟨fun hz => ?_, fun hz => ?_⟩)
    · rcases List.mem_cons.1 ((h z).1 (List.mem_cons_of_mem _ hz)) with e | e
      · subst e; have := h1.1 z hz; omega
      · exact e
    · rcases List.mem_cons.1 ((h z).2 (List.mem_cons_of_mem _ hz)) with e | e
      · subst e; have := h2.1 z hz; omega
      · exact e
theorem sortI_sorted (zs : List Int) : (sortI zs).Pairwise (· ≤ ·) := by
  have := List.pairwise_mergeSort (le := fun x y : Int => decide (x ≤ y)) (fun a b c h1 h2 => by simp at *; omega) (fun a b => by simp; omega) zs
  exact this.imp fun h => by simpa using h
theorem sortI_mem (zs : List Int) (x : Int) : x ∈ sortI zs ↔ x ∈ zs := List.mem_mergeSort
theorem sorted_get {l : List Int} (h : l.Pairwise (· ≤ ·)) {i j : Nat} (hij : i ≤ j) (hj : j < l.length) : l[i]'(by omega) ≤ l[j] := by
  by_cases e : i = j
  · subst e; exact Int.le_refl _
  · exact List.pairwise_iff_getElem.1 h i j (by omega) hj (by omega)
/-- What is sorted, each once. -/
def compI (zs : List Int) : List Int := Go.Lib.compact (sortI zs)
theorem compact_inc {l : List Int} (h : l.Pairwise (· ≤ ·)) : (Go.Lib.compact l).Pairwise (· < ·) := by
  unfold Go.Lib.compact Go.Lib.compactUpTo
  rw [List.pairwise_map]
  have hr : ((List.range l.length).filter (Go.Lib.keeps l.toArray)).Pairwise fun i j => i < j ∧ j < l.length ∧ Go.Lib.keeps l.toArray j = true := by
    have h1 : (List.range l.length).Pairwise fun i j => i < j ∧ j < l.length := by
      rw [List.pairwise_iff_getElem]
      intro i j hi hj hij
      simp only [List.getElem_range]
      exact ⟨hij, by simpa using hj⟩
    rw [List.pairwise_filter]
    exact h1.imp fun hij _ hk => ⟨hij.1, hij.2, hk⟩
  refine hr.imp fun {i j} ⟨h1, h2, h3⟩ => ?_
  have hk : l.toArray[j]! ≠ l.toArray[j - 1]! := by
    unfold Go.Lib.keeps at h3
    simp only [decide_eq_true_eq] at h3
    rcases h3 with h3 | h3
    · omega
    · exact h3
  have e1 : l.toArray[j]! = l[j] := by simp [h2]
  have e2 : l.toArray[j - 1]! = l[j - 1]'(by omega) := by simp [show j - 1 < l.length by omega]
  have e3 : l.toArray[i]! = l[i]'(by omega) := by simp [show i < l.length by omega]
  rw [e1, e2] at hk
  rw [e1, e3]
  have q1 := sorted_get h (i := i) (j := j - 1) (by omega) (by omega)
  have q2 := sorted_get h (i := j - 1) (j := j) (by omega) h2
  omega
theorem compact_mem {l : List Int} (x : Int) : x ∈ Go.Lib.compact l ↔ x ∈ l := by
  unfold Go.Lib.compact Go.Lib.compactUpTo
  constructor
  · intro hx
    obtain ⟨j, hj, rfl⟩ := List.mem_map.1 hx
    have hj := List.mem_range.1 (List.mem_filter.1 hj).1
    have e1 : l.toArray[j]! = l[j] := by simp [hj]
    rw [e1]; exact List.getElem_mem hj
  · intro hx
    have hex : ∃ j, ∃ h : j < l.length, l[j] = x := by
      obtain ⟨j, hj, e⟩ := List.mem_iff_getElem.1 hx
      exact ⟨j, hj, e⟩
    obtain ⟨j, ⟨hj, e⟩, hmin⟩ : ∃ j, (∃ h : j < l.length, l[j] = x) ∧ ∀ k, k < j → ¬ ∃ h : k < l.length, l[k] = x := by
      obtain ⟨j, hj⟩ := hex
      induction j using Nat.strongRecOn with
      | ind j ih =>
        by_cases hk : ∃ k, k < j ∧ ∃ h : k < l.length, l[k] = x
        · obtain ⟨k, h1, h2⟩ := hk
          exact ih k h1 h2
        · exact ⟨j, hj, fun k h1 h2 => hk ⟨k, h1, h2⟩⟩
    refine List.mem_map.2 ⟨j, List.mem_filter.2 ⟨List.mem_range.2 hj, ?_⟩, by simp [hj, e]⟩
    unfold Go.Lib.keeps
    rw [decide_eq_true_eq]
    by_cases h0 : j = 0
    · exact .inl h0
    · refine .inr fun h => hmin (j - 1) (by omega) ⟨by omega, ?_⟩
      have e1 : l.toArray[j]! = l[j] := by simp [hj]
      have e2 : l.toArray[j - 1]! = l[j - 1]'(by omega) := by simp [show j - 1 < l.length by omega]
      rw [e1, e2] at h
      rw [← h]; exact e
theorem compI_eq {zs : List Int} {n : Nat} (h : ∀ z ∈ zs, 0 ≤ z ∧ z < n) : compI zs = ((List.range n).map fun i : Nat => (i : Int)).filter fun b => decide (b ∈ zs) := by
  refine inc_ext (compact_inc (sortI_sorted zs)) ?_ fun x => ?_
  · refine List.Pairwise.filter _ ?_
    rw [List.pairwise_map, List.pairwise_iff_getElem]
    intro i j hi hj hij
    simp only [List.getElem_range]
    omega
  · unfold compI
    rw [compact_mem, sortI_mem, List.mem_filter, decide_eq_true_eq]
    refine ⟨fun hx => ⟨?_, hx⟩, fun hx => hx.2⟩
    have := h x hx
    exact List.mem_map.2 ⟨x.toNat, List.mem_range.2 (by omega), by omega⟩
theorem enters_sort : Enters Tryz.prog 55 := enters_of Tryz.func55 (by kernel_rfl)
theorem enters_comp : Enters Tryz.prog 84 := enters_of Tryz.func84 (by kernel_rfl)
theorem one_arg {vs : Array Value} (h : 1 = vs.size) : ∃ v, vs = #[v] := by
  refine ⟨vs.getD 0 undef, Array.ext ?_ fun i h2 h3 => ?_⟩
  · simp [← h]
  · have : i = 0 := by omega
    subst this
    simp [Array.getD, h2]
theorem tup_nil {F : Nat → Prop} {w : World} : VRel F w (.tup []) (.tuple #[]) := .tup [] #[] rfl fun i x h => by simp at h
theorem aSortN (σ : Hp) : ACalls Tryz.prog 55 [.nils] σ (Ret (.tup []) σ) := by
  refine ⟨enters_sort, fun F w vs hvs hσ => ?_⟩
  obtain ⟨v, rfl⟩ := one_arg hvs.1
  have hv : VRel F w .nils v := hvs.2 0 _ rfl
  cases hv
  have h : Calls Tryz.prog 55 #[.slice none 0 0] w fun e w' => e = .returned (.tuple #[]) ∧ w' = w := Any.slices_Sort_int_none lays189 none 0 w
  refine h.mono ?_
  rintro e w' ⟨rfl, rfl⟩
  exact ⟨.tup [], .tuple #[], σ, F, rfl, .refl _ _, hσ, tup_nil, rfl, rfl⟩
theorem aSortI (b : Nat) (zs : List Int) (n : Nat) (σ : Hp) (hz : zs.length = n) (hl : n ≤ 1000000) : ACalls Tryz.prog 55 [.mref b 0 n 1] ((b, inC zs) :: σ) (Ret (.tup []) ((b, inC (sortI zs)) :: σ)) := by
  subst hz
  refine ⟨enters_sort, fun F w vs hvs hσ => ?_⟩
  obtain ⟨v, rfl⟩ := one_arg hvs.1
  have hv : VRel F w (.mref b 0 zs.length 1) v := hvs.2 0 _ rfl
  obtain ⟨a, cap, rfl, c, T, fz, m1, m2, m3, m4⟩ := hv.mrefv
  rcases m4 with ⟨rfl, _⟩ | ⟨_, _, h0, _⟩
  · obtain ⟨h1, h2⟩ := holds_in hσ
    have h : Calls Tryz.prog 55 #[.slice (some ⟨b, 0, none⟩) zs.length cap] w fun e w' => e = .returned (.tuple #[]) ∧ ∃ n os, w' = Go.Sort.grow (Go.Sort.putRow (Value.int .i64) (Go.Sort.ahead w n) b 0 (sortI zs).toArray) os := Any.slices_Sort_int lays189 b 0 cap zs w h1 h2 (by omega)
    refine h.mono ?_
    rintro e w' ⟨rfl, n, os, rfl⟩
    obtain ⟨k1, k2⟩ := put_rel (n := n) hσ (sortI_length zs) os
    exact ⟨.tup [], .tuple #[], _, F, rfl, k1, k2, tup_nil, rfl, rfl⟩
  · have hz : zs = [] := List.length_eq_zero_iff.1 h0
    subst hz
    have h : Calls Tryz.prog 55 #[.slice (some a) 0 cap] w fun e w' => e = .returned (.tuple #[]) ∧ w' = w := Any.slices_Sort_int_none lays189 (some a) cap w
    have he : sortI [] = [] := List.length_eq_zero_iff.1 (sortI_length [])
    rw [he]
    refine h.mono ?_
    rintro e w' ⟨rfl, rfl⟩
    exact ⟨.tup [], .tuple #[], _, F, rfl, .refl _ _, hσ, tup_nil, rfl, rfl⟩
theorem aCompN (σ : Hp) : ACalls Tryz.prog 84 [.nils] σ (Ret .nils σ) := by
  refine ⟨enters_comp, fun F w vs hvs hσ => ?_⟩
  obtain ⟨v, rfl⟩ := one_arg hvs.1
  have hv : VRel F w .nils v := hvs.2 0 _ rfl
  cases hv
  have h : Calls Tryz.prog 84 #[.slice none 0 0] w fun e w' => e = .returned (.slice none 0 0) ∧ w' = w := Any.slices_Compact_int_empty laysB20 none 0 w
  refine h.mono ?_
  rintro e w' ⟨rfl, rfl⟩
  exact ⟨.nils, _, σ, F, rfl, .refl _ _, hσ, .nils, rfl, rfl⟩
theorem aCompI (b : Nat) (zs : List Int) (n : Nat) (σ : Hp) (hz : zs.length = n) (hl : n ≤ 1000000) : ACalls Tryz.prog 84 [.mref b 0 n 1] ((b, inC zs) :: σ) (Ret (.mref b 0 (Go.Lib.compact zs).length 1) ((b, inC (Go.Lib.compact zs ++ List.replicate (n - (Go.Lib.compact zs).length) 0)) :: σ)) := by
  subst hz
  have hle := compact_len zs
  refine ⟨enters_comp, fun F w vs hvs hσ => ?_⟩
  obtain ⟨v, rfl⟩ := one_arg hvs.1
  have hv : VRel F w (.mref b 0 zs.length 1) v := hvs.2 0 _ rfl
  obtain ⟨a, cap, rfl, c, T, fz, m1, m2, m3, m4⟩ := hv.mrefv
  rcases m4 with ⟨rfl, m5⟩ | ⟨m5, m6, h0, m7⟩
  · obtain ⟨h1, h2⟩ := holds_in hσ
    have h : Calls Tryz.prog 84 #[.slice (some ⟨b, 0, none⟩) zs.length cap] w fun e w' => e = .returned (.slice (some ⟨b, 0, none⟩) (Go.Lib.compact zs).length cap) ∧ ∃ q, w' = Go.Sort.putRow (Value.int .i64) (Go.Sort.ahead w q) b 0 (Go.Lib.compact zs ++ List.replicate (zs.length - (Go.Lib.compact zs).length) 0).toArray := Any.slices_Compact_int laysB20 b 0 cap zs w h1 (by omega) m2
    refine h.mono ?_
    rintro e w' ⟨rfl, q, rfl⟩
    obtain ⟨k1, k2⟩ := put_rel (n := q) (zs' := Go.Lib.compact zs ++ List.replicate (zs.length - (Go.Lib.compact zs).length) 0) hσ (by rw [List.length_append, List.length_replicate]; omega) #[]
    have hg : ∀ W : World, Go.Sort.grow W #[] = W := fun W => by unfold Go.Sort.grow; rw [Array.append_empty]
    rw [hg] at k1 k2
    obtain ⟨c', fz', hc', hs'⟩ := k1.rows b c T fz m1
    exact ⟨.mref b 0 _ 1, _, _, F, rfl, k1, k2, .mref _ _ _ _ _ _ ⟨c', T, fz', hc', by omega, m3, .inl ⟨rfl, by omega⟩⟩, rfl, rfl⟩
  · have hz : zs = [] := List.length_eq_zero_iff.1 h0
    subst hz
    have h : Calls Tryz.prog 84 #[.slice (some a) 0 cap] w fun e w' => e = .returned (.slice (some a) 0 cap) ∧ w' = w := Any.slices_Compact_int_empty laysB20 (some a) cap w
    refine h.mono ?_
    rintro e w' ⟨rfl, rfl⟩
    exact ⟨.mref b 0 0 1, _, _, F, rfl, .refl _ _, hσ, hv, rfl, rfl⟩
theorem compI_nil : compI [] = [] := List.eq_nil_iff_forall_not_mem.2 fun x h => by
  unfold compI at h
  rw [compact_mem, sortI_mem] at h
  cases h
set_option maxRecDepth 100000
def nextZ (n : Int) (l : List EdgeT) (a : Int) : List Int := (l.filter fun e => decide (e.1 = a) && nodeB n a && nodeB n e.2.1).map fun e => e.2.1
/-- To where edges lead. -/
def toS (n : Int) (l : List EdgeT) (a : Int) : List Int := ((List.range n.toNat).map fun i : Nat => (i : Int)).filter fun b => decide (b ∈ nextZ n l a)
theorem nextZ_len (n : Int) (l : List EdgeT) (a : Int) : (nextZ n l a).length ≤ l.length := by unfold nextZ; rw [List.length_map]; exact List.length_filter_le _ _
theorem nextZ_mem {n : Int} {l : List EdgeT} {a z : Int} (h : z ∈ nextZ n l a) : 0 ≤ z ∧ z < n := by
  unfold nextZ at h
  obtain ⟨e, he, rfl⟩ := List.mem_map.1 h
  have h4 := (List.mem_filter.1 he).2
  simp only [Bool.and_eq_true, decide_eq_true_eq, node_iff] at h4
  exact h4.2
theorem nextZ_succ (n : Int) (l : List EdgeT) (a : Int) {k : Nat} (h : k < l.length) : nextZ n (l.take (k + 1)) a = nextZ n (l.take k) a ++ (if (decide (l[k].1 = a) && nodeB n a && nodeB n l[k].2.1) = true then [l[k].2.1] else []) := by
  unfold nextZ
  rw [List.take_succ_eq_append_getElem h, List.filter_append, List.map_append]
  congr 1
  by_cases hc : (decide (l[k].1 = a) && nodeB n a && nodeB n l[k].2.1) = true
  · rw [if_pos hc]; have e := List.filter_cons_of_pos (p := fun e : EdgeT => decide (e.1 = a) && nodeB n a && nodeB n e.2.1) (a := l[k]) (l := []) hc; rw [e]; rfl
  · rw [if_neg hc]; have e := List.filter_cons_of_neg (p := fun e : EdgeT => decide (e.1 = a) && nodeB n a && nodeB n e.2.1) (a := l[k]) (l := []) hc; rw [e]; rfl
theorem toS_comp (n : Int) (l : List EdgeT) (a : Int) : compI (nextZ n l a) = toS n l a := by
  unfold toS
  exact compI_eq fun z hz => by have := nextZ_mem hz; omega
theorem aNext (n : Int) (l : List EdgeT) (a : Int) (σ : Hp) (hl : l.length ≤ 100000) : ACalls Tryz.prog 54 [.int .i64 n, .fsl edgeSh l, .int .i64 a] σ (Ret (.fsl (.int .i64) (toS n l a)) σ) := by
  refine okF Tryz.func54 (by kernel_rfl) ?_
  refine .wrap 7 _ rfl rfl ?_
  refine loopS (S := Nat × AV × Hp) (fun s => [(0, .int .i64 n), (2, .int .i64 a), (7, .via s.2.1), (10, .fsl edgeSh l), (11, .int .i64 l.length), (12, .int .i64 s.1)]) (fun s => s.2.2 ++ σ) (fun s => s.1 ≤ l.length ∧ Acc 1 (nextZ n (l.take s.1) a).length s.2.1 s.2.2 (inC (nextZ n (l.take s.1) a))) (fun s => l.length - s.1) (0, .nils, []) ⟨⟨Nat.zero_le _, .nil⟩, ⟨rfl, rfl, rfl, rfl, rfl, rfl, trivial⟩, rfl⟩ ?_
  rintro ⟨k, v, acc⟩ g ⟨hk0, hacc0⟩
  have hk : k ≤ l.length := hk0
  have hacc : Acc 1 (nextZ n (l.take k) a).length v acc (inC (nextZ n (l.take k) a)) := hacc0
  clear hk0 hacc0
  have hzl : (nextZ n (l.take k) a).length ≤ k := by have := nextZ_len n (l.take k) a; rw [List.length_take] at this; omega
  refine bcond_dec (fun hlt => ?_) (fun hge => ?_)
  · have hlt : k < l.length := by have hlt : (k : Int) < l.length := hlt; omega
    have hs := nextZ_succ n l a hlt
    obtain ⟨d, hd⟩ : ∃ d : EdgeT, l[k] = d := ⟨_, rfl⟩
    rw [hd] at hs
    refine With.mk rfl (IdxF.mk d (by omega) ((get_some hlt).trans (congrArg some hd)) ?_)
    intro bl1
    refine StoreAt.mk 0 _ _ rfl rfl ?_
    refine LoadAt.mk 0 _ _ rfl rfl ?_
    refine bcond_dec (p := d.1 = a) (fun c1 => ?_) (fun c1 => ?_)
    · refine callB [] (aNode n a _) (fun c2 => ?_) (fun c2 => ?_)
      · refine LoadAt.mk 0 _ _ rfl rfl ?_
        refine callB [] (aNode n d.2.1 _) (fun c3 => ?_) (fun c3 => ?_)
        · rw [decide_eq_true c1, c2, c3, if_pos (show (true && true && true) = true from rfl)] at hs
          refine LoadAt.mk 0 _ _ rfl rfl ?_
          intro bl2
          refine append_acc [_, _] hacc (.mref 0 bl2 0 1 _ rfl (Nat.le_of_ble_eq_true rfl)) rfl (by omega) (by decide) (by decide) (fun v' acc' h' => ?_)
          refine nextS (k + 1, v', acc') (by show l.length - (k + 1) < l.length - k; omega) ⟨hlt, ?_⟩ ⟨rfl, rfl, rfl, rfl, rfl, inc64 (by omega), trivial⟩ (.drop 0 2 (shed_eq rfl))
          show Acc 1 (nextZ n (l.take (k + 1)) a).length v' acc' (inC (nextZ n (l.take (k + 1)) a))
          rw [hs, List.length_append, inC, List.map_append]
          exact h'
        · rw [c3, Bool.and_false, if_neg (by decide), List.append_nil] at hs
          refine nextS (k + 1, v, acc) (by show l.length - (k + 1) < l.length - k; omega) ⟨hlt, by show Acc 1 (nextZ n (l.take (k + 1)) a).length v acc (inC (nextZ n (l.take (k + 1)) a)); rw [hs]; exact hacc⟩ ⟨rfl, rfl, rfl, rfl, rfl, inc64 (by omega), trivial⟩ (.drop 0 1 (shed_eq rfl))
      · rw [c2, Bool.and_false, Bool.false_and, if_neg (by decide), List.append_nil] at hs
        refine nextS (k + 1, v, acc) (by show l.length - (k + 1) < l.length - k; omega) ⟨hlt, by show Acc 1 (nextZ n (l.take (k + 1)) a).length v acc (inC (nextZ n (l.take (k + 1)) a)); rw [hs]; exact hacc⟩ ⟨rfl, rfl, rfl, rfl, rfl, inc64 (by omega), trivial⟩ (.drop 0 1 (shed_eq rfl))
    · rw [decide_eq_false c1, Bool.false_and, Bool.false_and, if_neg (by decide), List.append_nil] at hs
      refine nextS (k + 1, v, acc) (by show l.length - (k + 1) < l.length - k; omega) ⟨hlt, by show Acc 1 (nextZ n (l.take (k + 1)) a).length v acc (inC (nextZ n (l.take (k + 1)) a)); rw [hs]; exact hacc⟩ ⟨rfl, rfl, rfl, rfl, rfl, inc64 (by omega), trivial⟩ (.drop 0 1 (shed_eq rfl))
  · have hge : k = l.length := by have hge : ¬ (k : Int) < l.length := hge; omega
    subst hge
    rw [List.take_length] at hacc hzl
    have hcomp := toS_comp n l a
    generalize nextZ n l a = zs at hacc hzl hcomp
    generalize hC : inC zs = C at hacc
    generalize hm : zs.length = m at hacc
    cases hacc with
    | nil =>
      have hz : zs = [] := List.length_eq_zero_iff.1 hm
      subst hz
      refine callR [] (aSortN _) ?_
      refine callR [] (aCompN _) ?_
      exact .nil (.nil (.int .i64)) (.done ⟨by rw [← hcomp, compI_nil]; rfl, rfl⟩)
    | mref b m cs h =>
      subst hC
      refine callR [] (aSortI b zs m σ hm (by omega)) ?_
      refine callR [] (aCompI b (sortI zs) m σ ((sortI_length zs).trans hm) (by omega)) ?_
      refine .frz 0 b 0 _ 1 _ (.int .i64) (compI zs) rfl ?_ ⟨rfl, rfl, by decide⟩ .here (.done ⟨by rw [hcomp], rfl⟩)
      rw [List.drop_zero, ← inC_flat]
      unfold compI inC
      rw [List.map_append, Nat.mul_one, List.take_append_of_le_length (by rw [List.length_map]; exact Nat.le_refl _)]
      exact List.take_of_length_le (by rw [List.length_map]; exact Nat.le_refl _)
end Go.Proofs.YtljbnigceammdaaGreatDoor
