/-
  A call that owns nothing: the world behind it, exactly.
  cmp.Compare, cmp.Or; what flow.Sorted asks of two edges.
  A row of cells laid anew, as the kit's sort of structs says it.
-/
import Derived.Test.YtegpahamenjiaaaGreatAids
import Derived.Sort.Grow
import Derived.Shelf.GgSortFunc.RowK
namespace Go.Proofs.YtegpahamenjiaaaGreat
open Go.RowKit
theorem grow_of {F' : Nat → Prop} {w w' : World} (h : Stp (fun b => b < w.heap.size) w F' w') : ∃ q os, w' = Go.Sort.grow (w.drewN q) os := by
  obtain ⟨h1, h2, h3, h4, _, h6, _, h8⟩ := h
  have hh : w'.heap = w.heap ++ w'.heap.extract w.heap.size w'.heap.size := by
    apply Array.ext
    · simp only [Array.size_append, Array.size_extract]; omega
    · intro i hi hi2
      by_cases hlt : i < w.heap.size
      · have e := h6 i hlt
        rw [Array.getElem?_eq_getElem hi, Array.getElem?_eq_getElem hlt] at e
        rw [Array.getElem_append_left hlt]
        exact Option.some.inj e
      · rw [Array.getElem_append_right (by omega), Array.getElem_extract]
        congr 1; omega
  refine ⟨w'.drawn - w.drawn, w'.heap.extract w.heap.size w'.heap.size, ?_⟩
  have hd : w.drawn + (w'.drawn - w.drawn) = w'.drawn := by omega
  unfold Go.Sort.grow World.drewN
  cases w' with
  | mk heap tape drawn os output =>
    simp only at h1 h2 h3 hh hd ⊢
    rw [h1, h2, h3, ← hh, hd]
/-- What a call tells that owns nothing, at a number. -/
theorem calls_grow {f : FuncId} {xs : List AV} {k : IntKind} {z : Int} (h : ∀ σ, ACalls Tryz.prog f xs σ (Ret (.int k z) σ)) {w : World} {vs : Array Value} (hv : VRels (fun b => b < w.heap.size) w xs vs) : Calls Tryz.prog f vs w fun e w' => e = .returned (.int k z) ∧ ∃ q os, w' = Go.Sort.grow (w.drewN q) os := by
  refine ((h []).2 (fun b => b < w.heap.size) w vs hv ⟨List.nodup_nil, fun p hp => absurd hp List.not_mem_nil, fun b hb => hb⟩).mono ?_
  rintro e w' ⟨r, v, σ', F', rfl, hst, _, hr, rfl, _⟩
  refine ⟨?_, grow_of hst⟩
  rw [hr.intv]
end Go.Proofs.YtegpahamenjiaaaGreat
namespace Go.Proofs.YtegpahamenjiaaaGreat
open Go.RowKit
set_option maxRecDepth 100000
def cmpI (a b : Int) : Int := if a < b then -1 else if b < a then 1 else 0
theorem aIsNaN (a : Int) (σ : Hp) : ACalls Tryz.prog 169 [.int .i64 a] σ (Ret (.bool false) σ) := by
  refine okF Tryz.func169 (by kernel_rfl) ?_
  refine bcond_split (fun h => absurd h (by simp)) (fun _ => ?_)
  exact .done ⟨rfl, rfl⟩
theorem aCmp (a b : Int) (σ : Hp) : ACalls Tryz.prog 119 [.int .i64 a, .int .i64 b] σ (Ret (.int .i64 (cmpI a b)) σ) := by
  refine okF Tryz.func119 (by kernel_rfl) ?_
  refine callR [] (aIsNaN a _) ?_
  refine callR [] (aIsNaN b _) ?_
  refine bcond_dec (p := a < b) (fun c1 => ?_) (fun c1 => ?_)
  · exact .done ⟨av_int (if_pos c1).symm, rfl⟩
  refine bcond_dec (p := b < a) (fun c2 => ?_) (fun c2 => ?_)
  · exact .done ⟨av_int (by unfold cmpI; rw [if_neg c1, if_pos c2]), rfl⟩
  · exact .done ⟨av_int (by unfold cmpI; rw [if_neg c1, if_neg c2]), rfl⟩
def or2 (x y : Int) : Int := if x = 0 then y else x
theorem aOr2 (b : Nat) (x y : Int) (σ : Hp) : ACalls Tryz.prog 118 [.mref b 0 2 1] ((b, [.int .i64 x, .int .i64 y]) :: σ) (Ret (.int .i64 (or2 x y)) ((b, [.int .i64 x, .int .i64 y]) :: σ)) := by
  refine okF Tryz.func118 (by kernel_rfl) ?_
  refine loopS (S := Nat × Int) (fun s => [(3, .int .i64 s.2), (6, .mref b 0 2 1), (7, .int .i64 2), (8, .int .i64 s.1)]) (fun _ => (b, [.int .i64 x, .int .i64 y]) :: σ) (fun s => s.2 = 0 ∧ s.1 ≤ 2 ∧ (0 < s.1 → x = 0) ∧ (1 < s.1 → y = 0)) (fun s => 2 - s.1) (0, 0) ⟨⟨rfl, by omega, fun h => by omega, fun h => by omega⟩, ⟨rfl, rfl, rfl, rfl, trivial⟩, rfl⟩ ?_
  rintro ⟨k, z⟩ g ⟨hz0, hk0, hx0, hy0⟩
  have hz : z = 0 := hz0
  have hk : k ≤ 2 := hk0
  have hx : 0 < k → x = 0 := hx0
  have hy : 1 < k → y = 0 := hy0
  clear hz0 hk0 hx0 hy0
  match k, hk, hx, hy with
  | 0, _, _, _ =>
    refine With.mk ⟨rfl, by omega, by omega⟩ ?_
    refine LoadAt.mk 0 _ _ rfl rfl ?_
    refine bcond_split (fun c1 => ?_) (fun c1 => ?_)
    · have c1 : (!decide (x = z)) = true := c1
      have c1 : ¬ x = z := by simpa using c1
      exact .done ⟨av_int (by unfold or2; rw [if_neg (by rw [← hz]; exact c1)]), rfl⟩
    · have c1 : (!decide (x = z)) = false := c1
      have c1 : x = z := by simpa using c1
      exact nextS (1, z) (by show 2 - 1 < 2 - 0; decide) ⟨hz, (show 1 ≤ 2 by decide), fun _ => c1.trans hz, fun h => absurd h (show ¬ 1 < 1 by decide)⟩ ⟨rfl, rfl, rfl, rfl, trivial⟩ (.refl _)
  | 1, _, hx, _ =>
    refine With.mk ⟨rfl, by omega, by omega⟩ ?_
    refine LoadAt.mk 0 _ _ rfl rfl ?_
    refine bcond_split (fun c1 => ?_) (fun c1 => ?_)
    · exact .done ⟨av_int (by unfold or2; rw [if_pos (hx (by decide))]), rfl⟩
    · have c1 : (!decide (y = z)) = false := c1
      have c1 : y = z := by simpa using c1
      exact nextS (2, z) (by show 2 - 2 < 2 - 1; decide) ⟨hz, (show 2 ≤ 2 by decide), fun _ => hx (by decide), fun _ => c1.trans hz⟩ ⟨rfl, rfl, rfl, rfl, trivial⟩ (.refl _)
  | 2, _, hx, hy =>
    exact .done ⟨av_int (by unfold or2; rw [if_pos (hx (by decide)), hy (by decide)]; exact hz), rfl⟩
def cmpE (a b c d : Int) : Int := or2 (cmpI a c) (cmpI b d)
theorem aCmpE (a b c d : Int) (σ : Hp) : ACalls Tryz.prog 117 [.agg [.int .i64 a, .int .i64 b], .agg [.int .i64 c, .int .i64 d]] σ (Ret (.int .i64 (cmpE a b c d)) σ) := by
  refine okF Tryz.func117 (by kernel_rfl) ?_
  intro bl1
  intro bl2
  refine .sched [4, 9] (upto [4, 9] 13 0) (by kernel_rfl) ?_
  refine LoadAt.mk 1 _ _ rfl rfl ?_
  refine LoadAt.mk 0 _ _ rfl rfl ?_
  refine callQ [] (aCmp a c _) ?_
  refine LoadAt.mk 1 _ _ rfl rfl ?_
  refine LoadAt.mk 0 _ _ rfl rfl ?_
  refine callQ [] (aCmp b d _) ?_
  intro bl3
  refine callR [] (aOr2 bl3 (cmpI a c) (cmpI b d) _) ?_
  exact .drop 0 3 (.done ⟨rfl, rfl⟩)
theorem aEqE (a b c d : Int) (σ : Hp) : ACalls Tryz.prog 121 [.agg [.int .i64 a, .int .i64 b], .agg [.int .i64 c, .int .i64 d]] σ (Ret (.bool (decide (a = c) && decide (b = d))) σ) := by
  refine okF Tryz.func121 (by kernel_rfl) ?_
  intro bl1
  intro bl2
  refine LoadAt.mk 1 _ _ rfl rfl ?_
  refine LoadAt.mk 0 _ _ rfl rfl ?_
  refine .mk (by kernel_rfl) (by kernel_rfl) ?_
  refine bcond_split (fun h => ?_) (fun h => ?_)
  · have h : allB [decide (a = c), decide (b = d)] = true := h
    exact .drop 0 2 (.done ⟨av_bool (by simpa [allB] using h.symm), rfl⟩)
  · have h : allB [decide (a = c), decide (b = d)] = false := h
    exact .drop 0 2 (.done ⟨av_bool (by simpa [allB] using h.symm), rfl⟩)
end Go.Proofs.YtegpahamenjiaaaGreat
namespace Go.Proofs.YtegpahamenjiaaaGreat
open Go.RowKit
set_option maxRecDepth 100000
section
variable {F : Nat → Prop} {w : World} {σ : Hp}
theorem grow_relV (h : RelHp F w σ) (os : Array Obj) : Stp F w F (Go.Sort.grow w os) ∧ RelHp F (Go.Sort.grow w os) σ := by
  have hsz : (Go.Sort.grow w os).heap.size = w.heap.size + os.size := by simp [Go.Sort.grow]
  have hge : ∀ b, b < w.heap.size → (Go.Sort.grow w os).heap[b]? = w.heap[b]? := fun b hb => by
    show (w.heap ++ os)[b]? = _
    rw [Array.getElem?_append_left hb]
  have hst : Stp F w F (Go.Sort.grow w os) := ⟨rfl, rfl, rfl, by omega, fun _ h => h, fun b hb => hge b (h.low b hb), fun b c T fz hc => ⟨c, fz, by
    rw [hge b (Array.getElem?_eq_some_iff.1 hc).1]; exact hc, rfl⟩, Nat.le_refl _⟩
  exact ⟨hst, h.nodup, fun p hp => (h.holds p hp).mono hst (hge _ (h.holds p hp).lt) (h.holds p hp).1, fun b hb => by have := h.low b hb; omega⟩
theorem put_relV {b n : Nat} {cs cs' : List AV} {d : Array Value} (h : RelHp F w ((b, cs) :: σ)) (hl : cs'.length = cs.length) (hd : d.size = cs'.length) (hv : ∀ (i : Nat) (x : AV), cs'[i]? = some x → x.leaf = true ∧ VRel F w x (d.getD i undef)) (os : Array Obj) :
    Stp F w F (Go.Sort.grow (Go.Sort.putRow id (Go.Sort.ahead w n) b 0 d) os) ∧ RelHp F (Go.Sort.grow (Go.Sort.putRow id (Go.Sort.ahead w n) b 0 d) os) ((b, cs') :: σ) := by
  obtain ⟨hF, c, T, hc, hle, hcr⟩ := h.holds _ (List.mem_cons_self ..)
  have hle : cs.length ≤ c.size := hle
  have hc : w.heap[b]? = some (.cells c T (0, 0)) := hc
  have hput : ∀ k, k < d.size → (Go.Sort.putCells id 0 d c).getD k undef = d.getD k undef := fun k hk => by
    have hkc : k < c.size := by omega
    unfold Go.Sort.putCells
    rw [Array.getD_eq_getD_getElem?, Array.getElem?_mapIdx, Array.getElem?_eq_getElem hkc]
    simp only [Option.map_some, Option.getD_some]
    rw [if_pos ⟨Nat.zero_le _, by omega⟩, Nat.sub_zero, Array.getD_eq_getD_getElem?, Array.getElem?_eq_getElem hk]
    simp [hk]
  have key := relhp_set (F := F) (w := w) (w' := Go.Sort.putRow id (Go.Sort.ahead w n) b 0 d) h (j := 0) (b := b) (cs := cs) (cs' := cs') rfl hc (c' := Go.Sort.putCells id 0 d c) (by simp [Go.Sort.putCells]) (by simp [Go.Sort.putCells]; omega)
    (fun i x hx => by
      have h2 : i < cs'.length := (List.getElem?_eq_some_iff.1 hx).1
      rw [hput i (by omega)]
      exact hv i x hx)
    (fun k hk => by
      show (w.heap.modify b _)[k]? = _
      rw [Array.getElem?_modify, if_neg (fun e => hk e.symm)])
    (by
      show (w.heap.modify b _)[b]? = _
      rw [Array.getElem?_modify, if_pos rfl, hc]; rfl)
    rfl rfl rfl (by simp [Go.Sort.ahead])
  obtain ⟨k1, k2⟩ := key
  obtain ⟨g1, g2⟩ := grow_relV k2 os
  exact ⟨k1.trans g1, g2⟩
theorem holdsV {b : Nat} {cs : List AV} {d : Array Value} (h : RelHp F w ((b, cs) :: σ)) (hd : d.size = cs.length) (hv : ∀ (i : Nat) (x : AV), cs[i]? = some x → ∀ v, VRel F w x v → v = d.getD i undef) : Go.Sort.Holds id w b 0 d ∧ b < w.heap.size := by
  obtain ⟨hF, c, T, hc, hle, hcr⟩ := h.holds _ (List.mem_cons_self ..)
  have hc : w.heap[b]? = some (.cells c T (0, 0)) := hc
  have hle : cs.length ≤ c.size := hle
  refine ⟨fun j hj => ?_, (Array.getElem?_eq_some_iff.1 hc).1⟩
  have hj2 : j < cs.length := by omega
  have hr := hv j _ (List.getElem?_eq_getElem hj2) _ (hcr j _ (List.getElem?_eq_getElem hj2)).2
  rw [Nat.zero_add]
  constructor
  · rw [cell_at hc, Array.getElem?_eq_getElem (by omega)]
    rw [Array.getD_eq_getD_getElem?, Array.getElem?_eq_getElem (by omega), Array.getD_eq_getD_getElem?, Array.getElem?_eq_getElem hj] at hr
    simp only [Option.getD_some] at hr
    rw [hr]
    simp [hj]
  · unfold World.frozen?
    simp [hc]
end
/-- Pairs of numbers, in cells. -/
def prC (l : List (Int × Int × Unit)) : List AV := l.flatMap fun x => [.int .i64 x.1, .int .i64 x.2.1]
def prV (x : Int × Int × Unit) : List Value := [.int .i64 x.1, .int .i64 x.2.1]
theorem prC_length : ∀ l : List (Int × Int × Unit), (prC l).length = l.length * 2
  | [] => rfl
  | x :: l => by
    show (prC l).length + 2 = (l.length + 1) * 2
    rw [prC_length l]; omega
theorem prC_get : ∀ (l : List (Int × Int × Unit)) (i : Nat), (prC l)[i]? = (l[i / 2]?).map fun x => if i % 2 = 0 then .int .i64 x.1 else .int .i64 x.2.1
  | [], i => by simp [prC]
  | x :: l, 0 => rfl
  | x :: l, 1 => rfl
  | x :: l, i + 2 => by
    have h := prC_get l i
    show (prC l)[i]? = _
    rw [h, show (i + 2) / 2 = i / 2 + 1 by omega, show (i + 2) % 2 = i % 2 by omega]
    rfl
theorem pr_flat (l : List (Int × Int × Unit)) (i : Nat) (x : AV) (h : (prC l)[i]? = some x) : ∃ z, x = .int .i64 z ∧ (Go.Sort.flatK prV 2 l.toArray).getD i undef = .int .i64 z := by
  rw [prC_get] at h
  obtain ⟨d, hd, hx⟩ := Option.map_eq_some_iff.1 h
  obtain ⟨hi, hd2⟩ := List.getElem?_eq_some_iff.1 hd
  have hlt : i < l.toArray.size * 2 := by simp only [List.size_toArray]; omega
  have hg := Go.Sort.get_flatK prV 2 l.toArray i hlt
  have he : (Go.Sort.flatK prV 2 l.toArray).getD i undef = (Go.Sort.flatK prV 2 l.toArray)[i]! := by
    have hs : i < (Go.Sort.flatK prV 2 l.toArray).size := by rw [Go.Sort.size_flatK]; exact hlt
    rw [Array.getD_eq_getD_getElem?, Array.getElem?_eq_getElem hs]
    exact (getElem!_pos _ i hs).symm
  have hl : l.toArray[i / 2]! = d := by simp [hi, hd2]
  rw [he, hg, hl]
  by_cases h0 : i % 2 = 0
  · rw [if_pos h0] at hx
    rw [h0]
    exact ⟨d.1, hx.symm, rfl⟩
  · rw [if_neg h0] at hx
    have h1 : i % 2 = 1 := by omega
    rw [h1]
    exact ⟨d.2.1, hx.symm, rfl⟩
end Go.Proofs.YtegpahamenjiaaaGreat
