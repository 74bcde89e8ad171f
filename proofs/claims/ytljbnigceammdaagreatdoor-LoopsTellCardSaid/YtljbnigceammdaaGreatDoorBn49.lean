/-
  Lpw; Lps: what the claim uses of them.
-/
import Derived.Test.YtljbnigceammdaaGreatDoorBn40
import Derived.Test.YtljbnigceammdaaGreatDoorBn32
import Derived.Test.YtljbnigceammdaaGreatDoorBn47
import Derived.Test.YtljbnigceammdaaGreatDoorBn48
namespace Go.Proofs.YtljbnigceammdaaGreatDoor
open Go.RowKit
set_option maxRecDepth 100000
theorem flat_len {n : Nat} {l : List EdgeT} {P : List (List Int)} (h : PAll n l P) : P.flatten.length = n := by
  refine Nat.le_antisymm (parts_len h.ok).2 ?_
  have hnd : ((List.range n).map fun a : Nat => (a : Int)).Nodup := List.pairwise_map.2 (List.nodup_range.imp fun h e => h (by omega))
  have h1 := sub_lenS hnd (m := P.flatten) (fun x hx => by
    obtain ⟨k, hk, rfl⟩ := List.mem_map.1 hx
    obtain ⟨p, hp, hxp⟩ := h.all k (by omega) (by have := List.mem_range.1 hk; omega)
    exact List.mem_flatten.2 ⟨p, hp, hxp⟩)
  rw [List.length_map, List.length_range] at h1
  exact h1
theorem flat_ge : ∀ {P : List (List Int)}, (∀ p ∈ P, p ≠ []) → P.length ≤ P.flatten.length ∧ (P.length < P.flatten.length ↔ ∃ p ∈ P, 1 < p.length)
  | [], _ => ⟨Nat.le_refl _, ⟨fun h => absurd h (by simp), fun ⟨p, hp, _⟩ => absurd hp List.not_mem_nil⟩⟩
  | p :: P, h => by
    obtain ⟨h1, h2⟩ := flat_ge fun q hq => h q (List.mem_cons_of_mem _ hq)
    have h3 := List.length_pos_iff.2 (h p (List.mem_cons_self ..))
    rw [List.flatten_cons, List.length_append, List.length_cons]
    refine ⟨by omega, ⟨fun hl => ?_, ?_⟩⟩
    · by_cases c : 1 < p.length
      · exact ⟨p, List.mem_cons_self .., c⟩
      · obtain ⟨q, hq, hl⟩ := h2.1 (by omega)
        exact ⟨q, List.mem_cons_of_mem _ hq, hl⟩
    · rintro ⟨q, hq, hl⟩
      rcases List.mem_cons.1 hq with rfl | hq
      · omega
      · have := h2.2 ⟨q, hq, hl⟩; omega
theorem rOf_length {n : Nat} {l : List EdgeT} {P : List (List Int)} (h : PAll n l P) (hr : ∀ e ∈ l, (0 ≤ e.1 ∧ e.1 < (n : Int)) ∧ 0 ≤ e.2.1 ∧ e.2.1 < (n : Int)) : (rOf n l).length = P.length := by
  rw [← ord_is h hr]
  exact (ord_inv h hr P.length (Nat.le_refl _)).1.ol
theorem Rx.last {nx : Int → List Int} {a b : Int} (h : Rx nx a b) (hne : a ≠ b) : ∃ c, Rx nx a c ∧ b ∈ nx c := by
  cases h with
  | refl => exact absurd rfl hne
  | step h hc => exact ⟨_, h, hc⟩
/-- Is there a ring? -/
theorem ring_is {n : Nat} {l : List EdgeT} {P : List (List Int)} (h : PAll n l P) (hr : ∀ e ∈ l, (0 ≤ e.1 ∧ e.1 < (n : Int)) ∧ 0 ≤ e.2.1 ∧ e.2.1 < (n : Int)) : (decide ((rOf n l).length < n) || l.any fun x : EdgeT => decide (x.1 = x.2.1)) = l.any fun x : EdgeT => toB n l x.2.1 x.1 := by
  have hlen := rOf_length h hr
  have hfl := flat_len h
  obtain ⟨_, hge⟩ := flat_ge h.ok.ne
  rw [hlen]
  refine Bool.eq_iff_iff.2 ?_
  rw [Bool.or_eq_true, decide_eq_true_eq, List.any_eq_true, List.any_eq_true]
  constructor
  · rintro (h1 | ⟨x, hx, h1⟩)
    · obtain ⟨p, hp, hl⟩ := hge.1 (by omega)
      obtain ⟨a, b, t, rfl⟩ : ∃ a b t, p = a :: b :: t := by
        match p, hl with
        | a :: b :: t, _ => exact ⟨a, b, t, rfl⟩
      have ha : a ∈ a :: b :: t := List.mem_cons_self ..
      have hb : b ∈ a :: b :: t := List.mem_cons_of_mem _ (List.mem_cons_self ..)
      have hab : a ≠ b := by
        have := (List.pairwise_cons.1 (h.ok.srt _ hp)).1 b (List.mem_cons_self ..)
        omega
      obtain ⟨c, hc, hcb⟩ := (h.ok.con _ hp a ha b hb).last hab
      obtain ⟨q1, q2, e, he, e1, e2⟩ := mem_toS.1 hcb
      refine ⟨e, he, toB_iff.2 ⟨(hr e he).2, ?_⟩⟩
      rw [e1, e2]
      exact (h.ok.con _ hp b hb a ha).trans hc
    · have h1 := of_decide_eq_true h1
      exact ⟨x, hx, toB_iff.2 ⟨(hr x hx).2, by rw [h1]; exact .refl _⟩⟩
  · rintro ⟨x, hx, h1⟩
    obtain ⟨q1, q2⟩ := hr x hx
    obtain ⟨_, hrx⟩ := toB_iff.1 h1
    by_cases e : x.1 = x.2.1
    · exact .inr ⟨x, hx, decide_eq_true e⟩
    · refine .inl ?_
      have hst : Rx (toS n l) x.1 x.2.1 := .step (.refl _) (mem_toS.2 ⟨q2, q1, x, hx, rfl, rfl⟩)
      obtain ⟨i, p, hi, hxp, _⟩ := h.idx q1
      obtain ⟨j, q, hj1, hj, hyq⟩ := h.ok.le hst hi hxp
      obtain ⟨i2, p2, hi1, hi2, hxp2⟩ := h.ok.le hrx hj hyq
      have e1 := flat_uniq h.ok.nd hi hi2 hxp hxp2
      have e2 : i = j := by omega
      subst e2
      rw [hi] at hj
      obtain rfl := Option.some.inj hj
      have hpm := List.mem_of_getElem? hi
      have hl : 1 < p.length := by
        match p, hxp, hyq with
        | [a], h1, h2 => exact absurd ((List.mem_singleton.1 h1).trans (List.mem_singleton.1 h2).symm) e
        | a :: b :: t, _, _ => simp
      have := hge.2 ⟨p, hpm, hl⟩
      omega
theorem toS_same {n : Int} {l m : List EdgeT} (h : ∀ x, x ∈ l ↔ x ∈ m) {a b : Int} : b ∈ toS n l a ↔ b ∈ toS n m a := by
  rw [mem_toS, mem_toS]
  constructor
  · rintro ⟨q1, q2, e, he, e1, e2⟩; exact ⟨q1, q2, e, (h e).1 he, e1, e2⟩
  · rintro ⟨q1, q2, e, he, e1, e2⟩; exact ⟨q1, q2, e, (h e).2 he, e1, e2⟩
theorem Rx.same {nx ny : Int → List Int} (h : ∀ a b, b ∈ nx a → b ∈ ny a) {a b : Int} (hr : Rx nx a b) : Rx ny a b := by
  induction hr with
  | refl => exact .refl _
  | step _ hc ih => exact .step ih (h _ _ hc)
theorem any_ring {n : Nat} {l m : List EdgeT} (h : ∀ x, x ∈ l ↔ x ∈ m) : (l.any fun x : EdgeT => toB n l x.2.1 x.1) = m.any fun x : EdgeT => toB n m x.2.1 x.1 := by
  refine Bool.eq_iff_iff.2 ?_
  rw [List.any_eq_true, List.any_eq_true]
  constructor
  · rintro ⟨x, hx, h1⟩
    obtain ⟨q1, q2⟩ := toB_iff.1 h1
    exact ⟨x, (h x).1 hx, toB_iff.2 ⟨q1, q2.same fun a b => (toS_same h).1⟩⟩
  · rintro ⟨x, hx, h1⟩
    obtain ⟨q1, q2⟩ := toB_iff.1 h1
    exact ⟨x, (h x).2 hx, toB_iff.2 ⟨q1, q2.same fun a b => (toS_same h).2⟩⟩
end Go.Proofs.YtljbnigceammdaaGreatDoor
namespace Go.Proofs.YtljbnigceammdaaGreatDoor
open Go.RowKit
set_option maxRecDepth 100000
/-- One more at a node. -/
def incL (L : List Int) (a : Int) : List Int := L.set a.toNat (L.getD a.toNat 0 + 1)
def incAll (P : List (Int × List Int × Unit)) (L : List Int) : List Int := P.foldl (fun L x => x.2.1.foldl incL L) L
/-- In how many loops each node is. -/
def depP (N : Nat) (P : List (Int × List Int × Unit)) : List Int := incAll P (List.replicate N 0)
theorem incL_length (L : List Int) (a : Int) : (incL L a).length = L.length := by unfold incL; rw [List.length_set]
theorem incF_length (w : List Int) : ∀ L : List Int, (w.foldl incL L).length = L.length := by
  induction w with
  | nil => exact fun _ => rfl
  | cons a w ih => exact fun L => (ih _).trans (incL_length L a)
theorem incAll_length (P : List (Int × List Int × Unit)) : ∀ L : List Int, (incAll P L).length = L.length := by
  induction P with
  | nil => exact fun _ => rfl
  | cons x P ih => exact fun L => (ih _).trans (incF_length x.2.1 L)
theorem incAll_take {P : List (Int × List Int × Unit)} {L : List Int} {k : Nat} (h : k < P.length) : incAll (P.take (k + 1)) L = P[k].2.1.foldl incL (incAll (P.take k) L) := by
  unfold incAll
  rw [List.take_add_one, List.getElem?_eq_getElem h, List.foldl_append]; rfl
theorem incF_take {w : List Int} {L : List Int} {k : Nat} (h : k < w.length) : (w.take (k + 1)).foldl incL L = incL ((w.take k).foldl incL L) w[k] := by
  rw [List.take_add_one, List.getElem?_eq_getElem h, List.foldl_append]; rfl
theorem incL_small {L : List Int} {a : Int} {m : Int} (h : ∀ x ∈ L, 0 ≤ x ∧ x ≤ m) : ∀ x ∈ incL L a, 0 ≤ x ∧ x ≤ m + 1 := by
  intro x hx
  unfold incL at hx
  rcases List.mem_or_eq_of_mem_set hx with hx | rfl
  · have := h x hx; omega
  · by_cases c : a.toNat < L.length
    · have h1 : L.getD a.toNat 0 = L[a.toNat] := by rw [List.getD_eq_getElem?_getD, List.getElem?_eq_getElem c]; rfl
      have := h L[a.toNat] (List.getElem_mem c)
      rw [h1]; omega
    · have h1 : L.getD a.toNat 0 = 0 := by rw [List.getD_eq_getElem?_getD, List.getElem?_eq_none (by omega)]; rfl
      rw [h1] at hx ⊢
      rw [List.set_eq_of_length_le (by omega)] at hx
      have := h _ hx; omega
theorem incF_small {w : List Int} : ∀ {L : List Int} {m : Int}, (∀ x ∈ L, 0 ≤ x ∧ x ≤ m) → ∀ x ∈ w.foldl incL L, 0 ≤ x ∧ x ≤ m + w.length := by
  induction w with
  | nil => intro L m h x hx; have := h x hx; simp; omega
  | cons a w ih =>
    intro L m h x hx
    have := ih (incL_small (a := a) h) x hx
    rw [List.length_cons]; omega
theorem incAll_small {P : List (Int × List Int × Unit)} {b : Nat} (hb : ∀ x ∈ P, x.2.1.length ≤ b) : ∀ {L : List Int} {m : Int}, (∀ x ∈ L, 0 ≤ x ∧ x ≤ m) → ∀ x ∈ incAll P L, 0 ≤ x ∧ x ≤ m + (P.length * b : Nat) := by
  induction P with
  | nil => intro L m h x hx; have := h x hx; simp; omega
  | cons y P ih =>
    intro L m h x hx
    have := ih (fun z hz => hb z (List.mem_cons_of_mem _ hz)) (incF_small (w := y.2.1) h) x hx
    have h2 := hb y (List.mem_cons_self ..)
    rw [List.length_cons, Nat.succ_mul]; omega
theorem rep_inL (n : Nat) : repC [AV.int .i64 0] n = inC (List.replicate n 0) := by
  induction n with
  | zero => rfl
  | succ n ih => show AV.int .i64 0 :: repC _ n = _; rw [ih]; rfl
theorem mem_takeE {l : List EdgeT} {x : EdgeT} {k : Nat} (h : k < l.length) (h1 : x ∉ l.take k) (h2 : x ≠ l[k]) : x ∉ l.take (k + 1) := by
  rw [List.take_add_one, List.getElem?_eq_getElem h]
  intro hx
  rcases List.mem_append.1 hx with hx | hx
  · exact h1 hx
  · exact h2 (List.mem_singleton.1 hx)
theorem aIdxEg (l : List EdgeT) (x : EdgeT) (σ : Hp) (hl : l.length ≤ 1000000) : ACalls Tryz.prog 93 [.fsl edgeSh l, .agg (cellE x)] σ (fun r σ' => ∃ n : Int, r = .int .i64 n ∧ σ' = σ ∧ decide (0 ≤ n) = decide (x ∈ l)) := by
  obtain ⟨x1, x2, xu⟩ := x
  refine okF Tryz.func93 (by kernel_rfl) ?_
  intro bl1
  refine loopS (S := Nat) (fun k => [(0, .fsl edgeSh l), (3, .ptr bl1 0), (7, .int .i64 l.length), (8, .int .i64 k)]) (fun _ => (bl1, [.int .i64 x1, .int .i64 x2]) :: σ) (fun k => k ≤ l.length ∧ ((x1, x2, xu) : EdgeT) ∉ l.take k) (fun k => l.length - k) 0 ⟨⟨Nat.zero_le _, by rw [List.take_zero]; exact List.not_mem_nil⟩, ⟨rfl, rfl, rfl, rfl, trivial⟩, rfl⟩ ?_
  rintro k g ⟨hk0, hn0⟩
  have hk : k ≤ l.length := hk0
  have hn : ((x1, x2, xu) : EdgeT) ∉ l.take k := hn0
  clear hk0 hn0
  refine bcond_dec (p := (k : Int) < l.length) (fun hlt => ?_) (fun hge => ?_)
  · have hlt : k < l.length := by omega
    obtain ⟨y, hy⟩ : ∃ y, l[k] = y := ⟨_, rfl⟩
    obtain ⟨y1, y2, yu⟩ := y
    refine .quiet (by kernel_rfl) ?_
    refine LoadAt.mk 0 _ _ rfl rfl ?_
    refine With.mk rfl ?_
    refine IdxF.mk (y1, y2, yu) (by omega) ((get_some hlt).trans (congrArg some hy)) ?_
    refine EqAt.mk (by kernel_rfl) (by kernel_rfl) ?_
    refine bcond_split (fun c => ?_) (fun c => ?_)
    · have c : allB [decide (x1 = y1), decide (x2 = y2)] = true := c
      have c : x1 = y1 ∧ x2 = y2 := by simpa [allB] using c
      have hm : ((x1, x2, xu) : EdgeT) ∈ l := by rw [c.1, c.2]; exact hy ▸ List.getElem_mem hlt
      exact .drop 0 1 (.done ⟨_, rfl, rfl, by rw [decide_eq_true hm]; exact decide_eq_true (by omega)⟩)
    · have c : allB [decide (x1 = y1), decide (x2 = y2)] = false := c
      have c : ¬ (x1 = y1 ∧ x2 = y2) := fun h => by simp [allB, h.1, h.2] at c
      exact nextS (k + 1) (by show l.length - (k + 1) < l.length - k; omega) ⟨hlt, mem_takeE hlt hn (fun h => c (by rw [hy] at h; injection h with h1 h2; injection h2 with h2 h3; exact ⟨h1, h2⟩))⟩ ⟨rfl, rfl, rfl, inc64 (by omega), trivial⟩ (.refl _)
  · have hge : k = l.length := by omega
    subst hge
    rw [List.take_length] at hn
    exact .drop 0 1 (.done ⟨_, rfl, rfl, by rw [decide_eq_false hn]; rfl⟩)
theorem aContEg (l : List EdgeT) (x : EdgeT) (σ : Hp) (hl : l.length ≤ 1000000) : ACalls Tryz.prog 61 [.fsl edgeSh l, .agg (cellE x)] σ (Ret (.bool (decide (x ∈ l))) σ) := by
  refine okF Tryz.func61 (by kernel_rfl) ?_
  intro bl1
  refine LoadAt.mk 0 _ _ rfl rfl ?_
  refine .mk [] _ (aIdxEg l x _ hl) ?_
  rintro _ _ ⟨n, rfl, rfl, hn⟩
  rw [← hn]
  refine bcond_dec (fun c => ?_) (fun c => ?_)
  · have c : 0 ≤ n := c
    rw [decide_eq_true c]
    exact .drop 0 1 (.done ⟨rfl, rfl⟩)
  · have c : ¬ 0 ≤ n := c
    rw [decide_eq_false c]
    exact .drop 0 1 (.done ⟨rfl, rfl⟩)
/-- What the loops of a graph are like. -/
theorem loops_like {N R : Nat} {l : List EdgeT} {P : List (Int × List Int × Unit)} (d : DG N R l) (hP : P = loopsP N l R N) : P.length ≤ N ∧ (∀ x ∈ P, 0 ≤ x.1 ∧ x.1 < (N : Int) ∧ x.2.1 = bodyP N l x.1 (fromP (backP N l R) x.1) (reachR N l [(R : Int)])) ∧ (∀ x ∈ P, x.2.1.length ≤ N) ∧ ∀ x ∈ P, ∀ a ∈ x.2.1, 0 ≤ a ∧ a < (N : Int) := by
  have hmem : ∀ x ∈ P, 0 ≤ x.1 ∧ x.1 < (N : Int) ∧ x.2.1 = bodyP N l x.1 (fromP (backP N l R) x.1) (reachR N l [(R : Int)]) := fun x hx => by
    rw [hP] at hx
    unfold loopsP at hx
    obtain ⟨y, hy, rfl⟩ := List.mem_map.1 hx
    have := List.mem_range.1 (List.mem_filter.1 hy).1
    exact ⟨Int.natCast_nonneg _, by show (y : Int) < N; omega, rfl⟩
  refine ⟨?_, hmem, fun x hx => ?_, fun x hx a ha => ?_⟩
  · rw [hP]; unfold loopsP
    rw [List.length_map]
    exact Nat.le_trans (List.length_filter_le _ _) (by rw [List.length_range]; exact Nat.le_refl _)
  · rw [(hmem x hx).2.2]; unfold bodyP
    exact Nat.le_trans (List.length_filter_le _ _) (reachR_length N l _)
  · rw [(hmem x hx).2.2] at ha
    exact ((mem_body d).1 ha).1.node
theorem aLoopsDepthNo (n r : Int) (l : List EdgeT) (σ : Hp) (hl : l.length ≤ 1000000) (h : ¬ (rightE n l = true ∧ 0 ≤ r ∧ r < n)) : ACalls Tryz.prog 31 [.int .i64 n, .fsl edgeSh l, .int .i64 r] σ (Ret (.tup [.fsl (.int .i64) ([] : List Int), .int .i64 1]) σ) := by
  refine okF Tryz.func31 (by kernel_rfl) ?_
  refine callR [] (aLoopsOfNo n r l _ hl h) ?_
  exact .nil (frz_cons (.nil _) (.refl _)) (.done ⟨rfl, rfl⟩)
theorem aLoopsDepth (N R : Nat) (l : List EdgeT) (σ : Hp) (d : DG N R l) (hg : (gT, tabT) ∈ σ) : ACalls Tryz.prog 31 [.int .i64 N, .fsl edgeSh l, .int .i64 R] σ (Ret (.tup [.fsl (.int .i64) (depP N (loopsP N l R N)), .int .i64 0]) σ) := by
  obtain ⟨z, hz⟩ : ∃ z : Int, z = 0 := ⟨_, rfl⟩
  obtain ⟨P, hP⟩ : ∃ P, P = loopsP N l R N := ⟨_, rfl⟩
  have h8 := d.h8
  have h1 := d.h1
  have hA : ∀ ρ, (gT, tabT) ∈ ρ → ACalls Tryz.prog 29 [.int .i64 N, .fsl edgeSh l, .int .i64 R] ρ (Ret (.tup [.fsl loopSh P, .int .i64 z]) ρ) := fun ρ hm => by rw [hz, hP]; exact aLoopsOf N R l ρ d hm
  obtain ⟨hlen, hmem, hbl, hnd⟩ := loops_like d hP
  rw [← hP]
  refine okF Tryz.func31 (by kernel_rfl) ?_
  refine callR [] (hA _ hg) ?_
  refine bcond_split (fun c1 => absurd hz (by simpa using c1)) (fun c1 => ?_)
  refine With.mk ⟨by omega, by omega, by omega, by decide⟩ ?_
  intro bl1
  have hr0 : repC [AV.int .i64 0] N = inC (List.replicate N 0) := rep_inL N
  refine loopS (S := Nat) (fun i => [(10, .mref bl1 0 N 1), (27, .fsl loopSh P), (28, .int .i64 P.length), (29, .int .i64 i)]) (fun i => (bl1, inC (incAll (P.take i) (List.replicate N 0))) :: σ) (fun i => i ≤ P.length) (fun i => P.length - i) 0 ⟨Nat.zero_le _, ⟨rfl, rfl, rfl, rfl, trivial⟩, by rw [Int.toNat_natCast, hr0]; rfl⟩ ?_
  intro i g hi0
  have hi : i ≤ P.length := hi0
  clear hi0
  have hpl : (P.take i).length ≤ N := by rw [List.length_take]; omega
  obtain ⟨L0, hL0⟩ : ∃ L0, incAll (P.take i) (List.replicate N 0) = L0 := ⟨_, rfl⟩
  have hl0 : L0.length = N := by rw [← hL0, incAll_length, List.length_replicate]
  have hs0 : ∀ x ∈ L0, 0 ≤ x ∧ x ≤ 64 := fun x hx => by
    rw [← hL0] at hx
    have := incAll_small (b := N) (fun y hy => hbl y (List.mem_of_mem_take hy)) (L := List.replicate N 0) (m := 0) (fun y hy => by rw [List.eq_of_mem_replicate hy]; omega) x hx
    have h2 : (P.take i).length * N ≤ 8 * 8 := Nat.mul_le_mul (by omega) h8
    omega
  refine bcond_dec (p := (i : Int) < P.length) (fun hlt => ?_) (fun hge => ?_)
  · have hlt : i < P.length := by omega
    obtain ⟨x, hx⟩ : ∃ x, P[i] = x := ⟨_, rfl⟩
    have hxP : x ∈ P := hx ▸ List.getElem_mem hlt
    have hxl := hbl x hxP
    have hxn := hnd x hxP
    have hnx := incAll_take (L := List.replicate N 0) hlt
    rw [hx, hL0] at hnx
    refine With.mk rfl (IdxF.mk (l := (P : List LoopT)) x (by omega) ((get_some hlt).trans (congrArg some hx)) ?_)
    obtain ⟨xh, xb, xu⟩ := x
    have hxl : xb.length ≤ N := hxl
    have hxn : ∀ a ∈ xb, 0 ≤ a ∧ a < (N : Int) := hxn
    have hnx : incAll (P.take (i + 1)) (List.replicate N 0) = xb.foldl incL L0 := hnx
    intro bl2
    refine StoreAt.mk 0 _ _ rfl rfl ?_
    refine LoadAt.mk 0 _ _ rfl rfl ?_
    refine loopS (S := Nat) (fun j => [(10, .mref bl1 0 N 1), (27, .fsl loopSh P), (28, .int .i64 P.length), (29, .int .i64 i), (34, .fsl (.int .i64) xb), (35, .int .i64 xb.length), (36, .int .i64 j)]) (fun j => (bl2, [.int .i64 xh, .fsl (.int .i64) xb]) :: (bl1, inC ((xb.take j).foldl incL L0)) :: σ) (fun j => j ≤ xb.length) (fun j => xb.length - j) 0 ⟨Nat.zero_le _, ⟨rfl, rfl, rfl, rfl, rfl, rfl, rfl, trivial⟩, by rw [hL0]; rfl⟩ ?_
    intro j g2 hj0
    have hj : j ≤ xb.length := hj0
    clear hj0
    obtain ⟨L1, hL1⟩ : ∃ L1, (xb.take j).foldl incL L0 = L1 := ⟨_, rfl⟩
    have hl1 : L1.length = N := by rw [← hL1, incF_length, hl0]
    have hs1 : ∀ x ∈ L1, 0 ≤ x ∧ x ≤ 72 := fun x hx => by
      rw [← hL1] at hx
      have := incF_small hs0 x hx
      rw [List.length_take] at this
      omega
    refine bcond_dec (p := (j : Int) < xb.length) (fun hlt2 => ?_) (fun hge2 => ?_)
    · have hlt2 : j < xb.length := by omega
      obtain ⟨a, ha⟩ : ∃ a, xb[j] = a := ⟨_, rfl⟩
      have han := hxn a (ha ▸ List.getElem_mem hlt2)
      have hst := incF_take (L := L0) hlt2
      rw [hL1, ha] at hst
      have hv : 0 ≤ L1.getD a.toNat 0 ∧ L1.getD a.toNat 0 ≤ 72 := by
        have h1 : L1.getD a.toNat 0 = L1[a.toNat]'(by omega) := by rw [List.getD_eq_getElem?_getD, List.getElem?_eq_getElem (by omega)]; rfl
        rw [h1]; exact hs1 _ (List.getElem_mem _)
      refine With.mk rfl (IdxF.mk a (by omega) ((get_some hlt2).trans (congrArg some ha)) ?_)
      rw [hL1]
      refine With.mk ⟨rfl, by omega, by omega⟩ ?_
      refine LoadAt.mk 1 _ _ rfl (inC_rd rfl han.1 (by omega)) ?_
      refine With.mk ⟨rfl, by omega, by omega⟩ ?_
      refine StoreAt.mk 1 _ _ rfl (inC_wr rfl _ han.1 (by omega)) ?_
      exact nextS (j + 1) (by show xb.length - (j + 1) < xb.length - j; omega) hlt2 ⟨rfl, rfl, rfl, rfl, rfl, rfl, inc64 (by omega), trivial⟩ (shed_eq (by rw [hst]; unfold incL; rw [w64 (by omega)]; rfl))
    · have hge2 : j = xb.length := by omega
      subst hge2
      rw [List.take_length] at hL1
      exact nextS (i + 1) (by show P.length - (i + 1) < P.length - i; omega) hlt ⟨rfl, rfl, rfl, inc64 (by omega), trivial⟩ (.drop 0 1 (shed_eq (by rw [hnx, List.take_length]; rfl)))
  · have hge : i = P.length := by omega
    subst hge
    have hL1 : inC (incAll (P.take P.length) (List.replicate N 0)) = inC (depP N P) := by rw [List.take_length]; rfl
    have hdl : (depP N P).length = N := (incAll_length P _).trans (List.length_replicate ..)
    refine .frz (r' := .tup [.fsl (.int .i64) (depP N P), .int .i64 0]) 0 bl1 0 N 1 _ (.int .i64) (depP N P) rfl (by rw [hL1, List.drop_zero, List.take_of_length_le (by rw [inC_length, hdl]; omega)]; exact inC_flat _) ⟨hdl, rfl, by decide⟩ (frz_cons .here (.refl _)) (.done ⟨rfl, rfl⟩)
/-- An edge between nodes that are reached, but none back. -/
def restQ (R : List Int) (B : List PrT) (x : EdgeT) : Bool := decide (x.1 ∈ R) && !decide (x ∈ B)
theorem aClean1 (bi bb : Nat) (R : List Int) (B : List EdgeT) (x : EdgeT) (σ : Hp) (hR : R.length ≤ 1000) (hB : B.length ≤ 1000) (A : Hp) : ACalls Tryz.prog 60 (.agg (cellE x) :: [.ptr bi 0, .ptr bb 0]) (A ++ ((bi, [.fsl (.int .i64) R]) :: (bb, [.fsl edgeSh B]) :: σ)) (Ret (.bool (restQ R B x)) (A ++ ((bi, [.fsl (.int .i64) R]) :: (bb, [.fsl edgeSh B]) :: σ))) := by
  have hE : ∀ ρ, ACalls Tryz.prog 61 [.fsl edgeSh B, .agg (cellE x)] ρ (Ret (.bool (decide (x ∈ B))) ρ) := fun ρ => aContEg B x ρ (by omega)
  have hI : ∀ ρ, ACalls Tryz.prog 46 [.fsl (.int .i64) R, .int .i64 x.1] ρ (Ret (.bool (decide (x.1 ∈ R))) ρ) := fun ρ => acalls_eq (aContainsI R x.1 ρ (by omega)) (av_bool (any_inD _ _))
  obtain ⟨x1, x2, xu⟩ := x
  have key : ACalls Tryz.prog 60 (.agg (cellE (x1, x2, xu)) :: [.ptr bi 0, .ptr bb 0]) ((bi, [.fsl (.int .i64) R]) :: (bb, [.fsl edgeSh B]) :: (A ++ σ)) (Ret (.bool (restQ R B (x1, x2, xu))) ((bi, [.fsl (.int .i64) R]) :: (bb, [.fsl edgeSh B]) :: (A ++ σ))) := by
    refine okF Tryz.func60 (by kernel_rfl) ?_
    intro bx
    refine LoadAt.mk 1 _ _ rfl rfl ?_
    refine LoadAt.mk 0 _ _ rfl rfl ?_
    refine callB [] (hI _) (fun c1 => ?_) (fun c1 => ?_)
    · refine LoadAt.mk 2 _ _ rfl rfl ?_
      refine LoadAt.mk 0 _ _ rfl rfl ?_
      refine callR [] (hE _) ?_
      exact .drop 0 1 (.done ⟨av_bool (by show _ = (decide (x1 ∈ R) && !decide ((x1, x2, xu) ∈ B)); rw [c1]; rfl), rfl⟩)
    · exact .drop 0 1 (.done ⟨av_bool (by show _ = (decide (x1 ∈ R) && !decide ((x1, x2, xu) ∈ B)); rw [c1]; rfl), rfl⟩)
  have hp : ((bi, [AV.fsl (.int .i64) R]) :: (bb, [AV.fsl edgeSh B]) :: (A ++ σ) : Hp).Perm (A ++ ((bi, [.fsl (.int .i64) R]) :: (bb, [.fsl edgeSh B]) :: σ)) := ((List.Perm.cons _ List.perm_middle.symm).trans List.perm_middle.symm)
  exact acalls_permR key hp hp.symm
/-- The edges that are left. -/
def restP (N : Nat) (l : List EdgeT) (r : Nat) : List EdgeT := (sortedE l).filter (restQ (reachR N l [(r : Int)]) (backP N l r))
/-- What is left, in the order that is given. -/
def restO (N : Nat) (l : List EdgeT) (r : Nat) : List EdgeT := l.filter (restQ (reachR N l [(r : Int)]) (backP N l r))
/-- Is there a ring? -/
def ringO (N : Nat) (l : List EdgeT) : Bool := l.any fun x : EdgeT => toB N l x.2.1 x.1
theorem aLoopsCleanNo (n r : Int) (l : List EdgeT) (σ : Hp) (hl : l.length ≤ 1000000) (h : ¬ (rightE n l = true ∧ 0 ≤ r ∧ r < n)) : ACalls Tryz.prog 32 [.int .i64 n, .fsl edgeSh l, .int .i64 r] σ (Ret (.tup [.bool false, .int .i64 1]) σ) := by
  refine okF Tryz.func32 (by kernel_rfl) ?_
  refine callR [] (aLoopsBackNo n r l _ hl h) ?_
  intro bl1
  refine StoreAt.mk 0 _ _ rfl rfl ?_
  exact .drop 0 1 (.done ⟨rfl, rfl⟩)
theorem aLoopsClean (N R : Nat) (l : List EdgeT) (σ : Hp) (d : DG N R l) (hg : (gT, tabT) ∈ σ) : ACalls Tryz.prog 32 [.int .i64 N, .fsl edgeSh l, .int .i64 R] σ (Ret (.tup [.bool (!ringO N (restO N l R)), .int .i64 0]) σ) := by
  obtain ⟨z, hz⟩ : ∃ z : Int, z = 0 := ⟨_, rfl⟩
  have hA : ∀ ρ, (gT, tabT) ∈ ρ → ACalls Tryz.prog 30 [.int .i64 N, .fsl edgeSh l, .int .i64 R] ρ (Ret (.tup [.fsl edgeSh (backP N l R), .int .i64 z]) ρ) := fun ρ hm => hz ▸ aLoopsBack N R l ρ d hm
  have hl := d.hl
  have h8 := d.h8
  have hsl : (sortedE l).length ≤ 1000 := Nat.le_trans (by rw [← insK_all]; exact insK_len l _ (Nat.le_refl _)) hl
  have hbl : (backP N l R).length ≤ 1000 := by
    unfold backP
    exact Nat.le_trans (List.length_filter_le _ _) hsl
  have hRl : (reachR N l [(R : Int)]).length ≤ 1000 := by
    have := reachR_length N l [(R : Int)]
    omega
  have hre : ∀ x ∈ restP N l R, x ∈ l := fun x hx => (sortedE_mem l x).1 (List.mem_filter.1 hx).1
  have hrl : (restP N l R).length ≤ 1000 := Nat.le_trans (List.length_filter_le _ _) hsl
  have hri : rightE N (restP N l R) = true := by
    have h := d.ri
    unfold rightE at h ⊢
    simp only [Bool.and_eq_true, List.all_eq_true] at h ⊢
    exact ⟨⟨h.1.1, decide_eq_true (by omega)⟩, fun x hx => h.2 x (hre x hx)⟩
  refine okF Tryz.func32 (by kernel_rfl) ?_
  refine callR [] (hA _ hg) ?_
  intro bl1
  refine StoreAt.mk 0 _ _ rfl rfl ?_
  refine bcond_split (fun c2 => ?_) (fun c2 => ?_)
  · have c2 : ¬ (z = 0) := by simpa using c2
    exact absurd hz c2
  · have c2 : z = 0 := by simpa using c2
    intro bl3
    refine .frz (args' := [.int .i64 N, .fsl edgeSh l, .fsl (.int .i64) ([(R : Int)] : List Int)]) 0 bl3 0 1 1 _ (.int .i64) ([(R : Int)] : List Int) rfl rfl ⟨rfl, rfl, by decide⟩ (frz_cons (.refl _) (frz_cons (.refl _) (frz_cons .here (.refl _)))) ?_
    refine callR [] (aReached N l [(R : Int)] _ (by omega) (by omega) (by show 1 ≤ 100000; decide)) ?_
    intro bl2
    refine StoreAt.mk 0 _ _ rfl rfl ?_
    refine callR [] (aFlowSorted l _ (by omega)) ?_
    have hK := aKeptE 60 [.ptr bl2 0, .ptr bl1 0] (sortedE l) (restQ (reachR N l [(R : Int)]) (backP N l R)) ((bl2, [.fsl (.int .i64) (reachR N l [(R : Int)])]) :: (bl1, [.fsl edgeSh (backP N l R)]) :: σ) (by omega) (fun x _ A => aClean1 bl2 bl1 (reachR N l [(R : Int)]) (backP N l R) x σ hRl hbl A)
    refine callR [] hK ?_
    refine .mk [] _ (aSccRoundP N (restP N l R) _ (by omega) hri) ?_
    rintro _ _ ⟨rfl, rfl, P, hP⟩
    have hee : ∀ e ∈ restP N l R, (0 ≤ e.1 ∧ e.1 < (N : Int)) ∧ 0 ≤ e.2.1 ∧ e.2.1 < (N : Int) := fun e he => by
      unfold rightE at hri
      simp only [Bool.and_eq_true, List.all_eq_true] at hri
      have := hri.2 e he
      exact ⟨node_iff.1 this.1, node_iff.1 this.2⟩
    have hring := (ring_is hP hee).trans (any_ring (m := restO N l R) fun x => by unfold restP restO; rw [List.mem_filter, List.mem_filter, sortedE_mem])
    rw [hring]
    exact .drop 0 2 (.done ⟨rfl, rfl⟩)
end Go.Proofs.YtljbnigceammdaaGreatDoor
