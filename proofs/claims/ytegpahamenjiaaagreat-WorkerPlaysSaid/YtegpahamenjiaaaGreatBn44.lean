/-
  Kq: what the claim uses of them.
-/
import Derived.Test.YtegpahamenjiaaaGreatBn43
import Derived.Test.YtegpahamenjiaaaGreatBn41
import Derived.Test.YtegpahamenjiaaaGreatBn30
namespace Go.Proofs.YtegpahamenjiaaaGreat
open Go.RowKit
set_option maxRecDepth 100000
/-- Is z the i-th word of a value? -/
def wordK (what w : Int) (i : Nat) (z : Int) : Prop := W64 z ∧ (if what = 3 then normW z = z else z.toNat < 2 ^ min 64 (cutW w - 64 * i))
theorem wordK_zero (what w : Int) (i : Nat) : wordK what w i 0 := by
  refine ⟨⟨by decide, by decide⟩, ?_⟩
  split
  · rfl
  · exact Nat.two_pow_pos _
theorem wordK_word {what w : Int} (h : what = 1 ∨ what = 2 ∨ what = 3) {i : Nat} {x y : Int} (hx : wordK what w i x) (hy : wordK what w i y) : wordK what w i (wordW what x y) := by
  refine ⟨word_64 hx.1 hy.1, ?_⟩
  have ux := hx.1
  have uy := hy.1
  obtain ⟨a, rfl⟩ := Int.eq_ofNat_of_zero_le ux.1
  obtain ⟨b, rfl⟩ := Int.eq_ofNat_of_zero_le uy.1
  have ha : a < 18446744073709551616 := by have := ux.2; omega
  have hb : b < 18446744073709551616 := by have := uy.2; omega
  rcases h with rfl | rfl | rfl
  · have h1 := hx.2
    have h2 := hy.2
    rw [if_neg (by decide)] at h1 h2 ⊢
    rw [show wordW 1 (a : Int) b = bits .or .u64 (a : Int) b from rfl, bits_u64_or ha hb, Int.toNat_natCast]
    exact Nat.or_lt_two_pow h1 h2
  · have h1 := hx.2
    rw [if_neg (by decide)] at h1 ⊢
    rw [show wordW 2 (a : Int) b = bits .and .u64 (a : Int) b from rfl, bits_u64_and ha hb, Int.toNat_natCast]
    exact Nat.lt_of_le_of_lt Nat.and_le_left h1
  · rw [if_pos rfl]
    exact joinW_norm _ _
theorem val_words {what w : Int} {a : List Int} (hi : is12 what w = true) : Val what w a ↔ ((a.length : Int) = wordsL what w ∧ ∀ i, i < a.length → wordK what w i (wd a i)) := by
  constructor
  · intro ⟨hv, h64⟩
    refine ⟨val_len hv, fun i h => ⟨wd_64 h64 i, ?_⟩⟩
    by_cases h3 : what = 3
    · rw [if_pos h3]
      exact norm_wd ((val_flat hi h3).1 hv).2 h
    · rw [if_neg h3]
      have := (val_set hi h3).1 hv
      unfold fitsW at this
      rw [Bool.and_eq_true, List.all_eq_true] at this
      simpa using this.2 i (List.mem_range.2 h)
  · intro ⟨hl, hk⟩
    have h64 : A64 a := fun z hz => by
      obtain ⟨i, hi, rfl⟩ := List.mem_iff_getElem.1 hz
      rw [← wd_get a hi]; exact (hk i hi).1
    refine ⟨?_, h64⟩
    by_cases h3 : what = 3
    · subst h3
      refine (val_flat hi rfl).2 ⟨?_, okW_iff.2 fun z hz => ?_⟩
      · rw [hl]; unfold wordsL; rw [if_pos hi, if_pos rfl]
      · obtain ⟨i, hi, rfl⟩ := List.mem_iff_getElem.1 hz
        have := (hk i hi).2
        rw [if_pos rfl, wd_get a hi] at this
        exact this
    · refine (val_set hi h3).2 ?_
      have hl' : a.length = sizeW w := by
        have : wordsL what w = (sizeW w : Int) := by unfold wordsL; rw [if_pos hi, if_neg h3]
        omega
      unfold fitsW
      rw [Bool.and_eq_true, List.all_eq_true]
      refine ⟨by simpa using hl', fun i hi => ?_⟩
      have := (hk i (List.mem_range.1 hi)).2
      rw [if_neg h3] at this
      simpa using this
structure LS (s : Sy) (l : Lay) : Prop where
  fit : Fit s
  good : Good s
  what : l.what = s.what
  words : l.words = wordsL s.what s.w
  n : l.n = s.n
  k1 : 1 ≤ l.k
  k2 : l.k ≤ 64
/-- How many nodes, words. -/
abbrev nN (s : Sy) : Nat := s.n.toNat
abbrev nW (l : Lay) : Nat := cw l.words
theorem LS.nn {s : Sy} {l : Lay} (h : LS s l) : s.n = (nN s : Int) ∧ 1 ≤ nN s ∧ nN s ≤ 256 := by have := h.good.n1; have := h.good.n2; unfold nN; omega
theorem LS.ww {s : Sy} {l : Lay} (h : LS s l) : l.words = (nW l : Int) ∧ nW l ≤ 1024 := by
  have := wordsL_le s.what s.w
  have := h.words
  unfold nW cw; omega
theorem cell_lt {N W v i : Nat} (hv : v < N) (hi : i < W) : v * W + i < N * W := by
  have : (v + 1) * W ≤ N * W := Nat.mul_le_mul_right _ hv
  rw [Nat.add_mul] at this
  omega
theorem cell_inj {W u v i j : Nat} (hi : i < W) (hj : j < W) (h : u * W + i = v * W + j) : u = v ∧ i = j := by
  have h1 : (u * W + i) / W = u := by rw [Nat.mul_comm, Nat.mul_add_div (by omega), Nat.div_eq_of_lt hi, Nat.add_zero]
  have h2 : (v * W + j) / W = v := by rw [Nat.mul_comm, Nat.mul_add_div (by omega), Nat.div_eq_of_lt hj, Nat.add_zero]
  have h3 : u = v := by rw [← h1, ← h2, h]
  subst h3
  exact ⟨rfl, by omega⟩
theorem nw_le {N W : Nat} (hN : N ≤ 256) (hW : W ≤ 1024) : N * W ≤ 262144 := Nat.mul_le_mul hN hW
theorem wr_small {z : Int} (h0 : 0 ≤ z) (h1 : z < 9223372036854775808) : wr z = z := by
  show IntKind.i64.wrap z = z
  rw [IntKind.wrap_i64]; omega
section
variable {s : Sy} {l : Lay} (hs : LS s l)
include hs
theorem LS.flags : flagsL l = ((nN s * nW l : Nat) : Int) := by
  have h1 := hs.nn
  have h2 := hs.ww
  have := nw_le h1.2.2 h2.2
  unfold flagsL
  rw [hs.n, h1.1, h2.1, ← Int.natCast_mul]
  exact wr_small (by omega) (by omega)
theorem LS.count : countL l = ((nN s * nW l + nN s : Nat) : Int) := by
  have h1 := hs.nn
  have h2 := hs.ww
  have := nw_le h1.2.2 h2.2
  unfold countL
  rw [hs.flags, hs.n, h1.1, Int.natCast_add]
  exact wr_small (by omega) (by omega)
theorem LS.room : roomL l = ((nN s + 1 : Nat) : Int) ∧ rm (roomL l) = nN s + 1 := by
  have h1 := hs.nn
  have e : roomL l = ((nN s + 1 : Nat) : Int) := by
    unfold roomL
    rw [hs.n, h1.1, Int.natCast_add]
    exact wr_small (by omega) (by omega)
  refine ⟨e, ?_⟩
  rw [e]; unfold rm; omega
/-- Where the deques begin; how many words each has. -/
theorem LS.deque {k : Nat} (hk : k ≤ 64) : dqB l k = ((nN s * nW l + nN s + 1 + k * (nN s + 3) : Nat) : Int) := by
  have h1 := hs.nn
  have h2 := hs.ww
  have h3 := nw_le h1.2.2 h2.2
  have h4 : k * (nN s + 3) ≤ 64 * 259 := Nat.mul_le_mul hk (by omega)
  unfold dqB
  rw [hs.count, hs.room.2, show ((k : Int) * ((2 + (nN s + 1) : Nat) : Int)) = ((k * (nN s + 3) : Nat) : Int) by rw [Int.natCast_mul]; congr 1; omega]
  rw [wr_small (z := ((k * (nN s + 3) : Nat) : Int)) (by omega) (by omega), wr_small (z := ((nN s * nW l + nN s : Nat) : Int) + 1) (by omega) (by omega)]
  rw [show ((nN s * nW l + nN s : Nat) : Int) + 1 + ((k * (nN s + 3) : Nat) : Int) = ((nN s * nW l + nN s + 1 + k * (nN s + 3) : Nat) : Int) by omega]
  exact wr_small (by omega) (by omega)
theorem LS.cellb {v : Nat} (hv : v < nN s) : cellB l v = ((v * nW l : Nat) : Int) := by
  have h1 := hs.nn
  have h2 := hs.ww
  have h3 := nw_le h1.2.2 h2.2
  have h4 : v * nW l ≤ nN s * nW l := Nat.mul_le_mul_right _ (by omega)
  unfold cellB
  rw [h2.1, ← Int.natCast_mul]
  exact wr_small (by omega) (by omega)
theorem LS.cellA {v i : Nat} (hv : v < nN s) (hi : i < nW l) : wr (cellB l v + (i : Nat)) = ((v * nW l + i : Nat) : Int) := by
  have h1 := hs.nn
  have h2 := hs.ww
  have h3 := nw_le h1.2.2 h2.2
  have h4 := cell_lt hv hi
  rw [hs.cellb hv, ← Int.natCast_add]
  exact wr_small (by omega) (by omega)
theorem LS.flagA {v : Nat} (hv : v < nN s) : wr (flagsL l + (v : Nat)) = ((nN s * nW l + v : Nat) : Int) := by
  have h1 := hs.nn
  have h2 := hs.ww
  have h3 := nw_le h1.2.2 h2.2
  rw [hs.flags, ← Int.natCast_add]
  exact wr_small (by omega) (by omega)
theorem LS.whatL : s.what = 1 ∨ s.what = 2 ∨ s.what = 3 := by
  have := hs.good.isL
  unfold is12 at this
  simp at this
  omega
end
structure MV (s : Sy) (l : Lay) (ws : List Int) : Prop where
  a64 : A64 ws
  cells : ∀ v i, v < nN s → i < nW l → wordK s.what s.w i (ws.getD (v * nW l + i) 0)
theorem getD_set {ws : List Int} {a b : Nat} {x : Int} : (ws.set a x).getD b 0 = if a = b ∧ b < ws.length then x else ws.getD b 0 := by
  simp only [List.getD_eq_getElem?_getD, List.getElem?_set]
  by_cases h : a = b
  · subst h
    by_cases h2 : a < ws.length
    · simp [h2]
    · simp [h2]
  · simp [h]
theorem MV.store_hi {s : Sy} {l : Lay} {ws : List Int} (h : MV s l ws) {a x : Int} (ha : ((nN s * nW l : Nat) : Int) ≤ a) (hx : W64 x) : MV s l (mStore ws a x) := by
  refine ⟨store_64 h.a64 a hx, fun v i hv hi => ?_⟩
  have := cell_lt hv hi
  obtain ⟨k, rfl⟩ := Int.eq_ofNat_of_zero_le (show 0 ≤ a by omega)
  rw [store_hit, getD_set, if_neg (by omega)]
  exact h.cells v i hv hi
theorem MV.cas_hi {s : Sy} {l : Lay} {ws : List Int} (h : MV s l ws) {a o x : Int} (ha : ((nN s * nW l : Nat) : Int) ≤ a) (hx : W64 x) : MV s l (mCasTo ws a o x) := by
  unfold mCasTo; split
  · exact h.store_hi ha hx
  · exact h
theorem MV.add_hi {s : Sy} {l : Lay} {ws : List Int} (h : MV s l ws) {a x : Int} (ha : ((nN s * nW l : Nat) : Int) ≤ a) : MV s l (mAddTo ws a x) := by
  unfold mAddTo; split
  · exact h.store_hi ha (by unfold W64; omega)
  · exact h
theorem MV.store_cell {s : Sy} {l : Lay} {ws : List Int} (h : MV s l ws) {u j : Nat} {x : Int} (hj : j < nW l) (hx : wordK s.what s.w j x) : MV s l (mStore ws ((u * nW l + j : Nat) : Int) x) := by
  refine ⟨store_64 h.a64 _ hx.1, fun v i hv hi => ?_⟩
  rw [store_hit, getD_set]
  split
  · rename_i he
    obtain ⟨-, rfl⟩ := cell_inj hj hi he.1
    exact hx
  · exact h.cells v i hv hi
theorem MV.cas_cell {s : Sy} {l : Lay} {ws : List Int} (h : MV s l ws) {u j : Nat} {o x : Int} (hj : j < nW l) (hx : wordK s.what s.w j x) : MV s l (mCasTo ws ((u * nW l + j : Nat) : Int) o x) := by
  unfold mCasTo; split
  · exact h.store_cell hj hx
  · exact h
theorem MV.load {s : Sy} {l : Lay} {ws : List Int} (h : MV s l ws) {v i : Nat} (hv : v < nN s) (hi : i < nW l) : wordK s.what s.w i (mLoad ws ((v * nW l + i : Nat) : Int)) := by
  rw [load_hit]; exact h.cells v i hv hi
/-- Its numbers are words; it isn't ended. -/
structure DQ.w4 (q : DQ) (m : Nat) : Prop where
  at_ : q.at_ ≤ m
  b : W64 q.b
  t : W64 q.t
  n : W64 q.n
  x : W64 q.x
  en : q.ended = false
/-- A machine ahead of a Step. -/
def nowB (s : Sy) (l : Lay) (who does node : Int) (nx out : List Int) : Nw → Prop
  | .none => False
  | .pop q => does = 0 ∧ q.w4 5 ∧ q.base = dqB l who ∧ q.cap = roomL l
  | .steal q => does = 1 ∧ q.w4 3 ∧ (∃ v : Nat, (v : Int) < l.k ∧ q.base = dqB l v) ∧ q.cap = roomL l ∧ q.ok = false
  | .quiet t => does = 2 ∧ t = ⟨flagsL l, countL l, false, false⟩
  | .clear t => does = 3 ∧ t = ⟨flagsL l, countL l, node, false⟩
  | .read y => does = 4 ∧ (y.length < nW l ∨ (nW l = 0 ∧ y = [])) ∧ ∀ i, i < y.length → wordK s.what s.w i (wd y i)
  | .join j => does = 5 ∧ (j.base = cellB l (nx.headD 0) ∧ j.what = l.what ∧ j.words = l.words ∧ j.a = out) ∧ j.ended = false ∧ j.at_ ≤ nW l ∧ W64 j.x ∧ (j.loaded = true → j.at_ < nW l ∧ wordK s.what s.w j.at_ j.x)
  | .take t => does = 6 ∧ ∃ did : Bool, t = ⟨flagsL l, countL l, nx.headD 0, did, false, did⟩
  | .push q => does = 7 ∧ q.w4 3 ∧ q.base = dqB l who ∧ q.cap = roomL l ∧ q.ok = false
  | .retire t => does = 8 ∧ t = ⟨flagsL l, countL l, 0, false⟩
/-- A machine that is kept. -/
def kept (l : Lay) : Nw → Prop
  | .none | .quiet _ | .clear _ | .retire _ => False
  | .read y => y.length < nW l
  | .join j => j.at_ < nW l
  | .take t => t.did = true
  | _ => True
structure WV (s : Sy) (l : Lay) (who : Int) (x : WS) : Prop where
  does : 0 ≤ x.does ∧ x.does ≤ 8
  node : 0 ≤ x.node ∧ x.node < s.n
  nx : ∀ u ∈ x.nx, 0 ≤ u ∧ u < s.n
  head : x.does = 5 ∨ x.does = 6 ∨ x.does = 7 → 0 < x.nx.length
  out : x.does = 5 ∨ x.does = 6 ∨ x.does = 7 → Val s.what s.w x.out
  rob : x.does = 1 → 2 ≤ l.k
  now : x.now = .none ∨ (nowB s l who x.does x.node x.nx x.out x.now ∧ kept l x.now)
theorem wv0 {s : Sy} {l : Lay} (hs : LS s l) (who : Int) : WV s l who ws0 :=
  ⟨by decide, ⟨Int.le_refl _, hs.good.n1⟩, fun u hu => (List.not_mem_nil hu).elim, fun h => absurd h (by decide), fun h => absurd h (by decide), fun h => absurd h (by decide), .inl rfl⟩
theorem WV.ok {s : Sy} {l : Lay} (hs : LS s l) {who : Int} {x : WS} (h : WV s l who x) : okWk l x := by
  refine ⟨h.head, fun h1 => nK_ne ⟨h.rob h1, hs.k2⟩, ?_⟩
  have hh := h.head
  rcases h.now with h0 | ⟨h1, h2⟩
  · rw [h0]; trivial
  · cases hn : x.now with
    | none => trivial
    | pop q => rw [hn] at h1; exact ⟨h1.2.1.at_, h1.2.1.b.1⟩
    | steal q => rw [hn] at h1; exact ⟨h1.2.1.at_, h1.2.1.t.1⟩
    | quiet q => trivial
    | clear q => trivial
    | read y =>
      rw [hn] at h1
      refine ⟨h1.2.1, fun z hz => ?_⟩
      obtain ⟨i, hi, rfl⟩ := List.mem_iff_getElem.1 hz
      rw [← wd_get y hi]; exact (h1.2.2 i hi).1
    | join j => rw [hn] at h1; have := hs.ww.2; exact ⟨by have := h1.2.2.2.1; omega, hh (.inl h1.1)⟩
    | take t => rw [hn] at h1; exact hh (.inr (.inl h1.1))
    | push q => rw [hn] at h1; exact ⟨⟨h1.2.1.at_, h1.2.1.b.1⟩, hh (.inr (.inr h1.1))⟩
    | retire t => trivial
/-- Where a deque's words stand. -/
theorem LS.dq_hi {s : Sy} {l : Lay} (hs : LS s l) {k : Nat} (hk : k ≤ 64) : ((nN s * nW l : Nat) : Int) ≤ dqB l k ∧ ((nN s * nW l : Nat) : Int) ≤ botD (dqB l k) ∧ ∀ i, ((nN s * nW l : Nat) : Int) ≤ placeD (dqB l k) (roomL l) i := by
  have h1 := hs.nn
  have h2 := hs.ww
  have h3 := nw_le h1.2.2 h2.2
  have h4 : k * (nN s + 3) ≤ 64 * 259 := Nat.mul_le_mul hk (by omega)
  have hd := hs.deque hk
  refine ⟨by omega, ?_, fun i => ?_⟩
  · unfold botD; rw [hd, wr_small (by omega) (by omega)]; omega
  · unfold placeD
    rw [hs.room.2]
    have hm := Int.emod_nonneg i (show ((nN s + 1 : Nat) : Int) ≠ 0 by omega)
    have hm2 := Int.emod_lt_of_pos i (show (0 : Int) < ((nN s + 1 : Nat) : Int) by omega)
    rw [hd, wr_small (z := ((nN s * nW l + nN s + 1 + k * (nN s + 3) : Nat) : Int) + 2) (by omega) (by omega), wr_small (z := i % _) hm (by omega), wr_small (by omega) (by omega)]
    omega
theorem wu_64 (n : Int) : W64 (wu n) := wrap_64 n
section
variable {s : Sy} {l : Lay} {ws ws' : List Int} {q q' : DQ} {b : Bool}
theorem pop_keeps (hw : MV s l ws) (hq : q.w4 5) (hb : ((nN s * nW l : Nat) : Int) ≤ botD q.base) (h0 : ((nN s * nW l : Nat) : Int) ≤ q.base) (h : popStep listOps q ws = (q', ws', b)) : MV s l ws' ∧ ws'.length = ws.length ∧ q'.base = q.base ∧ q'.cap = q.cap ∧ W64 q'.n ∧ (b = false → q'.w4 5) := by
  obtain ⟨base, cap, n, ok, ended, at_, bb, t, x⟩ := q
  obtain ⟨h1, h2, h3, h4, h5, h6⟩ := hq
  have l1 := fun a => load_64 hw.a64 a
  have s1 := fun {a} {x} (ha : ((nN s * nW l : Nat) : Int) ≤ a) (hx : W64 x) => hw.store_hi ha hx
  have c1 := fun {a} {o} {x} (ha : ((nN s * nW l : Nat) : Int) ≤ a) (hx : W64 x) => hw.cas_hi (o := o) ha hx
  dsimp only at *
  subst h6
  unfold popStep at h
  dsimp only at h
  repeat' split at h
  all_goals
    cases h
    refine ⟨?_, ?_, rfl, rfl, ?_, fun hb => ?_⟩
  all_goals first
    | contradiction
    | assumption
    | rfl
    | exact mStore_length _ _ _
    | exact mCasTo_length _ _ _ _
    | exact s1 hb h2
    | exact s1 hb (wu_64 _)
    | exact c1 h0 (wu_64 _)
    | exact l1 _
    | (dsimp only; split <;> assumption)
    | exact ⟨by dsimp only; omega, by first | assumption | exact l1 _ | exact wu_64 _, by first | assumption | exact l1 _, by first | assumption | exact l1 _, by first | assumption | exact l1 _, rfl⟩
theorem steal_keeps (hw : MV s l ws) (hq : q.w4 3) (h0 : ((nN s * nW l : Nat) : Int) ≤ q.base) (hk : q.ok = false) (h : stealStep listOps q ws = (q', ws', b)) : MV s l ws' ∧ ws'.length = ws.length ∧ q'.base = q.base ∧ q'.cap = q.cap ∧ W64 q'.n ∧ (b = false → q'.w4 3 ∧ q'.ok = false) := by
  obtain ⟨base, cap, n, ok, ended, at_, bb, t, x⟩ := q
  obtain ⟨h1, h2, h3, h4, h5, h6⟩ := hq
  have l1 := fun a => load_64 hw.a64 a
  have c1 := fun {a} {o} {x} (ha : ((nN s * nW l : Nat) : Int) ≤ a) (hx : W64 x) => hw.cas_hi (o := o) ha hx
  dsimp only at *
  subst h6; subst hk
  unfold stealStep at h
  dsimp only at h
  repeat' split at h
  all_goals
    cases h
    refine ⟨?_, ?_, rfl, rfl, ?_, fun hb => ?_⟩
  all_goals first
    | contradiction
    | assumption
    | rfl
    | exact mStore_length _ _ _
    | exact mCasTo_length _ _ _ _
    | exact c1 h0 (wu_64 _)
    | exact l1 _
    | exact ⟨⟨by dsimp only; omega, by first | assumption | exact l1 _, by first | assumption | exact l1 _, by first | assumption | exact l1 _, by first | assumption | exact l1 _, rfl⟩, rfl⟩
theorem push_keeps (hw : MV s l ws) (hq : q.w4 3) (hb : ((nN s * nW l : Nat) : Int) ≤ botD q.base) (hp : ∀ i, ((nN s * nW l : Nat) : Int) ≤ placeD q.base q.cap i) (hk : q.ok = false) (h : pushStep listOps q ws = (q', ws', b)) : MV s l ws' ∧ ws'.length = ws.length ∧ q'.base = q.base ∧ q'.cap = q.cap ∧ W64 q'.n ∧ (b = false → q'.w4 3 ∧ q'.ok = false) := by
  obtain ⟨base, cap, n, ok, ended, at_, bb, t, x⟩ := q
  obtain ⟨h1, h2, h3, h4, h5, h6⟩ := hq
  have l1 := fun a => load_64 hw.a64 a
  have s1 := fun {a} {x} (ha : ((nN s * nW l : Nat) : Int) ≤ a) (hx : W64 x) => hw.store_hi ha hx
  dsimp only at *
  subst h6; subst hk
  unfold pushStep at h
  dsimp only at h
  repeat' split at h
  all_goals
    cases h
    refine ⟨?_, ?_, rfl, rfl, ?_, fun hb => ?_⟩
  all_goals first
    | contradiction
    | assumption
    | rfl
    | exact mStore_length _ _ _
    | exact mCasTo_length _ _ _ _
    | exact s1 hb (wu_64 _)
    | exact s1 (hp _) h4
    | exact l1 _
    | exact ⟨⟨by dsimp only; omega, by first | assumption | exact l1 _, by first | assumption | exact l1 _, by first | assumption | exact l1 _, by first | assumption | exact l1 _, rfl⟩, rfl⟩
end
theorem wd_app {y : List Int} {z : Int} {i : Nat} : wd (y ++ [z]) i = if i < y.length then wd y i else if i = y.length then z else 0 := by
  unfold wd
  rw [List.getElem?_append]
  by_cases h : i < y.length
  · rw [if_pos h, if_pos h]
  · rw [if_neg h, if_neg h]
    by_cases h2 : i = y.length
    · subst h2; simp
    · rw [if_neg h2, List.getElem?_eq_none (by show 1 ≤ _; omega)]; rfl
theorem read_keeps {s : Sy} {l : Lay} {ws ws' : List Int} {y y' : List Int} {b : Bool} (hs : LS s l) (hw : MV s l ws) {v : Nat} (hv : v < nN s) (hy : y.length < nW l ∨ (nW l = 0 ∧ y = [])) (hk : ∀ i, i < y.length → wordK s.what s.w i (wd y i)) (h : readStep listOps l (cellB l v) y ws = (y', ws', b)) : ws' = ws ∧ (∀ i, i < y'.length → wordK s.what s.w i (wd y' i)) ∧ (b = false → y'.length < nW l) ∧ (b = true → Val s.what s.w y') := by
  have hww := hs.ww
  unfold readStep at h
  split at h
  · rename_i hlt
    have hlt : y.length < nW l := hlt
    cases h
    have e : ∀ i, i < (y ++ [(listOps.ld ws (wr (cellB l v + (y.length : Nat)))).1]).length → wordK s.what s.w i (wd (y ++ [(listOps.ld ws (wr (cellB l v + (y.length : Nat)))).1]) i) := fun i hi => by
      rw [List.length_append] at hi
      have hi : i < y.length + 1 := hi
      rw [wd_app]
      by_cases h1 : i < y.length
      · rw [if_pos h1]; exact hk i h1
      · obtain rfl : i = y.length := by omega
        rw [if_neg h1, if_pos rfl]
        show wordK _ _ _ (mLoad ws _)
        rw [hs.cellA hv hlt]
        exact hw.load hv hlt
    refine ⟨rfl, e, fun hb => ?_, fun hb => ?_⟩
    · have hb : ¬ y.length + 1 = nW l := of_decide_eq_false hb
      rw [List.length_append]; show y.length + 1 < _; omega
    · have hb : y.length + 1 = nW l := of_decide_eq_true hb
      refine (val_words hs.good.isL).2 ⟨?_, e⟩
      rw [← hs.words, hww.1, List.length_append]; show ((y.length + 1 : Nat) : Int) = _; omega
  · rename_i hlt
    obtain ⟨h1, h2⟩ := Prod.mk.inj h
    obtain ⟨h2, h3⟩ := Prod.mk.inj h2
    subst h1; subst h2; subst h3
    have h0 : nW l = 0 ∧ y = [] := by
      rcases hy with h | h
      · exact absurd h hlt
      · exact h
    refine ⟨rfl, hk, fun hb => (by cases hb), fun _ => ?_⟩
    refine (val_words hs.good.isL).2 ⟨?_, hk⟩
    rw [← hs.words, hww.1, h0.1, h0.2]; rfl
theorem join_keeps {s : Sy} {l : Lay} {ws ws' : List Int} {j j' : Jn} {b : Bool} (hs : LS s l) (hw : MV s l ws) {u : Nat} (hu : u < nN s) (hbase : j.base = cellB l u) (hwhat : j.what = l.what) (hwords : j.words = l.words) (ha : Val s.what s.w j.a) (hend : j.ended = false) (hat : j.at_ ≤ nW l) (hx : W64 j.x) (hl : j.loaded = true → j.at_ < nW l ∧ wordK s.what s.w j.at_ j.x) (h : jnStep listOps j ws = (j', ws', b)) :
    MV s l ws' ∧ ws'.length = ws.length ∧ (j'.base = j.base ∧ j'.what = j.what ∧ j'.words = j.words ∧ j'.a = j.a) ∧ (b = false → j'.ended = false ∧ j'.at_ < nW l ∧ W64 j'.x ∧ (j'.loaded = true → wordK s.what s.w j'.at_ j'.x)) := by
  obtain ⟨base, what, words, a, changed, ended, tries, at_, loaded, x⟩ := j
  dsimp only at *
  subst hbase; subst hend; subst hwhat; subst hwords
  have hww := hs.ww
  have hwk : ∀ i, i < nW l → wordK s.what s.w i (wd a i) := fun i hi => by
    have := (val_words hs.good.isL).1 ha
    refine this.2 i ?_
    have h2 := this.1
    rw [← hs.words, hww.1] at h2
    omega
  unfold jnStep at h
  dsimp only at h
  split at h
  · contradiction
  split at h
  · cases h
    exact ⟨hw, rfl, ⟨rfl, rfl, rfl, rfl⟩, fun hb => by cases hb⟩
  rename_i hat2
  have hlt : at_ < nW l := by have : ¬ at_ = nW l := hat2; omega
  have hA := hs.cellA hu hlt
  have hld : wordK s.what s.w at_ (mLoad ws (wr (cellB l u + (at_ : Nat)))) := by rw [hA]; exact hw.load hu hlt
  rw [hs.what] at h
  split at h
  · rename_i hld2
    have hx2 := (hl hld2).2
    have hto := wordK_word hs.whatL hx2 (hwk at_ hlt)
    have hM : ∀ o, MV s l (mCasTo ws (wr (cellB l u + (at_ : Nat))) o (wordW s.what x (wd a at_))) := fun o => by rw [hA]; exact hw.cas_cell hlt hto
    split at h
    · unfold jnNext at h
      dsimp only at h
      split at h
      · rename_i hn
        cases h
        exact ⟨hM _, mCasTo_length _ _ _ _, ⟨rfl, hs.what.symm, rfl, rfl⟩, fun _ => ⟨rfl, hn, hx, fun hc => by cases hc⟩⟩
      · cases h
        exact ⟨hM _, mCasTo_length _ _ _ _, ⟨rfl, hs.what.symm, rfl, rfl⟩, fun hb => by cases hb⟩
    · cases h
      exact ⟨hM _, mCasTo_length _ _ _ _, ⟨rfl, hs.what.symm, rfl, rfl⟩, fun _ => ⟨rfl, hlt, hx, fun hc => by cases hc⟩⟩
  · split at h
    · unfold jnNext at h
      dsimp only at h
      split at h
      · rename_i hn
        cases h
        exact ⟨hw, rfl, ⟨rfl, hs.what.symm, rfl, rfl⟩, fun _ => ⟨rfl, hn, hld.1, fun hc => absurd hc (by assumption)⟩⟩
      · cases h
        exact ⟨hw, rfl, ⟨rfl, hs.what.symm, rfl, rfl⟩, fun hb => by cases hb⟩
    · cases h
      exact ⟨hw, rfl, ⟨rfl, hs.what.symm, rfl, rfl⟩, fun _ => ⟨rfl, hlt, hld.1, fun _ => hld⟩⟩
/-- What a machine that is ended tells. -/
def endV (s : Sy) (does : Int) : Nw → Prop
  | .none => False
  | .pop q => W64 q.n
  | .steal q => W64 q.n
  | .read y => Val s.what s.w y
  | .join _ => does = 5
  | .take _ => does = 6
  | .push _ => does = 7
  | _ => True
theorem head_nn {nx : List Int} {n : Int} (h : ∀ u ∈ nx, 0 ≤ u ∧ u < n) (h0 : 0 < nx.length) : ∃ u : Nat, nx.headD 0 = u ∧ (u : Int) < n := by
  cases nx with
  | nil => cases h0
  | cons u r =>
    have := h u (List.mem_cons_self ..)
    exact ⟨u.toNat, by show u = _; omega, by omega⟩
/-- A machine's Step. -/
theorem nowB_step {s : Sy} {l : Lay} {ws ws' : List Int} {who does node : Int} {nx out : List Int} {n n' : Nw} {b : Bool} (hs : LS s l) (hw : MV s l ws) (hwho : 0 ≤ who ∧ who < l.k) (hnode : 0 ≤ node ∧ node < s.n) (hnx : ∀ u ∈ nx, 0 ≤ u ∧ u < s.n) (hh : does = 5 ∨ does = 6 ∨ does = 7 → 0 < nx.length) (ho : does = 5 ∨ does = 6 ∨ does = 7 → Val s.what s.w out)
    (hb : nowB s l who does node nx out n) (h : nwStep listOps l node n ws = (n', ws', b)) : MV s l ws' ∧ ws'.length = ws.length ∧ (b = false → nowB s l who does node nx out n' ∧ kept l n') ∧ (b = true → endV s does n') := by
  have hk2 := hs.k2
  have hd : ∀ k : Nat, (k : Int) < l.k → ((nN s * nW l : Nat) : Int) ≤ dqB l k ∧ ((nN s * nW l : Nat) : Int) ≤ botD (dqB l k) ∧ ∀ i, ((nN s * nW l : Nat) : Int) ≤ placeD (dqB l k) (roomL l) i := fun k hk => hs.dq_hi (by omega)
  obtain ⟨me, rfl⟩ := Int.eq_ofNat_of_zero_le hwho.1
  obtain ⟨v, rfl⟩ := Int.eq_ofNat_of_zero_le hnode.1
  have hv : v < nN s := by have := hs.nn; omega
  have hme := hd me hwho.2
  cases n with
  | none => exact hb.elim
  | pop q =>
    obtain ⟨q', a', b', hst⟩ : ∃ q' a' b', popStep listOps q ws = (q', a', b') := ⟨_, _, _, rfl⟩
    rw [nw_pop hst] at h
    cases h
    obtain ⟨h1, h2, h3, h4⟩ := hb
    obtain ⟨k1, k2, k3, k4, k5, k6⟩ := pop_keeps hw h2 (by rw [h3]; exact hme.2.1) (by rw [h3]; exact hme.1) hst
    exact ⟨k1, k2, fun hb => ⟨⟨h1, k6 hb, k3.trans h3, k4.trans h4⟩, trivial⟩, fun _ => k5⟩
  | steal q =>
    obtain ⟨q', a', b', hst⟩ : ∃ q' a' b', stealStep listOps q ws = (q', a', b') := ⟨_, _, _, rfl⟩
    rw [nw_steal hst] at h
    cases h
    obtain ⟨h1, h2, ⟨k, hk, h3⟩, h4, h5⟩ := hb
    obtain ⟨k1, k2, k3, k4, k5, k6⟩ := steal_keeps hw h2 (by rw [h3]; exact (hd k hk).1) h5 hst
    exact ⟨k1, k2, fun hb => ⟨⟨h1, (k6 hb).1, ⟨k, hk, k3.trans h3⟩, k4.trans h4, (k6 hb).2⟩, trivial⟩, fun _ => k5⟩
  | quiet t =>
    obtain ⟨h1, rfl⟩ := hb
    cases h
    exact ⟨hw, rfl, fun hb => (by cases hb), fun _ => trivial⟩
  | clear t =>
    obtain ⟨h1, rfl⟩ := hb
    cases h
    refine ⟨?_, ?_, fun hb => (by cases hb), fun _ => trivial⟩
    · show MV s l (if 0 ≤ (v : Int) then mStore ws (wr (flagsL l + (v : Nat))) 0 else ws)
      rw [if_pos (by omega), hs.flagA hv]
      exact hw.store_hi (by omega) (by unfold W64; omega)
    · show (if 0 ≤ (v : Int) then mStore ws (wr (flagsL l + (v : Nat))) 0 else ws).length = _
      rw [if_pos (by omega)]; exact mStore_length _ _ _
  | read y =>
    obtain ⟨y', a', b', hst⟩ : ∃ y' a' b', readStep listOps l (cellB l v) y ws = (y', a', b') := ⟨_, _, _, rfl⟩
    rw [nw_read hst] at h
    cases h
    obtain ⟨h1, h2, h3⟩ := hb
    obtain ⟨rfl, k2, k3, k4⟩ := read_keeps hs hw hv h2 h3 hst
    exact ⟨hw, rfl, fun hb => ⟨⟨h1, .inl (k3 hb), k2⟩, k3 hb⟩, fun hb => k4 hb⟩
  | join j =>
    obtain ⟨j', a', b', hst⟩ : ∃ j' a' b', jnStep listOps j ws = (j', a', b') := ⟨_, _, _, rfl⟩
    rw [nw_join hst] at h
    cases h
    obtain ⟨h1, ⟨h2, h3, h4, h5⟩, h6, h7, h8, h9⟩ := hb
    obtain ⟨u, hu, hun⟩ := head_nn hnx (hh (.inl h1))
    obtain ⟨k1, k2, ⟨k3, k4, k5, k6⟩, k7⟩ := join_keeps hs hw (u := u) (by have := hs.nn; omega) (by rw [h2, hu]) h3 h4 (by rw [h5]; exact ho (.inl h1)) h6 h7 h8 h9 hst
    refine ⟨k1, k2, fun hb => ?_, fun _ => h1⟩
    obtain ⟨m1, m2, m3, m4⟩ := k7 hb
    exact ⟨⟨h1, ⟨k3.trans h2, k4.trans h3, k5.trans h4, k6.trans h5⟩, m1, Nat.le_of_lt m2, m3, fun hc => ⟨m2, m4 hc⟩⟩, m2⟩
  | take t =>
    obtain ⟨h1, did, rfl⟩ := hb
    obtain ⟨u, hu, hun⟩ := head_nn hnx (hh (.inr (.inl h1)))
    have hu2 : u < nN s := by have := hs.nn; omega
    rw [hu] at h
    have hfl : ((nN s * nW l : Nat) : Int) ≤ wr (flagsL l + (u : Nat)) := by rw [hs.flagA hu2]; omega
    have hct : ((nN s * nW l : Nat) : Int) ≤ countL l := by rw [hs.count]; omega
    cases did with
    | true =>
      cases h
      exact ⟨hw.add_hi hct, mAddTo_length _ _ _, fun hb => (by cases hb), fun _ => h1⟩
    | false =>
      obtain ⟨t', a', b', hst⟩ : ∃ t' a' b', tkStep listOps ⟨flagsL l, countL l, (u : Nat), false, false, false⟩ ws = (t', a', b') := ⟨_, _, _, rfl⟩
      rw [nw_take hst] at h
      cases h
      unfold tkStep at hst
      dsimp only at hst
      rw [if_neg (by decide), if_neg (by decide), if_pos (by omega)] at hst
      split at hst
      · cases hst
        exact ⟨hw.cas_hi hfl (by unfold W64; omega), mCasTo_length _ _ _ _, fun _ => ⟨⟨h1, true, by rw [hu]⟩, rfl⟩, fun hb => (by cases hb)⟩
      · cases hst
        exact ⟨hw.cas_hi hfl (by unfold W64; omega), mCasTo_length _ _ _ _, fun hb => (by cases hb), fun _ => h1⟩
  | push q =>
    obtain ⟨q', a', b', hst⟩ : ∃ q' a' b', pushStep listOps q ws = (q', a', b') := ⟨_, _, _, rfl⟩
    rw [nw_push hst] at h
    cases h
    obtain ⟨h1, h2, h3, h4, h5⟩ := hb
    obtain ⟨k1, k2, k3, k4, k5, k6⟩ := push_keeps hw h2 (by rw [h3]; exact hme.2.1) (by rw [h3, h4]; exact hme.2.2) h5 hst
    exact ⟨k1, k2, fun hb => ⟨⟨h1, (k6 hb).1, k3.trans h3, k4.trans h4, (k6 hb).2⟩, trivial⟩, fun _ => h1⟩
  | retire t =>
    obtain ⟨h1, rfl⟩ := hb
    cases h
    have hct : ((nN s * nW l : Nat) : Int) ≤ countL l := by rw [hs.count]; omega
    exact ⟨hw.add_hi hct, mAddTo_length _ _ _, fun hb => (by cases hb), fun _ => trivial⟩
theorem w64_zero : W64 0 := by unfold W64; omega
theorem dq0_w4 (base cap n : Int) (m : Nat) (h : W64 n) : (dq0 base cap n).w4 m := ⟨Nat.zero_le _, w64_zero, w64_zero, h, w64_zero, rfl⟩
theorem tmod_in {d n : Int} (hn : 0 < n) : -n < d.tmod n ∧ d.tmod n < n := ⟨by have := Int.tmod_lt_of_pos (-d) hn; rw [Int.neg_tmod] at this; omega, Int.tmod_lt_of_pos _ hn⟩
theorem victim_ok {s : Sy} {l : Lay} (hs : LS s l) {who : Int} (hwho : 0 ≤ who ∧ who < l.k) (h2 : 2 ≤ l.k) (d : Int) : ∃ v : Nat, victimW l who d = v ∧ (v : Int) < l.k := by
  have hk2 := hs.k2
  have hnk : nK l = l.k - 1 := wr_small (by omega) (by omega)
  have h1 := tmod_in (d := d) (n := l.k - 1) (by omega)
  unfold victimW
  rw [hnk]
  generalize d.tmod (l.k - 1) = a at h1
  rw [wr_small (z := a + (l.k - 1)) (by omega) (by omega), wr_small (z := who + 1) (by omega) (by omega)]
  have h3 : 0 ≤ (a + (l.k - 1)).tmod (l.k - 1) := Int.tmod_nonneg _ (by omega)
  have h4 := Int.tmod_lt_of_pos (a + (l.k - 1)) (show 0 < l.k - 1 by omega)
  generalize (a + (l.k - 1)).tmod (l.k - 1) = c at h3 h4
  rw [wr_small (by omega) (by omega)]
  have h5 : 0 ≤ (who + 1 + c).tmod l.k := Int.tmod_nonneg _ (by omega)
  have h6 := Int.tmod_lt_of_pos (who + 1 + c) (show 0 < l.k by omega)
  exact ⟨_, (Int.toNat_of_nonneg h5).symm, by omega⟩
theorem nowB_at {s : Sy} {l : Lay} {who : Int} {x : WS} {d : Int} (hs : LS s l) (hwho : 0 ≤ who ∧ who < l.k) (h : WV s l who x) : nowB s l who x.does x.node x.nx x.out (atW l who x d) := by
  have hd := h.does
  have hw := hs.ww
  rcases h.now with h0 | h0
  · unfold atW
    rw [h0]
    show nowB s l who x.does x.node x.nx x.out (begW l who x.does x.node x.nx x.out d)
    unfold begW
    repeat' split
    · exact ⟨by assumption, dq0_w4 _ _ _ _ (by unfold W64; omega), rfl, rfl⟩
    · rename_i h1
      obtain ⟨v, hv, hvk⟩ := victim_ok hs hwho (h.rob h1) d
      exact ⟨h1, dq0_w4 _ _ _ _ (by unfold W64; omega), ⟨v, hvk, by rw [← hv]; rfl⟩, rfl, rfl⟩
    · exact ⟨by assumption, rfl⟩
    · exact ⟨by assumption, rfl⟩
    · refine ⟨by assumption, ?_, fun i hi => absurd hi (Nat.not_lt_zero _)⟩
      rcases Nat.eq_zero_or_pos (nW l) with h | h
      · exact .inr ⟨h, rfl⟩
      · exact .inl h
    · exact ⟨by assumption, ⟨rfl, rfl, rfl, rfl⟩, rfl, Nat.zero_le _, w64_zero, fun hc => by cases hc⟩
    · exact ⟨by assumption, false, rfl⟩
    · exact ⟨by assumption, dq0_w4 _ _ _ _ (wu_64 _), rfl, rfl, rfl⟩
    · exact ⟨by omega, rfl⟩
  · unfold atW
    split
    · rename_i hn; rw [hn] at h0; exact h0.1.elim
    · exact h0.1
theorem got_in {s : Sy} {l : Lay} (hs : LS s l) {n : Int} (h : W64 n) : 0 ≤ gotNode l n ∧ gotNode l n < s.n := by
  have hn := hs.nn
  have e : wu l.n = s.n := by
    show IntKind.u64.wrap l.n = _
    rw [IntKind.wrap_u64, hs.n]; omega
  unfold gotNode
  rw [e]
  split
  · omega
  · rw [wr_small h.1 (by omega)]
    exact ⟨h.1, by omega⟩
theorem wv_mk {s : Sy} {l : Lay} {who : Int} {x : WS} (h0 : x.now = .none) (h1 : 0 ≤ x.does ∧ x.does ≤ 8) (h2 : 0 ≤ x.node ∧ x.node < s.n) (h3 : ∀ u ∈ x.nx, 0 ≤ u ∧ u < s.n) (h4 : x.does = 5 ∨ x.does = 6 ∨ x.does = 7 → 0 < x.nx.length ∧ Val s.what s.w x.out) (h5 : x.does = 1 → 2 ≤ l.k) : WV s l who x :=
  ⟨h1, h2, h3, fun h => (h4 h).1, fun h => (h4 h).2, h5, .inl h0⟩
theorem behW_V {s : Sy} {l : Lay} {who : Int} {x : WS} {n : Nw} (hs : LS s l) (h : WV s l who x) (he : endV s x.does n) : WV s l who (behW s l x n) := by
  have g := fun n => gotDoes_is l n
  have f := folDoes_is x.nx
  have r := rdDoes_is s x.node
  have no := noneDoes_is l
  have qu := quiDoes_is l
  have htl : ∀ u ∈ x.nx.tail, 0 ≤ u ∧ u < s.n := fun u hu => h.nx u (List.mem_of_mem_tail hu)
  cases n with
  | none => exact he.elim
  | pop q =>
    have g := g q.n
    by_cases hq : q.ok = true
    · rw [show behW s l x (.pop q) = ⟨x.ev, x.jo, x.en, gotDoes l q.n, .none, gotNode l q.n, true, x.nx, x.out⟩ from if_pos hq]
      exact wv_mk rfl (by dsimp only; omega) (got_in hs he) h.nx (fun h => by dsimp only at h; omega) (fun h => by dsimp only at h; omega)
    · rw [show behW s l x (.pop q) = ⟨x.ev, x.jo, x.en, noneDoes l, .none, x.node, x.has, x.nx, x.out⟩ from if_neg hq]
      exact wv_mk rfl (by dsimp only; omega) h.node h.nx (fun h => by dsimp only at h; omega) (fun h => by dsimp only at h; omega)
  | steal q =>
    have g := g q.n
    by_cases hq : q.ok = true
    · rw [show behW s l x (.steal q) = ⟨x.ev, x.jo, x.en, gotDoes l q.n, .none, gotNode l q.n, true, x.nx, x.out⟩ from if_pos hq]
      exact wv_mk rfl (by dsimp only; omega) (got_in hs he) h.nx (fun h => by dsimp only at h; omega) (fun h => by dsimp only at h; omega)
    · rw [show behW s l x (.steal q) = ⟨x.ev, x.jo, x.en, 2, .none, x.node, x.has, x.nx, x.out⟩ from if_neg hq]
      exact wv_mk rfl (by dsimp only; omega) h.node h.nx (fun h => by dsimp only at h; omega) (fun h => by dsimp only at h; omega)
  | quiet q => exact wv_mk rfl (by dsimp only [behW]; omega) h.node h.nx (fun h => by dsimp only [behW] at h; omega) (fun h => by dsimp only [behW] at h; omega)
  | clear q => exact wv_mk rfl (by dsimp only [behW]; omega) h.node h.nx (fun h => by dsimp only [behW] at h; omega) (fun h => by dsimp only [behW] at h; omega)
  | read y =>
    obtain ⟨v, hv⟩ := Int.eq_ofNat_of_zero_le h.node.1
    have hvn := h.node.2
    have hE : outE s x.node y = 0 := outE_val ((nodeE_yes (good_zero hs.good) h.node).symm) he.v
    have hV : Val s.what s.w (okL (outE s x.node y) (outS s y x.node.toNat)) := by
      rw [hE, show okL 0 (outS s y x.node.toNat) = outS s y x.node.toNat from rfl]
      have := out_val hs.fit hs.good he.w64 he.v (v := x.node.toNat) (by omega)
      exact ⟨this.1, this.2⟩
    exact wv_mk rfl (by dsimp only [behW]; omega) h.node (fun u hu => (mem_toS.1 hu).1) (fun h => ⟨by dsimp only [behW] at h ⊢; omega, hV⟩) (fun h => by dsimp only [behW] at h; omega)
  | join q =>
    have hh := h.head (.inl he)
    have ho := h.out (.inl he)
    by_cases hq : q.changed = true
    · rw [show behW s l x (.join q) = ⟨x.ev, wr (x.jo + 1), x.en, 6, .none, x.node, x.has, x.nx, x.out⟩ from if_pos hq]
      exact wv_mk rfl (by dsimp only; omega) h.node h.nx (fun _ => ⟨hh, ho⟩) (fun h => by dsimp only at h; omega)
    · rw [show behW s l x (.join q) = ⟨x.ev, x.jo, x.en, folDoes x.nx, .none, x.node, x.has, x.nx.tail, x.out⟩ from if_neg hq]
      exact wv_mk rfl (by dsimp only; omega) h.node htl (fun h => ⟨by dsimp only at h ⊢; omega, ho⟩) (fun h => by dsimp only at h; omega)
  | take q =>
    have hh := h.head (.inr (.inl he))
    have ho := h.out (.inr (.inl he))
    by_cases hq : q.new = true
    · rw [show behW s l x (.take q) = ⟨x.ev, x.jo, x.en, 7, .none, x.node, x.has, x.nx, x.out⟩ from if_pos hq]
      exact wv_mk rfl (by dsimp only; omega) h.node h.nx (fun _ => ⟨hh, ho⟩) (fun h => by dsimp only at h; omega)
    · rw [show behW s l x (.take q) = ⟨x.ev, x.jo, x.en, folDoes x.nx, .none, x.node, x.has, x.nx.tail, x.out⟩ from if_neg hq]
      exact wv_mk rfl (by dsimp only; omega) h.node htl (fun h => ⟨by dsimp only at h ⊢; omega, ho⟩) (fun h => by dsimp only at h; omega)
  | push q =>
    have ho := h.out (.inr (.inr he))
    exact wv_mk rfl (by dsimp only [behW]; omega) h.node htl (fun h => ⟨by dsimp only [behW] at h ⊢; omega, ho⟩) (fun h => by dsimp only [behW] at h; omega)
  | retire q => exact wv_mk rfl (by dsimp only [behW]; omega) h.node h.nx (fun h => by dsimp only [behW] at h; omega) (fun h => by dsimp only [behW] at h; omega)
/-- A Step keeps what is asked of a worker and of the memory. -/
theorem wStep_V {s : Sy} {l : Lay} {who : Int} {x : WS} {d : Int} {ws : List Int} (hs : LS s l) (hwho : 0 ≤ who ∧ who < l.k) (hw : MV s l ws) (h : WV s l who x) : MV s l (wStep listOps s l who x d ws).2.1 ∧ (wStep listOps s l who x d ws).2.1.length = ws.length ∧ WV s l who (wStep listOps s l who x d ws).1 := by
  obtain ⟨n', ws', b, hst⟩ : ∃ n' ws' b, nwStep listOps l x.node (atW l who x d) ws = (n', ws', b) := ⟨_, _, _, rfl⟩
  obtain ⟨k1, k2, k3, k4⟩ := nowB_step hs hw hwho h.node h.nx h.head h.out (nowB_at hs hwho h (d := d)) hst
  unfold wStep
  rw [hst]
  dsimp only
  split
  · exact ⟨hw, rfl, h⟩
  · split
    · rename_i hb
      exact ⟨k1, k2, behW_V hs h (k4 hb)⟩
    · rename_i hb
      exact ⟨k1, k2, h.does, h.node, h.nx, h.head, h.out, h.rob, .inr (k3 (by simpa using hb))⟩
end Go.Proofs.YtegpahamenjiaaaGreat
