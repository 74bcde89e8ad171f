/-
  (*deque.Push).Step over a Plain: what it does to the op's own state and to the words.
-/
import Derived.Test.YtldiocdjgbehcaaDeque
import Derived.Test.YtldiocdjgbehcaaGoto
namespace Go.Proofs.Ytldiocdjgbehcaa
open Go.RowKit
/-- An op's state (Push, Pop, Steal): where the deque stands, the number, what is told; how far it is, what it loaded. -/
structure DQ where
  base : Int
  cap : Int
  n : Int
  ok : Bool
  ended : Bool
  at_ : Int
  b : Int
  t : Int
  x : Int
def U64 (x : Int) : Prop := 0 ≤ x ∧ x < 18446744073709551616
def DQ.Fine (s : DQ) : Prop := (0 ≤ s.base ∧ s.base ≤ 1099511627776) ∧ U64 s.n ∧ (0 ≤ s.at_ ∧ s.at_ ≤ 100) ∧ U64 s.b ∧ U64 s.t ∧ U64 s.x
def DQ.cells (s : DQ) : Array Value := #[.int .i64 s.base, .int .i64 s.cap, .int .u64 s.n, .bool s.ok, .bool s.ended, .int .i64 s.at_, .int .u64 s.b, .int .u64 s.t, .int .u64 s.x]
/-- Block r holds the op. -/
def OpAt (w : World) (T r : Nat) (s : DQ) : Prop := w.heap[r]? = some (.cells s.cells T (0, 0)) ∧ s.Fine
theorem OpAt.turn {w w' : World} {T r : Nat} {s : DQ} {S : List Nat} (h : OpAt w T r s) (t : Turn w w' S) (hr : r ∉ S) : OpAt w' T r s := ⟨t.at h.1 hr, h.2⟩
theorem OpAt.c {w : World} {T r : Nat} {s : DQ} (h : OpAt w T r s) : w.cell? ⟨r, 0, none⟩ = some (.int .i64 s.base) ∧ w.cell? ⟨r, 1, none⟩ = some (.int .i64 s.cap) ∧ w.cell? ⟨r, 2, none⟩ = some (.int .u64 s.n) ∧
    w.cell? ⟨r, 3, none⟩ = some (.bool s.ok) ∧ w.cell? ⟨r, 4, none⟩ = some (.bool s.ended) ∧ w.cell? ⟨r, 5, none⟩ = some (.int .i64 s.at_) ∧ w.cell? ⟨r, 6, none⟩ = some (.int .u64 s.b) ∧ w.cell? ⟨r, 7, none⟩ = some (.int .u64 s.t) ∧ w.cell? ⟨r, 8, none⟩ = some (.int .u64 s.x) := by
  refine ⟨?_, ?_, ?_, ?_, ?_, ?_, ?_, ?_, ?_⟩ <;> (rw [cell_at h.1]; rfl)
theorem OpAt.f {w : World} {T r : Nat} {s : DQ} (h : OpAt w T r s) (i : Nat) : w.frozen? ⟨r, i, none⟩ = false := frozen_at h.1
/-- int64 of a word. -/
def s64 (x : Int) : Int := IntKind.i64.wrap (IntKind.u64.wrap x)
def u64w (x : Int) : Int := x % 18446744073709551616
theorem u64w_bd (x : Int) : U64 (u64w x) := by unfold U64 u64w; omega

/-- Push's next Step: the op then, the words then, what is told. -/
def pushStep (s : DQ) (ws : List Int) : DQ × List Int × Bool :=
  if s.ended then (s, ws, true)
  else if s.at_ = 0 then ({ s with at_ := 1, b := mLoad ws (s.base + 1) }, ws, false)
  else if s.at_ = 1 then
    (if roomN s.cap ≤ s64 (s.b - mLoad ws s.base) then ({ s with at_ := 2, t := mLoad ws s.base, ended := true }, ws, true)
     else ({ s with at_ := 2, t := mLoad ws s.base }, ws, false))
  else if s.at_ = 2 then ({ s with at_ := 3 }, mStore ws (placeN s.base s.cap s.b) s.n, false)
  else ({ s with at_ := s.at_ + 1, ok := true, ended := true }, mStore ws (s.base + 1) (u64w (s.b + 1)), true)

theorem PlainAt.lbd {w : World} {p q : Nat} {ws : List Int} (h : PlainAt w p q ws) (a : Int) : U64 (mLoad ws a) := by
  unfold mLoad U64
  split
  · omega
  · exact h.2.1.bd _

/-- The op's block behind a store into its i-th cell. -/
theorem op_set {w : World} {T r i : Nat} {c : Array Value} (v : Value) (h : w.heap[r]? = some (.cells c T (0, 0))) : (w.setCell ⟨r, i, none⟩ v).heap[r]? = some (.cells (c.setIfInBounds i v) T (0, 0)) := set_at v h

def PushPost (p q r : Nat) (s : DQ) (ws : List Int) (w : World) (e : Ending) (w' : World) : Prop :=
  e = .returned (.bool (pushStep s ws).2.2) ∧ Turn w w' [q, r] ∧ PlainAt w' p q (pushStep s ws).2.1 ∧ OpAt w' 171 r (pushStep s ws).1

theorem post_of {p q r : Nat} {s : DQ} {ws : List Int} {w w' : World} {e : Ending} {s' : DQ} {ws' : List Int} {o : Bool} (h : pushStep s ws = (s', ws', o)) (h1 : e = .returned (.bool o)) (h2 : Turn w w' [q, r]) (h3 : PlainAt w' p q ws') (h4 : w'.heap[r]? = some (.cells s'.cells 171 (0, 0))) (h5 : s'.Fine) : PushPost p q r s ws w e w' := by
  unfold PushPost
  rw [h]
  exact ⟨h1, h2, h3, h4, h5⟩

set_option maxHeartbeats 1000000 in
set_option maxRecDepth 100000 in
theorem push_ended (p q r : Nat) (s : DQ) (ws : List Int) (w : World) (h : PlainAt w p q ws) (hs : OpAt w 171 r s) (he : s.ended = true) (d : Int) :
    Calls Try.prog 69 #[.pointer (some ⟨r, 0, none⟩), .iface 28 (.pointer (some ⟨p, 0, none⟩)), .int .i64 d] w (PushPost p q r s ws w) := by
  obtain ⟨c0, c1, c2, c3, c4, c5, c6, c7, c8⟩ := hs.c
  rw [he] at c4
  go_enter Try.func69, Try.ntmps69
  go_wp2_with fail
  refine wp_scope_fwd 1 ?_
  go_wp2_with fail
  try rw [fwd_ret]
  go_ret
  exact post_of (show pushStep s ws = (s, ws, true) by simp [pushStep, he]) rfl (Turn.refl _ _) h hs.1 hs.2

set_option maxHeartbeats 1000000 in
set_option maxRecDepth 100000 in
theorem push_0 (p q r : Nat) (s : DQ) (ws : List Int) (w : World) (h : PlainAt w p q ws) (hs : OpAt w 171 r s) (hpr : r ≠ p ∧ r ≠ q) (he : s.ended = false) (ha : s.at_ = 0) (d : Int) :
    Calls Try.prog 69 #[.pointer (some ⟨r, 0, none⟩), .iface 28 (.pointer (some ⟨p, 0, none⟩)), .int .i64 d] w (PushPost p q r s ws w) := by
  have hfin := hs.2
  obtain ⟨⟨fb1, fb2⟩, fn, fat, fb, ft, fx⟩ := hs.2
  have hstep : pushStep s ws = ({ s with at_ := 1, b := mLoad ws (s.base + 1) }, ws, false) := by simp [pushStep, he, ha]
  have HS := hid hstep
  have hL := h.lbd (s.base + 1)
  have h1 := hs.1
  have hr := at_lt h1
  have HP := hid h
  have HH := hid h1
  have lp := at_lt h.1
  have lq := at_lt h.2.1.1
  obtain ⟨c0, c1, c2, c3, c4, c5, c6, c7, c8⟩ := hs.c
  have f5 := hs.f 5
  have f6 := hs.f 6
  rw [he] at c4
  rw [ha] at c5
  -- the world behind at++
  have x1 := op_set (i := 5) (.int .i64 1) h1
  have g5 : (w.setCell ⟨r, 5, none⟩ (.int .i64 1)).cell? ⟨r, 5, none⟩ = some (.int .i64 1) := World.cell?_setCell_same _ _ _ c5
  clear hstep h hs h1 he
  go_enter Try.func69, Try.ntmps69
  go_wp2_with fail
  refine wp_scope_fwd 1 ?_
  go_wp2_with fail
  refine (or_any _ _ _).mono ?_
  rintro e w1 ⟨rfl, rfl⟩
  go_wp2_with fail
  have P1 : PlainAt (w.setCell ⟨r, 5, none⟩ (.int .i64 1)) p q ws := HP.out.turn ((Turn.refl w [r]).setCell (.inl (by simp)) _) (by simp; omega) (by simp; omega)
  have T1 := (Turn.refl w [q, r]).setCell (p := ⟨r, 5, none⟩) (.inl (by simp)) (.int .i64 1)
  obtain ⟨k0, k1⟩ : (w.setCell ⟨r, 5, none⟩ (.int .i64 1)).cell? ⟨r, 0, none⟩ = some (.int .i64 s.base) ∧ (w.setCell ⟨r, 5, none⟩ (.int .i64 1)).cell? ⟨r, 1, none⟩ = some (.int .i64 s.cap) := ⟨by rw [cell_at x1]; rfl, by rw [cell_at x1]; rfl⟩
  go_region_held3 (fun w' => w'.cell? ⟨r, 0, none⟩ = some (.int .i64 s.base) ∧ w'.cell? ⟨r, 1, none⟩ = some (.int .i64 s.cap)) (refine ⟨?_, ?_⟩ <;> (first | assumption | (rw [World.cell?_setCell_other _ _ _ _ (by simp)]; assumption)))
    (first
      | (go_at_call 150; refine (bottom_any s.base s.cap _ fb1 fb2).mono ?_; rintro e w2 ⟨rfl, t2⟩; have x2 := t2.at x1 (by simp); have d0 : w2.cell? ⟨r, 0, none⟩ = some (.int .i64 s.base) := (by rw [cell_at x2]; rfl); have d1 : w2.cell? ⟨r, 1, none⟩ = some (.int .i64 s.cap) := (by rw [cell_at x2]; rfl))
      | (go_at_call 82; refine (plainLoad_any p q ws (s.base + 1) _ (P1.turn ((Turn.refl _ []).drew.then_ t2) (by simp) (by simp))).mono ?_; rintro e w3 ⟨rfl, t3⟩; have x3 := t3.at x2 (by simp); have d2 : w3.cell? ⟨r, 0, none⟩ = some (.int .i64 s.base) := (by rw [cell_at x3]; rfl); have d3 : w3.cell? ⟨r, 1, none⟩ = some (.int .i64 s.cap) := (by rw [cell_at x3]; rfl); have d4 : w3.cell? ⟨r, 6, none⟩ = some (.int .u64 s.b) := (by rw [cell_at x3]; rfl); have d5 : w3.frozen? ⟨r, 6, none⟩ = false := frozen_at x3))
  all_goals (try go_wp2_with fail)
  all_goals (try rw [fwd_ret])
  all_goals go_ret
  all_goals refine post_of HS.out rfl (((T1.drew.then_ (t2.mono (by simp))).then_ (t3.mono (by simp))).setCell (.inl (by simp)) _) ((((P1.turn ((Turn.refl _ []).drew.then_ t2) (by simp) (by simp)).turn t3 (by simp) (by simp)).turn ((Turn.refl w3 [r]).setCell (.inl (by simp)) _) (by simp; omega) (by simp; omega))) (op_set (.int .u64 (mLoad ws (s.base + 1))) x3) ⟨⟨fb1, fb2⟩, fn, by simp, hL, ft, fx⟩

set_option maxHeartbeats 1000000 in
set_option maxRecDepth 100000 in
theorem push_1 (p q r : Nat) (s : DQ) (ws : List Int) (w : World) (h : PlainAt w p q ws) (hs : OpAt w 171 r s) (hpr : r ≠ p ∧ r ≠ q) (he : s.ended = false) (ha : s.at_ = 1) (d : Int) (full : Bool) (hfull : decide (roomN s.cap ≤ s64 (s.b - mLoad ws s.base)) = full) :
    Calls Try.prog 69 #[.pointer (some ⟨r, 0, none⟩), .iface 28 (.pointer (some ⟨p, 0, none⟩)), .int .i64 d] w (PushPost p q r s ws w) := by
  have hstep : pushStep s ws = (if full then ({ s with at_ := 2, t := mLoad ws s.base, ended := true }, ws, true) else ({ s with at_ := 2, t := mLoad ws s.base }, ws, false)) := by
    have : (roomN s.cap ≤ s64 (s.b - mLoad ws s.base)) ↔ full = true := by rw [← hfull]; simp
    simp [pushStep, he, ha, this]
  have HS := hid hstep
  have HF := hid hfull
  have hL := h.lbd s.base
  have HE := hid he
  clear hstep hfull
  have hfin := hs.2
  obtain ⟨⟨fb1, fb2⟩, fn, fat, fb, ft, fx⟩ := hs.2
  have h1 := hs.1
  have hr := at_lt h1
  have HP := hid h
  have lp := at_lt h.1
  have lq := at_lt h.2.1.1
  obtain ⟨c0, c1, c2, c3, c4, c5, c6, c7, c8⟩ := hs.c
  have f5 := hs.f 5
  rw [he] at c4
  rw [ha] at c5
  have x1 := op_set (i := 5) (.int .i64 2) h1
  have g5 : (w.setCell ⟨r, 5, none⟩ (.int .i64 2)).cell? ⟨r, 5, none⟩ = some (.int .i64 2) := World.cell?_setCell_same _ _ _ c5
  have P1 : PlainAt (w.setCell ⟨r, 5, none⟩ (.int .i64 2)) p q ws := HP.out.turn ((Turn.refl w [r]).setCell (.inl (by simp)) _) (by simp; omega) (by simp; omega)
  have T1 := (Turn.refl w [q, r]).setCell (p := ⟨r, 5, none⟩) (.inl (by simp)) (.int .i64 2)
  have k0 : (w.setCell ⟨r, 5, none⟩ (.int .i64 2)).cell? ⟨r, 0, none⟩ = some (.int .i64 s.base) := by rw [cell_at x1]; rfl
  clear h hs h1 he
  go_enter Try.func69, Try.ntmps69
  go_wp2_with fail
  refine wp_scope_fwd 1 ?_
  go_wp2_with fail
  refine (or_any _ _ _).mono ?_
  rintro e w1 ⟨rfl, rfl⟩
  go_wp2_with fail
  go_region_held3 (fun w' => w'.cell? ⟨r, 0, none⟩ = some (.int .i64 s.base)) (first | assumption | (rw [World.cell?_setCell_other _ _ _ _ (by simp)]; assumption))
    (first
      | (go_at_call 82; refine (plainLoad_any p q ws s.base _ (P1.turn ((Turn.refl _ []).drew) (by simp) (by simp))).mono ?_; rintro e w3 ⟨rfl, t3⟩; have x3 := t3.at x1 (by simp); have d2 : w3.cell? ⟨r, 0, none⟩ = some (.int .i64 s.base) := (by rw [cell_at x3]; rfl); have d4 : w3.cell? ⟨r, 7, none⟩ = some (.int .u64 s.t) := (by rw [cell_at x3]; rfl); have d5 : w3.frozen? ⟨r, 7, none⟩ = false := frozen_at x3))
  go_wp2_with fail
  have x4 := op_set (.int .u64 (mLoad ws s.base)) x3 (i := 7)
  have P4 := ((P1.turn ((Turn.refl _ []).drew.then_ t3) (by simp) (by simp)).turn ((Turn.refl w3 [r]).setCell (p := ⟨r, 7, none⟩) (.inl (by simp)) (.int .u64 (mLoad ws s.base))) (by simp; omega) (by simp; omega))
  have T4 := ((T1.drew.then_ (t3.mono (by simp))).setCell (p := ⟨r, 7, none⟩) (.inl (by simp)) (.int .u64 (mLoad ws s.base)))
  have hrm := roomN_bd s.cap
  obtain ⟨hr1, hr2⟩ := hrm
  generalize mLoad ws s.base = L at *
  have y1 : (w3.setCell ⟨r, 7, none⟩ (.int .u64 L)).cell? ⟨r, 1, none⟩ = some (.int .i64 s.cap) := by rw [cell_at x4]; rfl
  have y4 : (w3.setCell ⟨r, 7, none⟩ (.int .u64 L)).cell? ⟨r, 4, none⟩ = some (.bool false) := by rw [cell_at x4]; simp [DQ.cells, HE.out]
  have y6 : (w3.setCell ⟨r, 7, none⟩ (.int .u64 L)).cell? ⟨r, 6, none⟩ = some (.int .u64 s.b) := by rw [cell_at x4]; rfl
  have y7 : (w3.setCell ⟨r, 7, none⟩ (.int .u64 L)).cell? ⟨r, 7, none⟩ = some (.int .u64 L) := by rw [cell_at x4]; rfl
  have yf : (w3.setCell ⟨r, 7, none⟩ (.int .u64 L)).frozen? ⟨r, 4, none⟩ = false := frozen_at x4
  have hcmp := HF.out
  unfold s64 at hcmp
  clear HF P1 T1 x1 x3 k0 d2 d4 d5 g5 f5
  go_region_held3 (fun w' => w'.cell? ⟨r, 1, none⟩ = some (.int .i64 s.cap) ∧ w'.cell? ⟨r, 6, none⟩ = some (.int .u64 s.b) ∧ w'.cell? ⟨r, 7, none⟩ = some (.int .u64 L)) (refine ⟨?_, ?_, ?_⟩ <;> (first | assumption))
    (first | (go_at_call 151; refine (room_any s.cap _).mono ?_; rintro e w5 ⟨rfl, rfl⟩))
  cases full with
  | false =>
    go_wp2_with fail
    try rw [fwd_ret]
    go_ret
    exact post_of HS.out rfl T4.drew (P4.turn ((Turn.refl _ []).drew) (by simp) (by simp)) x4 ⟨⟨fb1, fb2⟩, fn, by simp, fb, hL, fx⟩
  | true =>
    go_wp2_with fail
    go_step3
    refine fwd_goto rfl ?_
    go_wp2_with fail
    try rw [fwd_ret]
    go_ret
    exact post_of HS.out rfl ((T4.drew).setCell (.inl (by simp)) _) ((P4.turn ((Turn.refl _ []).drew) (by simp) (by simp)).turn ((Turn.refl _ [r]).setCell (.inl (by simp)) _) (by simp; omega) (by simp; omega)) (op_set (.bool true) x4 (i := 4)) ⟨⟨fb1, fb2⟩, fn, by simp, fb, hL, fx⟩

set_option maxHeartbeats 1000000 in
set_option maxRecDepth 100000 in
theorem push_2 (p q r : Nat) (s : DQ) (ws : List Int) (w : World) (h : PlainAt w p q ws) (hs : OpAt w 171 r s) (hpr : r ≠ p ∧ r ≠ q) (he : s.ended = false) (ha : s.at_ = 2) (d : Int) :
    Calls Try.prog 69 #[.pointer (some ⟨r, 0, none⟩), .iface 28 (.pointer (some ⟨p, 0, none⟩)), .int .i64 d] w (PushPost p q r s ws w) := by
  have hstep : pushStep s ws = ({ s with at_ := 3 }, mStore ws (placeN s.base s.cap s.b) s.n, false) := by simp [pushStep, he, ha]
  have HS := hid hstep
  clear hstep
  have hfin := hs.2
  obtain ⟨⟨fb1, fb2⟩, fn, fat, fb, ft, fx⟩ := hs.2
  have h1 := hs.1
  have hr := at_lt h1
  have HP := hid h
  have HE := hid he
  have lp := at_lt h.1
  have lq := at_lt h.2.1.1
  obtain ⟨c0, c1, c2, c3, c4, c5, c6, c7, c8⟩ := hs.c
  have f5 := hs.f 5
  rw [he] at c4
  rw [ha] at c5
  have x1 := op_set (i := 5) (.int .i64 (3)) h1
  have g5 : (w.setCell ⟨r, 5, none⟩ (.int .i64 (3))).cell? ⟨r, 5, none⟩ = some (.int .i64 (3)) := World.cell?_setCell_same _ _ _ c5
  have P1 : PlainAt (w.setCell ⟨r, 5, none⟩ (.int .i64 (3))) p q ws := HP.out.turn ((Turn.refl w [r]).setCell (.inl (by simp)) _) (by simp; omega) (by simp; omega)
  have T1 := (Turn.refl w [q, r]).setCell (p := ⟨r, 5, none⟩) (.inl (by simp)) (.int .i64 (3))
  have k0 : (w.setCell ⟨r, 5, none⟩ (.int .i64 (3))).cell? ⟨r, 0, none⟩ = some (.int .i64 s.base) := by rw [cell_at x1]; rfl
  have k1 : (w.setCell ⟨r, 5, none⟩ (.int .i64 (3))).cell? ⟨r, 1, none⟩ = some (.int .i64 s.cap) := by rw [cell_at x1]; rfl
  have k2 : (w.setCell ⟨r, 5, none⟩ (.int .i64 (3))).cell? ⟨r, 2, none⟩ = some (.int .u64 s.n) := by rw [cell_at x1]; rfl
  have k6 : (w.setCell ⟨r, 5, none⟩ (.int .i64 (3))).cell? ⟨r, 6, none⟩ = some (.int .u64 s.b) := by rw [cell_at x1]; rfl
  clear h hs h1 he
  go_enter Try.func69, Try.ntmps69
  go_wp2_with fail
  refine wp_scope_fwd 1 ?_
  go_wp2_with fail
  refine (or_any _ _ _).mono ?_
  rintro e w1 ⟨rfl, rfl⟩
  go_wp2_with fail
  go_region_held3 (fun w' => w'.cell? ⟨r, 0, none⟩ = some (.int .i64 s.base) ∧ w'.cell? ⟨r, 1, none⟩ = some (.int .i64 s.cap) ∧ w'.cell? ⟨r, 2, none⟩ = some (.int .u64 s.n) ∧ w'.cell? ⟨r, 6, none⟩ = some (.int .u64 s.b)) (refine ⟨?_, ?_, ?_, ?_⟩ <;> (first | assumption))
    (first
      | (go_at_call 152; refine (place_any s.base s.cap s.b _ fb1 fb2 fb).mono ?_; rintro e w2 ⟨rfl, t2⟩; have x2 := t2.at x1 (by simp); have e0w2 : w2.cell? ⟨r, 0, none⟩ = some (.int .i64 s.base) := (by rw [cell_at x2]; rfl); have e1w2 : w2.cell? ⟨r, 1, none⟩ = some (.int .i64 s.cap) := (by rw [cell_at x2]; rfl); have e2w2 : w2.cell? ⟨r, 2, none⟩ = some (.int .u64 s.n) := (by rw [cell_at x2]; rfl); have e6w2 : w2.cell? ⟨r, 6, none⟩ = some (.int .u64 s.b) := (by rw [cell_at x2]; rfl))
      | (go_at_call 43; refine (plainStore_any p q ws (placeN s.base s.cap s.b) s.n _ (P1.turn ((Turn.refl _ []).drew.then_ t2) (by simp) (by simp)) fn).mono ?_; rintro e w3 ⟨rfl, t3, p3⟩; have x3 := t3.at x2 (by simp; omega); have e0w3 : w3.cell? ⟨r, 0, none⟩ = some (.int .i64 s.base) := (by rw [cell_at x3]; rfl); have e1w3 : w3.cell? ⟨r, 1, none⟩ = some (.int .i64 s.cap) := (by rw [cell_at x3]; rfl); have e2w3 : w3.cell? ⟨r, 2, none⟩ = some (.int .u64 s.n) := (by rw [cell_at x3]; rfl); have e6w3 : w3.cell? ⟨r, 6, none⟩ = some (.int .u64 s.b) := (by rw [cell_at x3]; rfl)))
  all_goals (try go_wp2_with fail)
  all_goals (try rw [fwd_ret])
  all_goals go_ret
  all_goals exact post_of HS.out rfl ((T1.drew.then_ (t2.mono (by simp))).then_ (t3.mono (by simp))) p3 x3 ⟨⟨fb1, fb2⟩, fn, by simp, fb, ft, fx⟩

set_option maxHeartbeats 1000000 in
set_option maxRecDepth 100000 in
theorem push_3 (p q r : Nat) (s : DQ) (ws : List Int) (w : World) (h : PlainAt w p q ws) (hs : OpAt w 171 r s) (hpr : r ≠ p ∧ r ≠ q) (he : s.ended = false) (ha : 3 ≤ s.at_ ∧ s.at_ < 100) (d : Int) :
    Calls Try.prog 69 #[.pointer (some ⟨r, 0, none⟩), .iface 28 (.pointer (some ⟨p, 0, none⟩)), .int .i64 d] w (PushPost p q r s ws w) := by
  have hstep : pushStep s ws = ({ s with at_ := s.at_ + 1, ok := true, ended := true }, mStore ws (s.base + 1) (u64w (s.b + 1)), true) := by
    unfold pushStep; rw [he, if_neg (by simp), if_neg (by omega), if_neg (by omega), if_neg (by omega)]
  have HS := hid hstep
  have n1 : (s.at_ + 1 == 1) = false := by simp; omega
  have n2 : (s.at_ + 1 == 2) = false := by simp; omega
  have n3 : (s.at_ + 1 == 3) = false := by simp; omega
  have hu : IntKind.u64.wrap (s.b + 1) = u64w (s.b + 1) := by rw [IntKind.wrap_u64]; rfl
  have hub := u64w_bd (s.b + 1)
  clear hstep
  have hfin := hs.2
  obtain ⟨⟨fb1, fb2⟩, fn, fat, fb, ft, fx⟩ := hs.2
  have h1 := hs.1
  have hr := at_lt h1
  have HP := hid h
  have HE := hid he
  have lp := at_lt h.1
  have lq := at_lt h.2.1.1
  obtain ⟨c0, c1, c2, c3, c4, c5, c6, c7, c8⟩ := hs.c
  have f5 := hs.f 5
  rw [he] at c4
  have x1 := op_set (i := 5) (.int .i64 (s.at_ + 1)) h1
  have g5 : (w.setCell ⟨r, 5, none⟩ (.int .i64 (s.at_ + 1))).cell? ⟨r, 5, none⟩ = some (.int .i64 (s.at_ + 1)) := World.cell?_setCell_same _ _ _ c5
  have P1 : PlainAt (w.setCell ⟨r, 5, none⟩ (.int .i64 (s.at_ + 1))) p q ws := HP.out.turn ((Turn.refl w [r]).setCell (.inl (by simp)) _) (by simp; omega) (by simp; omega)
  have T1 := (Turn.refl w [q, r]).setCell (p := ⟨r, 5, none⟩) (.inl (by simp)) (.int .i64 (s.at_ + 1))
  have k0 : (w.setCell ⟨r, 5, none⟩ (.int .i64 (s.at_ + 1))).cell? ⟨r, 0, none⟩ = some (.int .i64 s.base) := by rw [cell_at x1]; rfl
  have k1 : (w.setCell ⟨r, 5, none⟩ (.int .i64 (s.at_ + 1))).cell? ⟨r, 1, none⟩ = some (.int .i64 s.cap) := by rw [cell_at x1]; rfl
  have k2 : (w.setCell ⟨r, 5, none⟩ (.int .i64 (s.at_ + 1))).cell? ⟨r, 2, none⟩ = some (.int .u64 s.n) := by rw [cell_at x1]; rfl
  have k6 : (w.setCell ⟨r, 5, none⟩ (.int .i64 (s.at_ + 1))).cell? ⟨r, 6, none⟩ = some (.int .u64 s.b) := by rw [cell_at x1]; rfl
  clear h hs h1 he
  go_enter Try.func69, Try.ntmps69
  go_wp2_with fail
  refine wp_scope_fwd 1 ?_
  go_wp2_with fail
  refine (or_any _ _ _).mono ?_
  rintro e w1 ⟨rfl, rfl⟩
  go_wp2_with fail
  generalize u64w (s.b + 1) = b1 at *
  go_region_held3 (fun w' => w'.cell? ⟨r, 0, none⟩ = some (.int .i64 s.base) ∧ w'.cell? ⟨r, 1, none⟩ = some (.int .i64 s.cap) ∧ w'.cell? ⟨r, 2, none⟩ = some (.int .u64 s.n) ∧ w'.cell? ⟨r, 6, none⟩ = some (.int .u64 s.b)) (refine ⟨?_, ?_, ?_, ?_⟩ <;> (first | assumption))
    (first
      | (go_at_call 150; refine (bottom_any s.base s.cap _ fb1 fb2).mono ?_; rintro e w2 ⟨rfl, t2⟩; have x2 := t2.at x1 (by simp); have e0w2 : w2.cell? ⟨r, 0, none⟩ = some (.int .i64 s.base) := (by rw [cell_at x2]; rfl); have e1w2 : w2.cell? ⟨r, 1, none⟩ = some (.int .i64 s.cap) := (by rw [cell_at x2]; rfl); have e2w2 : w2.cell? ⟨r, 2, none⟩ = some (.int .u64 s.n) := (by rw [cell_at x2]; rfl); have e6w2 : w2.cell? ⟨r, 6, none⟩ = some (.int .u64 s.b) := (by rw [cell_at x2]; rfl))
      | (go_at_call 43; refine (plainStore_any p q ws (s.base + 1) b1 _ (P1.turn ((Turn.refl _ []).drew.then_ t2) (by simp) (by simp)) hub).mono ?_; rintro e w3 ⟨rfl, t3, p3⟩; have x3 := t3.at x2 (by simp; omega); have e0w3 : w3.cell? ⟨r, 0, none⟩ = some (.int .i64 s.base) := (by rw [cell_at x3]; rfl); have e1w3 : w3.cell? ⟨r, 1, none⟩ = some (.int .i64 s.cap) := (by rw [cell_at x3]; rfl); have e2w3 : w3.cell? ⟨r, 2, none⟩ = some (.int .u64 s.n) := (by rw [cell_at x3]; rfl); have e6w3 : w3.cell? ⟨r, 6, none⟩ = some (.int .u64 s.b) := (by rw [cell_at x3]; rfl)))
  all_goals
    have o3 : w3.cell? ⟨r, 3, none⟩ = some (.bool s.ok) := by rw [cell_at x3]; rfl
    have o4 : w3.cell? ⟨r, 4, none⟩ = some (.bool false) := by rw [cell_at x3]; simp [DQ.cells, HE.out]
    have p3' : w3.frozen? ⟨r, 3, none⟩ = false := frozen_at x3
    have p4' : w3.frozen? ⟨r, 4, none⟩ = false := frozen_at x3
    go_wp2_with fail
    go_step3
    refine fwd_goto rfl ?_
    go_wp2_with fail
    try rw [fwd_ret]
    go_ret
    exact post_of HS.out rfl ((((T1.drew.then_ (t2.mono (by simp))).then_ (t3.mono (by simp))).setCell (.inl (by simp)) _).setCell (.inl (by simp)) _) ((p3.turn ((Turn.refl _ [r]).setCell (.inl (by simp)) _) (by simp; omega) (by simp; omega)).turn ((Turn.refl _ [r]).setCell (.inl (by simp)) _) (by simp; omega) (by simp; omega)) (op_set (.bool true) (op_set (.bool true) x3 (i := 3)) (i := 4)) ⟨⟨fb1, fb2⟩, fn, ⟨by show (0 : Int) ≤ s.at_ + 1; omega, by show s.at_ + 1 ≤ 100; omega⟩, fb, ft, fx⟩

/-- Push's Step, whatever its state. -/
theorem push_any (p q r : Nat) (s : DQ) (ws : List Int) (w : World) (h : PlainAt w p q ws) (hs : OpAt w 171 r s) (hpr : r ≠ p ∧ r ≠ q) (ha : s.at_ < 100) (d : Int) :
    Calls Try.prog 69 #[.pointer (some ⟨r, 0, none⟩), .iface 28 (.pointer (some ⟨p, 0, none⟩)), .int .i64 d] w (PushPost p q r s ws w) := by
  cases he : s.ended with
  | true => exact push_ended p q r s ws w h hs he d
  | false =>
    rcases (by have := hs.2.2.2.1.1; omega : s.at_ = 0 ∨ s.at_ = 1 ∨ s.at_ = 2 ∨ 3 ≤ s.at_) with k | k | k | k
    · exact push_0 p q r s ws w h hs hpr he k d
    · exact push_1 p q r s ws w h hs hpr he k d _ rfl
    · exact push_2 p q r s ws w h hs hpr he k d
    · exact push_3 p q r s ws w h hs hpr he ⟨k, ha⟩ d
end Go.Proofs.Ytldiocdjgbehcaa
