/-
  Rj: what the claim uses of them.
-/
import Derived.Test.YtegpahamenjiaaaGreatBn51
namespace Go.Proofs.YtegpahamenjiaaaGreat
open Go.RowKit
set_option maxRecDepth 100000
set_option maxHeartbeats 4000000
/-- Whose pick it is. -/
def whoW (p : Int) (n : Nat) : Nat := if n < 1 then 0 else (p % (n : Int)).toNat
theorem whoW_lt {p : Int} {n : Nat} (h : 0 < n) : whoW p n < n := by
  unfold whoW
  rw [if_neg (by omega)]
  have h1 := Int.emod_nonneg p (show (n : Int) ≠ 0 by omega)
  have h2 := Int.emod_lt_of_pos p (show (0 : Int) < n by omega)
  omega
theorem whoW_neg {p : Int} {n : Nat} (h0 : 0 < n) (hn : n ≤ 1000000) (h : p.tmod n < 0) : IntKind.i64.wrap (p.tmod n + n) = ((whoW p n : Nat) : Int) := by
  have h1 := Int.emod_nonneg p (show (n : Int) ≠ 0 by omega)
  have h2 := Int.emod_lt_of_pos p (show (0 : Int) < n by omega)
  have e := @Int.tmod_eq_emod p n
  unfold whoW
  rw [if_neg (by omega), IntKind.wrap_i64]
  split at e <;> omega
theorem whoW_pos {p : Int} {n : Nat} (h0 : 0 < n) (h : ¬ p.tmod n < 0) : p.tmod n = ((whoW p n : Nat) : Int) := by
  have h1 := Int.emod_nonneg p (show (n : Int) ≠ 0 by omega)
  have h2 := Int.emod_lt_of_pos p (show (0 : Int) < n by omega)
  have e := @Int.tmod_eq_emod p n
  unfold whoW
  rw [if_neg (by omega)]
  split at e <;> omega
theorem whoW_none {p : Int} {n : Nat} (h : (n : Int) < 1) : (0 : Int) = ((whoW p n : Nat) : Int) := by
  unfold whoW
  rw [if_pos (by omega)]; rfl
theorem aWhoW (p d : Int) (n : Nat) (σ : Hp) (hn : n ≤ 1000000) : ACalls Tryz.prog 26 [.agg [.int .i64 p, .int .i64 d], .int .i64 n] σ (Ret (.int .i64 (whoW p n)) σ) := by
  refine okF Tryz.func26 (by kernel_rfl) ?_
  intro bl1
  refine bcond_dec (fun c2 => ?_) (fun c2 => ?_)
  · have c2 : (↑n : Int) < 1 := c2
    exact .drop 0 1 (.done ⟨av_int (whoW_none (by assumption)), rfl⟩)
  · have c2 : ¬ ((↑n : Int) < 1) := c2
    refine LoadAt.mk 0 _ _ rfl rfl ?_
    refine With.mk (by omega) ?_
    refine bcond_dec (fun c3 => ?_) (fun c3 => ?_)
    · have c3 : p.tmod (↑n : Int) < 0 := c3
      exact .drop 0 1 (.done ⟨av_int (whoW_neg (by omega) hn (by assumption)), rfl⟩)
    · have c3 : ¬ (p.tmod (↑n : Int) < 0) := c3
      exact .drop 0 1 (.done ⟨av_int (whoW_pos (by omega) (by assumption)), rfl⟩)
def plOk (s : Sy) (l : Lay) (k : Nat) (L : List Wk) : Prop := L.length = k ∧ ∀ (j : Nat) (e : Wk), L[j]? = some e → e.who = j ∧ WV s l j e.x ∧ okRd e.c e.acc e.x.now
theorem px_at (A : List Wk) (e : Wk) (B : List Wk) {z : Int} (hz : z = A.length) : ((A ++ e :: B).map Wk.px)[0 + z.toNat * 1]? = some e.px := by
  subst hz
  rw [Int.toNat_natCast, Nat.mul_one, Nat.zero_add, List.getElem?_map]
  simp
theorem py_at (A : List Wk) (e : Wk) (B : List Wk) {z : Int} (hz : z = A.length) : ((A ++ e :: B).map Wk.py)[0 + z.toNat * 1]? = some e.py := by
  subst hz
  rw [Int.toNat_natCast, Nat.mul_one, Nat.zero_add, List.getElem?_map]
  simp
/-- All blocks, those of one pair of workers ahead. -/
abbrev plN (s : Sy) (l : Lay) (who w r : Nat) (c : AV) (acc : Hp) (x : WS) (v rr : Nat) (y : WS) (bp la lb : Nat × List AV) (p q m q2 : Nat) (wp wr : List Int) (τ : Hp) : Hp :=
  (w, wkC s l who x.ev x.jo x.en x.does (nwV r x.now) x.node x.has x.nx x.out) :: (v, rwC s l who y.does y.node y.has y.nx y.out (rnD rr y.now) (rnT rr y.now) (rnJ rr y.now) (rnA y.now) y.ev y.jo y.en) :: bp :: la :: lb :: plH p q wp (reH m q2 wr (nwB l x.node r c acc x.now ++ (rnB rr y.now ++ τ)))
section
variable {s : Sy} {l : Lay} {who w r : Nat} {c : AV} {acc : Hp} {x : WS} {v rr : Nat} {y : WS} {bp la lb : Nat × List AV} {p q m q2 : Nat} {wp wr : List Int}
theorem plN_P (τ : Hp) : (WB s l who w r c acc x ++ plH p q wp ((v, rwC s l who y.does y.node y.has y.nx y.out (rnD rr y.now) (rnT rr y.now) (rnJ rr y.now) (rnA y.now) y.ev y.jo y.en) :: bp :: la :: lb :: reH m q2 wr (rnB rr y.now ++ τ))).Perm (plN s l who w r c acc x v rr y bp la lb p q m q2 wp wr τ) :=
  blk_perm [[(w, wkC s l who x.ev x.jo x.en x.does (nwV r x.now) x.node x.has x.nx x.out)], nwB l x.node r c acc x.now, plH p q wp [], [(v, rwC s l who y.does y.node y.has y.nx y.out (rnD rr y.now) (rnT rr y.now) (rnJ rr y.now) (rnA y.now) y.ev y.jo y.en), bp, la, lb], reH m q2 wr [], rnB rr y.now] τ (a := [0, 1, 2, 3, 4, 5]) (b := [0, 3, 2, 4, 1, 5]) (by decide)
theorem plN_R (τ : Hp) : (RB s l who v rr y ++ reH m q2 wr ((w, wkC s l who x.ev x.jo x.en x.does (nwV r x.now) x.node x.has x.nx x.out) :: bp :: la :: lb :: plH p q wp (nwB l x.node r c acc x.now ++ τ))).Perm (plN s l who w r c acc x v rr y bp la lb p q m q2 wp wr τ) :=
  blk_perm [[(v, rwC s l who y.does y.node y.has y.nx y.out (rnD rr y.now) (rnT rr y.now) (rnJ rr y.now) (rnA y.now) y.ev y.jo y.en)], rnB rr y.now, reH m q2 wr [], [(w, wkC s l who x.ev x.jo x.en x.does (nwV r x.now) x.node x.has x.nx x.out)], [bp, la, lb], plH p q wp [], nwB l x.node r c acc x.now] τ (a := [0, 1, 2, 3, 4, 5, 6]) (b := [3, 0, 4, 5, 2, 6, 1]) (by decide)
end
theorem wStep_b {s : Sy} {l : Lay} {who : Int} {x x' : WS} {d : Int} {ws ws' : List Int} {b : Bool} (h : wStep listOps s l who x d ws = (x', ws', b)) : b = x'.en := by
  cases he : x.en with
  | true =>
    unfold wStep at h
    rw [if_pos he] at h
    cases h
    exact he.symm
  | false =>
    have := wStep_en (s := s) (l := l) (who := who) (d := d) (ws := ws) he
    rw [h] at this
    exact this
theorem neB (b : Bool) : ¬ (!(b == b)) = true := by cases b <;> decide
theorem neI (n : Int) : ¬ (!decide (n = n)) = true := by simp
theorem neN1 {h : Bool} {n : Int} (c : h = true) : ¬ (!decide ((if h = true then n else 0) = n)) = true := by simp [c]
theorem neN0 {h : Bool} {n : Int} (c : h = false) : ¬ (!decide ((if h = true then n else 0) = 0)) = true := by simp [c]
theorem neV {i v : Bool} (h : i = v) : ¬ (!(i == v)) = true := by rw [h]; exact neB v
theorem iF1 {i b : Bool} {d : Int} (h : i = (!b && (decide (d = 1) || decide (d = 2)))) (c : (!b) = false) : i = false := by rw [h, c]; rfl
theorem iT1 {i b : Bool} {d : Int} (h : i = (!b && (decide (d = 1) || decide (d = 2)))) (c : (!b) = true) (e : d = 1) : i = true := by rw [h, c, e]; rfl
theorem iT2 {i b : Bool} {d : Int} (h : i = (!b && (decide (d = 1) || decide (d = 2)))) (c : (!b) = true) (e : d = 2) : i = true := by rw [h, c, e]; rfl
theorem iF2 {i b : Bool} {d : Int} (h : i = (!b && (decide (d = 1) || decide (d = 2)))) (c : (!b) = true) (e : ¬ d = 1) (e2 : ¬ d = 2) : i = false := by rw [h, c, decide_eq_false e, decide_eq_false e2]; rfl
/-- The order of what is compared. -/
def planW : Sch := (.one 0 false (.one 1 false (.one 2 false (.one 3 false (.one 4 false (.one 5 false (.one 6 false (.one 7 false (.one 8 false (.one 9 false (.one 10 false (.one 11 false (.one 12 false (.one 13 false (.one 14 false (.one 15 false (.one 16 false (.one 17 false (.one 18 false (.one 19 false (.one 20 false (.one 21 false (.one 22 false (.one 23 false (.one 24 false (.one 25 false (.one 26 false (.one 27 false (.one 28 false (.one 29 false (.one 30 false (.one 31 false (.one 32 false (.one 33 false (.one 34 false (.one 35 false (.one 36 false (.one 37 false (.one 38 false (.one 39 false (.one 40 false (.one 41 false (.one 42 false (.one 43 false (.one 44 false (.one 45 false (.one 46 false (.one 47 false (.one 48 false (.one 49 false (.one 50 false (.one 51 false (.one 52 false (.one 53 false (.one 54 false (.one 55 false (.one 56 false (.one 57 false (.one 58 false (.one 59 false (.one 60 false (.one 61 false (.one 62 false (.one 63 false (.one 64 false (.one 65 false (.one 66 false (.one 67 false (.one 68 false (.one 69 false (.one 70 false (.one 71 false (.one 72 false (.one 73 false (.one 74 false (.one 75 false (.one 76 false (.one 77 false (.one 78 false (.one 79 false (.one 80 false (.one 81 false (.one 82 false (.one 83 false (.one 84 false (.one 85 false (.one 87 false (.one 88 false (.one 86 false (.one 89 false (.one 90 false (.one 91 false (.one 92 false (.one 93 false (.one 94 false (.one 95 false (.one 96 false (.one 97 false (.one 98 false (.one 99 false (.one 100 false (.one 101 false (.one 102 false (.one 103 false (.one 104 false (.one 105 false (.one 106 false (.one 107 false (.one 108 false (.one 109 false (.one 110 false .stop)))))))))))))))))))))))))))))))))))))))))))))))))))))))))))))))))))))))))))))))))))))))))))))))))))))))))))))))
theorem fm_mid (s : Sy) (l : Lay) (A : List Wk) (e : Wk) (B : List Wk) (G : Hp) : (A ++ e :: B).flatMap (Wk.blk s l) ++ G = A.flatMap (Wk.blk s l) ++ (WB s l e.who e.w e.r e.c e.acc e.x ++ (RB s l e.who e.v e.rr e.x ++ (B.flatMap (Wk.blk s l) ++ G))) := by
  rw [List.flatMap_append, List.flatMap_cons]
  unfold Wk.blk
  simp only [List.append_assoc]
theorem plN_L (s : Sy) (l : Lay) (A : List Wk) (who : Nat) (x : WS) (w r : Nat) (c : AV) (acc : Hp) (v rr : Nat) (B : List Wk) (bp la lb : Nat × List AV) (p q m q2 : Nat) (wp wr : List Int) (G : Hp) : (plN s l who w r c acc x v rr x bp la lb p q m q2 wp wr (A.flatMap (Wk.blk s l) ++ (B.flatMap (Wk.blk s l) ++ G))).Perm (bp :: la :: lb :: plH p q wp (reH m q2 wr ((A ++ ⟨who, x, w, r, c, acc, v, rr⟩ :: B).flatMap (Wk.blk s l) ++ G))) := by
  rw [fm_mid]
  exact blk_perm [bp :: la :: lb :: plH p q wp (reH m q2 wr []), A.flatMap (Wk.blk s l), [(w, wkC s l who x.ev x.jo x.en x.does (nwV r x.now) x.node x.has x.nx x.out)], nwB l x.node r c acc x.now, [(v, rwC s l who x.does x.node x.has x.nx x.out (rnD rr x.now) (rnT rr x.now) (rnJ rr x.now) (rnA x.now) x.ev x.jo x.en)], rnB rr x.now, B.flatMap (Wk.blk s l)] G (a := [2, 4, 0, 3, 5, 1, 6]) (b := [0, 1, 2, 3, 4, 5, 6]) (by decide)
theorem workerPlays_walk (s : Sy) (k : Int) (scr : List (Int × Int × Unit)) (hi : A64 s.init) (ht : ∀ t ∈ s.T, A64 t.1 ∧ A64 t.2.1) : ACalls Tryz.prog 6 [.agg (sysC s), .int .i64 k, .fsl (.field (.int .i64) (.field (.int .i64) .nil)) scr] [] (fun r _ => r = .bool true) := by
  refine okF Tryz.func6 (by kernel_rfl) ?_
  intro bl1
  refine callR [] (aAwake33 _) ?_
  refine LoadAt.mk 0 _ _ rfl rfl ?_
  refine callS [] (aSmall17 s _) (fun hsm => ?_) ?_
  rotate_left
  · exact .done rfl
  have hf := fit_of hsm hi ht
  refine bcond_dec (p := 400 < (scr.length : Int)) (fun h1 => ?_) (fun h1 => ?_)
  · exact .done rfl
  obtain ⟨z0, hz0⟩ : ∃ z : Int, 0 = z := ⟨0, rfl⟩
  obtain ⟨k', hk'⟩ : ∃ x, x = (if 6 < k then 6 else k) := ⟨_, rfl⟩
  have hk6 : k' ≤ 6 := by rw [hk']; split <;> omega
  refine LoadAt.mk 0 _ _ rfl rfl ?_
  have hO := fun σ => aROf32 s k' σ hf
  by_cases he : ofE s k' = 0
  rotate_left
  · have hM := fun σ => aMakesBad s k' σ hf he
    rw [hk'] at hM hO
    refine callR [] (hM _) ?_
    refine LoadAt.mk 0 _ _ rfl rfl ?_
    refine callR [] (hO _) ?_
    intro bl1
    refine StoreAt.mk 0 _ _ rfl rfl ?_
    refine bcond_split (fun c2 => ?_) (fun c2 => ?_)
    · have c2 : ¬ (ofE s (if 6 < k then 6 else k) = 0) := by simpa using c2
      refine bcond_split (fun c3 => ?_) (fun c3 => ?_)
      · have c3 : ¬ (ofE s (if 6 < k then 6 else k) = 0) := by simpa using c3
        exact .done rfl
      · have c3 : ofE s (if 6 < k then 6 else k) = 0 := by simpa using c3
        exact absurd (by assumption) (hk' ▸ he)
    · have c2 : ofE s (if 6 < k then 6 else k) = 0 := by simpa using c2
      refine bcond_split (fun c4 => ?_) (fun c4 => ?_)
      · have c4 : ¬ (ofE s (if 6 < k then 6 else k) = 0) := by simpa using c4
        exact .done rfl
      · have c4 : ofE s (if 6 < k then 6 else k) = 0 := by simpa using c4
        exact absurd (by assumption) (hk' ▸ he)
  · obtain ⟨hs, hLk⟩ := ls_of hf he
    obtain ⟨hk1, hk2⟩ := (ofE_zero he).2
    obtain ⟨n, hn⟩ : ∃ n : Nat, k' = n := ⟨k'.toNat, by omega⟩
    rw [hn] at he hs hLk hO
    have hM := fun σ => aMakesOk s n σ hf he
    obtain ⟨l, hl⟩ : ∃ l, layOf s n = l := ⟨_, rfl⟩
    rw [hl] at hM hs hLk
    rw [he] at hO
    have hO2 : ∀ σ, ACalls Tryz.prog 24 [.agg (sysC s), .int .i64 (if 6 < k then 6 else k)] σ (Ret (.tup [.agg (layC s n), .int .i64 z0]) σ) := fun σ => by rw [← hk', hn, ← hz0]; exact hO σ
    rw [← hn, hk'] at hM
    refine .perm (σ2 := [(bl1, sysC s)]) _ (.refl _) (hM _) ?_
    rintro _ _ ⟨la, lb, p, q, m, q2, ws, L, G, rfl, rfl, hLl, hLe, hFl⟩
    refine ⟨(bl1, sysC s) :: (la, L.map Wk.px) :: (lb, L.map Wk.py) :: plH p q ws (reH m q2 ws (L.flatMap (Wk.blk s l) ++ (G ++ []))), blk_perm [[(bl1, sysC s)], (la, L.map Wk.px) :: (lb, L.map Wk.py) :: plH p q ws (reH m q2 ws []), L.flatMap (Wk.blk s l), G] [] (a := [0, 1, 2, 3]) (b := [1, 2, 3, 0]) (by decide), ?_⟩
    refine LoadAt.mk 0 _ _ rfl rfl ?_
    generalize G ++ [] = G2
    refine callR [] (hO2 _) ?_
    intro bl1
    refine StoreAt.mk 0 _ _ rfl rfl ?_
    refine bcond_split (fun c => absurd hz0.symm (by simpa using c)) (fun c => ?_)
    refine .shed (.drop 0 2 (.refl _)) ?_
    have hn0 : 0 < n := by omega
    have hn6 : n ≤ 6 := by omega
    have hwv : plOk s l n L := ⟨hLl, fun j e hj => by
      obtain ⟨q1, q2, q3, q4⟩ := hLe j e hj
      rw [q2, q3]
      exact ⟨q1, wv0 hs j, trivial⟩⟩
    clear hLl hLe hM hO hO2
    refine loopS (S := Nat × List Wk × List Int) (fun t => [(7, .mref la 0 n 1), (8, .mref lb 0 n 1), (9, .ptr p 0), (10, .ptr m 0), (56, .fsl (.field (.int .i64) (.field (.int .i64) .nil)) scr), (57, .int .i64 scr.length), (58, .int .i64 t.1)])
      (fun t => (la, t.2.1.map Wk.px) :: (lb, t.2.1.map Wk.py) :: plH p q t.2.2 (reH m q2 t.2.2 (t.2.1.flatMap (Wk.blk s l) ++ G2))) (fun t => t.1 ≤ scr.length ∧ plOk s l n t.2.1 ∧ FlOk s l t.2.2) (fun t => scr.length - t.1) (0, L, ws) ⟨⟨Nat.zero_le _, hwv, hFl⟩, ⟨rfl, rfl, rfl, rfl, rfl, rfl, rfl, trivial⟩, rfl⟩ ?_
    clear hwv hFl
    rintro ⟨i, L, ws⟩ g ⟨hi0, hL0, hF0⟩
    have hi : i ≤ scr.length := hi0
    have hL : plOk s l n L := hL0
    have hF : FlOk s l ws := hF0
    clear hi0 hL0 hF0
    refine bcond_dec (p := (i : Int) < (scr.length : Int)) (fun hlt => ?_) (fun hge => ?_)
    rotate_left
    · refine .quiet (by kernel_rfl) ?_
      have hFs := hs.size.2.1
      have hFl := hF.1
      refine callQ [3, 3] (aAll p q ws _ (by omega)) ?_
      refine LoadAt.mk 4 _ _ rfl rfl ?_
      refine callQ [5] (acalls_eq (same10m ws ws q2 _ (by omega)) (av_bool (decide_eq_true rfl))) ?_
      exact .done rfl
    have hlt : i < scr.length := by omega
    obtain ⟨d, hd⟩ : ∃ d : Int × Int × Unit, scr[i] = d := ⟨_, rfl⟩
    obtain ⟨d1, d2, du⟩ := d
    refine With.mk rfl (IdxF.mk (d1, d2, du) (by omega) ((get_some hlt).trans (congrArg some hd)) ?_)
    have hj := whoW_lt (p := d1) hn0
    obtain ⟨A, e, B, rfl, hA⟩ : ∃ A e B, L = A ++ e :: B ∧ A.length = whoW d1 n := ⟨L.take (whoW d1 n), L[whoW d1 n]'(by rw [hL.1]; exact hj), L.drop (whoW d1 n + 1), by simp, by rw [List.length_take, hL.1]; omega⟩
    obtain ⟨hwho, hWV, hrd⟩ := hL.2 A.length e (by simp)
    obtain ⟨who, x, w, r, c, acc, v, rr⟩ := e
    have hwho : who = A.length := hwho
    subst hwho
    have hWV : WV s l A.length x := hWV
    have hrd : okRd c acc x.now := hrd
    have hW := fun σ => aWhoW d1 d2 n σ (by omega)
    rw [← hA] at hW
    intro bl1
    refine StoreAt.mk 0 _ _ rfl rfl ?_
    refine LoadAt.mk 0 _ _ rfl rfl ?_
    refine .perm _ (plN_L s l A A.length x w r c acc v rr B _ _ _ p q m q2 ws ws G2) (hW _) ?_
    rintro _ _ ⟨rfl, rfl⟩
    refine ⟨_, .refl _, ?_⟩
    obtain ⟨x', ws', b, hst⟩ : ∃ x' ws' b, wStep listOps s l A.length x d2 ws = (x', ws', b) := ⟨_, _, _, rfl⟩
    have hwho2 : 0 ≤ (A.length : Int) ∧ (A.length : Int) < l.k := by omega
    have hP := fun σ => aWkP p q w r c acc s l A.length x d2 ws σ hf hF.2.a64 (hWV.ok hs) hrd hst
    have hR := fun σ => aRStep33 v rr m q2 d2 ws σ hs hWV hF.2
    have hV := wStep_V (d := d2) hs hwho2 hF.2 hWV
    rw [hst] at hR hV
    obtain ⟨hV1, hV2, hV3⟩ := hV
    generalize hτ : A.flatMap (Wk.blk s l) ++ (B.flatMap (Wk.blk s l) ++ G2) = τ
    have hpx : ((A ++ (⟨A.length, x, w, r, c, acc, v, rr⟩ : Wk) :: B).map Wk.px)[0 + ((A.length : Int)).toNat * 1]? = some (.ptr w 0) := px_at A _ B rfl
    have hpy : ((A ++ (⟨A.length, x, w, r, c, acc, v, rr⟩ : Wk) :: B).map Wk.py)[0 + ((A.length : Int)).toNat * 1]? = some (.ptr v 0) := py_at A _ B rfl
    have hLl := hL.1
    refine DrawW.meetS (S := {t : Nat × AV × Hp // okRd t.2.1 t.2.2 x'.now} × Nat) [] (.one 0 false (.one 1 false (.one 2 false (.one 3 false (.one 4 false (.one 5 false (.one 6 false (.one 7 false (.one 9 false (.one 10 false (.one 11 false (.one 13 false (.one 14 false (.alt 8 (.one 12 false (.one 15 false (.one 16 false (.one 17 false (.one 18 false .stop))))) (.alt 12 (.alt 8 (.one 15 false (.one 16 false (.one 17 false (.one 18 false .stop)))) (.one 15 false (.one 8 false (.one 16 false (.one 17 false (.one 18 false .stop)))))) (.one 15 false (.alt 8 (.one 12 false (.one 16 false (.one 17 false (.one 18 false .stop)))) (.one 12 false (.one 8 false (.one 16 false (.one 17 false (.one 18 false .stop)))))))))))))))))))))) (fun _ => [(7, .mref la 0 n 1), (8, .mref lb 0 n 1), (9, .ptr p 0), (10, .ptr m 0), (16, .int .i64 A.length), (17, .bool b), (18, .bool b), (56, .fsl (.field (.int .i64) (.field (.int .i64) .nil)) scr), (57, .int .i64 scr.length), (58, .int .i64 i)])
      (fun t => plN s l A.length w t.1.1.1 t.1.1.2.1 t.1.1.2.2 x' v t.2 x' (bl1, [.int .i64 d1, .int .i64 d2]) (la, (A ++ (⟨A.length, x, w, r, c, acc, v, rr⟩ : Wk) :: B).map Wk.px) (lb, (A ++ (⟨A.length, x, w, r, c, acc, v, rr⟩ : Wk) :: B).map Wk.py) p q m q2 ws' ws' τ) (by kernel_rfl) ?_ ?_
    · repeat' first
        | refine And.intro ?_ ?_
        | refine With.mk ⟨rfl, by omega, by omega⟩ ?_
        | refine LoadAt.mk 3 _ _ rfl (read1 rfl hpx) ?_
        | refine LoadAt.mk 4 _ _ rfl (read1 rfl hpy) ?_
        | refine LoadAt.mk 2 _ _ rfl rfl ?_
        | (refine .perm _ (plN_P τ) (hP _) ?_; rintro _ _ ⟨r', c', acc', hrd', rfl, rfl⟩; refine ⟨_, (plN_P τ).symm, ?_⟩)
        | (refine .perm _ (plN_R τ) (hR _) ?_; rintro _ _ ⟨rr', rfl, rfl⟩; refine ⟨_, (plN_R τ).symm, ?_⟩)
        | exact ⟨(⟨(r', c', acc'), hrd'⟩, rr'), ⟨rfl, rfl, rfl, rfl, rfl, rfl, rfl, rfl, rfl, rfl, trivial⟩, .refl _⟩
    · rintro ⟨⟨⟨r', c', acc'⟩, hrd'⟩, rr'⟩ g3
      have hrd' : okRd c' acc' x'.now := hrd'
      have hb := wStep_b hst
      clear hP hR hst
      obtain ⟨ev, jo, en, does, now, node, has, nx, out⟩ := x'
      have hb : b = en := hb
      subst hb
      obtain ⟨I, hI⟩ : ∃ I, I = (!b && (decide (does = 1) || decide (does = 2))) := ⟨_, rfl⟩
      have hIW := fun σ => acalls_eq (aIdleW s l A.length ev jo b does (nwV r' now) node has nx out w σ) (av_bool hI.symm)
      have hnx : i + 1 ≤ scr.length ∧ plOk s l n (A ++ ⟨A.length, ⟨ev, jo, b, does, now, node, has, nx, out⟩, w, r', c', acc', v, rr'⟩ :: B) ∧ FlOk s l ws' := by
        refine ⟨hlt, ⟨by rw [← hLl]; simp, fun j e hj => ?_⟩, hV2.trans hF.1, hV1⟩
        by_cases hjA : j = A.length
        · subst hjA
          rw [getm] at hj
          cases hj
          exact ⟨rfl, hV3, hrd'⟩
        · refine hL.2 j e ?_
          rw [← hj, List.getElem?_append, List.getElem?_append]
          split
          · rfl
          · rw [List.getElem?_cons, List.getElem?_cons, if_neg (by omega), if_neg (by omega)]
      have hN := fun σ => aNodeW s l A.length ev jo b does (nwV r' now) node has nx out w σ
      have hfin : ∀ b has, Shed (plN s l A.length w r' c' acc' ⟨ev, jo, b, does, now, node, has, nx, out⟩ v rr' ⟨ev, jo, b, does, now, node, has, nx, out⟩ (bl1, [.int .i64 d1, .int .i64 d2]) (la, (A ++ (⟨A.length, x, w, r, c, acc, v, rr⟩ : Wk) :: B).map Wk.px) (lb, (A ++ (⟨A.length, x, w, r, c, acc, v, rr⟩ : Wk) :: B).map Wk.py) p q m q2 ws' ws' τ) ((la, (A ++ ⟨A.length, ⟨ev, jo, b, does, now, node, has, nx, out⟩, w, r', c', acc', v, rr'⟩ :: B).map Wk.px) :: (lb, (A ++ ⟨A.length, ⟨ev, jo, b, does, now, node, has, nx, out⟩, w, r', c', acc', v, rr'⟩ :: B).map Wk.py) :: plH p q ws' (reH m q2 ws' ((A ++ ⟨A.length, ⟨ev, jo, b, does, now, node, has, nx, out⟩, w, r', c', acc', v, rr'⟩ :: B).flatMap (Wk.blk s l) ++ G2))) := fun b has => by
        rw [← hτ]
        refine .perm (plN_L s l A A.length ⟨ev, jo, b, does, now, node, has, nx, out⟩ w r' c' acc' v rr' B _ _ _ p q m q2 ws' ws' G2).symm (.drop 0 1 (shed_eq ?_))
        rw [show (A ++ (⟨A.length, x, w, r, c, acc, v, rr⟩ : Wk) :: B).map Wk.px = (A ++ (⟨A.length, ⟨ev, jo, b, does, now, node, has, nx, out⟩, w, r', c', acc', v, rr'⟩ : Wk) :: B).map Wk.px by rw [List.map_append, List.map_append]; rfl, show (A ++ (⟨A.length, x, w, r, c, acc, v, rr⟩ : Wk) :: B).map Wk.py = (A ++ (⟨A.length, ⟨ev, jo, b, does, now, node, has, nx, out⟩, w, r', c', acc', v, rr'⟩ : Wk) :: B).map Wk.py by rw [List.map_append, List.map_append]; rfl]
        rfl
      repeat' first
        | refine .sched [] planW (by kernel_rfl) ?_
        | refine With.mk ⟨rfl, by omega, by omega⟩ ?_
        | refine LoadAt.mk 3 _ _ rfl (read1 rfl hpx) ?_
        | refine LoadAt.mk 4 _ _ rfl (read1 rfl hpy) ?_
        | refine LoadAt.mk 0 _ _ rfl rfl ?_
        | refine LoadAt.mk 1 _ _ rfl rfl ?_
        | refine callR [] (hN _) ?_
        | refine callR [] (hIW _) ?_
        | refine bcond_dec (p := does = 1) (fun e1 => ?_) (fun e1 => ?_)
        | refine bcond_dec (p := does = 2) (fun e2 => ?_) (fun e2 => ?_)
        | refine bcond_split (fun c => absurd c (neB b)) (fun _ => ?_)
        | refine bcond_split (fun c => absurd c (neB has)) (fun _ => ?_)
        | refine bcond_split (fun c => absurd c (neI ev)) (fun _ => ?_)
        | refine bcond_split (fun c => absurd c (neI jo)) (fun _ => ?_)
        | refine bcond_split (fun c => absurd c (neN1 rfl)) (fun _ => ?_)
        | refine bcond_split (fun c => absurd c (neN0 rfl)) (fun _ => ?_)
        | refine bcond_split (fun c => absurd c (neV (iF1 hI rfl))) (fun _ => ?_)
        | refine bcond_split (fun c => absurd c (neV (iT1 hI rfl e1))) (fun _ => ?_)
        | refine bcond_split (fun c => absurd c (neV (iT2 hI rfl e2))) (fun _ => ?_)
        | refine bcond_split (fun c => absurd c (neV (iF2 hI rfl e1 e2))) (fun _ => ?_)
        | exact nextS (i + 1, A ++ ⟨A.length, ⟨ev, jo, _, does, now, node, _, nx, out⟩, w, r', c', acc', v, rr'⟩ :: B, ws') (by show scr.length - (i + 1) < scr.length - i; omega) hnx ⟨rfl, rfl, rfl, rfl, rfl, rfl, inc64 (by omega), trivial⟩ (hfin _ _)
        | cases has
        | cases b
end Go.Proofs.YtegpahamenjiaaaGreat
