/-
  The walk of CellPlays.
-/
import Derived.Test.YtldiocdjgbehcaaCellP
import Derived.Test.YtldiocdjgbehcaaCellA
namespace Go.Proofs.Ytldiocdjgbehcaa
open Go.RowKit
set_option maxRecDepth 100000
set_option maxHeartbeats 4000000
structure OJ where
  rx : Nat
  ry : Nat
  j : Jn
def OJ.blk (o : OJ) : Hp := [(o.ry, rjC o.j), (o.rx, jnC o.j)]
def OJ.px (o : OJ) : AV := .ptr o.rx 0
def OJ.py (o : OJ) : AV := .ptr o.ry 0
theorem few_get {w : Int} {a : List Int} {l : List (List Int)} (h : fewB w a l = true) : (∀ x ∈ l, x.length ≤ 8) ∧ (w ≤ 5 ∨ 2000 < w) ∧ a.length ≤ 8 ∧ l.length ≤ 5 := by
  simpa [fewB] using h
theorem putW_zero {a Z : List Int} {k : Nat} (hZ : Z = [0, 0, 0, 0, 0, 0, 0]) (hk : k ≤ 5) (ha : a.length ≤ k) : putW 1 a Z (k + 1) = putW 1 a Z k := by
  have hZl : Z.length = 7 := by rw [hZ]; rfl
  have hz : ∀ i, Z.getD i 0 = 0 := by
    intro i
    rw [hZ]
    match i with
    | 0 | 1 | 2 | 3 | 4 | 5 | 6 => rfl
    | i + 7 => rfl
  refine List.ext_getElem (by rw [putW_length, putW_length]) fun i h1 h2 => ?_
  have e1 : (putW 1 a Z (k + 1)).getD i 0 = _ := putW_get 1 a Z 6 (by omega) (by omega) (k + 1) (by omega) i
  have e2 : (putW 1 a Z k).getD i 0 = _ := putW_get 1 a Z 6 (by omega) (by omega) k (by omega) i
  rw [List.getD_eq_getElem?_getD, List.getElem?_eq_getElem h1] at e1
  rw [List.getD_eq_getElem?_getD, List.getElem?_eq_getElem h2] at e2
  rw [hz] at e1 e2
  refine e1.trans (Eq.trans ?_ e2.symm)
  split
  · split
    · rfl
    · have : i = k + 1 := by omega
      subst this
      show wd a (k + 1 - 1) = 0
      unfold wd
      rw [List.getElem?_eq_none (by omega)]; rfl
  · split
    · omega
    · rfl
theorem putW_64 (b : Int) {a ws : List Int} (ha : A64 a) (hw : A64 ws) (k : Nat) : A64 (putW b a ws k) := by
  induction k with
  | zero => exact hw
  | succ k ih => exact store_64 ih _ (wd_64 ha k)
theorem readMap {i : TI} (hi : i.wide = false) {f : OJ → AV} {L L2 : List OJ} (h : L2.map f = L.map f) {j : Nat} (hj : j < L2.length) {x : Int} (hx : x = j) : readAs i (L.map f) (0 + x.toNat * 1) = some (f L2[j]) := by
  subst hx
  rw [← h]
  unfold readAs
  rw [hi]
  show (L2.map f)[0 + j * 1]? = _
  rw [Nat.zero_add, Nat.mul_one, List.getElem?_map, List.getElem?_eq_getElem hj]
  rfl
theorem pickPerm {α : Type} (x y a b c d e f g : α) : [x, a, b, y, c, d, e, f, g].Perm [a, b, c, d, e, f, g, y, x] := by
  refine (List.Perm.cons x (List.Perm.trans (List.perm_append_comm (l₁ := [a, b]) (l₂ := [y, c, d, e, f, g])) ?_)).trans (List.perm_append_comm (l₁ := [x]) (l₂ := [a, b, c, d, e, f, g, y]))
  exact (List.perm_append_comm (l₁ := [y]) (l₂ := [c, d, e, f, g, a, b])).trans (List.Perm.append_right [y] (List.perm_append_comm (l₁ := [c, d, e, f, g]) (l₂ := [a, b])))
theorem neB (b : Bool) (h : (!(b == b)) = true) : False := by cases b <;> cases h
theorem neP {n : Int} (h : (!decide (n = n)) = true) : False := by simp at h
theorem op_perm2 {x a b y c d : Nat × List AV} {E : Hp} : ((y :: c :: d :: x :: a :: b :: E : Hp)).Perm (x :: a :: b :: y :: c :: d :: E) :=
  List.Perm.append_right E (List.perm_append_comm (l₁ := [y, c, d]) (l₂ := [x, a, b]))
theorem map_set_same {f : OJ → AV} {L : List OJ} {o : OJ} {j : Nat} {hj : j < L.length} (h : f o = f L[j]) (_ : j < L.length) : (L.set j o).map f = L.map f := by
  rw [List.map_set, h]
  refine List.ext_getElem (by simp) fun n h1 h2 => ?_
  rw [List.getElem_set]
  split
  · rename_i hn; subst hn; simp
  · rfl
theorem op_perm3 {L2 : List OJ} {j : Nat} {hj : j < L2.length} {j' : Jn} {a b c d e f g : Nat × List AV} : (a :: b :: c :: d :: e :: f :: g :: (L2.set j ⟨L2[j].rx, L2[j].ry, j'⟩).flatMap OJ.blk : Hp).Perm ((L2[j].ry, rjC j') :: c :: d :: (L2[j].rx, jnC j') :: a :: b :: e :: f :: g :: (L2.eraseIdx j).flatMap OJ.blk) := by
  have h1 := flatM_set (f := OJ.blk) hj ⟨L2[j].rx, L2[j].ry, j'⟩
  refine (List.Perm.append_left [a, b, c, d, e, f, g] h1).trans ?_
  generalize (L2.eraseIdx j).flatMap OJ.blk = E
  show ([a, b, c, d, e, f, g] ++ ([(L2[j].ry, rjC j'), (L2[j].rx, jnC j')] ++ E)).Perm _
  generalize (L2[j].rx, jnC j') = x
  generalize (L2[j].ry, rjC j') = y
  exact (List.Perm.append_right E (pickPerm x y a b c d e f g).symm).trans (op_perm2 (E := e :: f :: g :: E)).symm
theorem op_perm {L2 : List OJ} {j : Nat} (hj : j < L2.length) {a b c d e f g : Nat × List AV} : (((L2[j].rx, jnC L2[j].j) :: a :: b :: (L2[j].ry, rjC L2[j].j) :: c :: d :: e :: f :: g :: (L2.eraseIdx j).flatMap OJ.blk : Hp)).Perm (a :: b :: c :: d :: e :: f :: g :: L2.flatMap OJ.blk) := by
  have h1 : (L2.flatMap OJ.blk).Perm ((L2[j].ry, rjC L2[j].j) :: (L2[j].rx, jnC L2[j].j) :: (L2.eraseIdx j).flatMap OJ.blk) := flatM_perm hj
  refine List.Perm.trans ?_ (List.Perm.append_left [a, b, c, d, e, f, g] h1.symm)
  generalize (L2.eraseIdx j).flatMap OJ.blk = E
  generalize (L2[j].rx, jnC L2[j].j) = x
  generalize (L2[j].ry, rjC L2[j].j) = y
  exact (List.perm_append_comm (l₁ := [x, a, b, y, c, d, e, f, g]) (l₂ := E)).trans ((List.Perm.append_left E (pickPerm x y a b c d e f g)).trans (List.perm_append_comm (l₁ := E) (l₂ := [a, b, c, d, e, f, g, y, x])))
theorem base_perm3 (base a1 a2 F B : Hp) : (base ++ (a1 ++ (a2 ++ (F ++ B)))).Perm (B ++ (base ++ (a1 ++ (a2 ++ F)))) := by
  have := base_perm base (a1 ++ a2) F B
  simpa only [List.append_assoc] using this
theorem cellPlays_walk (what w : Int) (a : List Int) (l : List (List Int)) (os : List Int) (ha : A64 a) (hl : ∀ x ∈ l, A64 x) (ho : ∀ z ∈ os, 0 ≤ z ∧ z ≤ 255) (hL : l.length ≤ maxLen) : ACalls Try.prog 14 [.int .i64 what, .int .i64 w, .fsl (.int .u64) a, .fsl (.slice (.int .u64)) l, .fsl (.int .u8) os] [] (fun r _ => r = .bool true) := by
  refine okF Try.func14 (by kernel_rfl) ?_
  refine callR [] awake30a ?_
  refine callR [] (aFew30 _ _ _ _ hL) ?_
  cases hf : fewB w a l
  · exact .done rfl
  obtain ⟨hl8, hw5, ha8, hl5⟩ := few_get hf
  refine bcond_dec (fun c1 => ?_) (fun c1 => ?_)
  · exact .done rfl
  have c1 : ¬ (5 < w) := c1
  refine bcond_dec (fun c2 => ?_) (fun c2 => ?_)
  · exact .done rfl
  have c2 : ¬ (100 < (↑os.length : Int)) := c2
  intro bc
  refine StoreAt.mk 0 _ _ rfl rfl ?_
  refine .mk [] _ (aNew 7 _) ?_
  rintro _ _ ⟨p, q, rfl, rfl⟩
  refine .mk [] _ (aRNew 7 _) ?_
  rintro _ _ ⟨m, q2, rfl, rfl⟩
  refine LoadAt.mk 4 _ _ rfl rfl ?_
  refine callR [3, 3] (aPut p q [0, 0, 0, 0, 0, 0, 0] 1 what w a _) ?_
  obtain ⟨Z, hZ⟩ : ∃ Z, Z = ([0, 0, 0, 0, 0, 0, 0] : List Int) := ⟨_, rfl⟩
  rw [← hZ]
  have hZl : Z.length = 7 := by rw [hZ]; rfl
  obtain ⟨n, hn⟩ : ∃ n, n = cw w := ⟨_, rfl⟩
  have hn5 : n ≤ 5 := by rw [hn]; unfold cw; omega
  obtain ⟨WS, hWS⟩ : ∃ WS, WS = putW 1 a Z n := ⟨_, rfl⟩
  rw [← hn, ← hWS]
  have hWSl : WS.length = 7 := by rw [hWS, putW_length, hZl]
  refine callR [] (aRWords _ _) ?_
  rw [← hn]
  refine loopS (S := Nat) (fun s => [(0, .int .i64 what), (1, .int .i64 w), (2, .fsl (.int .u64) a), (3, .fsl (.slice (.int .u64)) l), (4, .fsl (.int .u8) os), (11, .ptr bc 0), (12, .ptr p 0), (13, .ptr m 0), (49, .int .i64 n), (50, .int .i64 s)])
    (fun s => plH p q WS (reH m q2 (putW 1 a Z s) [(bc, [.int .i64 1, .int .i64 what, .int .i64 w])])) (fun s => s ≤ n) (fun s => n - s) 0 ⟨Nat.zero_le _, ⟨rfl, rfl, rfl, rfl, rfl, rfl, rfl, rfl, rfl, rfl, trivial⟩, by rw [hZ]; rfl⟩ ?_
  intro k g hk
  have hk : k ≤ n := hk
  obtain ⟨us, hus⟩ : ∃ us, us = putW 1 a Z k := ⟨_, rfl⟩
  rw [← hus]
  have husl : us.length = 7 := by rw [hus, putW_length, hZl]
  refine bcond_dec (fun hlt => ?_) (fun hge => ?_)
  · have hlt : (k : Int) < n := hlt
    refine bcond_dec (fun c1 => ?_) (fun c1 => ?_)
    · have c1 : (↑k : Int) < (↑a.length : Int) := c1
      refine .sched [] (upto [] 12 0) (by kernel_rfl) ?_
      refine LoadAt.mk 2 _ _ rfl rfl ?_
      refine With.mk rfl ?_
      have hka : k < a.length := by omega
      refine IdxF.mk a[k] (by omega) (get_some hka) ?_
      have e : IntKind.i64.wrap (1 + (k : Int)) = ((1 + k : Nat) : Int) := by rw [IntKind.wrap_i64]; omega
      have hput := woC_put (ws := us) (k := 1 + k) a[k] (by omega)
      rw [← e] at hput
      refine With.mk ⟨rfl, by omega, by omega⟩ ?_
      refine StoreAt.mk 3 _ _ rfl hput ?_
      refine nextS (k + 1) ?_ ?_ ⟨rfl, rfl, rfl, rfl, rfl, rfl, rfl, rfl, rfl, inc64 (by omega), trivial⟩ (shed_eq ?_)
      · show n - (k + 1) < n - k; omega
      · show k + 1 ≤ n; omega
      · have hs : us.set (1 + k) a[k] = putW 1 a Z (k + 1) := by
          rw [hus]
          show _ = mStore (putW 1 a Z k) (wr (1 + (k : Int))) (wd a k)
          rw [show wr (1 + (k : Int)) = ((1 + k : Nat) : Int) from e, show wd a k = a[k] by unfold wd; rw [List.getElem?_eq_getElem hka]; rfl]
          exact (store_hit _).symm
        have hl : us.length = (putW 1 a Z (k + 1)).length := by rw [putW_length, husl, hZl]
        rw [hs]
        show plH p q WS ((m, [.mref q2 0 us.length 1]) :: (q2, woC (putW 1 a Z (k + 1))) :: _) = _
        rw [hl]
    · have c1 : ¬ ((↑k : Int) < (↑a.length : Int)) := c1
      refine nextS (k + 1) ?_ ?_ ⟨rfl, rfl, rfl, rfl, rfl, rfl, rfl, rfl, rfl, inc64 (by omega), trivial⟩ (shed_eq ?_)
      · show n - (k + 1) < n - k; omega
      · show k + 1 ≤ n; omega
      · rw [hus, putW_zero hZ (by omega) (by omega)]
  · have hge : ¬ (k : Int) < n := hge
    obtain rfl : k = n := by omega
    obtain rfl : us = WS := by rw [hus, hWS]
    refine .wrap 15 _ rfl rfl ?_
    refine .wrap 16 _ rfl rfl ?_
    refine loopS (S := Nat × AV × Hp × AV × Hp × List OJ) (fun s => [(0, .int .i64 what), (1, .int .i64 w), (4, .fsl (.int .u8) os), (11, .ptr bc 0), (12, .ptr p 0), (13, .ptr m 0), (15, .via s.2.1), (16, .via s.2.2.2.1), (69, .fsl (.slice (.int .u64)) l), (70, .int .i64 l.length), (71, .int .i64 s.1)])
      (fun s => plH p q us (reH m q2 us ((bc, [.int .i64 1, .int .i64 what, .int .i64 w]) :: (s.2.2.1 ++ (s.2.2.2.2.1 ++ s.2.2.2.2.2.flatMap OJ.blk))))) (fun s => s.1 ≤ l.length ∧ s.2.2.2.2.2.length = s.1 ∧ Acc 1 s.1 s.2.1 s.2.2.1 (s.2.2.2.2.2.map OJ.px) ∧ Acc 1 s.1 s.2.2.2.1 s.2.2.2.2.1 (s.2.2.2.2.2.map OJ.py) ∧ ∀ o ∈ s.2.2.2.2.2, o.j.ok) (fun s => l.length - s.1) (0, .nils, [], .nils, [], []) ⟨⟨Nat.zero_le _, rfl, .nil, .nil, fun o h => by cases h⟩, ⟨rfl, rfl, rfl, rfl, rfl, rfl, rfl, rfl, rfl, rfl, rfl, trivial⟩, rfl⟩ ?_
    rintro ⟨k2, vx, ax, vy, ay, L⟩ g ⟨hk0, hLl0, hax0, hay0, hok⟩
    have hk : k2 ≤ l.length := hk0
    have hLl : L.length = k2 := hLl0
    have hax : Acc 1 k2 vx ax (L.map OJ.px) := hax0
    have hay : Acc 1 k2 vy ay (L.map OJ.py) := hay0
    clear hk0 hLl0 hax0 hay0
    refine bcond_dec (fun hlt => ?_) (fun hge => ?_)
    · have hlt : (k2 : Int) < l.length := hlt
      have hlt : k2 < l.length := by omega
      refine With.mk rfl (IdxF.mk l[k2] (by omega) (get_some hlt) ?_)
      refine LoadAt.mk 4 _ _ rfl rfl ?_
      intro bx
      intro bz
      refine append_acc [_, _, _, _, _, _, _] hax (.mref 0 bz 0 1 _ rfl (Nat.le_of_ble_eq_true rfl)) rfl (by omega) (by decide) (by decide) (fun vx' ax' hx' => ?_)
      intro by_
      intro bw
      refine append_acc (k := k2) (n := 1) (σ := L.flatMap OJ.blk) (_ :: _ :: _ :: _ :: _ :: _ :: _ :: _ :: _ :: ax') hay (.mref 0 bw 0 1 [.ptr by_ 0] rfl (Nat.le_of_ble_eq_true rfl)) rfl (by omega) (Nat.le_of_ble_eq_true rfl) (Nat.le_of_ble_eq_true rfl) (fun vy' ay' hy' => ?_)
      refine nextS (k2 + 1, vx', ax', vy', ay', L ++ [⟨bx, by_, ⟨1, what, w, l[k2], false, false, 0, 0, false, 0⟩⟩]) ?_ ⟨hlt, ?_, ?_, ?_, ?_⟩ ⟨rfl, rfl, rfl, rfl, rfl, rfl, rfl, rfl, rfl, rfl, inc64 (by omega), trivial⟩ (.drop 0 1 (.drop 1 1 (.perm (base_perm3 [_, _, _, _, _] ax' ay' (L.flatMap OJ.blk) [_, _]) (shed_eq ?_))))
      · show l.length - (k2 + 1) < l.length - k2; omega
      · simp [hLl]
      · show Acc 1 (k2 + 1) vx' ax' _
        rw [List.map_append]; exact hx'
      · show Acc 1 (k2 + 1) vy' ay' _
        rw [List.map_append]; exact hy'
      · intro o' ho'
        rcases List.mem_append.1 ho' with h | h
        · exact hok o' h
        · obtain rfl := List.mem_singleton.1 h; exact ⟨Nat.zero_le _, hl _ (List.getElem_mem hlt), by show (0 : Int) ≤ 0; decide, by show (0 : Int) < 18446744073709551616; decide⟩
      · show _ = plH p q us (reH m q2 us ((bc, [.int .i64 1, .int .i64 what, .int .i64 w]) :: (ax' ++ (ay' ++ List.flatMap OJ.blk (L ++ [_])))))
        rw [List.flatMap_append]
        rfl
    · have hge : ¬ (k2 : Int) < l.length := hge
      have hkl : k2 = l.length := by omega
      have hz64 : A64 Z := by
        intro z hz
        rw [hZ] at hz
        have : z = 0 := by simpa using hz
        rw [this]; exact ⟨by decide, by decide⟩
      have hus64 : A64 us := by rw [hus]; exact putW_64 1 ha hz64 _
      generalize hcx : L.map OJ.px = cx at hax
      generalize hcy : L.map OJ.py = cy at hay
      cases hax with
      | nil =>
        refine loopS (S := Unit) (fun s => [(1, .int .i64 w), (11, .ptr bc 0), (12, .ptr p 0), (13, .ptr m 0), (15, .via .nils), (16, .via vy), (91, .fsl (.int .u8) os), (92, .int .i64 os.length), (93, .int .i64 0)])
          (fun s => plH p q us (reH m q2 us ((bc, [.int .i64 1, .int .i64 what, .int .i64 w]) :: (ay ++ L.flatMap OJ.blk)))) (fun s => True) (fun s => 0) () ⟨trivial, ⟨rfl, rfl, rfl, rfl, rfl, rfl, rfl, rfl, rfl, trivial⟩, rfl⟩ ?_
        intro _ g _
        refine bcond_dec (fun hlt => ?_) (fun hge => ?_)
        · have hlt : (0 : Int) < os.length := hlt
          have hlt : 0 < os.length := by omega
          refine With.mk rfl (IdxF.mk (os[0]'hlt) (by omega) (get_some (k := 0) hlt) ?_)
          refine .quiet (by kernel_rfl) ?_
          refine callQ [] (aAll p q us _ (by omega)) ?_
          refine LoadAt.mk 2 _ _ rfl rfl ?_
          refine callQ [3] (same10m us us q2 _ (by omega)) ?_
          rw [show (decide (us = us)) = true from decide_eq_true rfl]
          refine LoadAt.mk 4 _ _ rfl rfl ?_
          refine callQ [] (aGet p q us 1 what w _) ?_
          refine callQ [3, 3] (aRGet30 m q2 us 1 w _) ?_
          refine callQ [] (same10 _ _ _ (by rw [getW_length, ← hn]; omega)) ?_
          exact .done (congrArg AV.bool (decide_eq_true rfl))
        · refine .quiet (by kernel_rfl) ?_
          refine callQ [] (aAll p q us _ (by omega)) ?_
          refine LoadAt.mk 2 _ _ rfl rfl ?_
          refine callQ [3] (same10m us us q2 _ (by omega)) ?_
          rw [show (decide (us = us)) = true from decide_eq_true rfl]
          refine LoadAt.mk 4 _ _ rfl rfl ?_
          refine callQ [] (aGet p q us 1 what w _) ?_
          refine callQ [3, 3] (aRGet30 m q2 us 1 w _) ?_
          refine callQ [] (same10 _ _ _ (by rw [getW_length, ← hn]; omega)) ?_
          exact .done (congrArg AV.bool (decide_eq_true rfl))
      | mref lx k2 cx hlen =>
        cases hay with
        | nil =>
          refine loopS (S := Unit) (fun s => [(1, .int .i64 w), (11, .ptr bc 0), (12, .ptr p 0), (13, .ptr m 0), (15, .via (.mref lx 0 0 1)), (16, .via .nils), (91, .fsl (.int .u8) os), (92, .int .i64 os.length), (93, .int .i64 0)])
            (fun s => plH p q us (reH m q2 us ((bc, [.int .i64 1, .int .i64 what, .int .i64 w]) :: ((lx, cx) :: L.flatMap OJ.blk)))) (fun s => True) (fun s => 0) () ⟨trivial, ⟨rfl, rfl, rfl, rfl, rfl, rfl, rfl, rfl, rfl, trivial⟩, rfl⟩ ?_
          intro _ g _
          refine bcond_dec (fun hlt => ?_) (fun hge => ?_)
          · have hlt : (0 : Int) < os.length := hlt
            have hlt : 0 < os.length := by omega
            refine With.mk rfl (IdxF.mk (os[0]'hlt) (by omega) (get_some (k := 0) hlt) ?_)
            refine .quiet (by kernel_rfl) ?_
            refine callQ [] (aAll p q us _ (by omega)) ?_
            refine LoadAt.mk 2 _ _ rfl rfl ?_
            refine callQ [3] (same10m us us q2 _ (by omega)) ?_
            rw [show (decide (us = us)) = true from decide_eq_true rfl]
            refine LoadAt.mk 4 _ _ rfl rfl ?_
            refine callQ [] (aGet p q us 1 what w _) ?_
            refine callQ [3, 3] (aRGet30 m q2 us 1 w _) ?_
            refine callQ [] (same10 _ _ _ (by rw [getW_length, ← hn]; omega)) ?_
            exact .done (congrArg AV.bool (decide_eq_true rfl))
          · refine .quiet (by kernel_rfl) ?_
            refine callQ [] (aAll p q us _ (by omega)) ?_
            refine LoadAt.mk 2 _ _ rfl rfl ?_
            refine callQ [3] (same10m us us q2 _ (by omega)) ?_
            rw [show (decide (us = us)) = true from decide_eq_true rfl]
            refine LoadAt.mk 4 _ _ rfl rfl ?_
            refine callQ [] (aGet p q us 1 what w _) ?_
            refine callQ [3, 3] (aRGet30 m q2 us 1 w _) ?_
            refine callQ [] (same10 _ _ _ (by rw [getW_length, ← hn]; omega)) ?_
            exact .done (congrArg AV.bool (decide_eq_true rfl))
        | mref ly k2 cy hlen2 =>
          subst hcx
          subst hcy
          refine loopS (S := Nat × List Int × List OJ) (fun s => [(1, .int .i64 w), (11, .ptr bc 0), (12, .ptr p 0), (13, .ptr m 0), (15, .via (.mref lx 0 k2 1)), (16, .via (.mref ly 0 k2 1)), (91, .fsl (.int .u8) os), (92, .int .i64 os.length), (93, .int .i64 s.1)])
            (fun s => plH p q s.2.1 (reH m q2 s.2.1 ((bc, [.int .i64 1, .int .i64 what, .int .i64 w]) :: (lx, L.map OJ.px) :: (ly, L.map OJ.py) :: s.2.2.flatMap OJ.blk))) (fun s => s.1 ≤ os.length ∧ s.2.1.length = 7 ∧ A64 s.2.1 ∧ s.2.2.map OJ.px = L.map OJ.px ∧ s.2.2.map OJ.py = L.map OJ.py ∧ ∀ o ∈ s.2.2, o.j.ok) (fun s => os.length - s.1) (0, us, L) ⟨⟨Nat.zero_le _, hWSl, hus64, rfl, rfl, hok⟩, ⟨rfl, rfl, rfl, rfl, rfl, rfl, rfl, rfl, rfl, trivial⟩, rfl⟩ ?_
          rintro ⟨i, us, L2⟩ g ⟨hi, hul, hu64, hpx, hpy, hok2⟩
          have hi : i ≤ os.length := hi
          have hul : us.length = 7 := hul
          have hpx : L2.map OJ.px = L.map OJ.px := hpx
          have hpy : L2.map OJ.py = L.map OJ.py := hpy
          refine bcond_dec (fun hlt => ?_) (fun hge => ?_)
          · have hlt : (i : Int) < os.length := hlt
            have hlt : i < os.length := by omega
            refine With.mk rfl (IdxF.mk os[i] (by omega) (get_some hlt) ?_)
            refine bcond_dec (fun c1 => ?_) (fun c1 => ?_)
            · have c1 : (↑k2 : Int) = 0 := c1
              refine .quiet (by kernel_rfl) ?_
              refine callQ [] (aAll p q us _ (by omega)) ?_
              refine LoadAt.mk 2 _ _ rfl rfl ?_
              refine callQ [3] (same10m us us q2 _ (by omega)) ?_
              rw [show (decide (us = us)) = true from decide_eq_true rfl]
              refine LoadAt.mk 4 _ _ rfl rfl ?_
              refine callQ [] (aGet p q us 1 what w _) ?_
              refine callQ [3, 3] (aRGet30 m q2 us 1 w _) ?_
              refine callQ [] (same10 _ _ _ (by rw [getW_length, ← hn]; omega)) ?_
              exact .done (congrArg AV.bool (decide_eq_true rfl))
            · have c1 : ¬ ((↑k2 : Int) = 0) := c1
              refine With.mk (by omega) ?_
              obtain ⟨j, hj, hjn⟩ := pick_mod (ho os[i] (List.getElem_mem hlt)) (show 0 < k2 by omega)
              have hjl : j < L2.length := by
                have := congrArg List.length hpx
                simp only [List.length_map] at this
                omega
              obtain ⟨j', ws', b', hst⟩ : ∃ j' ws' b', jnStep listOps L2[j].j us = (j', ws', b') := ⟨_, _, _, rfl⟩
              have hjo := hok2 L2[j] (List.getElem_mem hjl)
              refine .sched [] (.one 0 false (.one 1 false (.one 2 false (.one 3 false (.one 4 false (.one 5 false (.one 7 false (.one 8 false (.one 9 false (.one 11 false (.alt 6 (.one 10 false (.one 12 false (.one 13 false (.one 14 false (.one 15 false (.one 16 false (.one 17 false (.one 18 false (.one 19 false (.one 20 false (.one 21 false (.one 22 false (.one 23 false (.one 24 false (.one 25 false (.one 26 false (.one 27 false (.one 28 false (.one 29 false (.one 30 false (.one 31 false (.one 32 false (.one 33 false (.one 34 false (.one 35 false (.one 36 false (.one 37 false (.one 38 false (.one 39 false (.one 40 false (.one 41 false (.one 42 false (.one 43 false (.one 44 false (.one 45 false (.one 46 false (.one 47 false (.one 48 false (.one 49 false (.one 50 false (.one 51 false (.one 52 false (.one 53 false (.one 54 false (.one 55 false (.one 56 false (.one 57 false (.one 58 false (.one 59 false (.one 60 false (.one 61 false (.one 62 false (.one 63 false (.one 64 false .stop)))))))))))))))))))))))))))))))))))))))))))))))))))))) (.one 10 false (.one 6 false (.one 12 false (.one 13 false (.one 14 false (.one 15 false (.one 16 false (.one 17 false (.one 18 false (.one 19 false (.one 20 false (.one 21 false (.one 22 false (.one 23 false (.one 24 false (.one 25 false (.one 26 false (.one 27 false (.one 28 false (.one 29 false (.one 30 false (.one 31 false (.one 32 false (.one 33 false (.one 34 false (.one 35 false (.one 36 false (.one 37 false (.one 38 false (.one 39 false (.one 40 false (.one 41 false (.one 42 false (.one 43 false (.one 44 false (.one 45 false (.one 46 false (.one 47 false (.one 48 false (.one 49 false (.one 50 false (.one 51 false (.one 52 false (.one 53 false (.one 54 false (.one 55 false (.one 56 false (.one 57 false (.one 58 false (.one 59 false (.one 60 false (.one 61 false (.one 62 false (.one 63 false (.one 64 false .stop)))))))))))))))))))))))))))))))))))))))))))))))))))))))))))))))))) (by kernel_rfl) ?_
              refine With.mk ⟨rfl, by rw [hj]; omega, by rw [hj]; omega⟩ ?_
              refine LoadAt.mk 5 _ _ rfl (readMap rfl hpx hjl hj) ?_
              refine With.mk ⟨rfl, by omega, by omega⟩ ?_
              refine And.intro ?_ ?_
              · refine .perm (σ2 := (L2[j].rx, jnC L2[j].j) :: plH p q us ((L2[j].ry, rjC L2[j].j) :: reH m q2 us ((bc, [.int .i64 1, .int .i64 what, .int .i64 w]) :: (lx, L.map OJ.px) :: (ly, L.map OJ.py) :: (L2.eraseIdx j).flatMap OJ.blk))) _ (op_perm hjl) (aJoinP p q L2[j].rx L2[j].j us 0 _ (by have := cw_le L2[j].j.words; have := hjo.1; omega) hst) ?_
                rintro _ _ ⟨rfl, rfl⟩
                refine ⟨(L2[j].ry, rjC L2[j].j) :: reH m q2 us ((L2[j].rx, jnC j') :: plH p q ws' ((bc, [.int .i64 1, .int .i64 what, .int .i64 w]) :: (lx, L.map OJ.px) :: (ly, L.map OJ.py) :: (L2.eraseIdx j).flatMap OJ.blk)), op_perm2, ?_⟩
                refine LoadAt.mk 8 _ _ rfl (readMap rfl hpy hjl hj) ?_
                refine callR [] (aRJ L2[j].ry m q2 L2[j].j us _ hjo hu64 hst) ?_
                refine bcond_split (fun c1 => (neB _ c1).elim) (fun c1 => ?_)
                refine With.mk ⟨rfl, by omega, by omega⟩ ?_
                refine LoadAt.mk 7 _ _ rfl (readMap rfl hpx hjl hj) ?_
                refine LoadAt.mkB 3 _ _ rfl rfl (fun c2 => ?_) (fun c2 => ?_)
                · refine With.mk ⟨rfl, by omega, by omega⟩ ?_
                  refine LoadAt.mk 8 _ _ rfl (readMap rfl hpy hjl hj) ?_
                  refine LoadAt.mkB 0 _ _ rfl rfl (fun c3 => ?_) (fun c3 => absurd (c2.symm.trans c3) (by decide))
                  refine With.mk ⟨rfl, by omega, by omega⟩ ?_
                  refine LoadAt.mk 7 _ _ rfl (readMap rfl hpx hjl hj) ?_
                  refine LoadAt.mkB 3 _ _ rfl rfl (fun c4 => ?_) (fun c4 => ?_)
                  · refine With.mk ⟨rfl, by omega, by omega⟩ ?_
                    refine LoadAt.mk 8 _ _ rfl (readMap rfl hpy hjl hj) ?_
                    refine LoadAt.mkB 0 _ _ rfl rfl (fun c5 => ?_) (fun c5 => absurd (c4.symm.trans c5) (by decide))
                    refine With.mk ⟨rfl, by omega, by omega⟩ ?_
                    refine LoadAt.mk 7 _ _ rfl (readMap rfl hpx hjl hj) ?_
                    refine LoadAt.mk 3 _ _ rfl rfl ?_
                    refine With.mk ⟨rfl, by omega, by omega⟩ ?_
                    refine LoadAt.mk 8 _ _ rfl (readMap rfl hpy hjl hj) ?_
                    refine LoadAt.mk 0 _ _ rfl rfl ?_
                    refine bcond_split (fun c6 => (neP c6).elim) (fun _ => ?_)
                    obtain ⟨hk1, hk2, hk3⟩ := jn_keeps hjo hu64 hst
                    refine nextS (i + 1, ws', L2.set j ⟨L2[j].rx, L2[j].ry, j'⟩) ?_ ⟨hlt, hk3.trans hul, hk2, (map_set_same (f := OJ.px) (o := ⟨L2[j].rx, L2[j].ry, j'⟩) rfl hjl).trans hpx, (map_set_same (f := OJ.py) (o := ⟨L2[j].rx, L2[j].ry, j'⟩) rfl hjl).trans hpy, ?_⟩ ⟨rfl, rfl, rfl, rfl, rfl, rfl, rfl, rfl, inc64 (by omega), trivial⟩ (.perm op_perm3 (shed_eq rfl))
                    · show os.length - (i + 1) < os.length - i; omega
                    · intro o hmem
                      rcases List.mem_or_eq_of_mem_set hmem with h | h
                      · exact hok2 o h
                      · exact h ▸ hk1
                  · refine With.mk ⟨rfl, by omega, by omega⟩ ?_
                    refine LoadAt.mk 8 _ _ rfl (readMap rfl hpy hjl hj) ?_
                    refine LoadAt.mkB 0 _ _ rfl rfl (fun c5 => absurd (c4.symm.trans c5) (by decide)) (fun c5 => ?_)
                    refine With.mk ⟨rfl, by omega, by omega⟩ ?_
                    refine LoadAt.mk 7 _ _ rfl (readMap rfl hpx hjl hj) ?_
                    refine LoadAt.mk 3 _ _ rfl rfl ?_
                    refine With.mk ⟨rfl, by omega, by omega⟩ ?_
                    refine LoadAt.mk 8 _ _ rfl (readMap rfl hpy hjl hj) ?_
                    refine LoadAt.mk 0 _ _ rfl rfl ?_
                    refine bcond_split (fun c6 => (neP c6).elim) (fun _ => ?_)
                    obtain ⟨hk1, hk2, hk3⟩ := jn_keeps hjo hu64 hst
                    refine nextS (i + 1, ws', L2.set j ⟨L2[j].rx, L2[j].ry, j'⟩) ?_ ⟨hlt, hk3.trans hul, hk2, (map_set_same (f := OJ.px) (o := ⟨L2[j].rx, L2[j].ry, j'⟩) rfl hjl).trans hpx, (map_set_same (f := OJ.py) (o := ⟨L2[j].rx, L2[j].ry, j'⟩) rfl hjl).trans hpy, ?_⟩ ⟨rfl, rfl, rfl, rfl, rfl, rfl, rfl, rfl, inc64 (by omega), trivial⟩ (.perm op_perm3 (shed_eq rfl))
                    · show os.length - (i + 1) < os.length - i; omega
                    · intro o hmem
                      rcases List.mem_or_eq_of_mem_set hmem with h | h
                      · exact hok2 o h
                      · exact h ▸ hk1
                · refine With.mk ⟨rfl, by omega, by omega⟩ ?_
                  refine LoadAt.mk 8 _ _ rfl (readMap rfl hpy hjl hj) ?_
                  refine LoadAt.mkB 0 _ _ rfl rfl (fun c3 => absurd (c2.symm.trans c3) (by decide)) (fun c3 => ?_)
                  refine With.mk ⟨rfl, by omega, by omega⟩ ?_
                  refine LoadAt.mk 7 _ _ rfl (readMap rfl hpx hjl hj) ?_
                  refine LoadAt.mkB 3 _ _ rfl rfl (fun c4 => ?_) (fun c4 => ?_)
                  · refine With.mk ⟨rfl, by omega, by omega⟩ ?_
                    refine LoadAt.mk 8 _ _ rfl (readMap rfl hpy hjl hj) ?_
                    refine LoadAt.mkB 0 _ _ rfl rfl (fun c5 => ?_) (fun c5 => absurd (c4.symm.trans c5) (by decide))
                    refine With.mk ⟨rfl, by omega, by omega⟩ ?_
                    refine LoadAt.mk 7 _ _ rfl (readMap rfl hpx hjl hj) ?_
                    refine LoadAt.mk 3 _ _ rfl rfl ?_
                    refine With.mk ⟨rfl, by omega, by omega⟩ ?_
                    refine LoadAt.mk 8 _ _ rfl (readMap rfl hpy hjl hj) ?_
                    refine LoadAt.mk 0 _ _ rfl rfl ?_
                    refine bcond_split (fun c6 => (neP c6).elim) (fun _ => ?_)
                    obtain ⟨hk1, hk2, hk3⟩ := jn_keeps hjo hu64 hst
                    refine nextS (i + 1, ws', L2.set j ⟨L2[j].rx, L2[j].ry, j'⟩) ?_ ⟨hlt, hk3.trans hul, hk2, (map_set_same (f := OJ.px) (o := ⟨L2[j].rx, L2[j].ry, j'⟩) rfl hjl).trans hpx, (map_set_same (f := OJ.py) (o := ⟨L2[j].rx, L2[j].ry, j'⟩) rfl hjl).trans hpy, ?_⟩ ⟨rfl, rfl, rfl, rfl, rfl, rfl, rfl, rfl, inc64 (by omega), trivial⟩ (.perm op_perm3 (shed_eq rfl))
                    · show os.length - (i + 1) < os.length - i; omega
                    · intro o hmem
                      rcases List.mem_or_eq_of_mem_set hmem with h | h
                      · exact hok2 o h
                      · exact h ▸ hk1
                  · refine With.mk ⟨rfl, by omega, by omega⟩ ?_
                    refine LoadAt.mk 8 _ _ rfl (readMap rfl hpy hjl hj) ?_
                    refine LoadAt.mkB 0 _ _ rfl rfl (fun c5 => absurd (c4.symm.trans c5) (by decide)) (fun c5 => ?_)
                    refine With.mk ⟨rfl, by omega, by omega⟩ ?_
                    refine LoadAt.mk 7 _ _ rfl (readMap rfl hpx hjl hj) ?_
                    refine LoadAt.mk 3 _ _ rfl rfl ?_
                    refine With.mk ⟨rfl, by omega, by omega⟩ ?_
                    refine LoadAt.mk 8 _ _ rfl (readMap rfl hpy hjl hj) ?_
                    refine LoadAt.mk 0 _ _ rfl rfl ?_
                    refine bcond_split (fun c6 => (neP c6).elim) (fun _ => ?_)
                    obtain ⟨hk1, hk2, hk3⟩ := jn_keeps hjo hu64 hst
                    refine nextS (i + 1, ws', L2.set j ⟨L2[j].rx, L2[j].ry, j'⟩) ?_ ⟨hlt, hk3.trans hul, hk2, (map_set_same (f := OJ.px) (o := ⟨L2[j].rx, L2[j].ry, j'⟩) rfl hjl).trans hpx, (map_set_same (f := OJ.py) (o := ⟨L2[j].rx, L2[j].ry, j'⟩) rfl hjl).trans hpy, ?_⟩ ⟨rfl, rfl, rfl, rfl, rfl, rfl, rfl, rfl, inc64 (by omega), trivial⟩ (.perm op_perm3 (shed_eq rfl))
                    · show os.length - (i + 1) < os.length - i; omega
                    · intro o hmem
                      rcases List.mem_or_eq_of_mem_set hmem with h | h
                      · exact hok2 o h
                      · exact h ▸ hk1
              · refine LoadAt.mk 6 _ _ rfl (readMap rfl hpy hjl hj) ?_
                refine .perm (σ2 := (L2[j].rx, jnC L2[j].j) :: plH p q us ((L2[j].ry, rjC L2[j].j) :: reH m q2 us ((bc, [.int .i64 1, .int .i64 what, .int .i64 w]) :: (lx, L.map OJ.px) :: (ly, L.map OJ.py) :: (L2.eraseIdx j).flatMap OJ.blk))) _ (op_perm hjl) (aJoinP p q L2[j].rx L2[j].j us 0 _ (by have := cw_le L2[j].j.words; have := hjo.1; omega) hst) ?_
                rintro _ _ ⟨rfl, rfl⟩
                refine ⟨(L2[j].ry, rjC L2[j].j) :: reH m q2 us ((L2[j].rx, jnC j') :: plH p q ws' ((bc, [.int .i64 1, .int .i64 what, .int .i64 w]) :: (lx, L.map OJ.px) :: (ly, L.map OJ.py) :: (L2.eraseIdx j).flatMap OJ.blk)), op_perm2, ?_⟩
                refine callR [] (aRJ L2[j].ry m q2 L2[j].j us _ hjo hu64 hst) ?_
                refine bcond_split (fun c1 => (neB _ c1).elim) (fun c1 => ?_)
                refine With.mk ⟨rfl, by omega, by omega⟩ ?_
                refine LoadAt.mk 7 _ _ rfl (readMap rfl hpx hjl hj) ?_
                refine LoadAt.mkB 3 _ _ rfl rfl (fun c2 => ?_) (fun c2 => ?_)
                · refine With.mk ⟨rfl, by omega, by omega⟩ ?_
                  refine LoadAt.mk 8 _ _ rfl (readMap rfl hpy hjl hj) ?_
                  refine LoadAt.mkB 0 _ _ rfl rfl (fun c3 => ?_) (fun c3 => absurd (c2.symm.trans c3) (by decide))
                  refine With.mk ⟨rfl, by omega, by omega⟩ ?_
                  refine LoadAt.mk 7 _ _ rfl (readMap rfl hpx hjl hj) ?_
                  refine LoadAt.mkB 3 _ _ rfl rfl (fun c4 => ?_) (fun c4 => ?_)
                  · refine With.mk ⟨rfl, by omega, by omega⟩ ?_
                    refine LoadAt.mk 8 _ _ rfl (readMap rfl hpy hjl hj) ?_
                    refine LoadAt.mkB 0 _ _ rfl rfl (fun c5 => ?_) (fun c5 => absurd (c4.symm.trans c5) (by decide))
                    refine With.mk ⟨rfl, by omega, by omega⟩ ?_
                    refine LoadAt.mk 7 _ _ rfl (readMap rfl hpx hjl hj) ?_
                    refine LoadAt.mk 3 _ _ rfl rfl ?_
                    refine With.mk ⟨rfl, by omega, by omega⟩ ?_
                    refine LoadAt.mk 8 _ _ rfl (readMap rfl hpy hjl hj) ?_
                    refine LoadAt.mk 0 _ _ rfl rfl ?_
                    refine bcond_split (fun c6 => (neP c6).elim) (fun _ => ?_)
                    obtain ⟨hk1, hk2, hk3⟩ := jn_keeps hjo hu64 hst
                    refine nextS (i + 1, ws', L2.set j ⟨L2[j].rx, L2[j].ry, j'⟩) ?_ ⟨hlt, hk3.trans hul, hk2, (map_set_same (f := OJ.px) (o := ⟨L2[j].rx, L2[j].ry, j'⟩) rfl hjl).trans hpx, (map_set_same (f := OJ.py) (o := ⟨L2[j].rx, L2[j].ry, j'⟩) rfl hjl).trans hpy, ?_⟩ ⟨rfl, rfl, rfl, rfl, rfl, rfl, rfl, rfl, inc64 (by omega), trivial⟩ (.perm op_perm3 (shed_eq rfl))
                    · show os.length - (i + 1) < os.length - i; omega
                    · intro o hmem
                      rcases List.mem_or_eq_of_mem_set hmem with h | h
                      · exact hok2 o h
                      · exact h ▸ hk1
                  · refine With.mk ⟨rfl, by omega, by omega⟩ ?_
                    refine LoadAt.mk 8 _ _ rfl (readMap rfl hpy hjl hj) ?_
                    refine LoadAt.mkB 0 _ _ rfl rfl (fun c5 => absurd (c4.symm.trans c5) (by decide)) (fun c5 => ?_)
                    refine With.mk ⟨rfl, by omega, by omega⟩ ?_
                    refine LoadAt.mk 7 _ _ rfl (readMap rfl hpx hjl hj) ?_
                    refine LoadAt.mk 3 _ _ rfl rfl ?_
                    refine With.mk ⟨rfl, by omega, by omega⟩ ?_
                    refine LoadAt.mk 8 _ _ rfl (readMap rfl hpy hjl hj) ?_
                    refine LoadAt.mk 0 _ _ rfl rfl ?_
                    refine bcond_split (fun c6 => (neP c6).elim) (fun _ => ?_)
                    obtain ⟨hk1, hk2, hk3⟩ := jn_keeps hjo hu64 hst
                    refine nextS (i + 1, ws', L2.set j ⟨L2[j].rx, L2[j].ry, j'⟩) ?_ ⟨hlt, hk3.trans hul, hk2, (map_set_same (f := OJ.px) (o := ⟨L2[j].rx, L2[j].ry, j'⟩) rfl hjl).trans hpx, (map_set_same (f := OJ.py) (o := ⟨L2[j].rx, L2[j].ry, j'⟩) rfl hjl).trans hpy, ?_⟩ ⟨rfl, rfl, rfl, rfl, rfl, rfl, rfl, rfl, inc64 (by omega), trivial⟩ (.perm op_perm3 (shed_eq rfl))
                    · show os.length - (i + 1) < os.length - i; omega
                    · intro o hmem
                      rcases List.mem_or_eq_of_mem_set hmem with h | h
                      · exact hok2 o h
                      · exact h ▸ hk1
                · refine With.mk ⟨rfl, by omega, by omega⟩ ?_
                  refine LoadAt.mk 8 _ _ rfl (readMap rfl hpy hjl hj) ?_
                  refine LoadAt.mkB 0 _ _ rfl rfl (fun c3 => absurd (c2.symm.trans c3) (by decide)) (fun c3 => ?_)
                  refine With.mk ⟨rfl, by omega, by omega⟩ ?_
                  refine LoadAt.mk 7 _ _ rfl (readMap rfl hpx hjl hj) ?_
                  refine LoadAt.mkB 3 _ _ rfl rfl (fun c4 => ?_) (fun c4 => ?_)
                  · refine With.mk ⟨rfl, by omega, by omega⟩ ?_
                    refine LoadAt.mk 8 _ _ rfl (readMap rfl hpy hjl hj) ?_
                    refine LoadAt.mkB 0 _ _ rfl rfl (fun c5 => ?_) (fun c5 => absurd (c4.symm.trans c5) (by decide))
                    refine With.mk ⟨rfl, by omega, by omega⟩ ?_
                    refine LoadAt.mk 7 _ _ rfl (readMap rfl hpx hjl hj) ?_
                    refine LoadAt.mk 3 _ _ rfl rfl ?_
                    refine With.mk ⟨rfl, by omega, by omega⟩ ?_
                    refine LoadAt.mk 8 _ _ rfl (readMap rfl hpy hjl hj) ?_
                    refine LoadAt.mk 0 _ _ rfl rfl ?_
                    refine bcond_split (fun c6 => (neP c6).elim) (fun _ => ?_)
                    obtain ⟨hk1, hk2, hk3⟩ := jn_keeps hjo hu64 hst
                    refine nextS (i + 1, ws', L2.set j ⟨L2[j].rx, L2[j].ry, j'⟩) ?_ ⟨hlt, hk3.trans hul, hk2, (map_set_same (f := OJ.px) (o := ⟨L2[j].rx, L2[j].ry, j'⟩) rfl hjl).trans hpx, (map_set_same (f := OJ.py) (o := ⟨L2[j].rx, L2[j].ry, j'⟩) rfl hjl).trans hpy, ?_⟩ ⟨rfl, rfl, rfl, rfl, rfl, rfl, rfl, rfl, inc64 (by omega), trivial⟩ (.perm op_perm3 (shed_eq rfl))
                    · show os.length - (i + 1) < os.length - i; omega
                    · intro o hmem
                      rcases List.mem_or_eq_of_mem_set hmem with h | h
                      · exact hok2 o h
                      · exact h ▸ hk1
                  · refine With.mk ⟨rfl, by omega, by omega⟩ ?_
                    refine LoadAt.mk 8 _ _ rfl (readMap rfl hpy hjl hj) ?_
                    refine LoadAt.mkB 0 _ _ rfl rfl (fun c5 => absurd (c4.symm.trans c5) (by decide)) (fun c5 => ?_)
                    refine With.mk ⟨rfl, by omega, by omega⟩ ?_
                    refine LoadAt.mk 7 _ _ rfl (readMap rfl hpx hjl hj) ?_
                    refine LoadAt.mk 3 _ _ rfl rfl ?_
                    refine With.mk ⟨rfl, by omega, by omega⟩ ?_
                    refine LoadAt.mk 8 _ _ rfl (readMap rfl hpy hjl hj) ?_
                    refine LoadAt.mk 0 _ _ rfl rfl ?_
                    refine bcond_split (fun c6 => (neP c6).elim) (fun _ => ?_)
                    obtain ⟨hk1, hk2, hk3⟩ := jn_keeps hjo hu64 hst
                    refine nextS (i + 1, ws', L2.set j ⟨L2[j].rx, L2[j].ry, j'⟩) ?_ ⟨hlt, hk3.trans hul, hk2, (map_set_same (f := OJ.px) (o := ⟨L2[j].rx, L2[j].ry, j'⟩) rfl hjl).trans hpx, (map_set_same (f := OJ.py) (o := ⟨L2[j].rx, L2[j].ry, j'⟩) rfl hjl).trans hpy, ?_⟩ ⟨rfl, rfl, rfl, rfl, rfl, rfl, rfl, rfl, inc64 (by omega), trivial⟩ (.perm op_perm3 (shed_eq rfl))
                    · show os.length - (i + 1) < os.length - i; omega
                    · intro o hmem
                      rcases List.mem_or_eq_of_mem_set hmem with h | h
                      · exact hok2 o h
                      · exact h ▸ hk1
          · refine .quiet (by kernel_rfl) ?_
            refine callQ [] (aAll p q us _ (by omega)) ?_
            refine LoadAt.mk 2 _ _ rfl rfl ?_
            refine callQ [3] (same10m us us q2 _ (by omega)) ?_
            rw [show (decide (us = us)) = true from decide_eq_true rfl]
            refine LoadAt.mk 4 _ _ rfl rfl ?_
            refine callQ [] (aGet p q us 1 what w _) ?_
            refine callQ [3, 3] (aRGet30 m q2 us 1 w _) ?_
            refine callQ [] (same10 _ _ _ (by rw [getW_length, ← hn]; omega)) ?_
            exact .done (congrArg AV.bool (decide_eq_true rfl))
end Go.Proofs.Ytldiocdjgbehcaa
