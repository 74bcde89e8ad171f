/-
  queue.line: put, all; order.Is, soughref14.Is; system.Bottom, its list open.
  order.Is, soughref14.Is.
  queue.Solve.
-/
import Derived.Test.YteccfogpajbigaaGreatQa
import Derived.Test.YteccfogpajbigaaGreatZd
import Derived.Test.YteccfogpajbigaaGreatBd
import Derived.Test.YteccfogpajbigaaGreatTu
namespace Go.Proofs.YteccfogpajbigaaGreat
open Go.RowKit
set_option maxRecDepth 100000
theorem getM_put : ∀ (l : List (Int × Int)) (n x z : Int), getM (putM l n x) z = if z = n then some x else getM l z
  | [], n, x, z => by
    by_cases h : z = n
    · subst h; simp [putM, getM]
    · rw [if_neg h]; unfold putM getM; rw [if_neg (fun e => h e.symm)]; rfl
  | p :: l, n, x, z => by
    by_cases hp : p.1 = n
    · have e : putM (p :: l) n x = (n, x) :: l := if_pos hp
      rw [e]
      by_cases h : z = n
      · subst h; rw [if_pos rfl]; exact if_pos rfl
      · rw [if_neg h]
        show (if n = z then some x else getM l z) = (if p.1 = z then some p.2 else getM l z)
        rw [if_neg (fun e => h e.symm), if_neg (fun e => h (e.symm.trans hp))]
    · have e : putM (p :: l) n x = p :: putM l n x := if_neg hp
      rw [e]
      show (if p.1 = z then some p.2 else getM (putM l n x) z) = if z = n then some x else (if p.1 = z then some p.2 else getM l z)
      by_cases h2 : p.1 = z
      · rw [if_pos h2, if_pos h2, if_neg (fun e => hp (h2.trans e))]
      · rw [if_neg h2, if_neg h2, getM_put l n x z]
theorem YCalls.mono {l : Nat} {xs : List AV} {σ : Hp} {R R' : AV → Hp → Prop} (h : YCalls Tryz.prog l xs σ R) (hr : ∀ r σ', R r σ' → R' r σ') : YCalls Tryz.prog l xs σ R' := fun F w vs hv hσ => by
  obtain ⟨f, tm, a, b, h1, h2⟩ := h F w vs hv hσ
  exact ⟨f, tm, a, b, h1, RoundIn.mono h2 fun e w' ⟨r, v, σ', F', k1, k2, k3, k4, k5⟩ => ⟨r, v, σ', F', k1, k2, k3, k4, hr _ _ k5⟩⟩
/-- A line of waiting numbers: a list and a map. -/
structure LQ (v : AV) (acc : Hp) (ml : List (Int × Int)) (w : List Int) : Prop where
  acc : AccO 1 w.length v acc (inC w)
  mp : ∀ z, (getM ml z).getD 0 = if z ∈ w then 1 else 0
theorem LQ.nil : LQ .nils [] [] [] := ⟨.nil, fun z => by simp [getM]⟩
theorem LQ.push {v v' : AV} {acc acc' : Hp} {ml : List (Int × Int)} {w : List Int} {z : Int} (h : LQ v acc ml w) (h' : AccO 1 (w.length + 1) v' acc' (inC w ++ [.int .i64 z])) : LQ v' acc' (putM ml z 1) (w ++ [z]) :=
  ⟨by rw [List.length_append, show inC (w ++ [z]) = inC w ++ [.int .i64 z] from List.map_append]; exact h', fun y => by
    rw [getM_put]
    by_cases e : y = z
    · subst e; simp
    · rw [if_neg e, h.mp y]; simp [e]⟩
theorem LQ.pop {v : AV} {acc : Hp} {ml : List (Int × Int)} {u : Int} {w : List Int} (h : LQ v acc ml (u :: w)) (hn : u ∉ w) : ∃ b off all, v = .mref b off (w.length + 1) 1 ∧ acc = [(b, all)] ∧ all[off]? = some (.int .i64 u) ∧ off + (w.length + 1) ≤ all.length ∧ LQ (.mref b (off + 1) w.length 1) [(b, all)] (putM ml u 0) w := by
  obtain ⟨ha, hm⟩ := h
  obtain ⟨k, hk⟩ : ∃ k, k = (u :: w).length := ⟨_, rfl⟩
  obtain ⟨cs, hcs⟩ : ∃ cs, cs = inC (u :: w) := ⟨_, rfl⟩
  rw [← hk, ← hcs] at ha
  cases ha with
  | nil => cases hk
  | mref b off k cs all h1 h2 =>
    subst hk
    rw [hcs, Nat.mul_one] at h1
    rw [Nat.mul_one] at h2
    have h2 : off + (w.length + 1) ≤ all.length := h2
    have h3 : (all.drop off)[0]? = some (.int .i64 u) := by
      have := congrArg (fun l => l[0]?) h1
      simpa [List.getElem?_take, inC] using this
    rw [List.getElem?_drop, Nat.add_zero] at h3
    refine ⟨b, off, all, rfl, rfl, h3, h2, .mref _ _ _ _ _ ?_ (by omega), fun y => ?_⟩
    · have := congrArg (List.drop 1) h1
      rw [List.drop_take, List.drop_drop] at this
      rw [Nat.mul_one]
      simpa [inC] using this
    · rw [getM_put]
      by_cases e : y = u
      · subst e; rw [if_pos rfl, if_neg hn]; rfl
      · rw [if_neg e, hm y]; simp [e]
theorem accO_in {b off k : Nat} {cs all : List AV} {x : AV} (h : (all.drop off).take (k * 1) = cs) (h2 : off + k * 1 ≤ all.length) : AccO 1 (k + 1) (.mref b off (k + 1) 1) [(b, all.take (off + k * 1) ++ [x])] (cs ++ [x]) := by
  have hl : cs.length = k := by rw [← h]; simp; omega
  refine .mref _ _ _ _ _ ?_ ?_
  · have e1 : (all.take (off + k * 1) ++ [x]).drop off = cs ++ [x] := by
      rw [List.drop_append_of_le_length (by simp; omega), List.drop_take, ← h]
      congr 2
      omega
    rw [e1]
    exact List.take_of_length_le (by simp [hl])
  · simp; omega
theorem accO_new {b k : Nat} {cs : List AV} {x : AV} (hl : cs.length = k) : AccO 1 (k + 1) (.mref b 0 (k + 1) 1) [(b, cs ++ [x])] (cs ++ [x]) := by
  refine .mref _ _ _ _ _ ?_ ?_
  · rw [List.drop_zero]
    exact List.take_of_length_le (by simp [hl])
  · simp [hl]
theorem aLinePut (ql bm : Nat) {v : AV} {acc : Hp} {ml : List (Int × Int)} {w : List Int} (z : Int) (σ : Hp) (h : LQ v acc ml w) (hl : w.length ≤ 100000) : ACalls Tryz.prog 51 [.ptr ql 0, .int .i64 z] ((ql, [v, .mapr bm]) :: (bm, [.mapc ml]) :: (acc ++ σ)) (fun r σ' => r = .tup [] ∧ ∃ v' acc' ml', LQ v' acc' ml' (qPut w z) ∧ σ' = (ql, [v', .mapr bm]) :: (bm, [.mapc ml']) :: (acc' ++ σ)) := by
  have hm := h.mp z
  by_cases hz : z ∈ w
  · refine okF Tryz.func51 (by kernel_rfl) ?_
    refine LoadAt.mk 0 _ _ rfl rfl ?_
    refine MapAt.mk 1 _ _ rfl rfl ?_
    refine bcond_dec (p := (getM ml z).getD 0 = 0) (fun c => ?_) (fun c => ?_)
    · rw [if_pos hz] at hm; omega
    · have e : qPut w z = w := if_pos hz
      exact .done ⟨rfl, v, acc, ml, by rw [e]; exact h, rfl⟩
  · have e : qPut w z = w ++ [z] := if_neg hz
    have push := fun {v' : AV} {acc' : Hp} => h.push (v' := v') (acc' := acc') (z := z)
    have hacc := h.acc
    clear h
    obtain ⟨k, hk⟩ : ∃ k, k = w.length := ⟨_, rfl⟩
    obtain ⟨cs, hcs⟩ : ∃ cs, cs = inC w := ⟨_, rfl⟩
    rw [← hk, ← hcs] at hacc
    rw [← hk, ← hcs] at push
    refine okF Tryz.func51 (by kernel_rfl) ?_
    cases hacc with
    | nil =>
      refine LoadAt.mk 0 _ _ rfl rfl ?_
      refine MapAt.mk 1 _ _ rfl rfl ?_
      refine bcond_dec (p := (getM ml z).getD 0 = 0) (fun c => ?_) (fun c => ?_)
      · refine LoadAt.mk 0 _ _ rfl rfl ?_
        refine MapAt.mk 1 _ _ rfl rfl ?_
        refine LoadAt.mk 0 _ _ rfl rfl ?_
        intro bl1
        refine AppendAt.fresh 1 _ (.inl rfl) (.mref 0 bl1 0 1 _ rfl (Nat.le_of_ble_eq_true rfl)) (by decide) (by decide) (by decide) (fun _ b => ?_) (fun e => by cases e)
        refine StoreAt.mk 2 _ _ rfl rfl ?_
        exact .drop 1 1 (.pull [2, 2] (.done ⟨rfl, _, [(b, [.int .i64 z])], _, by rw [e]; exact push (accO_new (cs := []) rfl), rfl⟩))
      · rw [if_neg hz] at hm; exact absurd hm c
    | mref b off k cs all h1 h2 =>
      have hl1 : cs.length = k := by rw [← h1]; simp; omega
      refine LoadAt.mk 0 _ _ rfl rfl ?_
      refine MapAt.mk 1 _ _ rfl rfl ?_
      refine bcond_dec (p := (getM ml z).getD 0 = 0) (fun c => ?_) (fun c => ?_)
      · refine LoadAt.mk 0 _ _ rfl rfl ?_
        refine MapAt.mk 1 _ _ rfl rfl ?_
        refine LoadAt.mk 0 _ _ rfl rfl ?_
        intro bl1
        refine AppendAt.moreO 3 b off k 1 all _ rfl rfl h2 (.mref 0 bl1 0 1 _ rfl (Nat.le_of_ble_eq_true rfl)) (show k + 1 ≤ 1048576 by omega) (by decide) (by decide) ?_ (fun b' => ?_)
        · refine StoreAt.mk 2 _ _ rfl rfl ?_
          exact .drop 1 1 (.pull [2, 2] (.done ⟨rfl, _, [(b, all.take (off + k * 1) ++ [.int .i64 z])], _, by rw [e]; exact push (accO_in h1 h2), rfl⟩))
        · refine StoreAt.mk 2 _ _ rfl rfl ?_
          exact .drop 1 1 (.pull [2, 2] (.done ⟨rfl, _, [(b', (all.drop off).take (k * 1) ++ [.int .i64 z])], _, by rw [e, h1]; exact push (accO_new hl1), rfl⟩))
      · rw [if_neg hz] at hm; exact absurd hm c
theorem aLinePutF (fr : Hp) (ql bm : Nat) {v : AV} {acc : Hp} {ml : List (Int × Int)} {w : List Int} (z : Int) (σ : Hp) (h : LQ v acc ml w) (hl : w.length ≤ 100000) : ACalls Tryz.prog 51 [.ptr ql 0, .int .i64 z] ((ql, [v, .mapr bm]) :: (bm, [.mapc ml]) :: (fr ++ (acc ++ σ))) (fun r σ' => r = .tup [] ∧ ∃ v' acc' ml', LQ v' acc' ml' (qPut w z) ∧ σ' = (ql, [v', .mapr bm]) :: (bm, [.mapc ml']) :: (fr ++ (acc' ++ σ))) := by
  refine ((aLinePut ql bm z (fr ++ σ) h hl).perm (.cons _ (.cons _ (mid_perm fr acc σ)))).fin ?_
  rintro r σ' ⟨rfl, v', acc', ml', h', rfl⟩
  exact .perm (.cons _ (.cons _ (mid_perm fr acc' σ).symm)) (.done ⟨rfl, v', acc', ml', h', rfl⟩)
/-- What ranges over a line: each round takes the first number, and comes to the next state. -/
theorem aLineAll (l bb ql bm : Nat) (rd : AV) (fr : QS → Hp) (σ : Hp) (p : QS → Prop) (μ : QS → Nat) (nx : QS → QS)
    (hnd : ∀ q, p q → q.wait.Nodup)
    (hn : ∀ q u r, p q → q.wait = u :: r → p (nx q) ∧ μ (nx q) < μ q)
    (hY : ∀ q u r v acc ml, p q → q.wait = u :: r → LQ v acc ml r → YCalls Tryz.prog l [.int .i64 u] ((l, [rd]) :: (ql, [v, .mapr bm]) :: (bm, [.mapc ml]) :: (bb, [.ptr ql 0]) :: (fr q ++ (acc ++ σ))) (fun r' σ' => r' = .bool true ∧ ∃ v' acc' ml', LQ v' acc' ml' (nx q).wait ∧ σ' = (l, [rd]) :: (ql, [v', .mapr bm]) :: (bm, [.mapc ml']) :: (bb, [.ptr ql 0]) :: (fr (nx q) ++ (acc' ++ σ))))
    (q0 : QS) (v : AV) (acc : Hp) (ml : List (Int × Int)) (h0 : p q0) (hq : LQ v acc ml q0.wait) :
    ACalls Tryz.prog 93 [.fn (.yield l) [] [], .ptr bb 0] ((l, [rd]) :: (ql, [v, .mapr bm]) :: (bm, [.mapc ml]) :: (bb, [.ptr ql 0]) :: (fr q0 ++ (acc ++ σ))) (fun _ σ' => ∃ q v' acc' ml', p q ∧ q.wait = [] ∧ LQ v' acc' ml' [] ∧ σ' = (l, [rd]) :: (ql, [v', .mapr bm]) :: (bm, [.mapc ml']) :: (bb, [.ptr ql 0]) :: (fr q ++ (acc' ++ σ))) := by
  refine okF Tryz.func93 (by kernel_rfl) ?_
  refine loopS (S := QS × AV × Hp × List (Int × Int)) (fun _ => [(0, .fn (.yield l) [] []), (1, .ptr bb 0)]) (fun s => (l, [rd]) :: (ql, [s.2.1, .mapr bm]) :: (bm, [.mapc s.2.2.2]) :: (bb, [.ptr ql 0]) :: (fr s.1 ++ (s.2.2.1 ++ σ))) (fun s => p s.1 ∧ LQ s.2.1 s.2.2.1 s.2.2.2 s.1.wait) (fun s => μ s.1) (q0, v, acc, ml) ⟨⟨h0, hq⟩, ⟨rfl, rfl, trivial⟩, rfl⟩ ?_
  rintro ⟨q, v, acc, ml⟩ g ⟨hp0, hq0⟩
  have hp : p q := hp0
  have hq : LQ v acc ml q.wait := hq0
  clear hp0 hq0
  have hnd := hnd q hp
  cases hw : q.wait with
  | nil =>
    rw [hw] at hq
    have hfin : ∀ (v : AV) (acc : Hp), LQ v acc ml [] → v = .nils ∨ ∃ b off, v = .mref b off 0 1 := fun v acc h => by
      obtain ⟨ha, _⟩ := h
      obtain ⟨k, hk⟩ : ∃ k, k = ([] : List Int).length := ⟨_, rfl⟩
      rw [← hk] at ha
      cases ha with
      | nil => exact .inl rfl
      | mref b off k cs all => subst hk; exact .inr ⟨b, off, rfl⟩
    rcases hfin v acc hq with rfl | ⟨b, off, rfl⟩
    · refine LoadAt.mk 3 _ _ rfl rfl ?_
      refine LoadAt.mk 1 _ _ rfl rfl ?_
      refine .done ⟨q, _, acc, ml, hp, hw, hq, rfl⟩
    · refine LoadAt.mk 3 _ _ rfl rfl ?_
      refine LoadAt.mk 1 _ _ rfl rfl ?_
      refine .done ⟨q, _, acc, ml, hp, hw, hq, rfl⟩
  | cons u r =>
    rw [hw] at hq hnd
    obtain ⟨b, off, all, rfl, rfl, h1, h2, h3⟩ := hq.pop (List.nodup_cons.1 hnd).1
    have hY := hY q u r _ _ _ hp hw h3
    have hn := hn q u r hp hw
    have hblk : ((l, [rd]) :: (ql, [.mref b off (r.length + 1) 1, .mapr bm]) :: (bm, [.mapc ml]) :: (bb, [.ptr ql 0]) :: (fr q ++ ([(b, all)] ++ σ)))[(fr q).length + 4]? = some (b, all) := get_mid (fr q) σ (b, all)
    refine LoadAt.mk 3 _ _ rfl rfl ?_
    refine LoadAt.mk 1 _ _ rfl rfl ?_
    refine bcond_dec (fun c1 => ?_) (fun c1 => ?_)
    · have c1 : 0 < (↑(r.length + 1) : Int) := c1
      refine LoadAt.mk 3 _ _ rfl rfl ?_
      refine LoadAt.mk 1 _ _ rfl rfl ?_
      refine With.mk ⟨rfl, by omega, by omega⟩ ?_
      refine LoadAt.mk _ _ _ hblk (show readAs ⟨.int .i64, 1, 8, [.int .i64 0]⟩ all (off + Int.toNat 0 * 1) = some (.int .i64 u) from h1) ?_
      refine .sched [] (upto [] 9 0) (by kernel_rfl) ?_
      refine LoadAt.mk 3 _ _ rfl rfl ?_
      refine LoadAt.mk 3 _ _ rfl rfl ?_
      refine LoadAt.mk 1 _ _ rfl rfl ?_
      refine With.mk ⟨by omega, by omega, by omega, rfl⟩ ?_
      refine StoreAt.mk 1 _ _ rfl rfl ?_
      refine LoadAt.mk 3 _ _ rfl rfl ?_
      refine LoadAt.mk 1 _ _ rfl rfl ?_
      refine MapAt.mk 2 _ _ rfl rfl ?_
      refine YieldAt.mk [] _ hY ?_
      rintro r' σ' ⟨rfl, v', acc', ml', hq', rfl⟩
      exact nextS (nx q, v', acc', ml') hn.2 ⟨hn.1, hq'⟩ ⟨rfl, rfl, trivial⟩ (.refl _)
    · have c1 : ¬ (0 < (↑(r.length + 1) : Int)) := c1
      omega
end Go.Proofs.YteccfogpajbigaaGreat
namespace Go.Proofs.YteccfogpajbigaaGreat
open Go.RowKit
set_option maxRecDepth 100000
theorem rangeI_inc (m : Nat) : ((List.range m).map fun i : Nat => (i : Int)).Pairwise (· < ·) := by
  rw [List.pairwise_map]
  exact List.pairwise_lt_range.imp fun h => by omega
theorem sortI_perm (zs : List Int) : (sortI zs).Perm zs := List.mergeSort_perm _ _
theorem ord_sort {n : Int} {p : List Int} : IsOrd n p ↔ (p.length : Int) = n ∧ ∀ i : Nat, ∀ h : i < (sortI p).length, (sortI p)[i] = i := by
  constructor
  · intro h
    refine ⟨h.len, ?_⟩
    have hs : sortI p = (List.range p.length).map fun i : Nat => (i : Int) := by
      refine inc_ext ?_ (rangeI_inc _) fun x => ?_
      · have h2 : (sortI p).Nodup := (sortI_perm p).nodup_iff.2 h.nd
        exact ((sortI_sorted p).and h2).imp fun ⟨h3, h4⟩ => by omega
      · rw [sortI_mem, List.mem_map]
        have hl := h.len
        constructor
        · intro hx
          have := h.mem x hx
          exact ⟨x.toNat, List.mem_range.2 (by omega), by omega⟩
        · rintro ⟨i, hi, rfl⟩
          have := List.mem_range.1 hi
          exact h.all _ (by omega)
    intro i hi
    have : (sortI p)[i]? = some (i : Int) := by
      rw [hs, List.getElem?_map, List.getElem?_range (by rw [sortI_length] at hi; exact hi)]; rfl
    rw [List.getElem?_eq_getElem hi] at this
    exact Option.some.inj this
  · rintro ⟨h1, h2⟩
    have hs : sortI p = (List.range p.length).map fun i : Nat => (i : Int) := by
      refine List.ext_getElem (by simp [sortI_length]) fun i h3 h4 => ?_
      rw [h2 i h3]; simp
    have hm : ∀ x, x ∈ p ↔ 0 ≤ x ∧ x < n := fun x => by
      rw [← sortI_mem, hs, List.mem_map]
      constructor
      · rintro ⟨i, hi, rfl⟩
        have := List.mem_range.1 hi
        omega
      · intro hx
        exact ⟨x.toNat, List.mem_range.2 (by omega), by omega⟩
    refine ⟨h1, ?_, fun z hz => (hm z).1 hz, fun z hz => (hm z).2 hz⟩
    rw [← (sortI_perm p).nodup_iff, hs]
    exact (rangeI_inc _).imp fun h => by omega
/-- A bool that tells whether p. -/
def IffP (p : Prop) (σ : Hp) : AV → Hp → Prop := fun r σ' => ∃ b : Bool, r = .bool b ∧ σ' = σ ∧ (b = true ↔ p)
theorem callI {f : FuncId} {xs : List AV} {σ : Hp} {K : AV → Hp → Prop} (js : List Nat) {p : Prop} {σ2 : Hp} (h : ACalls Tryz.prog f xs (pulls js σ) (IffP p σ2)) (k1 : p → K (.bool true) σ2) (k2 : ¬ p → K (.bool false) σ2) : CallAt Tryz.prog f K xs σ :=
  .mk js _ h fun r σ' ⟨b, h1, h2, h3⟩ => by
    subst h1 h2
    cases b with
    | true => exact k1 (h3.1 rfl)
    | false => exact k2 fun hp => Bool.false_ne_true (h3.2 hp)
theorem aOrderIs (n : Int) (p : List Int) (σ : Hp) (hl : p.length ≤ 100000) : ACalls Tryz.prog 49 [.int .i64 n, .fsl (.int .i64) p] σ (IffP (IsOrd n p) σ) := by
  refine okF Tryz.func49 (by kernel_rfl) ?_
  refine .mk [] _ (aCloneIA p σ (Nat.le_trans hl (by decide))) ?_
  rintro v σ' ⟨acc, hacc, rfl⟩
  obtain ⟨m, hm⟩ : ∃ m, m = p.length := ⟨_, rfl⟩
  have hacc : Acc 1 m v acc (inC p) := by rw [hm, inC_flat]; exact hacc
  obtain ⟨cs, hcs⟩ : ∃ cs, cs = inC p := ⟨_, rfl⟩
  rw [← hcs] at hacc
  cases hacc with
  | nil =>
    have hp : p = [] := List.length_eq_zero_iff.1 hm.symm
    subst hp
    refine callR [] (aSortN _) ?_
    refine loopS (S := Unit) (fun _ => [(0, .int .i64 n), (1, .nils), (11, .nils), (12, .int .i64 0), (13, .int .i64 0)]) (fun _ => σ) (fun _ => True) (fun _ => 0) () ⟨trivial, ⟨rfl, rfl, rfl, rfl, rfl, trivial⟩, rfl⟩ ?_
    rintro ⟨⟩ g -
    have hord := ord_sort (n := n) (p := [])
    refine bcond_dec (p := n = 0) (fun c => ?_) (fun c => ?_)
    · exact .done ⟨true, rfl, rfl, fun _ => hord.2 ⟨c.symm, fun i h => by rw [sortI_length] at h; cases h⟩, fun _ => rfl⟩
    · exact .done ⟨false, rfl, rfl, fun h => (by cases h), fun h => absurd (hord.1 h).1.symm c⟩
  | mref b m cs h =>
    subst hcs
    refine callR [] (aSortI b p m σ hm.symm (by omega)) ?_
    have hsl := (sortI_length p).trans hm.symm
    have hord := ord_sort (n := n) (p := p)
    rw [← hm] at hord
    refine loopS (S := Nat) (fun k => [(0, .int .i64 n), (1, .mref b 0 m 1), (11, .mref b 0 m 1), (12, .int .i64 m), (13, .int .i64 k)]) (fun _ => (b, inC (sortI p)) :: σ) (fun k => k ≤ m ∧ ∀ i : Nat, i < k → ∀ h : i < (sortI p).length, (sortI p)[i] = i) (fun k => m - k) 0 ⟨⟨Nat.zero_le _, fun i h => absurd h (Nat.not_lt_zero i)⟩, ⟨rfl, rfl, rfl, rfl, rfl, trivial⟩, rfl⟩ ?_
    rintro k g ⟨hk0, hi0⟩
    have hk : k ≤ m := hk0
    have hi : ∀ i : Nat, i < k → ∀ h : i < (sortI p).length, (sortI p)[i] = i := hi0
    clear hk0 hi0
    refine bcond_dec (fun hlt => ?_) (fun hge => ?_)
    · have hlt : k < m := by have hlt : (k : Int) < m := hlt; omega
      refine With.mk ⟨rfl, by omega, by omega⟩ ?_
      refine LoadAt.mk 0 _ _ rfl (inC_read (by omega)) ?_
      refine bcond_split (fun c => ?_) (fun c => ?_)
      · exact .drop 0 1 (.done ⟨false, rfl, rfl, fun h => (by cases h), fun h => absurd ((hord.1 h).2 k (by omega)).symm (by simpa using c)⟩)
      · have hkk : (sortI p)[k] = (k : Int) := by have c : (!decide ((k : Int) = (sortI p)[k])) = false := c; exact (by simpa using c : (k : Int) = (sortI p)[k]).symm
        refine nextS (k + 1) (by show m - (k + 1) < m - k; omega) ⟨hlt, fun i hik h => ?_⟩ ⟨rfl, rfl, rfl, rfl, inc64 (by omega), trivial⟩ (.refl _)
        rcases Nat.lt_succ_iff_lt_or_eq.1 hik with h2 | h2
        · exact hi i h2 h
        · subst h2; exact hkk
    · have hge : k = m := by have hge : ¬ (k : Int) < m := hge; omega
      subst hge
      refine bcond_dec (fun c => ?_) (fun c => ?_)
      · exact .drop 0 1 (.done ⟨true, rfl, rfl, fun _ => hord.2 ⟨c.symm, fun i h => hi i (by omega) h⟩, fun _ => rfl⟩)
      · exact .drop 0 1 (.done ⟨false, rfl, rfl, fun h => (by cases h), fun h => absurd (hord.1 h).1.symm c⟩)
theorem pig : ∀ (l m : List Int), l.Nodup → (∀ x ∈ l, x ∈ m) → m.length ≤ l.length → m.Perm l
  | [], m, _, _, h => by rw [List.length_eq_zero_iff.1 (Nat.le_zero.1 h)]
  | x :: l, m, hn, hs, h => by
    obtain ⟨h1, h2⟩ := List.nodup_cons.1 hn
    have hx := hs x (List.mem_cons_self ..)
    have hl := List.length_erase_of_mem hx
    have := List.length_pos_of_mem hx
    have ih := pig l (m.erase x) h2 (fun y hy => (List.mem_erase_of_ne (show y ≠ x from fun e => h1 (by rw [← e]; exact hy))).2 (hs y (List.mem_cons_of_mem _ hy))) (by simp only [List.length_cons] at h; omega)
    exact (List.perm_cons_erase hx).trans (.cons x ih)
theorem ord_all {n : Int} {p : List Int} : IsOrd n p ↔ (∀ a : Nat, (a : Int) < n → (a : Int) ∈ p) ∧ n = p.length := by
  constructor
  · exact fun h => ⟨fun a ha => h.all _ (by omega), h.len.symm⟩
  · rintro ⟨h1, h2⟩
    have hp := pig ((List.range p.length).map fun i : Nat => (i : Int)) p ((rangeI_inc _).imp fun h => by omega) (fun x hx => by
      obtain ⟨i, hi, rfl⟩ := List.mem_map.1 hx
      exact h1 i (by have := List.mem_range.1 hi; omega)) (by simp)
    have hm : ∀ x, x ∈ p ↔ 0 ≤ x ∧ x < n := fun x => by
      rw [hp.mem_iff, List.mem_map]
      constructor
      · rintro ⟨i, hi, rfl⟩
        have := List.mem_range.1 hi
        omega
      · intro hx
        exact ⟨x.toNat, List.mem_range.2 (by omega), by omega⟩
    exact ⟨h2.symm, hp.nodup_iff.2 ((rangeI_inc _).imp fun h => by omega), fun z hz => (hm z).1 hz, fun z hz => (hm z).2 hz⟩
theorem aRIs14 (n : Int) (p : List Int) (σ : Hp) (hl : p.length ≤ 100000) (hn : 0 ≤ n ∧ n ≤ 100000) : ACalls Tryz.prog 15 [.int .i64 n, .fsl (.int .i64) p] σ (IffP (IsOrd n p) σ) := by
  obtain ⟨N, rfl⟩ : ∃ N : Nat, n = N := ⟨n.toNat, by omega⟩
  have hord := ord_all (n := N) (p := p)
  refine okF Tryz.func15 (by kernel_rfl) ?_
  refine loopS (S := Nat) (fun k => [(0, .int .i64 N), (1, .fsl (.int .i64) p), (5, .int .i64 k)]) (fun _ => σ) (fun k => k ≤ N ∧ ∀ a : Nat, a < k → (a : Int) ∈ p) (fun k => N - k) 0 ⟨⟨Nat.zero_le _, fun i h => absurd h (Nat.not_lt_zero i)⟩, ⟨rfl, rfl, rfl, trivial⟩, rfl⟩ ?_
  rintro k g ⟨hk0, hi0⟩
  have hk : k ≤ N := hk0
  have hi : ∀ a : Nat, a < k → (a : Int) ∈ p := hi0
  clear hk0 hi0
  refine bcond_dec (fun hlt => ?_) (fun hge => ?_)
  · have hlt : k < N := by have hlt : (k : Int) < N := hlt; omega
    refine callR [] (acalls_eq (aRIn p k _ (by omega)) (av_bool (any_in p k))) ?_
    refine bcond_split (fun c => ?_) (fun c => ?_)
    · have c : (!decide ((k : Int) ∈ p)) = true := c
      exact .done ⟨false, rfl, rfl, fun h => (by cases h), fun h => absurd ((hord.1 h).1 k (by omega)) (by simpa using c)⟩
    · have c : (!decide ((k : Int) ∈ p)) = false := c
      have c : (k : Int) ∈ p := by simpa using c
      refine nextS (k + 1) (by show N - (k + 1) < N - k; omega) ⟨hlt, fun a ha => ?_⟩ ⟨rfl, rfl, inc64 (by omega), trivial⟩ (.refl _)
      rcases Nat.lt_succ_iff_lt_or_eq.1 ha with h2 | h2
      · exact hi a h2
      · subst h2; exact c
  · have hge : k = N := by have hge : ¬ (k : Int) < N := hge; omega
    subst hge
    refine bcond_dec (p := (k : Int) = p.length) (fun c => ?_) (fun c => ?_)
    · exact .done ⟨true, rfl, rfl, fun _ => hord.2 ⟨fun a ha => hi a (by omega), c⟩, fun _ => rfl⟩
    · exact .done ⟨false, rfl, rfl, fun h => (by cases h), fun h => absurd (hord.1 h).2 c⟩
end Go.Proofs.YteccfogpajbigaaGreat
namespace Go.Proofs.YteccfogpajbigaaGreat
open Go.RowKit
set_option maxRecDepth 100000
def qBad (e : Int) : AV := .tup [.agg [.nils, .int .i64 0, .int .i64 0], .int .i64 e]
def qOk (q : QS) : AV := .tup [.agg [.fsl (.slice (.int .u64)) q.vals, .int .i64 q.ev, .int .i64 q.jo], .int .i64 0]
/-- The values, behind k of an order's nodes. -/
def fillS (s : Sy) (first : List Int) (k : Nat) : List (List Int) := (List.range s.n.toNat).map fun v : Nat => if (v : Int) ∈ first.take k then startS s v else botL s.what s.w
theorem fillS_zero (s : Sy) (first : List Int) : fillS s first 0 = bottomS s := by
  unfold fillS bottomS
  refine List.ext_getElem (by simp) fun i h1 h2 => by simp
theorem fillS_length (s : Sy) (first : List Int) (k : Nat) : (fillS s first k).length = s.n.toNat := by unfold fillS; simp
theorem take_mem {first : List Int} {k : Nat} (hk : k < first.length) (x : Int) : x ∈ first.take (k + 1) ↔ x ∈ first.take k ∨ x = first[k] := by
  rw [List.take_succ_eq_append_getElem hk, List.mem_append, List.mem_singleton]
theorem fillS_set (s : Sy) {first : List Int} {k U : Nat} (hk : k < first.length) (hu : first[k] = (U : Int)) (_hU : (U : Int) < s.n) : (fillS s first k).set U (startS s U) = fillS s first (k + 1) := by
  have hm := fun x => take_mem hk x
  rw [hu] at hm
  refine List.ext_getElem (by simp [fillS]) fun i h1 h2 => ?_
  have hi : i < s.n.toNat := by simpa [fillS] using h2
  rw [List.getElem_set]
  unfold fillS
  simp only [List.getElem_map, List.getElem_range, hm]
  by_cases e : U = i
  · subst e; simp
  · have e2 : (i : Int) ≠ U := by omega
    simp [e, e2]
theorem fillS_all {s : Sy} {first : List Int} (h : IsOrd s.n first) : fillS s first first.length = (q0 s first).vals := by
  unfold fillS q0 startsS
  rw [List.take_length]
  refine List.map_congr_left fun v hv => ?_
  have := List.mem_range.1 hv
  rw [if_pos (h.all v (by omega))]
theorem start_ok {s : Sy} (hg : Good s) {v : Int} (hv : 0 ≤ v ∧ v < s.n) : AV.tup [.fsl (.int .u64) (okL (nodeE s v) (startS s v)), .int .i64 (nodeE s v)] = .tup [.fsl (.int .u64) (startS s v), .int .i64 0] := by
  have e : nodeE s v = 0 := by unfold nodeE; rw [if_pos (good_zero hg), node_iff.2 hv]; rfl
  rw [e]; rfl
theorem qPut_take {first : List Int} (hn : first.Nodup) {k : Nat} {u : Int} (hk : k < first.length) (hu : first[k] = u) : qPut (first.take k) u = first.take (k + 1) := by
  rw [List.take_succ_eq_append_getElem hk, hu]
  refine if_neg fun h => ?_
  obtain ⟨i, hi, e⟩ := List.getElem_of_mem h
  rw [List.getElem_take] at e
  have hi2 : i < k := by rw [List.length_take] at hi; omega
  exact List.pairwise_iff_getElem.1 hn i k (by omega) hk hi2 (e.trans hu.symm)
theorem uuC_at {l : List (List Int)} {U : Nat} (h : U < l.length) : (uuC l)[0 + ((U : Int)).toNat * 1]? = some (uC (l.getD U [])) := by
  rw [Nat.zero_add, Nat.mul_one, Int.toNat_natCast, uuC_get l h, List.getD_eq_getElem?_getD, List.getElem?_eq_getElem h]; rfl
theorem fin_drop {R : AV → Hp → Prop} {r : AV} {acc σ : Hp} (h : Fin R r σ) : Fin R r (acc ++ σ) := .drop 0 acc.length (by
  rw [List.take_zero, Nat.zero_add, List.drop_left]; exact h)
theorem out_ok {s : Sy} (hg : Good s) {v : Int} (hv : 0 ≤ v ∧ v < s.n) {x : List Int} (hx : Val s.what s.w x) : AV.tup [.fsl (.int .u64) (okL (outE s v x) (outS s x v.toNat)), .int .i64 (outE s v x)] = .tup [.fsl (.int .u64) (outS s x v.toNat), .int .i64 0] := by
  have e : outE s v x = 0 := by unfold outE; simp [nodeE, good_zero hg, node_iff.2 hv, hx.v]
  rw [e]; rfl
theorem ev_small {s : Sy} (hg : Good s) {q : QS} (h : QI s q) : q.ev < 1000000000 := by
  have h1 := h.e1
  have h2 := jo_most hg h
  have hh := height_le s.what s.w
  have hn := hg.n1
  have hn2 := hg.n2
  have h3 : s.n * heightL s.what s.w ≤ 256 * 2048 := Int.mul_le_mul hn2 hh.2 hh.1 (by decide)
  omega
theorem jo_small {s : Sy} (hg : Good s) {q : QS} (h : QI s q) : q.jo < 1000000000 := by
  have h2 := jo_most hg h
  have hh := height_le s.what s.w
  have hn := hg.n1
  have hn2 := hg.n2
  have h3 : s.n * heightL s.what s.w ≤ 256 * 2048 := Int.mul_le_mul hn2 hh.2 hh.1 (by decide)
  omega
theorem wait_small {s : Sy} (hg : Good s) {q : QS} (h : QI s q) : q.wait.length ≤ 100000 := by
  have hn2 := hg.n2
  have := nodup_sub (q.wait.map Int.toNat) (List.range s.n.toNat) (by
    unfold List.Nodup
    rw [List.pairwise_map]
    exact h.nd.imp_of_mem fun ha hb hne e => hne (by have := h.wr _ ha; have := h.wr _ hb; omega)) (fun x hx => by
    obtain ⟨z, hz, rfl⟩ := List.mem_map.1 hx
    have := h.wr z hz
    exact List.mem_range.2 (by omega))
  rw [List.length_map, List.length_range] at this
  omega
/-- Behind j of a node's edges. -/
def qMid (s : Sy) (q : QS) (u : Int) (r : List Int) (j : Nat) : QS := ((toS s.n s.edges u).take j).foldl (qV s (qOut s q u)) ⟨q.vals, r, q.ev + 1, q.jo⟩
theorem qMid_succ (s : Sy) (q : QS) (u : Int) (r : List Int) {j : Nat} (h : j < (toS s.n s.edges u).length) : qMid s q u r (j + 1) = qV s (qOut s q u) (qMid s q u r j) (toS s.n s.edges u)[j] := by
  unfold qMid
  rw [List.take_succ_eq_append_getElem h, List.foldl_append]; rfl
theorem qMid_all {s : Sy} {q : QS} {u : Int} {r : List Int} (h : q.wait = u :: r) : qMid s q u r (toS s.n s.edges u).length = qStep s q := by
  rw [qStep_cons h]; unfold qMid; rw [List.take_length]
theorem qV_ev (s : Sy) (out : List Int) : ∀ (l : List Int) (q : QS), (l.foldl (qV s out) q).ev = q.ev
  | [], _ => rfl
  | v :: l, q => by
    rw [List.foldl_cons, qV_ev s out l]
    unfold qV; split <;> rfl
theorem qStep_ev {s : Sy} {q : QS} {u : Int} {r : List Int} (h : q.wait = u :: r) : (qStep s q).ev = q.ev + 1 := by rw [qStep_cons h, qV_ev]
theorem qMid_QI {s : Sy} (hf : Fit s) (hg : Good s) {q : QS} (h : QQ s q) {u : Int} {r : List Int} (hw : q.wait = u :: r) (j : Nat) : QI s (qMid s q u r j) := by
  have hu := h.qi.wr u (hw ▸ List.mem_cons_self ..)
  obtain ⟨o1, o2⟩ := q_out_ok hf hg h.qi hu
  exact (qM_fold hf hg (x := q.vals.getD u.toNat []) hu o1 o2 ((toS s.n s.edges u).take j) [] _ (fun z hz => List.mem_of_mem_take hz) (fun z hz => by cases hz) (qM_start h hw (qOut s q u))).qi
theorem aAll (ql : Nat) (σ : Hp) : ACalls Tryz.prog 52 [.ptr ql 0] σ (fun r σ' => ∃ bb, r = .fn (.func 93) [] [.ptr bb 0] ∧ σ' = (bb, [.ptr ql 0]) :: σ) := by
  refine okF Tryz.func52 (by kernel_rfl) ?_
  intro bl1
  exact .done ⟨bl1, rfl, rfl⟩
theorem aQSolveBad (s : Sy) (first : List Int) (σ : Hp) (hf : Fit s) (hc : ¬ checkS s = 0) : ACalls Tryz.prog 13 [.agg (sysC s), .fsl (.int .i64) first] σ (Ret (qBad (checkS s)) σ) := by
  refine okF Tryz.func13 (by kernel_rfl) ?_
  intro bl1
  intro bl2
  intro bl3
  refine LoadAt.mk 2 _ _ rfl rfl ?_
  refine callR [] (aSysBottom s _ hf) ?_
  refine StoreAt.mk 0 _ _ rfl rfl ?_
  refine bcond_split (fun c4 => ?_) (fun c4 => ?_)
  · have c4 : ¬ (checkS s = 0) := by simpa using c4
    refine StoreAt.mk 1 _ _ rfl rfl ?_
    refine LoadAt.mk 1 _ _ rfl rfl ?_
    exact .drop 0 3 (.done ⟨rfl, rfl⟩)
  · have c4 : checkS s = 0 := by simpa using c4
    refine LoadAt.mk 2 _ _ rfl rfl ?_
    exact absurd c4 hc
theorem aQSolveOk (s : Sy) (first : List Int) (σ : Hp) (hf : Fit s) (hg : Good s) (hl : first.length ≤ 100000) : ACalls Tryz.prog 13 [.agg (sysC s), .fsl (.int .i64) first] σ (fun r σ' => σ' = σ ∧ ((¬ IsOrd s.n first ∧ r = qBad 1) ∨ (IsOrd s.n first ∧ ∃ k, (qIter s k (q0 s first)).wait = [] ∧ r = qOk (qIter s k (q0 s first))))) := by
  obtain ⟨N, hN⟩ : ∃ N : Nat, s.n = N := ⟨s.n.toNat, by have := hg.n1; omega⟩
  have hB := fun σ => aSysBottomO s σ hf hg
  rw [hN, Int.toNat_natCast] at hB
  refine okF Tryz.func13 (by kernel_rfl) ?_
  intro bl1
  intro bl2
  intro bl3
  refine LoadAt.mk 2 _ _ rfl rfl ?_
  (refine .mk [] _ (hB _) ?_; rintro _ _ ⟨bv, rfl, rfl⟩)
  refine StoreAt.mk 1 _ _ rfl rfl ?_
  refine LoadAt.mk 3 _ _ rfl rfl ?_
  refine callI [] (aOrderIs s.n first _ hl) (fun ho => ?_) (fun ho => ?_)
  · intro bl4
    intro bl5
    intro bl6
    refine StoreAt.mk 0 _ _ rfl rfl ?_
    have hfill0 : (bv, uuC (bottomS s)) = (bv, uuC (fillS s first 0)) := by rw [fillS_zero]
    refine .shed (.pull [2, 2] (shed_eq (σ2 := (bl5, [.nils, .mapr bl4]) :: (bl4, [.mapc []]) :: ([(bl6, [.ptr bl5 0]), (bv, uuC (fillS s first 0)), (bl3, [.mref bv 0 N 1, .int .i64 0, .int .i64 0]), (bl2, [.nils, .int .i64 0, .int .i64 0]), (bl1, sysC s)] ++ ([] ++ σ))) (by rw [← hfill0]; rfl))) ?_
    refine loopS (S := Nat × AV × Hp × List (Int × Int)) (fun x => [(2, .ptr bl1 0), (4, .ptr bl2 0), (6, .ptr bl3 0), (8, .ptr bl6 0), (37, .fsl (.int .i64) first), (38, .int .i64 first.length), (39, .int .i64 x.1)]) (fun x => (bl5, [x.2.1, .mapr bl4]) :: (bl4, [.mapc x.2.2.2]) :: ([(bl6, [.ptr bl5 0]), (bv, uuC (fillS s first x.1)), (bl3, [.mref bv 0 N 1, .int .i64 0, .int .i64 0]), (bl2, [.nils, .int .i64 0, .int .i64 0]), (bl1, sysC s)] ++ (x.2.2.1 ++ σ))) (fun x => x.1 ≤ first.length ∧ LQ x.2.1 x.2.2.1 x.2.2.2 (first.take x.1)) (fun x => first.length - x.1) (0, .nils, [], []) ⟨⟨Nat.zero_le _, LQ.nil⟩, ⟨rfl, rfl, rfl, rfl, rfl, rfl, rfl, trivial⟩, rfl⟩ ?_
    rintro ⟨k, v, acc, ml⟩ g ⟨hk0, hq0⟩
    have hk : k ≤ first.length := hk0
    have hq : LQ v acc ml (first.take k) := hq0
    clear hk0 hq0
    refine bcond_dec (fun hlt => ?_) (fun hge => ?_)
    · have hlt : k < first.length := by have hlt : (k : Int) < first.length := hlt; omega
      obtain ⟨u, hu⟩ : ∃ u, first[k] = u := ⟨_, rfl⟩
      have hmu := ho.mem u (hu ▸ List.getElem_mem hlt)
      obtain ⟨U, rfl⟩ : ∃ U : Nat, u = U := ⟨u.toNat, by omega⟩
      have hst := fun σ => acalls_eq (aSysStart s U σ hf) (start_ok hg hmu)
      have hset := fillS_set s hlt hu (by omega)
      have hlen := fillS_length s first k
      have hput := qPut_take ho.nd hlt hu
      have hb : U < N := by omega
      refine With.mk rfl (IdxF.mk (U : Int) (by omega) ((get_some hlt).trans (congrArg some hu)) ?_)
      refine .sched [5] (upto [5] 11 0) (by kernel_rfl) ?_
      refine LoadAt.mk 4 _ _ rfl rfl ?_
      refine LoadAt.mk 6 _ _ rfl rfl ?_
      refine callQ [] (hst _) ?_
      refine With.mk ⟨rfl, by omega, by omega⟩ ?_
      refine StoreAt.mk 3 _ _ rfl ((write1 rfl rfl (by rw [uuC_length, hlen]; omega)).trans (congrArg some (show (uuC (fillS s first k)).set (0 + ((U : Int)).toNat * 1) (uC (startS s U)) = uuC (fillS s first (k + 1)) by rw [Nat.zero_add, Nat.mul_one, Int.toNat_natCast, uuC_set, hset]))) ?_
      refine LoadAt.mk 2 _ _ rfl rfl ?_
      (refine .mk [] _ (aLinePutF [_, _, _, _, _] bl5 bl4 U σ hq (by simp; omega)) ?_; rintro _ _ ⟨rfl, v', acc', ml', h', rfl⟩)
      exact nextS (k + 1, v', acc', ml') (by show first.length - (k + 1) < first.length - k; omega) ⟨hlt, by rw [← hput]; exact h'⟩ ⟨rfl, rfl, rfl, rfl, rfl, rfl, inc64 (by omega), trivial⟩ (.refl _)
    · have hge : k = first.length := by have hge : ¬ (k : Int) < first.length := hge; omega
      subst hge
      rw [List.take_length] at hq
      have hfill : fillS s first first.length = (q0 s first).vals := fillS_all ho
      rw [hfill]
      refine LoadAt.mk 2 _ _ rfl rfl ?_
      refine .mk [] _ (aAll bl5 _) ?_
      rintro _ _ ⟨bb, rfl, rfl⟩
      refine .shed (.pull [2, 2] (shed_eq (σ2 := (bl5, [v, .mapr bl4]) :: (bl4, [.mapc ml]) :: (bb, [.ptr bl5 0]) :: ([(bl6, [.ptr bl5 0]), (bv, uuC (q0 s first).vals), (bl3, [.mref bv 0 N 1, .int .i64 (q0 s first).ev, .int .i64 (q0 s first).jo]), (bl2, [.nils, .int .i64 0, .int .i64 0]), (bl1, sysC s)] ++ (acc ++ σ))) rfl)) ?_
      refine .mk (fun l rd dn hY => ?_)
      refine (aLineAll l bb bl5 bl4 rd (fun q => [(bl6, [.ptr bl5 0]), (bv, uuC q.vals), (bl3, [.mref bv 0 N 1, .int .i64 q.ev, .int .i64 q.jo]), (bl2, [.nils, .int .i64 0, .int .i64 0]), (bl1, sysC s)]) σ (fun q => QQ s q ∧ ∃ k, q = qIter s k (q0 s first)) (qMu s) (qStep s) (fun q h => h.1.qi.nd) (fun q u r h hw => ⟨⟨qStep_inv hf hg h.1, ?_⟩, qStep_mu hf hg h.1 hw⟩) ?_ (q0 s first) v acc ml ⟨q0_inv hf hg ho, 0, rfl⟩ hq).mono ?_
      · obtain ⟨k, rfl⟩ := h.2
        exact ⟨k + 1, (qIter_succ s k _).symm⟩
      · rintro q u r v acc ml ⟨hp, -⟩ hw hq
        refine (hY [.int .i64 u] _ (fun e σ2 => e = .normal ∧ ∃ v' acc' ml', LQ v' acc' ml' (qStep s q).wait ∧ σ2 = (bl5, [v', .mapr bl4]) :: (bl4, [.mapc ml']) :: (bb, [.ptr bl5 0]) :: ([(bl6, [.ptr bl5 0]), (bv, uuC (qStep s q).vals), (bl3, [.mref bv 0 N 1, .int .i64 (qStep s q).ev, .int .i64 (qStep s q).jo]), (bl2, [.nils, .int .i64 0, .int .i64 0]), (bl1, sysC s)] ++ (acc' ++ σ))) rfl ?_).mono ?_
        · have hu := hp.qi.wr u (hw ▸ List.mem_cons_self ..)
          obtain ⟨U, rfl⟩ : ∃ U : Nat, u = U := ⟨u.toNat, by omega⟩
          refine LoadAt.mk 5 _ _ rfl rfl ?_
          refine StoreAt.mk 5 _ _ rfl rfl ?_
          refine .quiet (by kernel_rfl) ?_
          refine LoadAt.mk 7 _ _ rfl rfl ?_
          refine LoadAt.mk 5 _ _ rfl rfl ?_
          refine With.mk ⟨rfl, by omega, by omega⟩ ?_
          have hUN : U < q.vals.length := by have := hp.qi.va.len; omega
          have hvv := hp.qi.va.get (i := U) (by omega)
          have hO := fun σ => acalls_eq (aSysOut s U (q.vals.getD U []) σ hf hvv.w64 (by have := val_short hvv.v; omega)) (out_ok hg hu hvv)
          have hN' := fun σ => aNext s.n s.edges U σ (by have := hg.el; omega)
          refine LoadAt.mk 4 _ _ rfl (read1 rfl (uuC_at hUN)) ?_
          refine callQ [] (hO _) ?_
          refine LoadAt.mk 7 _ _ rfl rfl ?_
          refine LoadAt.mk 7 _ _ rfl rfl ?_
          refine callR [] (hN' _) ?_
          have hq1 := hp.qi.e1
          have hj1 := jo_most hg hp.qi
          have hh := height_le s.what s.w
          have hn2 := hg.n2
          have hev : q.ev < 1000000000 := ev_small hg hp.qi
          have hml := toS_length s.n s.edges U
          have hmem : ∀ z ∈ toS s.n s.edges U, 0 ≤ z ∧ z < s.n := fun z hz => (mem_toS.1 hz).1
          have hmid := fun j => qMid_QI hf hg hp hw j
          have hmidS := fun (j : Nat) (h : j < (toS s.n s.edges U).length) => qMid_succ s q U r h
          have hmidE := qMid_all (s := s) hw
          have hout := (q_out_ok hf hg hp.qi hu).1
          obtain ⟨out, ho2⟩ : ∃ out, out = qOut s q U := ⟨_, rfl⟩
          have ho3 : outS s (q.vals.getD U []) (U : Int).toNat = out := by rw [ho2]; rfl
          rw [← ho2] at hout hmidS
          obtain ⟨M, hM⟩ : ∃ M, M = toS s.n s.edges U := ⟨_, rfl⟩
          rw [← hM] at hml hmem hmidS hmidE
          refine loopS (S := Nat × AV × Hp × List (Int × Int)) (fun x => [(2, .ptr bl1 0), (6, .ptr bl3 0), (8, .ptr bl6 0), (12, .fsl (.int .u64) out), (80, .fsl (.int .i64) M), (81, .int .i64 M.length), (82, .int .i64 x.1)]) (fun x => (bl5, [x.2.1, .mapr bl4]) :: (bl4, [.mapc x.2.2.2]) :: (bb, [.ptr bl5 0]) :: ([(bl6, [.ptr bl5 0]), (bv, uuC (qMid s q U r x.1).vals), (bl3, [.mref bv 0 N 1, .int .i64 (q.ev + 1 : Nat), .int .i64 (qMid s q U r x.1).jo]), (bl2, [.nils, .int .i64 0, .int .i64 0]), (bl1, sysC s)] ++ (x.2.2.1 ++ σ))) (fun x => x.1 ≤ M.length ∧ LQ x.2.1 x.2.2.1 x.2.2.2 (qMid s q U r x.1).wait) (fun x => M.length - x.1) (0, v, acc, ml) ⟨⟨Nat.zero_le _, hq⟩, ⟨rfl, rfl, rfl, by rw [← ho3]; rfl, by rw [hM]; rfl, by rw [hM]; rfl, rfl, trivial⟩, by rw [← inc64 hev]; rfl⟩ ?_
          rintro ⟨j, v, acc, ml⟩ g ⟨hj0, hq0⟩
          have hj : j ≤ M.length := hj0
          have hq : LQ v acc ml (qMid s q U r j).wait := hq0
          clear hj0 hq0
          have hmj := hmid j
          refine bcond_dec (fun hlt => ?_) (fun hge => ?_)
          · have hlt : j < M.length := by have hlt : (j : Int) < M.length := hlt; omega
            obtain ⟨z, hz⟩ : ∃ z, M[j] = z := ⟨_, rfl⟩
            have hzn := hmem z (hz ▸ List.getElem_mem hlt)
            have hsc := hmidS j hlt
            have hmid1 := hmid (j + 1)
            rw [hz] at hsc
            obtain ⟨V, rfl⟩ : ∃ V : Nat, z = V := ⟨z.toNat, by omega⟩
            obtain ⟨Q, hQ⟩ : ∃ Q, Q = qMid s q U r j := ⟨_, rfl⟩
            rw [← hQ] at hq hmj hsc
            have hVl : V < Q.vals.length := by have := hmj.va.len; omega
            have hVv := hmj.va.get (i := V) (by omega)
            have hJ := fun σ => aLJoinOk s.what s.w (Q.vals.getD V []) out σ hVv.w64 hout.w64 (by have := val_short hVv.v; omega) (by have := val_short hout.v; omega) hVv.v hout.v
            have hE := fun σ => aEqualUF (join12 s.what (Q.vals.getD V []) out) (Q.vals.getD V []) σ (by have := val_short (hVv.join hout).v; omega)
            refine With.mk rfl (IdxF.mk (V : Int) (by omega) ((get_some hlt).trans (congrArg some hz)) ?_)
            refine .quiet (by kernel_rfl) ?_
            refine LoadAt.mk 7 _ _ rfl rfl ?_
            refine LoadAt.mk 7 _ _ rfl rfl ?_
            refine LoadAt.mk 5 _ _ rfl rfl ?_
            refine With.mk ⟨rfl, by omega, by omega⟩ ?_
            have hat : (uuC (qMid s q U r j).vals)[0 + ((V : Int)).toNat * 1]? = some (uC (Q.vals.getD V [])) := by rw [← hQ]; exact uuC_at hVl
            refine LoadAt.mk 4 _ _ rfl (read1 rfl hat) ?_
            refine callQ [] (hJ _) ?_
            refine LoadAt.mk 5 _ _ rfl rfl ?_
            refine With.mk ⟨rfl, by omega, by omega⟩ ?_
            refine LoadAt.mk 4 _ _ rfl (read1 rfl hat) ?_
            refine callR [] (hE _) ?_
            refine bcond_split (fun c => ?_) (fun c => ?_)
            · have c : (!decide (join12 s.what (Q.vals.getD V []) out = Q.vals.getD V [])) = true := c
              have c : ¬ join12 s.what (Q.vals.getD V []) out = Q.vals.getD V [] := by simpa using c
              have hqv : qV s out Q V = ⟨Q.vals.set V (join12 s.what (Q.vals.getD V []) out), qPut Q.wait V, Q.ev, Q.jo + 1⟩ := if_neg c
              refine LoadAt.mk 5 _ _ rfl rfl ?_
              refine With.mk ⟨rfl, by omega, by omega⟩ ?_
              have hset : (uuC (qMid s q U r j).vals).set (0 + ((V : Int)).toNat * 1) (uC (join12 s.what (Q.vals.getD V []) out)) = uuC (qMid s q U r (j + 1)).vals := by
                rw [hsc, hqv, ← hQ, Nat.zero_add, Nat.mul_one, Int.toNat_natCast, uuC_set]
              have hjo : AV.int .i64 (IntKind.i64.wrap (((qMid s q U r j).jo : Int) + 1)) = AV.int .i64 ((qMid s q U r (j + 1)).jo : Nat) := by
                rw [hsc, hqv, ← hQ]; exact inc64 (jo_small hg hmj)
              have hwait : (qMid s q U r (j + 1)).wait = qPut Q.wait V := by rw [hsc, hqv]
              have hVm : V < (uuC (qMid s q U r j).vals).length := by rw [uuC_length, ← hQ]; exact hVl
              refine StoreAt.mk 4 _ _ rfl ((write1 rfl rfl (by rw [Nat.zero_add, Nat.mul_one, Int.toNat_natCast]; exact hVm)).trans (congrArg some hset)) ?_
              refine LoadAt.mk 5 _ _ rfl rfl ?_
              refine StoreAt.mk 5 _ _ rfl (Eq.trans rfl (congrArg (fun x => some [AV.mref bv 0 N 1, AV.int .i64 (q.ev + 1 : Nat), x]) hjo)) ?_
              refine LoadAt.mk 3 _ _ rfl rfl ?_
              refine .mk [] _ (aLinePutF [_, _, _, _, _, _] bl5 bl4 V σ hq (wait_small hg hmj)) ?_
              rintro _ _ ⟨rfl, v', acc', ml', h', rfl⟩
              exact nextS (j + 1, v', acc', ml') (by show M.length - (j + 1) < M.length - j; omega) ⟨hlt, by show LQ v' acc' ml' (qMid s q U r (j + 1)).wait; rw [hwait]; exact h'⟩ ⟨rfl, rfl, rfl, rfl, rfl, rfl, inc64 (by omega), trivial⟩ (.refl _)
            · have c : (!decide (join12 s.what (Q.vals.getD V []) out = Q.vals.getD V [])) = false := c
              have c : join12 s.what (Q.vals.getD V []) out = Q.vals.getD V [] := by simpa using c
              have hqv : qV s out Q V = Q := if_pos c
              have hsame : qMid s q U r j = qMid s q U r (j + 1) := by rw [hsc, hqv, ← hQ]
              exact nextS (j + 1, v, acc, ml) (by show M.length - (j + 1) < M.length - j; omega) ⟨hlt, by show LQ v acc ml (qMid s q U r (j + 1)).wait; rw [← hsame, ← hQ]; exact hq⟩ ⟨rfl, rfl, rfl, rfl, rfl, rfl, inc64 (by omega), trivial⟩ (shed_eq (congrArg (fun Q' : QS => (bl5, [v, AV.mapr bl4]) :: (bl4, [AV.mapc ml]) :: (bb, [AV.ptr bl5 0]) :: ([(bl6, [AV.ptr bl5 0]), (bv, uuC Q'.vals), (bl3, [AV.mref bv 0 N 1, AV.int .i64 (q.ev + 1 : Nat), AV.int .i64 Q'.jo]), (bl2, [AV.nils, AV.int .i64 0, AV.int .i64 0]), (bl1, sysC s)] ++ (acc ++ σ))) hsame))
          · have hge : j = M.length := by have hge : ¬ (j : Int) < M.length := hge; omega
            subst hge
            rw [hmidE] at hq
            refine ⟨rfl, v, acc, ml, hq, ?_⟩
            have e2 := qStep_ev (s := s) hw
            have e3 : ∀ Q : QS, Q = qStep s q → (bl5, [v, AV.mapr bl4]) :: (bl4, [AV.mapc ml]) :: (bb, [AV.ptr bl5 0]) :: ([(bl6, [AV.ptr bl5 0]), (bv, uuC Q.vals), (bl3, [AV.mref bv 0 N 1, AV.int .i64 (q.ev + 1 : Nat), AV.int .i64 Q.jo]), (bl2, [AV.nils, AV.int .i64 0, AV.int .i64 0]), (bl1, sysC s)] ++ (acc ++ σ)) = (bl5, [v, AV.mapr bl4]) :: (bl4, [AV.mapc ml]) :: (bb, [AV.ptr bl5 0]) :: ([(bl6, [AV.ptr bl5 0]), (bv, uuC (qStep s q).vals), (bl3, [AV.mref bv 0 N 1, AV.int .i64 (qStep s q).ev, AV.int .i64 (qStep s q).jo]), (bl2, [AV.nils, AV.int .i64 0, AV.int .i64 0]), (bl1, sysC s)] ++ (acc ++ σ)) := fun Q h => by subst h; rw [e2]
            exact e3 _ hmidE
        · rintro r' σ' (⟨rfl, σ2, rfl, -, v', acc', ml', h', rfl⟩ | ⟨_, e, σ2, hne, _, he, _⟩)
          · exact ⟨rfl, v', acc', ml', h', rfl⟩
          · exact absurd he hne
      · rintro _ σ' ⟨q, v', acc', ml', ⟨hp, k, hk⟩, hw, hq', rfl⟩
        refine .inl ⟨_, rfl, ?_⟩
        refine LoadAt.mk 5 _ _ rfl rfl ?_
        refine StoreAt.mk 6 _ _ rfl rfl ?_
        refine LoadAt.mk 6 _ _ rfl rfl ?_
        have hln : q.vals.length = N := by have := hp.qi.va.len; omega
        refine .frz 4 bv 0 N 1 _ (.slice (.int .u64)) q.vals rfl ?_ ⟨hln, rfl, by decide⟩ (frz_cons (frz_agg (frz_cons .here (frz_cons (.refl _) (frz_cons (.refl _) frz_nil))) rfl) (frz_cons (.refl _) frz_nil)) (.drop 0 7 (fin_drop (acc := acc') (σ := σ) (.done ⟨rfl, .inr ⟨ho, k, by rw [← hk]; exact hw, by rw [← hk]; rfl⟩⟩)))
        rw [List.drop_zero, ← uuC_flat]
        exact List.take_of_length_le (by rw [uuC_length]; omega)
  · refine StoreAt.mk 2 _ _ rfl rfl ?_
    refine LoadAt.mk 2 _ _ rfl rfl ?_
    exact .drop 0 4 (.done ⟨rfl, .inl ⟨ho, rfl⟩⟩)
end Go.Proofs.YteccfogpajbigaaGreat
