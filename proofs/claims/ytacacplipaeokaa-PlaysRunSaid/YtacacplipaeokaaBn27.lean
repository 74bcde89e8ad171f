/-
  Rdq: what the claim uses of them.
-/
import Derived.Test.YtacacplipaeokaaBn26
import Derived.Test.YtacacplipaeokaaBn21
namespace Go.Proofs.Ytacacplipaeokaa
open Go.RowKit
set_option maxRecDepth 100000
set_option maxHeartbeats 4000000
theorem aRRoom (n : Int) (σ : Hp) : ACalls Try.prog 69 [.int .i64 n] σ (Ret (.int .i64 (rm n)) σ) := by
  refine okF Try.func69 (by kernel_rfl) ?_
  exact .done ⟨av_int (rm_int n), rfl⟩
def rqC (k : Int) (q : DQ) : List AV := [.int .i64 k, .int .i64 q.base, .int .i64 q.cap, .int .u64 q.n, .bool q.ok, .bool q.ended, .int .i64 q.at_, .int .u64 q.b, .int .u64 q.t, .int .u64 q.x]
theorem aRPlace (r : Nat) (k : Int) (q : DQ) (i : Int) (σ : Hp) (h0 : 0 ≤ i) : ACalls Try.prog 77 [.ptr r 0, .int .u64 i] ((r, rqC k q) :: σ) (Ret (.int .i64 (placeD q.base q.cap i)) ((r, rqC k q) :: σ)) := by
  have hr := rm_ok q.cap
  have e1 : IntKind.u64.wrap (rm q.cap : Int) = rm q.cap := by rw [IntKind.wrap_u64]; omega
  have e2 : i.tmod (IntKind.u64.wrap (rm q.cap : Int)) = i % (rm q.cap : Int) := by rw [e1, Int.tmod_eq_emod_of_nonneg h0]
  refine okF Try.func77 (by kernel_rfl) ?_
  refine .quiet (by kernel_rfl) ?_
  refine LoadAt.mk 0 _ _ rfl rfl ?_
  refine LoadAt.mk 0 _ _ rfl rfl ?_
  refine callQ [] (aRRoom _ _) ?_
  refine With.mk (by rw [e1]; omega) ?_
  exact .done ⟨av_int (by rw [e2]; rfl), rfl⟩
theorem rqEnd {r m p : Nat} {k : Int} {σ σ1 : Hp} {S : DQ × List Int × Bool} {q' : DQ} {ws' : List Int} {e : Bool} (h : S = (q', ws', e)) (q1 : DQ) (ws1 : List Int) (hσ : σ1 = (r, rqC k q1) :: reH m p ws1 σ) (h1 : S.1 = q1) (h2 : S.2.1 = ws1) : Ret (.tup []) ((r, rqC k q') :: reH m p ws' σ) (.tup []) σ1 := by
  subst h; subst h1; subst h2
  exact ⟨rfl, hσ⟩
theorem aRPush (r m p : Nat) (k base cap n b t x : Int) (ok : Bool) (at_ : Nat) (ws : List Int) (σ : Hp) (_ : at_ ≤ 1000) (hb : 0 ≤ b) {q' : DQ} {ws' : List Int} {e : Bool} (h : pushStep listOps ⟨base, cap, n, ok, false, at_, b, t, x⟩ ws = (q', ws', e)) : ACalls Try.prog 65 [.ptr r 0, .ptr m 0] ((r, rqC k ⟨base, cap, n, ok, false, at_ + 1, b, t, x⟩) :: reH m p ws σ) (Ret (.tup []) ((r, rqC k q') :: reH m p ws' σ)) := by
  refine okF Try.func65 (by kernel_rfl) ?_
  refine LoadAt.mk 0 _ _ rfl rfl ?_
  refine bcond_dec (fun c1 => ?_) (fun c1 => ?_)
  · have c1 : (↑(at_ + 1) : Int) = 1 := c1
    refine LoadAt.mk 0 _ _ rfl rfl ?_
    refine callR [2, 2] (aRLoad m p ws _ _) ?_
    refine StoreAt.mk 2 _ _ rfl rfl ?_
    exact .pull [2] (.done (rqEnd h ⟨base, cap, n, ok, false, at_ + 1, mLoad ws (IntKind.i64.wrap (base + 1)), t, x⟩ ws rfl (by unfold pushStep; dsimp only; (repeat' split) <;> first | rfl | (exfalso; omega) | (simp_all; done) | (exfalso; simp_all [wr, wu, botD, doIs]; omega)) (by unfold pushStep; dsimp only; (repeat' split) <;> first | rfl | (exfalso; omega) | (simp_all [wr, wu, botD, doIs]; done) | (exfalso; simp_all [wr, wu, botD, doIs]; omega))))
  · have c1 : ¬ ((↑(at_ + 1) : Int) = 1) := c1
    refine LoadAt.mk 0 _ _ rfl rfl ?_
    refine bcond_dec (fun c2 => ?_) (fun c2 => ?_)
    · have c2 : (↑(at_ + 1) : Int) = 2 := c2
      refine LoadAt.mk 0 _ _ rfl rfl ?_
      refine callR [2, 2] (aRLoad m p ws _ _) ?_
      refine StoreAt.mk 2 _ _ rfl rfl ?_
      refine .sched [15] (upto [15] 20 0) (by kernel_rfl) ?_
      refine LoadAt.mk 2 _ _ rfl rfl ?_
      refine LoadAt.mk 2 _ _ rfl rfl ?_
      refine LoadAt.mk 2 _ _ rfl rfl ?_
      refine callQ [] (aRRoom _ _) ?_
      refine bcond_dec (fun c3 => ?_) (fun c3 => ?_)
      · have c3 : (↑(rm cap) : Int) ≤ IntKind.i64.wrap (IntKind.u64.wrap (b - mLoad ws base)) := c3
        refine StoreAt.mk 2 _ _ rfl rfl ?_
        exact .pull [2] (.done (rqEnd h ⟨base, cap, n, ok, true, at_ + 1, b, mLoad ws base, x⟩ ws rfl (by unfold pushStep; dsimp only; (repeat' split) <;> first | rfl | (exfalso; omega) | (simp_all; done) | (exfalso; simp_all [wr, wu, botD, doIs]; omega)) (by unfold pushStep; dsimp only; (repeat' split) <;> first | rfl | (exfalso; omega) | (simp_all [wr, wu, botD, doIs]; done) | (exfalso; simp_all [wr, wu, botD, doIs]; omega))))
      · have c3 : ¬ ((↑(rm cap) : Int) ≤ IntKind.i64.wrap (IntKind.u64.wrap (b - mLoad ws base))) := c3
        refine StoreAt.mk 2 _ _ rfl rfl ?_
        exact .pull [2] (.done (rqEnd h ⟨base, cap, n, ok, false, at_ + 1, b, mLoad ws base, x⟩ ws rfl (by unfold pushStep; dsimp only; (repeat' split) <;> first | rfl | (exfalso; omega) | (simp_all; done) | (exfalso; simp_all [wr, wu, botD, doIs]; omega)) (by unfold pushStep; dsimp only; (repeat' split) <;> first | rfl | (exfalso; omega) | (simp_all [wr, wu, botD, doIs]; done) | (exfalso; simp_all [wr, wu, botD, doIs]; omega))))
    · have c2 : ¬ ((↑(at_ + 1) : Int) = 2) := c2
      refine LoadAt.mk 0 _ _ rfl rfl ?_
      refine bcond_dec (fun c4 => ?_) (fun c4 => ?_)
      · have c4 : (↑(at_ + 1) : Int) = 3 := c4
        refine .sched [6] (upto [6] 12 0) (by kernel_rfl) ?_
        refine LoadAt.mk 0 _ _ rfl rfl ?_
        refine callQ [] (aRPlace r k ⟨base, cap, n, ok, false, at_ + 1, b, t, x⟩ _ _ hb) ?_
        refine LoadAt.mk 0 _ _ rfl rfl ?_
        refine callR [2, 2] (aRStore m p ws _ _ _) ?_
        exact .pull [2] (.done (rqEnd h ⟨base, cap, n, ok, false, at_ + 1, b, t, x⟩ (mStore ws (placeD base cap b) n) rfl (by unfold pushStep; dsimp only; (repeat' split) <;> first | rfl | (exfalso; omega) | (simp_all; done) | (exfalso; simp_all [wr, wu, botD, doIs]; omega)) (by unfold pushStep; dsimp only; (repeat' split) <;> first | rfl | (exfalso; omega) | (simp_all; done) | (exfalso; simp_all [wr, wu, botD, doIs]; omega))))
      · have c4 : ¬ ((↑(at_ + 1) : Int) = 3) := c4
        refine .sched [] (upto [] 12 0) (by kernel_rfl) ?_
        refine LoadAt.mk 0 _ _ rfl rfl ?_
        refine LoadAt.mk 0 _ _ rfl rfl ?_
        refine callR [2, 2] (aRStore m p ws _ _ _) ?_
        refine StoreAt.mk 2 _ _ rfl rfl ?_
        refine StoreAt.mk 2 _ _ rfl rfl ?_
        exact .pull [2] (.done (rqEnd h ⟨base, cap, n, true, true, at_ + 1, b, t, x⟩ (mStore ws (IntKind.i64.wrap (base + 1)) (IntKind.u64.wrap (b + 1))) rfl (by unfold pushStep; dsimp only; (repeat' split) <;> first | rfl | (exfalso; omega) | (simp_all; done) | (exfalso; simp_all [wr, wu, botD, doIs]; omega)) (by unfold pushStep; dsimp only; (repeat' split) <;> first | rfl | (exfalso; omega) | (simp_all; done) | (exfalso; simp_all [wr, wu, botD, doIs]; omega))))
theorem aRPop (r m p : Nat) (k base cap n b t x : Int) (ok : Bool) (at_ : Nat) (ws : List Int) (σ : Hp) (_ : at_ ≤ 1000) (hb : 0 ≤ b) {q' : DQ} {ws' : List Int} {e : Bool} (h : popStep listOps ⟨base, cap, n, ok, false, at_, b, t, x⟩ ws = (q', ws', e)) : ACalls Try.prog 66 [.ptr r 0, .ptr m 0] ((r, rqC k ⟨base, cap, n, ok, false, at_ + 1, b, t, x⟩) :: reH m p ws σ) (Ret (.tup []) ((r, rqC k q') :: reH m p ws' σ)) := by
  refine okF Try.func66 (by kernel_rfl) ?_
  refine LoadAt.mk 0 _ _ rfl rfl ?_
  refine bcond_dec (fun c1 => ?_) (fun c1 => ?_)
  · have c1 : (↑(at_ + 1) : Int) = 1 := c1
    refine LoadAt.mk 0 _ _ rfl rfl ?_
    refine callR [2, 2] (aRLoad m p ws _ _) ?_
    refine StoreAt.mk 2 _ _ rfl rfl ?_
    exact .pull [2] (.done (rqEnd h ⟨base, cap, n, ok, false, at_ + 1, IntKind.u64.wrap (mLoad ws (IntKind.i64.wrap (base + 1)) - 1), t, x⟩ ws rfl (by unfold popStep; dsimp only; (repeat' split) <;> first | rfl | (exfalso; omega) | (simp_all; done) | (exfalso; simp_all [wr, wu, botD, doIs]; omega)) (by unfold popStep; dsimp only; (repeat' split) <;> first | rfl | (exfalso; omega) | (simp_all [wr, wu, botD, doIs]; done) | (exfalso; simp_all [wr, wu, botD, doIs]; omega))))
  · have c1 : ¬ ((↑(at_ + 1) : Int) = 1) := c1
    refine LoadAt.mk 0 _ _ rfl rfl ?_
    refine bcond_dec (fun c2 => ?_) (fun c2 => ?_)
    · have c2 : (↑(at_ + 1) : Int) = 2 := c2
      refine .sched [] (upto [] 11 0) (by kernel_rfl) ?_
      refine LoadAt.mk 0 _ _ rfl rfl ?_
      refine LoadAt.mk 0 _ _ rfl rfl ?_
      refine callR [2, 2] (aRStore m p ws _ _ _) ?_
      exact .pull [2] (.done (rqEnd h ⟨base, cap, n, ok, false, at_ + 1, b, t, x⟩ (mStore ws (IntKind.i64.wrap (base + 1)) b) rfl (by unfold popStep; dsimp only; (repeat' split) <;> first | rfl | (exfalso; omega) | (simp_all; done) | (exfalso; simp_all [wr, wu, botD, doIs]; omega)) (by unfold popStep; dsimp only; (repeat' split) <;> first | rfl | (exfalso; omega) | (simp_all; done) | (exfalso; simp_all [wr, wu, botD, doIs]; omega))))
    · have c2 : ¬ ((↑(at_ + 1) : Int) = 2) := c2
      refine LoadAt.mk 0 _ _ rfl rfl ?_
      refine bcond_dec (fun c3 => ?_) (fun c3 => ?_)
      · have c3 : (↑(at_ + 1) : Int) = 3 := c3
        refine LoadAt.mk 0 _ _ rfl rfl ?_
        refine callR [2, 2] (aRLoad m p ws _ _) ?_
        refine StoreAt.mk 2 _ _ rfl rfl ?_
        exact .pull [2] (.done (rqEnd h ⟨base, cap, n, ok, false, at_ + 1, b, mLoad ws base, x⟩ ws rfl (by unfold popStep; dsimp only; (repeat' split) <;> first | rfl | (exfalso; omega) | (simp_all; done) | (exfalso; simp_all [wr, wu, botD, doIs]; omega)) (by unfold popStep; dsimp only; (repeat' split) <;> first | rfl | (exfalso; omega) | (simp_all [wr, wu, botD, doIs]; done) | (exfalso; simp_all [wr, wu, botD, doIs]; omega))))
      · have c3 : ¬ ((↑(at_ + 1) : Int) = 3) := c3
        refine LoadAt.mk 0 _ _ rfl rfl ?_
        refine bcond_dec (fun c4 => ?_) (fun c4 => ?_)
        · have c4 : (↑(at_ + 1) : Int) = 4 := c4
          refine .quiet (by kernel_rfl) ?_
          refine LoadAt.mk 0 _ _ rfl rfl ?_
          refine LoadAt.mk 0 _ _ rfl rfl ?_
          refine bcond_dec (fun c5 => ?_) (fun c5 => ?_)
          · have c5 : IntKind.i64.wrap b < IntKind.i64.wrap t := c5
            refine .sched [] (upto [] 12 0) (by kernel_rfl) ?_
            refine LoadAt.mk 0 _ _ rfl rfl ?_
            refine LoadAt.mk 0 _ _ rfl rfl ?_
            refine callR [2, 2] (aRStore m p ws _ _ _) ?_
            refine StoreAt.mk 2 _ _ rfl rfl ?_
            exact .pull [2] (.done (rqEnd h ⟨base, cap, n, ok, true, at_ + 1, b, t, x⟩ (mStore ws (IntKind.i64.wrap (base + 1)) (IntKind.u64.wrap (b + 1))) rfl (by unfold popStep; dsimp only; (repeat' split) <;> first | rfl | (exfalso; omega) | (simp_all; done) | (exfalso; simp_all [wr, wu, botD, doIs]; omega)) (by unfold popStep; dsimp only; (repeat' split) <;> first | rfl | (exfalso; omega) | (simp_all; done) | (exfalso; simp_all [wr, wu, botD, doIs]; omega))))
          · have c5 : ¬ (IntKind.i64.wrap b < IntKind.i64.wrap t) := c5
            refine LoadAt.mk 0 _ _ rfl rfl ?_
            refine callR [] (aRPlace r k ⟨base, cap, n, ok, false, at_ + 1, b, t, x⟩ _ _ hb) ?_
            refine callR [2, 2] (aRLoad m p ws _ _) ?_
            refine StoreAt.mk 2 _ _ rfl rfl ?_
            refine .quiet (by kernel_rfl) ?_
            refine LoadAt.mk 2 _ _ rfl rfl ?_
            refine LoadAt.mk 2 _ _ rfl rfl ?_
            refine bcond_dec (fun c6 => ?_) (fun c6 => ?_)
            · have c6 : IntKind.i64.wrap t < IntKind.i64.wrap b := c6
              refine LoadAt.mk 2 _ _ rfl rfl ?_
              refine StoreAt.mk 2 _ _ rfl rfl ?_
              refine StoreAt.mk 2 _ _ rfl rfl ?_
              refine StoreAt.mk 2 _ _ rfl rfl ?_
              exact .pull [2] (.done (rqEnd h ⟨base, cap, mLoad ws (placeD base cap b), true, true, at_ + 1, b, t, mLoad ws (placeD base cap b)⟩ ws rfl (by unfold popStep; dsimp only; (repeat' split) <;> first | rfl | (exfalso; omega) | (simp_all; done) | (exfalso; simp_all [wr, wu, botD, doIs]; omega)) (by unfold popStep; dsimp only; (repeat' split) <;> first | rfl | (exfalso; omega) | (simp_all [wr, wu, botD, doIs]; done) | (exfalso; simp_all [wr, wu, botD, doIs]; omega))))
            · have c6 : ¬ (IntKind.i64.wrap t < IntKind.i64.wrap b) := c6
              exact .pull [2] (.done (rqEnd h ⟨base, cap, n, ok, false, at_ + 1, b, t, mLoad ws (placeD base cap b)⟩ ws rfl (by unfold popStep; dsimp only; (repeat' split) <;> first | rfl | (exfalso; omega) | (simp_all; done) | (exfalso; simp_all [wr, wu, botD, doIs]; omega)) (by unfold popStep; dsimp only; (repeat' split) <;> first | rfl | (exfalso; omega) | (simp_all [wr, wu, botD, doIs]; done) | (exfalso; simp_all [wr, wu, botD, doIs]; omega))))
        · have c4 : ¬ ((↑(at_ + 1) : Int) = 4) := c4
          refine LoadAt.mk 0 _ _ rfl rfl ?_
          refine bcond_dec (fun c7 => ?_) (fun c7 => ?_)
          · have c7 : (↑(at_ + 1) : Int) = 5 := c7
            refine .sched [] (upto [] 21 0) (by kernel_rfl) ?_
            refine LoadAt.mk 0 _ _ rfl rfl ?_
            refine LoadAt.mk 0 _ _ rfl rfl ?_
            refine LoadAt.mk 0 _ _ rfl rfl ?_
            refine callR [2, 2] (aDo m p ws 3 _ _ _ _) ?_
            refine StoreAt.mk 2 _ _ rfl rfl ?_
            exact .pull [2] (.done (rqEnd h ⟨base, cap, n, doIs ws 3 base t, false, at_ + 1, b, t, x⟩ (doTo ws 3 base t (IntKind.u64.wrap (t + 1))) rfl (by unfold popStep; dsimp only; (repeat' split) <;> first | rfl | (exfalso; omega) | (simp_all; done) | (exfalso; simp_all [wr, wu, botD, doIs]; omega)) (by unfold popStep; dsimp only; (repeat' split) <;> first | rfl | (exfalso; omega) | (simp_all; done) | (exfalso; simp_all [wr, wu, botD, doIs]; omega))))
          · have c7 : ¬ ((↑(at_ + 1) : Int) = 5) := c7
            refine .sched [] (upto [] 12 0) (by kernel_rfl) ?_
            refine LoadAt.mk 0 _ _ rfl rfl ?_
            refine LoadAt.mk 0 _ _ rfl rfl ?_
            refine callR [2, 2] (aRStore m p ws _ _ _) ?_
            refine StoreAt.mk 2 _ _ rfl rfl ?_
            refine LoadAt.mkB 2 _ _ rfl rfl (fun c8 => ?_) (fun c8 => ?_)
            · refine LoadAt.mk 2 _ _ rfl rfl ?_
              refine StoreAt.mk 2 _ _ rfl rfl ?_
              exact .pull [2] (.done (rqEnd h ⟨base, cap, x, ok, true, at_ + 1, b, t, x⟩ (mStore ws (IntKind.i64.wrap (base + 1)) (IntKind.u64.wrap (b + 1))) rfl (by unfold popStep; dsimp only; (repeat' split) <;> first | rfl | (exfalso; omega) | (simp_all; done) | (exfalso; simp_all [wr, wu, botD, doIs]; omega)) (by unfold popStep; dsimp only; (repeat' split) <;> first | rfl | (exfalso; omega) | (simp_all; done) | (exfalso; simp_all [wr, wu, botD, doIs]; omega))))
            · exact .pull [2] (.done (rqEnd h ⟨base, cap, n, ok, true, at_ + 1, b, t, x⟩ (mStore ws (IntKind.i64.wrap (base + 1)) (IntKind.u64.wrap (b + 1))) rfl (by unfold popStep; dsimp only; (repeat' split) <;> first | rfl | (exfalso; omega) | (simp_all; done) | (exfalso; simp_all [wr, wu, botD, doIs]; omega)) (by unfold popStep; dsimp only; (repeat' split) <;> first | rfl | (exfalso; omega) | (simp_all; done) | (exfalso; simp_all [wr, wu, botD, doIs]; omega))))
theorem aRSteal (r m p : Nat) (k base cap n b t x : Int) (ok : Bool) (at_ : Nat) (ws : List Int) (σ : Hp) (_ : at_ ≤ 1000) (hb : 0 ≤ t) {q' : DQ} {ws' : List Int} {e : Bool} (h : stealStep listOps ⟨base, cap, n, ok, false, at_, b, t, x⟩ ws = (q', ws', e)) : ACalls Try.prog 67 [.ptr r 0, .ptr m 0] ((r, rqC k ⟨base, cap, n, ok, false, at_ + 1, b, t, x⟩) :: reH m p ws σ) (Ret (.tup []) ((r, rqC k q') :: reH m p ws' σ)) := by
  refine okF Try.func67 (by kernel_rfl) ?_
  refine LoadAt.mk 0 _ _ rfl rfl ?_
  refine bcond_dec (fun c1 => ?_) (fun c1 => ?_)
  · have c1 : (↑(at_ + 1) : Int) = 1 := c1
    refine LoadAt.mk 0 _ _ rfl rfl ?_
    refine callR [2, 2] (aRLoad m p ws _ _) ?_
    refine StoreAt.mk 2 _ _ rfl rfl ?_
    exact .pull [2] (.done (rqEnd h ⟨base, cap, n, ok, false, at_ + 1, b, mLoad ws base, x⟩ ws rfl (by unfold stealStep; dsimp only; (repeat' split) <;> first | rfl | (exfalso; omega) | (simp_all; done) | (exfalso; simp_all [wr, wu, botD, doIs]; omega)) (by unfold stealStep; dsimp only; (repeat' split) <;> first | rfl | (exfalso; omega) | (simp_all [wr, wu, botD, doIs]; done) | (exfalso; simp_all [wr, wu, botD, doIs]; omega))))
  · have c1 : ¬ ((↑(at_ + 1) : Int) = 1) := c1
    refine LoadAt.mk 0 _ _ rfl rfl ?_
    refine bcond_dec (fun c2 => ?_) (fun c2 => ?_)
    · have c2 : (↑(at_ + 1) : Int) = 2 := c2
      refine LoadAt.mk 0 _ _ rfl rfl ?_
      refine callR [2, 2] (aRLoad m p ws _ _) ?_
      refine StoreAt.mk 2 _ _ rfl rfl ?_
      refine .sched [] (upto [] 15 0) (by kernel_rfl) ?_
      refine LoadAt.mk 2 _ _ rfl rfl ?_
      refine LoadAt.mk 2 _ _ rfl rfl ?_
      refine bcond_dec (fun c3 => ?_) (fun c3 => ?_)
      · have c3 : IntKind.i64.wrap (mLoad ws (IntKind.i64.wrap (base + 1))) ≤ IntKind.i64.wrap t := c3
        refine StoreAt.mk 2 _ _ rfl rfl ?_
        exact .pull [2] (.done (rqEnd h ⟨base, cap, n, ok, true, at_ + 1, mLoad ws (IntKind.i64.wrap (base + 1)), t, x⟩ ws rfl (by unfold stealStep; dsimp only; (repeat' split) <;> first | rfl | (exfalso; omega) | (simp_all [wr, botD]; done) | (exfalso; simp_all [wr, wu, botD, doIs]; omega)) (by unfold stealStep; dsimp only; (repeat' split) <;> first | rfl | (exfalso; omega) | (simp_all [wr, wu, botD, doIs]; done) | (exfalso; simp_all [wr, wu, botD, doIs]; omega))))
      · have c3 : ¬ (IntKind.i64.wrap (mLoad ws (IntKind.i64.wrap (base + 1))) ≤ IntKind.i64.wrap t) := c3
        refine StoreAt.mk 2 _ _ rfl rfl ?_
        exact .pull [2] (.done (rqEnd h ⟨base, cap, n, ok, false, at_ + 1, mLoad ws (IntKind.i64.wrap (base + 1)), t, x⟩ ws rfl (by unfold stealStep; dsimp only; (repeat' split) <;> first | rfl | (exfalso; omega) | (simp_all [wr, botD]; done) | (exfalso; simp_all [wr, botD]; omega)) (by unfold stealStep; dsimp only; (repeat' split) <;> first | rfl | (exfalso; omega) | (simp_all [wr, wu, botD, doIs]; done) | (exfalso; simp_all [wr, wu, botD, doIs]; omega))))
    · have c2 : ¬ ((↑(at_ + 1) : Int) = 2) := c2
      refine LoadAt.mk 0 _ _ rfl rfl ?_
      refine bcond_dec (fun c4 => ?_) (fun c4 => ?_)
      · have c4 : (↑(at_ + 1) : Int) = 3 := c4
        refine LoadAt.mk 0 _ _ rfl rfl ?_
        refine callR [] (aRPlace r k ⟨base, cap, n, ok, false, at_ + 1, b, t, x⟩ _ _ hb) ?_
        refine callR [2, 2] (aRLoad m p ws _ _) ?_
        refine StoreAt.mk 2 _ _ rfl rfl ?_
        exact .pull [2] (.done (rqEnd h ⟨base, cap, n, ok, false, at_ + 1, b, t, mLoad ws (placeD base cap t)⟩ ws rfl (by unfold stealStep; dsimp only; (repeat' split) <;> first | rfl | (exfalso; omega) | (simp_all; done) | (exfalso; simp_all [wr, wu, botD, doIs]; omega)) (by unfold stealStep; dsimp only; (repeat' split) <;> first | rfl | (exfalso; omega) | (simp_all [wr, wu, botD, doIs]; done) | (exfalso; simp_all [wr, wu, botD, doIs]; omega))))
      · have c4 : ¬ ((↑(at_ + 1) : Int) = 3) := c4
        refine .sched [] (upto [] 21 0) (by kernel_rfl) ?_
        refine LoadAt.mk 0 _ _ rfl rfl ?_
        refine LoadAt.mk 0 _ _ rfl rfl ?_
        refine LoadAt.mk 0 _ _ rfl rfl ?_
        refine callR [2, 2] (aDo m p ws 3 _ _ _ _) ?_
        refine StoreAt.mk 2 _ _ rfl rfl ?_
        refine StoreAt.mk 2 _ _ rfl rfl ?_
        refine LoadAt.mkB 2 _ _ rfl rfl (fun c5 => ?_) (fun c5 => ?_)
        · refine LoadAt.mk 2 _ _ rfl rfl ?_
          refine StoreAt.mk 2 _ _ rfl rfl ?_
          exact .pull [2] (.done (rqEnd h ⟨base, cap, x, doIs ws 3 base t, true, at_ + 1, b, t, x⟩ (doTo ws 3 base t (IntKind.u64.wrap (t + 1))) rfl (by unfold stealStep; dsimp only; (repeat' split) <;> first | rfl | (exfalso; omega) | (simp_all [doIs]; done) | (exfalso; simp_all [wr, wu, botD, doIs]; omega)) (by unfold stealStep; dsimp only; (repeat' split) <;> first | rfl | (exfalso; omega) | (simp_all [doIs]; done) | (exfalso; simp_all [wr, wu, botD, doIs]; omega))))
        · exact .pull [2] (.done (rqEnd h ⟨base, cap, n, doIs ws 3 base t, true, at_ + 1, b, t, x⟩ (doTo ws 3 base t (IntKind.u64.wrap (t + 1))) rfl (by unfold stealStep; dsimp only; (repeat' split) <;> first | rfl | (exfalso; omega) | (simp_all [doIs]; done) | (exfalso; simp_all [wr, wu, botD, doIs]; omega)) (by unfold stealStep; dsimp only; (repeat' split) <;> first | rfl | (exfalso; omega) | (simp_all [doIs]; done) | (exfalso; simp_all [wr, wu, botD, doIs]; omega))))
def dqStep (k : Int) (O : MOps) (q : DQ) (a : O.A) : DQ × O.A × Bool := if k = 1 then pushStep O q a else if k = 2 then popStep O q a else stealStep O q a
/-- What a machine knows may be. -/
def DQ.fine (q : DQ) : Prop := q.at_ ≤ 900 ∧ 0 ≤ q.b ∧ 0 ≤ q.t
theorem dq_ended {k : Int} {O : MOps} {q : DQ} {a : O.A} (he : q.ended = false) : (dqStep k O q a).2.2 = (dqStep k O q a).1.ended := by
  unfold dqStep pushStep popStep stealStep
  simp only [he]
  repeat' split
  all_goals first | rfl | simp_all
theorem aRStep27 (r m p : Nat) (k : Int) (q : DQ) (ws : List Int) (σ : Hp) (hq : q.fine) {q' : DQ} {ws' : List Int} {e : Bool} (h : dqStep k listOps q ws = (q', ws', e)) : ACalls Try.prog 47 [.ptr r 0, .ptr m 0] ((r, rqC k q) :: reH m p ws σ) (Ret (.bool q'.ended) ((r, rqC k q') :: reH m p ws' σ)) := by
  obtain ⟨base, cap, n, ok, ended, at_, b, t, x⟩ := q
  obtain ⟨h1, h2, h3⟩ := hq
  have h1 : at_ ≤ 900 := h1
  have h2 : 0 ≤ b := h2
  have h3 : 0 ≤ t := h3
  have hw : IntKind.i64.wrap ((at_ : Int) + 1) = ((at_ + 1 : Nat) : Int) := by rw [IntKind.wrap_i64]; omega
  have hw' : AV.int .i64 (IntKind.i64.wrap ((at_ : Int) + 1)) = AV.int .i64 ((at_ + 1 : Nat) : Int) := by rw [hw]
  cases ended with
  | true =>
    have e1 : q' = ⟨base, cap, n, ok, true, at_, b, t, x⟩ ∧ ws' = ws := by
      unfold dqStep pushStep popStep stealStep at h
      simp only [if_true] at h
      repeat' split at h
      all_goals cases h; exact ⟨rfl, rfl⟩
    obtain ⟨rfl, rfl⟩ := e1
    refine okF Try.func47 (by kernel_rfl) ?_
    refine LoadAt.mk 0 _ _ rfl rfl ?_
    exact .done ⟨rfl, rfl⟩
  | false =>
    have ec : ([.int .i64 k, .int .i64 base, .int .i64 cap, .int .u64 n, .bool ok, .bool false, .int .i64 (IntKind.i64.wrap ((at_ : Int) + 1)), .int .u64 b, .int .u64 t, .int .u64 x] : List AV) = rqC k ⟨base, cap, n, ok, false, at_ + 1, b, t, x⟩ := by unfold rqC; rw [hw]
    have hp : k = 1 → ∀ σ, ACalls Try.prog 65 [.ptr r 0, .ptr m 0] ((r, [.int .i64 k, .int .i64 base, .int .i64 cap, .int .u64 n, .bool ok, .bool false, .int .i64 (IntKind.i64.wrap ((at_ : Int) + 1)), .int .u64 b, .int .u64 t, .int .u64 x]) :: reH m p ws σ) (Ret (.tup []) ((r, rqC k q') :: reH m p ws' σ)) := fun e1 σ => by
      rw [ec]
      exact aRPush r m p k base cap n b t x ok at_ ws σ (by omega) h2 (by rw [dqStep, if_pos e1] at h; exact h)
    have ho : ¬ k = 1 → k = 2 → ∀ σ, ACalls Try.prog 66 [.ptr r 0, .ptr m 0] ((r, [.int .i64 k, .int .i64 base, .int .i64 cap, .int .u64 n, .bool ok, .bool false, .int .i64 (IntKind.i64.wrap ((at_ : Int) + 1)), .int .u64 b, .int .u64 t, .int .u64 x]) :: reH m p ws σ) (Ret (.tup []) ((r, rqC k q') :: reH m p ws' σ)) := fun e1 e2 σ => by
      rw [ec]
      exact aRPop r m p k base cap n b t x ok at_ ws σ (by omega) h2 (by rw [dqStep, if_neg e1, if_pos e2] at h; exact h)
    have hs : ¬ k = 1 → ¬ k = 2 → ∀ σ, ACalls Try.prog 67 [.ptr r 0, .ptr m 0] ((r, [.int .i64 k, .int .i64 base, .int .i64 cap, .int .u64 n, .bool ok, .bool false, .int .i64 (IntKind.i64.wrap ((at_ : Int) + 1)), .int .u64 b, .int .u64 t, .int .u64 x]) :: reH m p ws σ) (Ret (.tup []) ((r, rqC k q') :: reH m p ws' σ)) := fun e1 e2 σ => by
      rw [ec]
      exact aRSteal r m p k base cap n b t x ok at_ ws σ (by omega) h3 (by rw [dqStep, if_neg e1, if_neg e2] at h; exact h)
    refine okF Try.func47 (by kernel_rfl) ?_
    refine LoadAt.mk 0 _ _ rfl rfl ?_
    refine LoadAt.mk 0 _ _ rfl rfl ?_
    refine StoreAt.mk 0 _ _ rfl rfl ?_
    refine LoadAt.mk 0 _ _ rfl rfl ?_
    refine bcond_dec (fun c1 => ?_) (fun c1 => ?_)
    · have c1 : k = 1 := c1
      refine callR [] (hp (by assumption) _) ?_
      (refine LoadAt.mk 0 _ _ rfl (show _ = some (AV.bool q'.ended) from rfl) ?_; exact .done ⟨rfl, rfl⟩)
    · have c1 : ¬ (k = 1) := c1
      refine LoadAt.mk 0 _ _ rfl rfl ?_
      refine bcond_dec (fun c2 => ?_) (fun c2 => ?_)
      · have c2 : k = 2 := c2
        refine callR [] (ho (by assumption) (by assumption) _) ?_
        (refine LoadAt.mk 0 _ _ rfl (show _ = some (AV.bool q'.ended) from rfl) ?_; exact .done ⟨rfl, rfl⟩)
      · have c2 : ¬ (k = 2) := c2
        refine callR [] (hs (by assumption) (by assumption) _) ?_
        (refine LoadAt.mk 0 _ _ rfl (show _ = some (AV.bool q'.ended) from rfl) ?_; exact .done ⟨rfl, rfl⟩)
end Go.Proofs.Ytacacplipaeokaa
