/-
  soughref16.Check: the same.
-/
import Derived.Test.YtggcpiddnhipiaaGreatTk2
namespace Go.Proofs.YtggcpiddnhipiaaGreat
open Go.RowKit
set_option maxRecDepth 100000
theorem aTCheckR (what w : Int) (g k : List Int) (l : List CodeT) (σ : Hp) (hg : A64 g) (hk : A64 k) (lg : g.length ≤ 10000) (lk : k.length ≤ 10000) (ll : l.length ≤ 1000000) : ACalls Tryz.prog 46 [.int .i64 what, .int .i64 w, .agg (trC g k l)] σ (Ret (.int .i64 (checkT what w g k l)) σ) := by
  refine okF Tryz.func46 (by kernel_rfl) ?_
  intro bl1
  refine callB [] (aRIs what w _) (fun hi => ?_) (fun hi => ?_)
  · refine bcond_split (fun c2 => ?_) (fun c2 => ?_)
    · have c2 : ¬ (what = 3) := by simpa using c2
      refine LoadAt.mk 0 _ _ rfl rfl ?_
      refine bcond_dec (fun c3 => ?_) (fun c3 => ?_)
      · have c3 : 0 < (↑l.length : Int) := c3
        exact .drop 0 1 (.done ⟨av_int (chk2 hi (by rw [trS c2, decide_eq_false (p := l.length = 0) (by have c3 : 0 < (l.length : Int) := c3; omega)]; rfl)), rfl⟩)
      · have c3 : ¬ (0 < (↑l.length : Int)) := c3
        refine LoadAt.mk 0 _ _ rfl rfl ?_
        refine callB [] (aFitsR g w _ hg) (fun cG => ?_) (fun cG => ?_)
        · refine LoadAt.mk 0 _ _ rfl rfl ?_
          refine callB [] (aFitsR k w _ hk) (fun cK => ?_) (fun cK => ?_)
          · exact .drop 0 1 (.done ⟨av_int (chk0 hi (by rw [trS c2, cG, cK, decide_eq_true (p := l.length = 0) (by have c3 : ¬ 0 < (l.length : Int) := c3; omega)]; rfl)), rfl⟩)
          · exact .drop 0 1 (.done ⟨av_int (chk2 hi (by rw [trS c2, cK]; simp)), rfl⟩)
        · exact .drop 0 1 (.done ⟨av_int (chk2 hi (by rw [trS c2, cG]; simp)), rfl⟩)
    · have c2 : what = 3 := by simpa using c2
      refine LoadAt.mk 0 _ _ rfl rfl ?_
      refine bcond_dec (fun c4 => ?_) (fun c4 => ?_)
      · have c4 : 0 < (↑g.length : Int) := c4
        exact .drop 0 1 (.done ⟨av_int (chk2 hi (by rw [trN c2, decide_eq_false (p := g.length + k.length = 0) (by have c4 : 0 < (g.length : Int) := c4; omega)]; rfl)), rfl⟩)
      · have c4 : ¬ (0 < (↑g.length : Int)) := c4
        refine LoadAt.mk 0 _ _ rfl rfl ?_
        refine bcond_dec (fun c5 => ?_) (fun c5 => ?_)
        · have c5 : 0 < (↑k.length : Int) := c5
          exact .drop 0 1 (.done ⟨av_int (chk2 hi (by rw [trN c2, decide_eq_false (p := g.length + k.length = 0) (by have c5 : 0 < (k.length : Int) := c5; omega)]; rfl)), rfl⟩)
        · have c5 : ¬ (0 < (↑k.length : Int)) := c5
          refine LoadAt.mk 0 _ _ rfl rfl ?_
          have hgk : g.length + k.length = 0 := by
            have c4 : ¬ 0 < (g.length : Int) := c4
            have c5 : ¬ 0 < (k.length : Int) := c5
            omega
          refine loopS (S := Nat) (fun s => [(1, .int .i64 w), (44, .fsl codeSh l), (45, .int .i64 l.length), (46, .int .i64 s)]) (fun _ => (bl1, trC g k l) :: σ) (fun s => s ≤ l.length ∧ (l.take s).all (codeR w) = true) (fun s => l.length - s) 0 ⟨⟨Nat.zero_le _, rfl⟩, ⟨rfl, rfl, rfl, rfl, trivial⟩, rfl⟩ ?_
          rintro s t ⟨hs0, hn0⟩
          have hs : s ≤ l.length := hs0
          have hn : (l.take s).all (codeR w) = true := hn0
          clear hs0 hn0
          refine bcond_dec (fun hlt => ?_) (fun hge => ?_)
          · have hlt : s < l.length := by have hlt : (s : Int) < l.length := hlt; omega
            have hb : codeR w l[s] = false → trOk what w g k l = false := fun h => by
              rw [trN c2, show l.all (codeR w) = false from List.all_eq_false.2 ⟨l[s], List.getElem_mem hlt, by rw [h]; decide⟩]; simp
            have hy : codeR w l[s] = true → (l.take (s + 1)).all (codeR w) = true := fun h => by
              rw [List.take_succ_eq_append_getElem hlt, List.all_append, hn]; simp [h]
            obtain ⟨c, hc⟩ : ∃ c : CodeT, l[s] = c := ⟨_, rfl⟩
            rw [hc] at hb hy
            refine With.mk rfl (IdxF.mk c (by omega) ((get_some hlt).trans (congrArg some hc)) ?_)
            clear hc
            intro bl2
            refine StoreAt.mk 0 _ _ rfl rfl ?_
            refine LoadAt.mk 0 _ _ rfl rfl ?_
            refine bcond_dec (fun c1 => ?_) (fun c1 => ?_)
            · have c1 : c.fst < 0 := c1
              exact .drop 0 2 (.done ⟨av_int (chk2 hi (hb (by simp [codeR, *]))), rfl⟩)
            · have c1 : ¬ (c.fst < 0) := c1
              refine LoadAt.mk 0 _ _ rfl rfl ?_
              refine bcond_dec (fun c2 => ?_) (fun c2 => ?_)
              · have c2 : w ≤ c.fst := c2
                exact .drop 0 2 (.done ⟨av_int (chk2 hi (hb (by simp [codeR, *]))), rfl⟩)
              · have c2 : ¬ (w ≤ c.fst) := c2
                refine LoadAt.mk 0 _ _ rfl rfl ?_
                refine bcond_dec (p := c.2.1 < -1) (fun d3 => ?_) (fun d3 => ?_)
                · exact .drop 0 2 (.done ⟨av_int (chk2 hi (hb (by simp [codeR, *]))), rfl⟩)
                refine LoadAt.mk 0 _ _ rfl rfl ?_
                refine bcond_dec (p := 4 < c.2.1) (fun d4 => ?_) (fun d4 => ?_)
                · exact .drop 0 2 (.done ⟨av_int (chk2 hi (hb (by simp [codeR, *]))), rfl⟩)
                refine LoadAt.mk 0 _ _ rfl rfl ?_
                refine bcond_dec (p := c.2.1 = -1) (fun d5 => ?_) (fun d5 => ?_)
                · refine LoadAt.mk 0 _ _ rfl rfl ?_
                  refine EqAt.mk (by kernel_rfl) (by kernel_rfl) ?_
                  refine bcond_split (fun e1 => ?_) (fun e1 => ?_)
                  · have e1 : (!refZ c.2.2.1) = true := (congrArg (fun b => !b) (eq3 c.2.2.1)).symm.trans e1
                    have e1 : refZ c.2.2.1 = false := by simpa using e1
                    exact .drop 0 2 (.done ⟨av_int (chk2 hi (hb (by simp [codeR, *]))), rfl⟩)
                  · have e1 : (!refZ c.2.2.1) = false := (congrArg (fun b => !b) (eq3 c.2.2.1)).symm.trans e1
                    have e1 : refZ c.2.2.1 = true := by simpa using e1
                    refine LoadAt.mk 0 _ _ rfl rfl ?_
                    refine EqAt.mk (by kernel_rfl) (by kernel_rfl) ?_
                    refine bcond_split (fun e2 => ?_) (fun e2 => ?_)
                    · have e2 : (!refZ c.2.2.2.1) = true := (congrArg (fun b => !b) (eq3 c.2.2.2.1)).symm.trans e2
                      have e2 : refZ c.2.2.2.1 = false := by simpa using e2
                      exact .drop 0 2 (.done ⟨av_int (chk2 hi (hb (by simp [codeR, *]))), rfl⟩)
                    · have e2 : (!refZ c.2.2.2.1) = false := (congrArg (fun b => !b) (eq3 c.2.2.2.1)).symm.trans e2
                      have e2 : refZ c.2.2.2.1 = true := by simpa using e2
                      refine LoadAt.mk 0 _ _ rfl rfl ?_
                      refine bcond_dec (p := 0 ≤ c.2.1) (fun d6 => ?_) (fun d6 => ?_)
                      · exact absurd d6 (by rw [d5]; decide)
                      · exact nextS (s + 1) (by show l.length - (s + 1) < l.length - s; omega) ⟨hlt, hy (by first | (simp [codeR, *]; done) | omega)⟩ ⟨rfl, rfl, rfl, inc64 (by omega), trivial⟩ (.drop 0 1 (.refl _))
                · refine LoadAt.mk 0 _ _ rfl rfl ?_
                  refine bcond_dec (p := 0 ≤ c.2.1) (fun d6 => ?_) (fun d6 => ?_)
                  · refine LoadAt.mk 0 _ _ rfl rfl ?_
                    refine callB [] (aTRefR w c.2.2.1 _) (fun cA => ?_) (fun cA => ?_)
                    · refine LoadAt.mk 0 _ _ rfl rfl ?_
                      refine callB [] (aTRefR w c.2.2.2.1 _) (fun cB => ?_) (fun cB => ?_)
                      · exact nextS (s + 1) (by show l.length - (s + 1) < l.length - s; omega) ⟨hlt, hy (by first | (simp [codeR, *]; done) | omega)⟩ ⟨rfl, rfl, rfl, inc64 (by omega), trivial⟩ (.drop 0 1 (.refl _))
                      · exact .drop 0 2 (.done ⟨av_int (chk2 hi (hb (by simp [codeR, *]))), rfl⟩)
                    · exact .drop 0 2 (.done ⟨av_int (chk2 hi (hb (by simp [codeR, *]))), rfl⟩)
                  · exact absurd d6 (by omega)
          · have hge : s = l.length := by have hge : ¬ (s : Int) < l.length := hge; omega
            subst hge
            rw [List.take_length] at hn
            exact .drop 0 1 (.done ⟨av_int (chk0 hi (by rw [trN c2, hn, decide_eq_true hgk]; rfl)), rfl⟩)
  · exact .drop 0 1 (.done ⟨av_int (chk10 hi), rfl⟩)
end Go.Proofs.YtggcpiddnhipiaaGreat
