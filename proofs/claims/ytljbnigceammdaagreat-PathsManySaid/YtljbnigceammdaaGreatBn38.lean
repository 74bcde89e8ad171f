/-
  Ye: what the claim uses of them.
-/
import Derived.Test.YtljbnigceammdaaGreatBn37
namespace Go.Proofs.YtljbnigceammdaaGreat
open Go.RowKit
set_option maxRecDepth 100000
/-- A call that hands back a bool which, if it's true, tells p. -/
def SaysP (p : Prop) (σ : Hp) : AV → Hp → Prop := fun r σ' => ∃ b : Bool, r = .bool b ∧ σ' = σ ∧ (b = true → p)
theorem callS {P : Program} {f : FuncId} {xs : List AV} {σ : Hp} {K : AV → Hp → Prop} (js : List Nat) {p : Prop} {σ2 : Hp} (h : ACalls P f xs (pulls js σ) (SaysP p σ2)) (k1 : p → K (.bool true) σ2) (k2 : K (.bool false) σ2) : CallAt P f K xs σ :=
  .mk js _ h fun r σ' ⟨b, h1, h2, h3⟩ => by subst h1 h2; cases b; exact k2; exact k1 (h3 rfl)
/-- A system is small. -/
structure SmallS (s : Sy) : Prop where
  tl : s.T.length ≤ 8
  el : s.edges.length ≤ 16
  nl : s.entry.length ≤ 10
  il : s.init.length ≤ 20
  ts : ∀ t ∈ s.T, t.1.length ≤ 4 ∧ t.2.1.length ≤ 4 ∧ t.2.2.1.length ≤ 6
  sz : (s.n ≤ 7 ∧ s.w ≤ 10) ∨ 256 < s.n ∨ 1024 < s.w
theorem aSmall17 (s : Sy) (σ : Hp) : ACalls Tryz.prog 22 [.agg (sysC s)] σ (SaysP (SmallS s) σ) := by
  refine okF Tryz.func22 (by kernel_rfl) ?_
  intro bl1
  refine LoadAt.mk 0 _ _ rfl rfl ?_
  refine bcond_dec (fun c2 => ?_) (fun c2 => ?_)
  · have c2 : 7 < s.n := c2
    refine LoadAt.mk 0 _ _ rfl rfl ?_
    refine bcond_dec (fun c3 => ?_) (fun c3 => ?_)
    · have c3 : s.n ≤ 256 := c3
      refine LoadAt.mk 0 _ _ rfl rfl ?_
      refine bcond_dec (fun c4 => ?_) (fun c4 => ?_)
      · have c4 : s.w ≤ 1024 := c4
        exact .drop 0 1 (.done ⟨false, rfl, rfl, fun h => by cases h⟩)
      · have c4 : ¬ (s.w ≤ 1024) := c4
        refine LoadAt.mk 0 _ _ rfl rfl ?_
        refine bcond_dec (fun c5 => ?_) (fun c5 => ?_)
        · have c5 : 8 < (↑s.T.length : Int) := c5
          exact .drop 0 1 (.done ⟨false, rfl, rfl, fun h => by cases h⟩)
        · have c5 : ¬ (8 < (↑s.T.length : Int)) := c5
          refine LoadAt.mk 0 _ _ rfl rfl ?_
          refine bcond_dec (fun c6 => ?_) (fun c6 => ?_)
          · have c6 : 16 < (↑s.edges.length : Int) := c6
            exact .drop 0 1 (.done ⟨false, rfl, rfl, fun h => by cases h⟩)
          · have c6 : ¬ (16 < (↑s.edges.length : Int)) := c6
            refine LoadAt.mk 0 _ _ rfl rfl ?_
            refine bcond_dec (fun c7 => ?_) (fun c7 => ?_)
            · have c7 : 10 < (↑s.entry.length : Int) := c7
              exact .drop 0 1 (.done ⟨false, rfl, rfl, fun h => by cases h⟩)
            · have c7 : ¬ (10 < (↑s.entry.length : Int)) := c7
              refine LoadAt.mk 0 _ _ rfl rfl ?_
              refine bcond_dec (fun c8 => ?_) (fun c8 => ?_)
              · have c8 : 20 < (↑s.init.length : Int) := c8
                exact .drop 0 1 (.done ⟨false, rfl, rfl, fun h => by cases h⟩)
              · have c8 : ¬ (20 < (↑s.init.length : Int)) := c8
                refine LoadAt.mk 0 _ _ rfl rfl ?_
                refine loopS (S := Nat) (fun k => [(48, .fsl transSh s.T), (49, .int .i64 s.T.length), (50, .int .i64 k)]) (fun _ => (bl1, sysC s) :: σ) (fun k => k ≤ s.T.length ∧ ∀ t ∈ s.T.take k, t.1.length ≤ 4 ∧ t.2.1.length ≤ 4 ∧ t.2.2.1.length ≤ 6) (fun k => s.T.length - k) 0 ⟨⟨Nat.zero_le _, fun t h => by cases h⟩, ⟨rfl, rfl, rfl, trivial⟩, rfl⟩ ?_
                rintro k g ⟨hk0, ht0⟩
                have hk : k ≤ s.T.length := hk0
                have ht : ∀ t ∈ s.T.take k, t.1.length ≤ 4 ∧ t.2.1.length ≤ 4 ∧ t.2.2.1.length ≤ 6 := ht0
                clear hk0 ht0
                refine bcond_dec (fun hlt => ?_) (fun hge => ?_)
                · have hlt : k < s.T.length := by have hlt : (k : Int) < s.T.length := hlt; omega
                  have hsn : s.T.take (k + 1) = s.T.take k ++ [s.T[k]] := List.take_succ_eq_append_getElem hlt
                  obtain ⟨t, htk⟩ : ∃ t : TrT, s.T[k] = t := ⟨_, rfl⟩
                  rw [htk] at hsn
                  refine With.mk rfl (IdxF.mk t (by omega) ((get_some hlt).trans (congrArg some htk)) ?_)
                  intro bl2
                  refine StoreAt.mk 0 _ _ rfl rfl ?_
                  refine LoadAt.mk 0 _ _ rfl rfl ?_
                  refine bcond_dec (p := 4 < (t.1.length : Int)) (fun d1 => ?_) (fun d1 => ?_)
                  · exact .drop 0 2 (.done ⟨false, rfl, rfl, fun h => by cases h⟩)
                  · refine LoadAt.mk 0 _ _ rfl rfl ?_
                    refine bcond_dec (p := 4 < (t.2.1.length : Int)) (fun d2 => ?_) (fun d2 => ?_)
                    · exact .drop 0 2 (.done ⟨false, rfl, rfl, fun h => by cases h⟩)
                    · refine LoadAt.mk 0 _ _ rfl rfl ?_
                      refine bcond_dec (p := 6 < (t.2.2.1.length : Int)) (fun d3 => ?_) (fun d3 => ?_)
                      · exact .drop 0 2 (.done ⟨false, rfl, rfl, fun h => by cases h⟩)
                      · refine nextS (k + 1) (by show s.T.length - (k + 1) < s.T.length - k; omega) ⟨hlt, fun u hu => ?_⟩ ⟨rfl, rfl, inc64 (by omega), trivial⟩ (.drop 0 1 (.refl _))
                        rw [hsn] at hu
                        rcases List.mem_append.1 hu with hu | hu
                        · exact ht u hu
                        · rw [List.mem_singleton.1 hu]; omega
                · have hge : k = s.T.length := by have hge : ¬ (k : Int) < s.T.length := hge; omega
                  subst hge
                  rw [List.take_length] at ht
                  exact .drop 0 1 (.done ⟨true, rfl, rfl, fun _ => ⟨by omega, by omega, by omega, by omega, ht, by omega⟩⟩)
    · have c3 : ¬ (s.n ≤ 256) := c3
      refine LoadAt.mk 0 _ _ rfl rfl ?_
      refine bcond_dec (fun c9 => ?_) (fun c9 => ?_)
      · have c9 : 8 < (↑s.T.length : Int) := c9
        exact .drop 0 1 (.done ⟨false, rfl, rfl, fun h => by cases h⟩)
      · have c9 : ¬ (8 < (↑s.T.length : Int)) := c9
        refine LoadAt.mk 0 _ _ rfl rfl ?_
        refine bcond_dec (fun c10 => ?_) (fun c10 => ?_)
        · have c10 : 16 < (↑s.edges.length : Int) := c10
          exact .drop 0 1 (.done ⟨false, rfl, rfl, fun h => by cases h⟩)
        · have c10 : ¬ (16 < (↑s.edges.length : Int)) := c10
          refine LoadAt.mk 0 _ _ rfl rfl ?_
          refine bcond_dec (fun c11 => ?_) (fun c11 => ?_)
          · have c11 : 10 < (↑s.entry.length : Int) := c11
            exact .drop 0 1 (.done ⟨false, rfl, rfl, fun h => by cases h⟩)
          · have c11 : ¬ (10 < (↑s.entry.length : Int)) := c11
            refine LoadAt.mk 0 _ _ rfl rfl ?_
            refine bcond_dec (fun c12 => ?_) (fun c12 => ?_)
            · have c12 : 20 < (↑s.init.length : Int) := c12
              exact .drop 0 1 (.done ⟨false, rfl, rfl, fun h => by cases h⟩)
            · have c12 : ¬ (20 < (↑s.init.length : Int)) := c12
              refine LoadAt.mk 0 _ _ rfl rfl ?_
              refine loopS (S := Nat) (fun k => [(48, .fsl transSh s.T), (49, .int .i64 s.T.length), (50, .int .i64 k)]) (fun _ => (bl1, sysC s) :: σ) (fun k => k ≤ s.T.length ∧ ∀ t ∈ s.T.take k, t.1.length ≤ 4 ∧ t.2.1.length ≤ 4 ∧ t.2.2.1.length ≤ 6) (fun k => s.T.length - k) 0 ⟨⟨Nat.zero_le _, fun t h => by cases h⟩, ⟨rfl, rfl, rfl, trivial⟩, rfl⟩ ?_
              rintro k g ⟨hk0, ht0⟩
              have hk : k ≤ s.T.length := hk0
              have ht : ∀ t ∈ s.T.take k, t.1.length ≤ 4 ∧ t.2.1.length ≤ 4 ∧ t.2.2.1.length ≤ 6 := ht0
              clear hk0 ht0
              refine bcond_dec (fun hlt => ?_) (fun hge => ?_)
              · have hlt : k < s.T.length := by have hlt : (k : Int) < s.T.length := hlt; omega
                have hsn : s.T.take (k + 1) = s.T.take k ++ [s.T[k]] := List.take_succ_eq_append_getElem hlt
                obtain ⟨t, htk⟩ : ∃ t : TrT, s.T[k] = t := ⟨_, rfl⟩
                rw [htk] at hsn
                refine With.mk rfl (IdxF.mk t (by omega) ((get_some hlt).trans (congrArg some htk)) ?_)
                intro bl2
                refine StoreAt.mk 0 _ _ rfl rfl ?_
                refine LoadAt.mk 0 _ _ rfl rfl ?_
                refine bcond_dec (p := 4 < (t.1.length : Int)) (fun d1 => ?_) (fun d1 => ?_)
                · exact .drop 0 2 (.done ⟨false, rfl, rfl, fun h => by cases h⟩)
                · refine LoadAt.mk 0 _ _ rfl rfl ?_
                  refine bcond_dec (p := 4 < (t.2.1.length : Int)) (fun d2 => ?_) (fun d2 => ?_)
                  · exact .drop 0 2 (.done ⟨false, rfl, rfl, fun h => by cases h⟩)
                  · refine LoadAt.mk 0 _ _ rfl rfl ?_
                    refine bcond_dec (p := 6 < (t.2.2.1.length : Int)) (fun d3 => ?_) (fun d3 => ?_)
                    · exact .drop 0 2 (.done ⟨false, rfl, rfl, fun h => by cases h⟩)
                    · refine nextS (k + 1) (by show s.T.length - (k + 1) < s.T.length - k; omega) ⟨hlt, fun u hu => ?_⟩ ⟨rfl, rfl, inc64 (by omega), trivial⟩ (.drop 0 1 (.refl _))
                      rw [hsn] at hu
                      rcases List.mem_append.1 hu with hu | hu
                      · exact ht u hu
                      · rw [List.mem_singleton.1 hu]; omega
              · have hge : k = s.T.length := by have hge : ¬ (k : Int) < s.T.length := hge; omega
                subst hge
                rw [List.take_length] at ht
                exact .drop 0 1 (.done ⟨true, rfl, rfl, fun _ => ⟨by omega, by omega, by omega, by omega, ht, by omega⟩⟩)
  · have c2 : ¬ (7 < s.n) := c2
    refine LoadAt.mk 0 _ _ rfl rfl ?_
    refine bcond_dec (fun c13 => ?_) (fun c13 => ?_)
    · have c13 : 10 < s.w := c13
      refine LoadAt.mk 0 _ _ rfl rfl ?_
      refine bcond_dec (fun c14 => ?_) (fun c14 => ?_)
      · have c14 : s.n ≤ 256 := c14
        refine LoadAt.mk 0 _ _ rfl rfl ?_
        refine bcond_dec (fun c15 => ?_) (fun c15 => ?_)
        · have c15 : s.w ≤ 1024 := c15
          exact .drop 0 1 (.done ⟨false, rfl, rfl, fun h => by cases h⟩)
        · have c15 : ¬ (s.w ≤ 1024) := c15
          refine LoadAt.mk 0 _ _ rfl rfl ?_
          refine bcond_dec (fun c16 => ?_) (fun c16 => ?_)
          · have c16 : 8 < (↑s.T.length : Int) := c16
            exact .drop 0 1 (.done ⟨false, rfl, rfl, fun h => by cases h⟩)
          · have c16 : ¬ (8 < (↑s.T.length : Int)) := c16
            refine LoadAt.mk 0 _ _ rfl rfl ?_
            refine bcond_dec (fun c17 => ?_) (fun c17 => ?_)
            · have c17 : 16 < (↑s.edges.length : Int) := c17
              exact .drop 0 1 (.done ⟨false, rfl, rfl, fun h => by cases h⟩)
            · have c17 : ¬ (16 < (↑s.edges.length : Int)) := c17
              refine LoadAt.mk 0 _ _ rfl rfl ?_
              refine bcond_dec (fun c18 => ?_) (fun c18 => ?_)
              · have c18 : 10 < (↑s.entry.length : Int) := c18
                exact .drop 0 1 (.done ⟨false, rfl, rfl, fun h => by cases h⟩)
              · have c18 : ¬ (10 < (↑s.entry.length : Int)) := c18
                refine LoadAt.mk 0 _ _ rfl rfl ?_
                refine bcond_dec (fun c19 => ?_) (fun c19 => ?_)
                · have c19 : 20 < (↑s.init.length : Int) := c19
                  exact .drop 0 1 (.done ⟨false, rfl, rfl, fun h => by cases h⟩)
                · have c19 : ¬ (20 < (↑s.init.length : Int)) := c19
                  refine LoadAt.mk 0 _ _ rfl rfl ?_
                  refine loopS (S := Nat) (fun k => [(48, .fsl transSh s.T), (49, .int .i64 s.T.length), (50, .int .i64 k)]) (fun _ => (bl1, sysC s) :: σ) (fun k => k ≤ s.T.length ∧ ∀ t ∈ s.T.take k, t.1.length ≤ 4 ∧ t.2.1.length ≤ 4 ∧ t.2.2.1.length ≤ 6) (fun k => s.T.length - k) 0 ⟨⟨Nat.zero_le _, fun t h => by cases h⟩, ⟨rfl, rfl, rfl, trivial⟩, rfl⟩ ?_
                  rintro k g ⟨hk0, ht0⟩
                  have hk : k ≤ s.T.length := hk0
                  have ht : ∀ t ∈ s.T.take k, t.1.length ≤ 4 ∧ t.2.1.length ≤ 4 ∧ t.2.2.1.length ≤ 6 := ht0
                  clear hk0 ht0
                  refine bcond_dec (fun hlt => ?_) (fun hge => ?_)
                  · have hlt : k < s.T.length := by have hlt : (k : Int) < s.T.length := hlt; omega
                    have hsn : s.T.take (k + 1) = s.T.take k ++ [s.T[k]] := List.take_succ_eq_append_getElem hlt
                    obtain ⟨t, htk⟩ : ∃ t : TrT, s.T[k] = t := ⟨_, rfl⟩
                    rw [htk] at hsn
                    refine With.mk rfl (IdxF.mk t (by omega) ((get_some hlt).trans (congrArg some htk)) ?_)
                    intro bl2
                    refine StoreAt.mk 0 _ _ rfl rfl ?_
                    refine LoadAt.mk 0 _ _ rfl rfl ?_
                    refine bcond_dec (p := 4 < (t.1.length : Int)) (fun d1 => ?_) (fun d1 => ?_)
                    · exact .drop 0 2 (.done ⟨false, rfl, rfl, fun h => by cases h⟩)
                    · refine LoadAt.mk 0 _ _ rfl rfl ?_
                      refine bcond_dec (p := 4 < (t.2.1.length : Int)) (fun d2 => ?_) (fun d2 => ?_)
                      · exact .drop 0 2 (.done ⟨false, rfl, rfl, fun h => by cases h⟩)
                      · refine LoadAt.mk 0 _ _ rfl rfl ?_
                        refine bcond_dec (p := 6 < (t.2.2.1.length : Int)) (fun d3 => ?_) (fun d3 => ?_)
                        · exact .drop 0 2 (.done ⟨false, rfl, rfl, fun h => by cases h⟩)
                        · refine nextS (k + 1) (by show s.T.length - (k + 1) < s.T.length - k; omega) ⟨hlt, fun u hu => ?_⟩ ⟨rfl, rfl, inc64 (by omega), trivial⟩ (.drop 0 1 (.refl _))
                          rw [hsn] at hu
                          rcases List.mem_append.1 hu with hu | hu
                          · exact ht u hu
                          · rw [List.mem_singleton.1 hu]; omega
                  · have hge : k = s.T.length := by have hge : ¬ (k : Int) < s.T.length := hge; omega
                    subst hge
                    rw [List.take_length] at ht
                    exact .drop 0 1 (.done ⟨true, rfl, rfl, fun _ => ⟨by omega, by omega, by omega, by omega, ht, by omega⟩⟩)
      · have c14 : ¬ (s.n ≤ 256) := c14
        refine LoadAt.mk 0 _ _ rfl rfl ?_
        refine bcond_dec (fun c20 => ?_) (fun c20 => ?_)
        · have c20 : 8 < (↑s.T.length : Int) := c20
          exact .drop 0 1 (.done ⟨false, rfl, rfl, fun h => by cases h⟩)
        · have c20 : ¬ (8 < (↑s.T.length : Int)) := c20
          refine LoadAt.mk 0 _ _ rfl rfl ?_
          refine bcond_dec (fun c21 => ?_) (fun c21 => ?_)
          · have c21 : 16 < (↑s.edges.length : Int) := c21
            exact .drop 0 1 (.done ⟨false, rfl, rfl, fun h => by cases h⟩)
          · have c21 : ¬ (16 < (↑s.edges.length : Int)) := c21
            refine LoadAt.mk 0 _ _ rfl rfl ?_
            refine bcond_dec (fun c22 => ?_) (fun c22 => ?_)
            · have c22 : 10 < (↑s.entry.length : Int) := c22
              exact .drop 0 1 (.done ⟨false, rfl, rfl, fun h => by cases h⟩)
            · have c22 : ¬ (10 < (↑s.entry.length : Int)) := c22
              refine LoadAt.mk 0 _ _ rfl rfl ?_
              refine bcond_dec (fun c23 => ?_) (fun c23 => ?_)
              · have c23 : 20 < (↑s.init.length : Int) := c23
                exact .drop 0 1 (.done ⟨false, rfl, rfl, fun h => by cases h⟩)
              · have c23 : ¬ (20 < (↑s.init.length : Int)) := c23
                refine LoadAt.mk 0 _ _ rfl rfl ?_
                refine loopS (S := Nat) (fun k => [(48, .fsl transSh s.T), (49, .int .i64 s.T.length), (50, .int .i64 k)]) (fun _ => (bl1, sysC s) :: σ) (fun k => k ≤ s.T.length ∧ ∀ t ∈ s.T.take k, t.1.length ≤ 4 ∧ t.2.1.length ≤ 4 ∧ t.2.2.1.length ≤ 6) (fun k => s.T.length - k) 0 ⟨⟨Nat.zero_le _, fun t h => by cases h⟩, ⟨rfl, rfl, rfl, trivial⟩, rfl⟩ ?_
                rintro k g ⟨hk0, ht0⟩
                have hk : k ≤ s.T.length := hk0
                have ht : ∀ t ∈ s.T.take k, t.1.length ≤ 4 ∧ t.2.1.length ≤ 4 ∧ t.2.2.1.length ≤ 6 := ht0
                clear hk0 ht0
                refine bcond_dec (fun hlt => ?_) (fun hge => ?_)
                · have hlt : k < s.T.length := by have hlt : (k : Int) < s.T.length := hlt; omega
                  have hsn : s.T.take (k + 1) = s.T.take k ++ [s.T[k]] := List.take_succ_eq_append_getElem hlt
                  obtain ⟨t, htk⟩ : ∃ t : TrT, s.T[k] = t := ⟨_, rfl⟩
                  rw [htk] at hsn
                  refine With.mk rfl (IdxF.mk t (by omega) ((get_some hlt).trans (congrArg some htk)) ?_)
                  intro bl2
                  refine StoreAt.mk 0 _ _ rfl rfl ?_
                  refine LoadAt.mk 0 _ _ rfl rfl ?_
                  refine bcond_dec (p := 4 < (t.1.length : Int)) (fun d1 => ?_) (fun d1 => ?_)
                  · exact .drop 0 2 (.done ⟨false, rfl, rfl, fun h => by cases h⟩)
                  · refine LoadAt.mk 0 _ _ rfl rfl ?_
                    refine bcond_dec (p := 4 < (t.2.1.length : Int)) (fun d2 => ?_) (fun d2 => ?_)
                    · exact .drop 0 2 (.done ⟨false, rfl, rfl, fun h => by cases h⟩)
                    · refine LoadAt.mk 0 _ _ rfl rfl ?_
                      refine bcond_dec (p := 6 < (t.2.2.1.length : Int)) (fun d3 => ?_) (fun d3 => ?_)
                      · exact .drop 0 2 (.done ⟨false, rfl, rfl, fun h => by cases h⟩)
                      · refine nextS (k + 1) (by show s.T.length - (k + 1) < s.T.length - k; omega) ⟨hlt, fun u hu => ?_⟩ ⟨rfl, rfl, inc64 (by omega), trivial⟩ (.drop 0 1 (.refl _))
                        rw [hsn] at hu
                        rcases List.mem_append.1 hu with hu | hu
                        · exact ht u hu
                        · rw [List.mem_singleton.1 hu]; omega
                · have hge : k = s.T.length := by have hge : ¬ (k : Int) < s.T.length := hge; omega
                  subst hge
                  rw [List.take_length] at ht
                  exact .drop 0 1 (.done ⟨true, rfl, rfl, fun _ => ⟨by omega, by omega, by omega, by omega, ht, by omega⟩⟩)
    · have c13 : ¬ (10 < s.w) := c13
      refine LoadAt.mk 0 _ _ rfl rfl ?_
      refine bcond_dec (fun c24 => ?_) (fun c24 => ?_)
      · have c24 : 8 < (↑s.T.length : Int) := c24
        exact .drop 0 1 (.done ⟨false, rfl, rfl, fun h => by cases h⟩)
      · have c24 : ¬ (8 < (↑s.T.length : Int)) := c24
        refine LoadAt.mk 0 _ _ rfl rfl ?_
        refine bcond_dec (fun c25 => ?_) (fun c25 => ?_)
        · have c25 : 16 < (↑s.edges.length : Int) := c25
          exact .drop 0 1 (.done ⟨false, rfl, rfl, fun h => by cases h⟩)
        · have c25 : ¬ (16 < (↑s.edges.length : Int)) := c25
          refine LoadAt.mk 0 _ _ rfl rfl ?_
          refine bcond_dec (fun c26 => ?_) (fun c26 => ?_)
          · have c26 : 10 < (↑s.entry.length : Int) := c26
            exact .drop 0 1 (.done ⟨false, rfl, rfl, fun h => by cases h⟩)
          · have c26 : ¬ (10 < (↑s.entry.length : Int)) := c26
            refine LoadAt.mk 0 _ _ rfl rfl ?_
            refine bcond_dec (fun c27 => ?_) (fun c27 => ?_)
            · have c27 : 20 < (↑s.init.length : Int) := c27
              exact .drop 0 1 (.done ⟨false, rfl, rfl, fun h => by cases h⟩)
            · have c27 : ¬ (20 < (↑s.init.length : Int)) := c27
              refine LoadAt.mk 0 _ _ rfl rfl ?_
              refine loopS (S := Nat) (fun k => [(48, .fsl transSh s.T), (49, .int .i64 s.T.length), (50, .int .i64 k)]) (fun _ => (bl1, sysC s) :: σ) (fun k => k ≤ s.T.length ∧ ∀ t ∈ s.T.take k, t.1.length ≤ 4 ∧ t.2.1.length ≤ 4 ∧ t.2.2.1.length ≤ 6) (fun k => s.T.length - k) 0 ⟨⟨Nat.zero_le _, fun t h => by cases h⟩, ⟨rfl, rfl, rfl, trivial⟩, rfl⟩ ?_
              rintro k g ⟨hk0, ht0⟩
              have hk : k ≤ s.T.length := hk0
              have ht : ∀ t ∈ s.T.take k, t.1.length ≤ 4 ∧ t.2.1.length ≤ 4 ∧ t.2.2.1.length ≤ 6 := ht0
              clear hk0 ht0
              refine bcond_dec (fun hlt => ?_) (fun hge => ?_)
              · have hlt : k < s.T.length := by have hlt : (k : Int) < s.T.length := hlt; omega
                have hsn : s.T.take (k + 1) = s.T.take k ++ [s.T[k]] := List.take_succ_eq_append_getElem hlt
                obtain ⟨t, htk⟩ : ∃ t : TrT, s.T[k] = t := ⟨_, rfl⟩
                rw [htk] at hsn
                refine With.mk rfl (IdxF.mk t (by omega) ((get_some hlt).trans (congrArg some htk)) ?_)
                intro bl2
                refine StoreAt.mk 0 _ _ rfl rfl ?_
                refine LoadAt.mk 0 _ _ rfl rfl ?_
                refine bcond_dec (p := 4 < (t.1.length : Int)) (fun d1 => ?_) (fun d1 => ?_)
                · exact .drop 0 2 (.done ⟨false, rfl, rfl, fun h => by cases h⟩)
                · refine LoadAt.mk 0 _ _ rfl rfl ?_
                  refine bcond_dec (p := 4 < (t.2.1.length : Int)) (fun d2 => ?_) (fun d2 => ?_)
                  · exact .drop 0 2 (.done ⟨false, rfl, rfl, fun h => by cases h⟩)
                  · refine LoadAt.mk 0 _ _ rfl rfl ?_
                    refine bcond_dec (p := 6 < (t.2.2.1.length : Int)) (fun d3 => ?_) (fun d3 => ?_)
                    · exact .drop 0 2 (.done ⟨false, rfl, rfl, fun h => by cases h⟩)
                    · refine nextS (k + 1) (by show s.T.length - (k + 1) < s.T.length - k; omega) ⟨hlt, fun u hu => ?_⟩ ⟨rfl, rfl, inc64 (by omega), trivial⟩ (.drop 0 1 (.refl _))
                      rw [hsn] at hu
                      rcases List.mem_append.1 hu with hu | hu
                      · exact ht u hu
                      · rw [List.mem_singleton.1 hu]; omega
              · have hge : k = s.T.length := by have hge : ¬ (k : Int) < s.T.length := hge; omega
                subst hge
                rw [List.take_length] at ht
                exact .drop 0 1 (.done ⟨true, rfl, rfl, fun _ => ⟨by omega, by omega, by omega, by omega, ht, by omega⟩⟩)
theorem fit_of {s : Sy} (h : SmallS s) (hi : A64 s.init) (ht : ∀ t ∈ s.T, A64 t.1 ∧ A64 t.2.1) : Fit s := by
  obtain ⟨h1, h2, h3, h4, h5, _⟩ := h
  exact ⟨hi, by omega, by omega, by omega, by omega, fun t hm => ⟨(ht t hm).1, (ht t hm).2, by have := h5 t hm; omega, by have := h5 t hm; omega, by have := h5 t hm; omega⟩⟩
/-- A cell of a block that is nil is an empty list from then on. -/
theorem callNil {f : FuncId} {xs : List AV} {σ : Hp} {K : AV → Hp → Prop} (i k b' : Nat) (cs' : List AV) (e : Sh) (hi : σ[i]? = some (b', cs')) (hk : cs'[k]? = some .nils) (h : CallAt Tryz.prog f K xs (σ.set i (b', cs'.set k (.fsl e [])))) : CallAt Tryz.prog f K xs σ :=
  .mk [] K ⟨(callAt_get h).1, fun F w vs hvs hσ => (callAt_get h).2 F w vs hvs (nilc_hp hσ e hi hk)⟩ fun _ _ h => h
theorem frz_agg {b off len es : Nat} {e : Sh} {l : List e.T} {xs ys : List AV} (h : FrzRel b off len es e l (.tup xs) (.tup ys)) (hl : ys.all AV.leaf = true) : FrzRel b off len es e l (.agg xs) (.agg ys) := by
  cases h with
  | refl => exact .refl _
  | tup _ _ h1 h2 => exact .agg _ _ h1 (fun i y hy => List.all_eq_true.1 hl y (List.mem_of_getElem? hy)) h2
def exS : Sy := ⟨1, 2, 1, [], [0], [2], [([0], [0], [], ())]⟩
theorem exS_fit : Fit exS := ⟨one64 (by unfold W64; omega), by decide, by decide, by decide, by decide, fun t ht => by
  rw [List.mem_singleton.1 ht]; exact ⟨one64 (by unfold W64; omega), one64 (by unfold W64; omega), by decide, by decide, by decide⟩⟩
end Go.Proofs.YtljbnigceammdaaGreat
