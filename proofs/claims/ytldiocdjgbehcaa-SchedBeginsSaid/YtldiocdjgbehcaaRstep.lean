/-
  soughref24's Step, over the reference's memory, by the abstract walk.
-/
import Derived.Test.YtldiocdjgbehcaaRst
namespace Go.Proofs.Ytldiocdjgbehcaa
open Go.RowKit
set_option maxRecDepth 100000
/-- What a Step of the reference leads to. -/
def RPost (r m q : Nat) (l : List Ins) (s : PS) (ws : List Int) (d : Int) (σ : Hp) : AV → Hp → Prop :=
  Ret (.bool (psStep listOps l s ws d).2.2) ((r, pgC l (psStep listOps l s ws d).1) :: reH m q (psStep listOps l s ws d).2.1 σ)
theorem rPost {r m q : Nat} {l : List Ins} {s : PS} {ws ws' : List Int} {d : Int} {σ : Hp} {X : PS} {i : Ins} (h0 : psDone l s.at_ = false) (h1 : l[s.at_.toNat]? = some i) (h : psDo listOps i s ws d = (X, ws')) : RPost r m q l s ws d σ (.bool (psDone l X.at_)) ((r, pgC l X) :: reH m q ws' σ) := by
  have e : psStep listOps l s ws d = (X, ws', psDone l X.at_) := by simp [psStep, h0, insAt, h1, h]
  unfold RPost Ret
  rw [e]
  exact ⟨rfl, rfl⟩
theorem doNext (s : PS) (k x : Int) : (s.next.set k x) = (s.set k x).next := by
  unfold PS.set PS.next
  split
  · rfl
  · split
    · rfl
    · split <;> rfl
theorem getNext (s : PS) (k : Int) : s.next.get k = s.get k := rfl

theorem aRStep (r m q : Nat) (l : List Ins) (s : PS) (ws : List Int) (d : Int) (σ : Hp) (hl : l.length ≤ 1000000) : ACalls Try.prog 74 [.ptr r 0, .ptr m 0, .int .i64 d] ((r, pgC l s) :: reH m q ws σ) (RPost r m q l s ws d σ) := by
  refine okF Try.func74 (by kernel_rfl) ?_
  refine callB [] (aRDone r l s _) (fun hD => ?_) (fun hD => ?_)
  · have hst : psStep listOps l s ws d = (s, ws, true) := by simp [psStep, hD]
    unfold RPost Ret
    rw [hst]
    exact .done ⟨rfl, rfl⟩
  have hlt : 0 ≤ s.at_ ∧ s.at_.toNat < l.length ∧ s.at_ < 1000000 := by
    simp [psDone] at hD; omega
  obtain ⟨i, hi⟩ : ∃ i, l[s.at_.toNat]? = some i := ⟨_, List.getElem?_eq_getElem hlt.2.1⟩
  refine .meet (S := Nat) (fun b => [(0, .ptr r 0), (1, .ptr m 0), (2, .int .i64 d), (6, .bool false), (7, .ptr b 0)]) (fun b => (b, insC i) :: (r, pgC l s) :: reH m q ws σ) (by kernel_rfl) ?_ ?_
  · repeat' first
      | exact Meet.mk _ ⟨rfl, rfl, rfl, rfl, rfl, trivial⟩ (shed_eq rfl)
      | refine And.intro ?_ ?_
      | refine LoadAt.mk 0 _ _ rfl rfl ?_
      | refine LoadAt.mk 1 _ _ rfl rfl ?_
      | refine With.mk rfl (IdxF.mk _ hlt.1 hi ?_)
      | refine StoreAt.mk 0 _ _ rfl rfl ?_
      | intro b
  intro b g
  refine LoadAt.mk 0 _ _ rfl rfl ?_
  refine callR [1] (aRGet r l s _ _) ?_
  refine LoadAt.mk 0 _ _ rfl rfl ?_
  refine StoreAt.mk 0 _ _ rfl (nextPut l _ (by omega)) ?_
  refine LoadAt.mk 1 _ _ rfl rfl ?_
  refine bcond_dec (fun h1 => ?_) (fun h1 => ?_)
  · have h1 : i.1 = 1 := h1
    refine LoadAt.mk 1 _ _ rfl rfl ?_
    refine callR [3, 3] (aDo m q ws 1 _ 0 0 _) ?_
    refine LoadAt.mk 3 _ _ rfl rfl ?_
    refine callR [2] (aRSet r l s.next _ _ _) ?_
    refine callR [] (aRDone r l _ _) ?_
    refine .drop 3 1 (.done (rPost hD hi ?_))
    rw [doNext]
    simp [psDo, h1, doV, doTo]
  refine LoadAt.mk 1 _ _ rfl rfl ?_
  refine bcond_dec (fun h2 => ?_) (fun h2 => ?_)
  · have h2 : i.1 = 2 := h2
    refine LoadAt.mk 1 _ _ rfl rfl ?_
    refine callR [3, 3] (aDo m q ws 2 _ _ 0 _) ?_
    refine callR [2] (aRDone r l _ _) ?_
    refine .drop 3 1 (.done (rPost hD hi ?_))
    simp [psDo, h2, doTo]
  refine LoadAt.mk 1 _ _ rfl rfl ?_
  refine bcond_dec (fun h3 => ?_) (fun h3 => ?_)
  · have h3 : i.1 = 3 := h3
    have hx : IntKind.i64.wrap ((IntKind.i64.wrap (i.2.1.tmod 4 + 4)).tmod 4 + 1) % 4 = (i.2.1 % 4 + 1) % 4 := by rw [mod4a, IntKind.wrap_i64]; omega
    have hget := fun σ => aRGet r l s.next (IntKind.i64.wrap ((IntKind.i64.wrap (i.2.1.tmod 4 + 4)).tmod 4 + 1)) σ
    rw [hx] at hget
    have hdo := fun σ => aDo m q ws 3 i.2.2.1 (s.get (i.2.1 % 4)) (s.get ((i.2.1 % 4 + 1) % 4)) σ
    generalize hb : doIs ws 3 i.2.2.1 (s.get (i.2.1 % 4)) = is at hdo
    refine .meet (S := Unit) (fun _ => [(0, .ptr r 0), (6, .bool false), (7, .ptr b 0), (12, .bool is)]) (fun _ => reH m q (doTo ws 3 i.2.2.1 (s.get (i.2.1 % 4)) (s.get ((i.2.1 % 4 + 1) % 4))) ((r, pgC l s.next) :: (b, insC i) :: σ)) (by kernel_rfl) ?_ ?_
    · repeat' first
        | exact Meet.mk () ⟨rfl, rfl, rfl, rfl, trivial⟩ (shed_eq rfl)
        | refine And.intro ?_ ?_
        | refine LoadAt.mk 1 _ _ rfl rfl ?_
        | refine With.mk (by decide) ?_
        | refine callR [] (hget _) ?_
        | refine callR [3, 3] (hdo _) ?_
    intro _ g
    cases is with
    | true =>
      refine LoadAt.mk 3 _ _ rfl rfl ?_
      refine callR [2] (aRSet r l s.next _ _ _) ?_
      refine LoadAt.mk 3 _ _ rfl rfl ?_
      refine callR [] (aRSet r l _ _ _ _) ?_
      refine callR [] (aRDone r l _ _) ?_
      refine .drop 3 1 (.done (rPost hD hi ?_))
      rw [doNext, doNext, PS.set_set]
      have hb' : mCas ws i.2.2.1 (s.get (i.2.1 % 4)) = true := hb
      simp [psDo, h3, hb', doTo]
    | false =>
      refine LoadAt.mk 3 _ _ rfl rfl ?_
      refine callR [2] (aRSet r l s.next _ _ _) ?_
      refine callR [] (aRDone r l _ _) ?_
      refine .drop 3 1 (.done (rPost hD hi ?_))
      rw [doNext]
      have hb' : mCas ws i.2.2.1 (s.get (i.2.1 % 4)) = false := hb
      simp [psDo, h3, hb', doTo]
  refine LoadAt.mk 1 _ _ rfl rfl ?_
  refine bcond_dec (fun h4 => ?_) (fun h4 => ?_)
  · have h4 : i.1 = 4 := h4
    refine LoadAt.mk 1 _ _ rfl rfl ?_
    refine LoadAt.mk 1 _ _ rfl rfl ?_
    refine callR [3, 3] (aDo m q ws 4 _ _ 0 _) ?_
    refine LoadAt.mk 3 _ _ rfl rfl ?_
    refine callR [2] (aRSet r l s.next _ _ _) ?_
    refine callR [] (aRDone r l _ _) ?_
    refine .drop 3 1 (.done (rPost hD hi ?_))
    rw [doNext]
    simp [psDo, h4, doV, doTo]
  refine LoadAt.mk 1 _ _ rfl rfl ?_
  refine bcond_dec (fun h5 => ?_) (fun h5 => ?_)
  · have h5 : i.1 = 5 := h5
    refine LoadAt.mk 1 _ _ rfl rfl ?_
    refine LoadAt.mk 1 _ _ rfl rfl ?_
    refine callR [] (aRSet r l s.next _ _ _) ?_
    refine callR [] (aRDone r l _ _) ?_
    refine .drop 1 1 (.done (rPost hD hi ?_))
    rw [doNext]
    simp [psDo, h5]
  refine LoadAt.mk 1 _ _ rfl rfl ?_
  refine bcond_dec (fun h6 => ?_) (fun h6 => ?_)
  · have h6 : i.1 = 6 := h6
    refine LoadAt.mk 1 _ _ rfl rfl ?_
    refine LoadAt.mk 1 _ _ rfl rfl ?_
    refine callR [] (aRSet r l s.next _ _ _) ?_
    refine callR [] (aRDone r l _ _) ?_
    refine .drop 1 1 (.done (rPost hD hi ?_))
    rw [doNext, IntKind.wrap_u64]
    simp [psDo, h6]
  refine LoadAt.mk 1 _ _ rfl rfl ?_
  refine bcond_dec (fun h9 => ?_) (fun h9 => ?_)
  · have h9 : i.1 = 9 := h9
    refine LoadAt.mk 1 _ _ rfl rfl ?_
    refine callR [] (aRSet r l s.next _ _ _) ?_
    refine callR [] (aRDone r l _ _) ?_
    refine .drop 1 1 (.done (rPost hD hi ?_))
    rw [doNext, IntKind.wrap_u64]
    simp [psDo, h9]
  have h1 : ¬ i.1 = 1 := h1
  have h2 : ¬ i.1 = 2 := h2
  have h3 : ¬ i.1 = 3 := h3
  have h4 : ¬ i.1 = 4 := h4
  have h5 : ¬ i.1 = 5 := h5
  have h6 : ¬ i.1 = 6 := h6
  have h9 : ¬ i.1 = 9 := h9
  refine LoadAt.mk 1 _ _ rfl rfl ?_
  refine bcond_dec (fun h7 => ?_) (fun h7 => ?_)
  · have h7 : i.1 = 7 := h7
    refine LoadAt.mk 1 _ _ rfl rfl ?_
    refine StoreAt.mk 0 _ _ rfl rfl ?_
    refine callR [] (aRDone r l { s with at_ := i.2.2.1 } _) ?_
    refine .drop 1 1 (.done (rPost hD hi ?_))
    simp [psDo, h7]
  have h7 : ¬ i.1 = 7 := h7
  refine LoadAt.mk 1 _ _ rfl rfl ?_
  refine bcond_dec (fun h8 => ?_) (fun h8 => ?_)
  · have h8 : i.1 = 8 := h8
    refine bcond_dec (fun hz => ?_) (fun hz => ?_)
    · have hz : s.get (i.2.1 % 4) = 0 := hz
      refine LoadAt.mk 1 _ _ rfl rfl ?_
      refine StoreAt.mk 0 _ _ rfl rfl ?_
      refine callR [] (aRDone r l { s with at_ := i.2.2.1 } _) ?_
      refine .drop 1 1 (.done (rPost hD hi ?_))
      simp [psDo, h8, hz]
    · have hz : ¬ s.get (i.2.1 % 4) = 0 := hz
      refine callR [] (aRDone r l s.next _) ?_
      refine .drop 1 1 (.done (rPost hD hi ?_))
      simp [psDo, h8, hz]
  · have h8 : ¬ i.1 = 8 := h8
    refine callR [] (aRDone r l s.next _) ?_
    refine .drop 1 1 (.done (rPost hD hi ?_))
    simp [psDo, h1, h2, h3, h4, h5, h6, h7, h8, h9]
end Go.Proofs.Ytldiocdjgbehcaa
