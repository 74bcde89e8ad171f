/-
  Events compared: soughlaw23.same, slices.Equal; record.Right: by the abstract walk.
-/
import Derived.Test.YtiihcgmnmcdcfaaRecN
namespace Go.Proofs.Ytiihcgmnmcdcfaa
open Go.RowKit
set_option maxRecDepth 100000
instance evTDec : DecidableEq EvT := fun x y => inferInstanceAs (Decidable (x = y))
instance evLDec : DecidableEq (List EvT) := fun x y => @instDecidableEqList EvT evTDec x y
theorem allB_iff (x y : EvT) : allB (eqAll (evSh.cells x) (evSh.cells y)) = decide (x = y) := by
  obtain ⟨a1, a2, a3, a4, a5, a6, a7⟩ := x
  obtain ⟨b1, b2, b3, b4, b5, b6, b7⟩ := y
  show allB [decide (a1 = b1), decide (a2 = b2), decide (a3 = b3), decide (a4 = b4), decide (a5 = b5), a6 == b6] = _
  have e : ((a1, a2, a3, a4, a5, a6, a7) = (b1, b2, b3, b4, b5, b6, b7)) ↔ (a1 = b1 ∧ a2 = b2 ∧ a3 = b3 ∧ a4 = b4 ∧ a5 = b5 ∧ a6 = b6) := by
    simp only [Prod.mk.injEq]
    constructor
    · rintro ⟨h1, h2, h3, h4, h5, h6, _⟩; exact ⟨h1, h2, h3, h4, h5, h6⟩
    · rintro ⟨h1, h2, h3, h4, h5, h6⟩; exact ⟨h1, h2, h3, h4, h5, h6, trivial⟩
  rw [Bool.eq_iff_iff, decide_eq_true_iff]
  refine Iff.trans ?_ e.symm
  simp [allB]
theorem aSameE (l : List Ev) (σ : Hp) (hl : l.length ≤ 1000) : ACalls Try.prog 62 [.fsl evSh (l.map Ev.d), .fsl evSh (l.map Ev.d)] σ (Ret (.bool true) σ) := by
  refine okF Try.func62 (by kernel_rfl) ?_
  refine bcond_split (fun h => absurd h (by simp)) (fun _ => ?_)
  refine callR [] (aEvs l σ hl) ?_
  refine loopS (S := Nat) (fun s => [(0, .fsl evSh (l.map Ev.d)), (13, .fsl evSh (l.map Ev.d)), (14, .int .i64 (l.map Ev.d).length), (15, .int .i64 s)]) (fun _ => σ) (fun s => s ≤ l.length) (fun s => l.length - s) 0 ⟨Nat.zero_le _, ⟨rfl, rfl, rfl, rfl, trivial⟩, rfl⟩ ?_
  intro k g hk
  refine bcond_dec (fun hlt => ?_) (fun hge => ?_)
  · have hlt : (k : Int) < (l.map Ev.d).length := hlt
    rw [List.length_map] at hlt
    have hlt : k < l.length := by omega
    have hg : (l.map Ev.d)[((k : Int)).toNat]? = some l[k].d := by
      rw [Int.toNat_natCast, List.getElem?_map, List.getElem?_eq_getElem hlt]; rfl
    refine With.mk rfl (IdxF.mk l[k].d (by omega) hg ?_)
    intro b
    refine StoreAt.mk 0 _ _ rfl rfl ?_
    refine .quiet (by kernel_rfl) ?_
    refine With.mk rfl (IdxF.mk l[k].d (by omega) hg ?_)
    refine LoadAt.mk 0 _ _ rfl rfl ?_
    refine .mk (by kernel_rfl) (by kernel_rfl) ?_
    refine bcond_split (fun h => ?_) (fun _ => ?_)
    · have h : (!allB (eqAll (evSh.cells l[k].d) (evSh.cells l[k].d))) = true := h
      rw [allB_iff] at h
      simp at h
    refine nextS (k + 1) ?_ hlt ⟨rfl, rfl, rfl, inc64 (by omega), trivial⟩ (.drop 0 1 (shed_eq rfl))
    show l.length - (k + 1) < l.length - k; omega
  · exact .done ⟨rfl, rfl⟩

theorem flat_elemE {α : Type} {f : α → List AV} {n : Nat} (hf : ∀ x, (f x).length = n) {l : List α} {j : Nat} (h : j < l.length) : ((l.flatMap f).drop (j * n)).take n = f l[j] := by
  induction l generalizing j with
  | nil => simp at h
  | cons x l ih =>
    cases j with
    | zero => simp [hf]
    | succ j =>
      rw [List.flatMap_cons, List.drop_append, hf, Nat.succ_mul, Nat.add_sub_cancel, List.drop_of_length_le (by rw [hf]; omega), List.nil_append]
      simpa using ih (by simpa using h)
theorem readEv {i : TI} (hi : i.wide = true) (hs : i.size = 6) {l : List Ev} {k : Nat} (h : k < l.length) : readAs i (l.flatMap evC) (0 + ((k : Int)).toNat * 6) = some (.agg (evC l[k])) := by
  have hl := flat_length (f := evC) (es := 6) (fun _ => rfl) l
  have hb : Nat.ble (0 + k * 6 + 6) (l.flatMap evC).length = true := Nat.ble_eq_true_of_le (by rw [hl]; omega)
  unfold readAs
  rw [hi, hs]
  show (match Nat.ble (0 + k * 6 + 6) (l.flatMap evC).length with | true => some (AV.agg (((l.flatMap evC).drop (0 + k * 6)).take 6)) | false => none) = _
  rw [hb]
  show some (AV.agg (((l.flatMap evC).drop (0 + k * 6)).take 6)) = _
  rw [Nat.zero_add, flat_elemE (f := evC) (n := 6) (fun _ => rfl) h]
/-- slices.Equal, of an open row of events and a list. -/
theorem aEqualE (b : Nat) (es : List Ev) (B : List EvT) (σ : Hp) (hl : es.length ≤ 1000000) : ACalls Try.prog 105 [.mref b 0 es.length 6, .fsl evSh B] ((b, es.flatMap evC) :: σ) (Ret (.bool (decide (es.map Ev.d = B))) ((b, es.flatMap evC) :: σ)) := by
  refine okF Try.func105 (by kernel_rfl) ?_
  refine bcond_split (fun hn => ?_) (fun hn => ?_)
  · have hn : (!decide ((es.length : Int) = (B.length : Int))) = true := hn
    have : es.map Ev.d ≠ B := by
      intro e
      have h := congrArg List.length e
      rw [List.length_map] at h
      rw [h] at hn
      simp at hn
    exact .done ⟨av_bool (by simp [this]), rfl⟩
  have hn : (!decide ((es.length : Int) = (B.length : Int))) = false := hn
  have hlen : es.length = B.length := by simp at hn; omega
  refine loopS (S := Nat) (fun s => [(0, .mref b 0 es.length 6), (1, .fsl evSh B), (12, .int .i64 es.length), (13, .int .i64 s)]) (fun _ => (b, es.flatMap evC) :: σ) (fun s => s ≤ es.length ∧ (es.map Ev.d).take s = B.take s) (fun s => es.length - s) 0 ⟨⟨Nat.zero_le _, rfl⟩, ⟨rfl, rfl, rfl, rfl, trivial⟩, rfl⟩ ?_
  rintro k g ⟨hk, htk⟩
  refine bcond_dec (fun hlt => ?_) (fun hge => ?_)
  · have hlt : k < es.length := by have hlt : (k : Int) < es.length := hlt; omega
    have hltB : k < B.length := by omega
    have hltm : k < (es.map Ev.d).length := by simpa using hlt
    refine .quiet (by kernel_rfl) ?_
    refine With.mk ⟨rfl, by omega, by omega⟩ ?_
    refine LoadAt.mk 0 _ _ rfl (readEv rfl rfl hlt) ?_
    refine With.mk rfl (IdxF.mk B[k] (by omega) (get_some hltB) ?_)
    refine .mk (by kernel_rfl) (by kernel_rfl) ?_
    refine bcond_split (fun h => ?_) (fun h => ?_)
    · have h : (!allB (eqAll (evSh.cells es[k].d) (evSh.cells B[k]))) = true := h
      rw [allB_iff] at h
      have : es.map Ev.d ≠ B := by rintro rfl; simp at h
      exact .done ⟨av_bool (by simp [this]), rfl⟩
    · have h : (!allB (eqAll (evSh.cells es[k].d) (evSh.cells B[k]))) = false := h
      rw [allB_iff] at h
      have h : es[k].d = B[k] := by simpa using h
      refine next (k + 1) ?_ ⟨hlt, ?_⟩ ⟨rfl, rfl, rfl, inc64 (by omega), trivial⟩ rfl
      · show es.length - (k + 1) < es.length - k; omega
      · rw [List.take_succ_eq_append_getElem hltm, List.take_succ_eq_append_getElem hltB, htk, List.getElem_map, h]
  · have hge : ¬ (k : Int) < es.length := hge
    have hkl : k = es.length := by omega
    have : es.map Ev.d = B := by
      rw [hkl, List.take_of_length_le (by simp), hlen, List.take_length] at htk
      exact htk
    exact .done ⟨av_bool (by simp [this]), rfl⟩
end Go.Proofs.Ytiihcgmnmcdcfaa
