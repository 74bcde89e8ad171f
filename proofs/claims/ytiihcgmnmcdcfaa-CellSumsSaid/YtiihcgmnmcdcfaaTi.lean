/-
  TicketOnce, plain: of many Takes of one node that doesn't wait one takes it; it is counted once.
-/
import Derived.Test.YtiihcgmnmcdcfaaSchK
import Derived.Test.YtiihcgmnmcdcfaaTk
namespace Go.Proofs.Ytiihcgmnmcdcfaa
open Go.RowKit
def tkNew (t : Tk) : Bool := t.new
def tkBoth (t : Tk) : Bool := t.new && t.ended
structure TOk (t : Tk) (w0 : Int) : Prop where
  hf : t.f = 0
  hc : t.c = 1
  hv : t.v = 0
  e1 : t.ended = true → t.did = true
  e2 : t.did = true → w0 = 1
  e3 : t.new = true → t.did = true
  e4 : t.did = true → t.new = false → t.ended = true
/-- What is so of Takes and the memory, whatever was done. -/
structure TOnce (L : List Tk) (ws : List Int) : Prop where
  ws2 : ws = [((L.countP tkNew : Nat) : Int), ((L.countP tkBoth : Nat) : Int)]
  one : L.countP tkNew ≤ 1
  each : ∀ t ∈ L, TOk t (L.countP tkNew : Nat)
theorem countB_le (L : List Tk) : L.countP tkBoth ≤ L.countP tkNew := List.countP_mono_left fun t _ h => by
  unfold tkBoth at h
  unfold tkNew
  revert h
  cases t.new <;> simp
theorem tk_new (ws : List Int) : tkStep listOps ⟨0, 1, 0, false, false, false⟩ ws = (if (listOps.cs ws (wr (0 + 0)) 0 1).1 then (⟨0, 1, 0, true, false, true⟩, (listOps.cs ws (wr (0 + 0)) 0 1).2, false) else (⟨0, 1, 0, false, true, true⟩, (listOps.cs ws (wr (0 + 0)) 0 1).2, true)) := rfl
theorem ti_step {L : List Tk} {ws : List Int} (h : TOnce L ws) {i : Nat} (hi : i < L.length) (he : L[i].ended = false) : TOnce (L.set i (tkStep listOps L[i] ws).1) (tkStep listOps L[i] ws).2.1 ∧ (tkStep listOps L[i] ws).2.2 = (tkStep listOps L[i] ws).1.ended := by
  obtain ⟨h1, h2, h3⟩ := h
  have ht := h3 _ (List.getElem_mem hi)
  have hb := countB_le L
  have hbi := List.countP_set (p := tkNew) (a := (tkStep listOps L[i] ws).1) hi
  have hbj := List.countP_set (p := tkBoth) (a := (tkStep listOps L[i] ws).1) hi
  obtain ⟨t, hT⟩ : ∃ t, t = L[i] := ⟨_, rfl⟩
  rw [← hT] at ht he hbi hbj ⊢
  obtain ⟨f, c, v, new, ended, did⟩ := t
  obtain ⟨rfl, rfl, rfl, e1, e2, e3, e4⟩ := ht
  have he : ended = false := he
  subst he
  obtain ⟨w0, hw0⟩ : ∃ w : Nat, w = L.countP tkNew := ⟨_, rfl⟩
  obtain ⟨w1, hw1⟩ : ∃ w : Nat, w = L.countP tkBoth := ⟨_, rfl⟩
  rw [← hw0, ← hw1] at h1
  rw [← hw0] at h2 h3 e2 hb hbi
  rw [← hw1] at hb hbj
  subst h1
  cases did with
  | true =>
    have hn : new = true := by cases new with | true => rfl | false => exact absurd (e4 rfl rfl) (by decide)
    subst hn
    have hs : tkStep listOps ⟨0, 1, 0, true, false, true⟩ [(w0 : Int), (w1 : Int)] = (⟨0, 1, 0, true, true, true⟩, [(w0 : Int), ((w1 + 1 : Nat) : Int)], true) := by
      unfold tkStep
      simp only [Bool.false_eq_true, if_false, if_true]
      have : mAddTo [(w0 : Int), (w1 : Int)] 1 1 = [(w0 : Int), ((w1 + 1 : Nat) : Int)] := by
        unfold mAddTo
        rw [mHas_true (by decide) (by show (1 : Int) < ((2 : Nat) : Int); decide), if_pos rfl]
        show mStore [(w0 : Int), (w1 : Int)] ((1 : Nat) : Int) ((mLoad [(w0 : Int), (w1 : Int)] ((1 : Nat) : Int) + 1) % 18446744073709551616) = _
        rw [store_hit, load_hit]
        show [(w0 : Int), ((w1 : Int) + 1) % 18446744073709551616] = _
        rw [show ((w1 : Int) + 1) % 18446744073709551616 = ((w1 + 1 : Nat) : Int) by omega]
      show (_, mAddTo [(w0 : Int), (w1 : Int)] 1 1, true) = _
      rw [this]
    rw [hs] at hbi hbj ⊢
    have hp : 0 < w0 := by rw [hw0]; exact List.countP_pos_iff.2 ⟨_, List.getElem_mem hi, by rw [← hT]; rfl⟩
    have hbi : (L.set i ⟨0, 1, 0, true, true, true⟩).countP tkNew = w0 := by rw [hbi]; show w0 - 1 + 1 = w0; omega
    have hbj : (L.set i ⟨0, 1, 0, true, true, true⟩).countP tkBoth = w1 + 1 := by rw [hbj]; rfl
    refine ⟨⟨by rw [hbi, hbj], by rw [hbi]; exact h2, fun y hy => ?_⟩, rfl⟩
    rw [hbi]
    rcases List.mem_or_eq_of_mem_set hy with hy | rfl
    · exact h3 y hy
    · exact ⟨rfl, rfl, rfl, fun _ => rfl, fun _ => by omega, fun _ => rfl, (fun _ h => by cases h)⟩
  | false =>
    have hn : new = false := by cases new with | false => rfl | true => exact absurd (e3 rfl) (by decide)
    subst hn
    have hcas : mCas [(w0 : Int), (w1 : Int)] 0 0 = decide (w0 = 0) := by
      unfold mCas
      rw [mHas_true (by decide) (by show (0 : Int) < ((2 : Nat) : Int); decide)]
      show (true && ((w0 : Int) == 0)) = _
      rw [Bool.true_and]
      by_cases hz : w0 = 0
      · subst hz; rfl
      · have : ¬ (w0 : Int) = 0 := by omega
        simp [hz]
    by_cases hz : w0 = 0
    · have hs : tkStep listOps ⟨0, 1, 0, false, false, false⟩ [(w0 : Int), (w1 : Int)] = (⟨0, 1, 0, true, false, true⟩, [(1 : Int), (w1 : Int)], false) := by
        have e : (listOps.cs [(w0 : Int), (w1 : Int)] (wr (0 + 0)) 0 1) = (true, [(1 : Int), (w1 : Int)]) := by
          show (mCas [(w0 : Int), (w1 : Int)] 0 0, mCasTo [(w0 : Int), (w1 : Int)] 0 0 1) = _
          unfold mCasTo
          rw [hcas, hz]; rfl
        rw [tk_new, e]; rfl
      rw [hs] at hbi hbj ⊢
      have hbi : (L.set i ⟨0, 1, 0, true, false, true⟩).countP tkNew = 1 := by rw [hbi, hz]; rfl
      have hbj : (L.set i ⟨0, 1, 0, true, false, true⟩).countP tkBoth = w1 := by rw [hbj]; rfl
      refine ⟨⟨by rw [hbi, hbj]; rfl, by rw [hbi]; exact Nat.le_refl _, fun y hy => ?_⟩, rfl⟩
      rw [hbi]
      rcases List.mem_or_eq_of_mem_set hy with hy | rfl
      · obtain ⟨a1, a2, a3, a4, a5, a6, a7⟩ := h3 y hy
        exact ⟨a1, a2, a3, a4, fun _ => rfl, a6, a7⟩
      · exact ⟨rfl, rfl, rfl, fun h => rfl, fun _ => rfl, fun _ => rfl, (fun _ h => by cases h)⟩
    · have hs : tkStep listOps ⟨0, 1, 0, false, false, false⟩ [(w0 : Int), (w1 : Int)] = (⟨0, 1, 0, false, true, true⟩, [(w0 : Int), (w1 : Int)], true) := by
        have e : (listOps.cs [(w0 : Int), (w1 : Int)] (wr (0 + 0)) 0 1) = (false, [(w0 : Int), (w1 : Int)]) := by
          show (mCas [(w0 : Int), (w1 : Int)] 0 0, mCasTo [(w0 : Int), (w1 : Int)] 0 0 1) = _
          unfold mCasTo
          rw [hcas, decide_eq_false hz]; rfl
        rw [tk_new, e]; rfl
      rw [hs] at hbi hbj ⊢
      have hbi : (L.set i ⟨0, 1, 0, false, true, true⟩).countP tkNew = w0 := by rw [hbi]; rfl
      have hbj : (L.set i ⟨0, 1, 0, false, true, true⟩).countP tkBoth = w1 := by rw [hbj]; rfl
      refine ⟨⟨by rw [hbi, hbj], by rw [hbi]; exact h2, fun y hy => ?_⟩, rfl⟩
      rw [hbi]
      rcases List.mem_or_eq_of_mem_set hy with hy | rfl
      · exact h3 y hy
      · exact ⟨rfl, rfl, rfl, fun _ => rfl, fun _ => by omega, (fun h => by cases h), fun _ _ => rfl⟩
/-- The Takes of a run. -/
abbrev tkK (p q : Nat) : Kind p q where
  X := Tk
  C := tkC
  T := 106
  g := 53
  me := fun a w => by kernel_rfl
  stp x ws _ := tkStep listOps x ws
  good _ := True
  keep _ _ _ _ := trivial
  call r x ws d σ _ := ofMPost (aTake (plainM p q) r x ws d σ trivial) rfl
theorem ti_run (p q : Nat) {n : Nat} (hn : 0 < n) (scr : List (Int × Int × Unit)) (rs : List Nat) (hr : rs.length = n) : ∀ R, R = ((tkK p q).world rs).run scr (List.replicate n ⟨0, 1, 0, false, false, false⟩, [0, 0]) → R.a.1.length = n ∧ R.dn = R.a.1.map Tk.ended ∧ TOnce R.a.1 R.a.2 := by
  intro R hR
  have hl : (((tkK p q).world rs).L).length = n := by show (rs.map _).length = n; rw [List.length_map, hr]
  have h := goS_inv (step := (tkK p q).step) (tell := fun a _ => a) (n := n) (fun a dn => a.1.length = n ∧ dn = a.1.map Tk.ended ∧ TOnce a.1 a.2) (fun _ _ => rfl) hn ?_ scr ⟨(List.replicate n ⟨0, 1, 0, false, false, false⟩, [0, 0]), List.replicate n 0, List.replicate n false, 0⟩ (by simp) ?_
  · have e : R = goS (tkK p q).step (fun a _ => a) n scr ⟨(List.replicate n ⟨0, 1, 0, false, false, false⟩, [0, 0]), List.replicate n 0, List.replicate n false, 0⟩ := by
      rw [hR]
      unfold AWorld.run
      rw [hl]
      unfold AWorld.init
      rw [hl]
      have : (((tkK p q).world rs).L).map isNil = List.replicate n false := by
        rw [← hr]
        refine List.ext_getElem (by simp [Kind.world]) fun i h1 h2 => ?_
        simp [Kind.world, isNil]
      rw [this]
      rfl
    rw [← e] at h
    exact h.2
  · intro a dn i d hi hdn h123 hf
    obtain ⟨L, ws⟩ : List Tk × List Int := a
    have h123 : L.length = n ∧ dn = L.map Tk.ended ∧ TOnce L ws := h123
    obtain ⟨h1, h2, h3⟩ := h123
    have hiL : i < L.length := by omega
    have he : L[i].ended = false := by
      rw [h2, List.getElem?_map, List.getElem?_eq_getElem hiL] at hf
      exact Option.some.inj hf
    obtain ⟨g1, g2⟩ := ti_step h3 hiL he
    rw [Kind.step_at (tkK p q) (L := L) hiL]
    refine ⟨(List.length_set ..).trans h1, ?_, g1⟩
    show dn.set i (tkStep listOps L[i] ws).2.2 = (L.set i (tkStep listOps L[i] ws).1).map Tk.ended
    rw [g2, h2, List.map_set]
  · show (List.replicate n (⟨0, 1, 0, false, false, false⟩ : Tk)).length = n ∧ List.replicate n false = (List.replicate n (⟨0, 1, 0, false, false, false⟩ : Tk)).map Tk.ended ∧ TOnce (List.replicate n (⟨0, 1, 0, false, false, false⟩ : Tk)) [0, 0]
    refine ⟨by simp, by simp, ?_⟩
    have c1 : (List.replicate n (⟨0, 1, 0, false, false, false⟩ : Tk)).countP tkNew = 0 := by simp [List.countP_replicate, tkNew]
    have c2 : (List.replicate n (⟨0, 1, 0, false, false, false⟩ : Tk)).countP tkBoth = 0 := by simp [List.countP_replicate, tkBoth]
    refine ⟨by rw [c1, c2]; rfl, by rw [c1]; exact Nat.zero_le _, fun t ht => ?_⟩
    rw [List.eq_of_mem_replicate ht]
    exact ⟨rfl, rfl, rfl, fun h => h, (fun h => by cases h), fun h => h, (fun h => by cases h)⟩
end Go.Proofs.Ytiihcgmnmcdcfaa
