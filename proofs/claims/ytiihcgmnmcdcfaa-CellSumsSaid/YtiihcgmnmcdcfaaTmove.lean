/-
  soughlaw31: begin, move.
-/
import Derived.Test.YtiihcgmnmcdcfaaRtk
namespace Go.Proofs.Ytiihcgmnmcdcfaa
open Go.RowKit
set_option maxRecDepth 100000
theorem ofMPost {p q r : Nat} {f : FuncId} {xs : List AV} {σ : Hp} {X : Type} {B : X → List AV} {x x' : X} {ws ws' : List Int} {b : Bool} {res : X × List Int × Bool} (h : ACalls Try.prog f xs ((r, B x) :: ((plainM p q).B ws ++ σ)) (MPost (plainM p q) σ B r res)) (e : res = (x', ws', b)) : ACalls Try.prog f xs ((r, B x) :: plH p q ws σ) (Ret (.bool b) ((r, B x') :: plH p q ws' σ)) :=
  h.mono fun _ _ ⟨m', h1, h2, h3⟩ => by
    subst e
    have h1 : m' = ws' := h1
    subst h1
    exact ⟨h2, h3⟩
/-- An op of the law: the program's machine, and the reference's. -/
inductive OT where
  | tk (r rr : Nat) (t : Tk) (u : RT)
  | ck (r rr : Nat) (t : Ck) (u : RT)
  | rk (r rr : Nat) (t : Rk) (u : RT)
  | qk (r rr : Nat) (t : Qk) (u : RT)
def OT.val : OT → List AV
  | .tk r rr _ _ => [.ptr r 0, .nilp, .nilp, .nilp, .ptr rr 0]
  | .ck r rr _ _ => [.nilp, .ptr r 0, .nilp, .nilp, .ptr rr 0]
  | .rk r rr _ _ => [.nilp, .nilp, .ptr r 0, .nilp, .ptr rr 0]
  | .qk r rr _ _ => [.nilp, .nilp, .nilp, .ptr r 0, .ptr rr 0]
def OT.blk : OT → Hp
  | .tk r rr t u => [(r, tkC t), (rr, rtC u)]
  | .ck r rr t u => [(r, ckC t), (rr, rtC u)]
  | .rk r rr t u => [(r, rkC t), (rr, rtC u)]
  | .qk r rr t u => [(r, qkC t), (rr, rtC u)]
def OT.ok : OT → Prop
  | .tk _ _ t u => u.kind = 1 ∧ u.v = t.v ∧ u.f = t.f ∧ u.c = t.c ∧ u.new = t.new ∧ u.ended = t.ended ∧ (t.ended = false → u.at_ = (if t.did then 1 else 0) ∧ (t.did = false → t.new = false))
  | .ck _ _ t u => u.kind = 2 ∧ u.v = t.v ∧ u.f = t.f ∧ u.ended = t.ended
  | .rk _ _ t u => u.kind = 3 ∧ u.c = t.c ∧ u.left = t.left ∧ u.ended = t.ended
  | .qk _ _ t u => (u.kind ≠ 1 ∧ u.kind ≠ 2 ∧ u.kind ≠ 3) ∧ u.c = t.c ∧ u.is = t.is ∧ u.ended = t.ended
theorem wr_one : wr 1 = 1 ∧ wr 2 = 2 := by decide
theorem tk_agree (r rr : Nat) (t : Tk) (u : RT) (ws : List Int) (h : OT.ok (.tk r rr t u)) :
    ∃ t' u' ws', tkStep listOps t ws = (t', ws', u'.ended) ∧ rtStep u ws = (u', ws') ∧ OT.ok (.tk r rr t' u') ∧ ws'.length = ws.length := by
  obtain ⟨f, c, v, new, ended, did⟩ := t
  obtain ⟨uk, uv, uf, uc, ua, un, ue, ui, ul⟩ := u
  obtain ⟨h1, h2, h3, h4, h5, h6, h7⟩ := h
  simp only at h1 h2 h3 h4 h5 h6 h7
  subst h1; subst h2; subst h3; subst h4; subst h5; subst h6
  cases ue with
  | true => exact ⟨⟨uf, uc, uv, un, true, did⟩, ⟨1, uv, uf, uc, ua, un, true, ui, ul⟩, ws, by simp [tkStep], by simp [rtStep], ⟨rfl, rfl, rfl, rfl, rfl, rfl, by simp⟩, rfl⟩
  | false =>
    obtain ⟨h7, h8⟩ := h7 rfl
    cases did with
    | true =>
      have h7 : ua = 1 := h7
      subst h7
      refine ⟨⟨uf, uc, uv, un, true, true⟩, ⟨1, uv, uf, uc, 2, un, true, ui, ul⟩, mAddTo ws uc 1, by simp [tkStep], by simp [rtStep, wr_one], ⟨rfl, rfl, rfl, rfl, rfl, rfl, by simp⟩, mAddTo_length _ _ _⟩
    | false =>
      have h7 : ua = 0 := h7
      subst h7
      have h8 : un = false := h8 rfl
      subst h8
      by_cases hv : 0 ≤ uv
      · cases hb : mCas ws (wr (uf + uv)) 0 with
        | true => exact ⟨⟨uf, uc, uv, true, false, true⟩, ⟨1, uv, uf, uc, 1, true, false, ui, ul⟩, mCasTo ws (wr (uf + uv)) 0 1, by simp [tkStep, hv, hb], by simp [rtStep, wr_one, hv, hb], ⟨rfl, rfl, rfl, rfl, rfl, rfl, by simp⟩, mCasTo_length _ _ _ _⟩
        | false => exact ⟨⟨uf, uc, uv, false, true, true⟩, ⟨1, uv, uf, uc, 1, false, true, ui, ul⟩, mCasTo ws (wr (uf + uv)) 0 1, by simp [tkStep, hv, hb], by simp [rtStep, wr_one, hv, hb], ⟨rfl, rfl, rfl, rfl, rfl, rfl, by simp⟩, mCasTo_length _ _ _ _⟩
      · exact ⟨⟨uf, uc, uv, false, true, true⟩, ⟨1, uv, uf, uc, 1, false, true, ui, ul⟩, ws, by simp [tkStep, hv], by simp [rtStep, wr_one, hv], ⟨rfl, rfl, rfl, rfl, rfl, rfl, by simp⟩, rfl⟩

theorem ck_agree (r rr : Nat) (t : Ck) (u : RT) (ws : List Int) (h : OT.ok (.ck r rr t u)) :
    ∃ t' u' ws', ckStep listOps t ws = (t', ws', u'.ended) ∧ rtStep u ws = (u', ws') ∧ OT.ok (.ck r rr t' u') ∧ ws'.length = ws.length := by
  obtain ⟨f, c, v, ended⟩ := t
  obtain ⟨uk, uv, uf, uc, ua, un, ue, ui, ul⟩ := u
  obtain ⟨h1, h2, h3, h6⟩ := h
  simp only at h1 h2 h3 h6
  subst h1; subst h2; subst h3; subst h6
  cases ue with
  | true => exact ⟨⟨uf, c, uv, true⟩, ⟨2, uv, uf, uc, ua, un, true, ui, ul⟩, ws, by simp [ckStep], by simp [rtStep], ⟨rfl, rfl, rfl, rfl⟩, rfl⟩
  | false => exact ⟨⟨uf, c, uv, true⟩, ⟨2, uv, uf, uc, wr (ua + 1), un, true, ui, ul⟩, if 0 ≤ uv then mStore ws (wr (uf + uv)) 0 else ws, by simp [ckStep], by simp [rtStep], ⟨rfl, rfl, rfl, rfl⟩, by split; exact mStore_length _ _ _; rfl⟩
theorem rk_agree (r rr : Nat) (t : Rk) (u : RT) (ws : List Int) (h : OT.ok (.rk r rr t u)) :
    ∃ t' u' ws', rkStep listOps t ws = (t', ws', u'.ended) ∧ rtStep u ws = (u', ws') ∧ OT.ok (.rk r rr t' u') ∧ ws'.length = ws.length := by
  obtain ⟨f, c, left, ended⟩ := t
  obtain ⟨uk, uv, uf, uc, ua, un, ue, ui, ul⟩ := u
  obtain ⟨h1, h2, h3, h6⟩ := h
  simp only at h1 h2 h3 h6
  subst h1; subst h2; subst h3; subst h6
  cases ue with
  | true => exact ⟨⟨f, uc, ul, true⟩, ⟨3, uv, uf, uc, ua, un, true, ui, ul⟩, ws, by simp [rkStep], by simp [rtStep], ⟨rfl, rfl, rfl, rfl⟩, rfl⟩
  | false => exact ⟨⟨f, uc, wr (mSum ws uc 18446744073709551615), true⟩, ⟨3, uv, uf, uc, wr (ua + 1), un, true, ui, wr (mSum ws uc 18446744073709551615)⟩, mAddTo ws uc 18446744073709551615, by simp [rkStep], by simp [rtStep], ⟨rfl, rfl, rfl, rfl⟩, mAddTo_length _ _ _⟩
theorem qk_agree (r rr : Nat) (t : Qk) (u : RT) (ws : List Int) (h : OT.ok (.qk r rr t u)) :
    ∃ t' u' ws', qkStep listOps t ws = (t', ws', u'.ended) ∧ rtStep u ws = (u', ws') ∧ OT.ok (.qk r rr t' u') ∧ ws'.length = ws.length := by
  obtain ⟨f, c, is, ended⟩ := t
  obtain ⟨uk, uv, uf, uc, ua, un, ue, ui, ul⟩ := u
  obtain ⟨⟨h1, h4, h5⟩, h2, h3, h6⟩ := h
  simp only at h1 h2 h3 h6 h4 h5
  subst h2; subst h3; subst h6
  cases ue with
  | true => exact ⟨⟨f, uc, ui, true⟩, ⟨uk, uv, uf, uc, ua, un, true, ui, ul⟩, ws, by simp [qkStep], by simp [rtStep], ⟨⟨h1, h4, h5⟩, rfl, rfl, rfl⟩, rfl⟩
  | false => exact ⟨⟨f, uc, decide (mLoad ws uc = 0), true⟩, ⟨uk, uv, uf, uc, wr (ua + 1), un, true, decide (mLoad ws uc = 0), ul⟩, ws, by simp [qkStep], by simp [rtStep, h1, h4, h5], ⟨⟨h1, h4, h5⟩, rfl, rfl, rfl⟩, rfl⟩

/-- move: a Step of both, which are alike. -/
def MovePost (o : OT) (p q m q2 : Nat) (ws : List Int) (σ : Hp) : AV → Hp → Prop :=
  fun x σ' => ∃ (o' : OT) (ws' : List Int), o'.ok ∧ o'.val = o.val ∧ ws'.length = ws.length ∧ x = .bool true ∧ σ' = o'.blk ++ plH p q ws' (reH m q2 ws' σ)
end Go.Proofs.Ytiihcgmnmcdcfaa
