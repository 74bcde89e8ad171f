/-
  A scope whose run jumps forward, at most n times: behind a goto it goes on at the label. Over no program.
-/
import Derived.Test.YteccfogpajbigaaGreatReads
import Derived.WalkMore
namespace Go.Proofs.YteccfogpajbigaaGreat

/-- As Q; by a goto: what stands behind the label, with one jump fewer to come. -/
def fwd (P : Program) (c : Code) (Q : Exit → Act → World → Prop) : Nat → Exit → Act → World → Prop
  | n + 1, .goto l, a, w => ∃ rest, findLabel c l = some rest ∧ rest.wp P (fwd P c Q n) a w
  | 0, .goto _, _, _ => False
  | _, e, a, w => Q e a w

section
variable {P : Program} {c : Code} {a : Act} {w : World} {Q : Exit → Act → World → Prop} {n : Nat}
theorem fwd_normal : fwd P c Q n .normal a w = Q .normal a w := by cases n <;> rfl
theorem fwd_exit (id : Nat) : fwd P c Q n (.exit id) a w = Q (.exit id) a w := by cases n <;> rfl
theorem fwd_ret : fwd P c Q n .ret a w = Q .ret a w := by cases n <;> rfl
theorem fwd_panic (ch : List PanicEntry) : fwd P c Q n (.panic ch) a w = Q (.panic ch) a w := by cases n <;> rfl
attribute [go_sem] fwd_normal fwd_exit fwd_ret fwd_panic

theorem fwd_goto {l : Nat} {rest : Code} (h : findLabel c l = some rest) (hr : rest.wp P (fwd P c Q n) a w) : fwd P c Q (n + 1) (.goto l) a w := ⟨rest, h, hr⟩

theorem wp_scope_fwd (n : Nat) (h : c.wp P (fwd P c Q n) a w) : (Code.scope c).wp P Q a w := by
  intro b k cs
  have key : ∀ (n : Nat) (d : Code) (a : Act) (w : World), d.wp P (fwd P c Q n) a w → ∃ e a' w', Q e a' w' ∧ Arrives P (lone (b.at a (.code d :: .inScope c :: k)) cs w) b k cs e a' w' := by
    intro n
    induction n with
    | zero =>
      intro d a w hd
      obtain ⟨e, a₁, w₁, hq, harr⟩ := hd b (.inScope c :: k) cs
      cases e with
      | normal => exact ⟨.normal, a₁, w₁, hq, Steps.trans harr (.one step_inScope)⟩
      | exit id => exact ⟨.exit id, a₁, w₁, hq, fun k' hk => harr k' (by simp [exitTo, hk])⟩
      | goto l => exact hq.elim
      | ret => exact ⟨_, a₁, w₁, hq, harr⟩
      | panic ch => exact ⟨_, a₁, w₁, hq, harr⟩
      | outgrown => exact ⟨_, a₁, w₁, hq, harr⟩
    | succ n ih =>
      intro d a w hd
      obtain ⟨e, a₁, w₁, hq, harr⟩ := hd b (.inScope c :: k) cs
      cases e with
      | normal => exact ⟨.normal, a₁, w₁, hq, Steps.trans harr (.one step_inScope)⟩
      | exit id => exact ⟨.exit id, a₁, w₁, hq, fun k' hk => harr k' (by simp [exitTo, hk])⟩
      | goto l =>
        obtain ⟨rest, hf, hr⟩ := hq
        have hg : gotoIn l (.inScope c :: k) = some (.code rest :: .inScope c :: k) := by simp [gotoIn, hf]
        obtain ⟨e₂, a₂, w₂, hq₂, harr₂⟩ := ih rest a₁ w₁ hr
        exact ⟨e₂, a₂, w₂, hq₂, .of_steps (harr _ hg) harr₂⟩
      | ret => exact ⟨_, a₁, w₁, hq, harr⟩
      | panic ch => exact ⟨_, a₁, w₁, hq, harr⟩
      | outgrown => exact ⟨_, a₁, w₁, hq, harr⟩
  obtain ⟨e, a', w', hq, harr⟩ := key n c a w h
  exact ⟨e, a', w', hq, .of_steps (.one step_scope) harr⟩
end
end Go.Proofs.YteccfogpajbigaaGreat
