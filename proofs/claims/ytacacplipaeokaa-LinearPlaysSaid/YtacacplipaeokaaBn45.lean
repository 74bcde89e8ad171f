/-
  Lg: what the claim uses of them.
-/
import Derived.Test.YtacacplipaeokaaBn44
namespace Go.Proofs.Ytacacplipaeokaa
open Go.RowKit
set_option maxRecDepth 100000
set_option maxHeartbeats 4000000
theorem acalls_nilL {f : FuncId} {xs ys : List AV} {σ : Hp} {R : AV → Hp → Prop} (h : FrzRel 0 0 0 0 .bool [] (.tup xs) (.tup ys)) (hc : ACalls Try.prog f ys σ R) : ACalls Try.prog f xs σ R :=
  ⟨hc.1, fun F w vs hvs hσ => hc.2 F w vs (by
    have := frzrel_sound (.refl F w) (fun v hv => by
      obtain ⟨a, cap, rfl, c, T, fz, m1, m2, m3, m4⟩ := hv.mrefv
      exact .fsl _ _ _ ⟨some a, cap, rfl, m2, m3, (fun e => by cases e), fun hne => absurd rfl hne⟩) h (.tuple vs) (.tup xs vs hvs.1 hvs.2)
    cases this with
    | tup _ _ h1 h2 => exact ⟨h1, h2⟩) hσ⟩
theorem aLinFind (ops : List OpR) (R : Int) (ho : ops.length ≤ 12) (hs : ∀ o ∈ ops, ¬ (0 < o.en ∧ o.en < o.bg)) (σ : Hp) : ACalls Try.prog 26 [.fsl opSh (ops.map opT), .int .i64 R] σ (fun x σ' => ∃ (out : List Int) (is : Bool), x = .tup [.fsl (.int .i64) out, .bool is, .int .i64 0] ∧ σ' = σ ∧ (is = true → FitsP ops (mxR R) out) ∧ ((∃ rest, FitsP ops (mxR R) rest) → is = true)) := by
  refine okF Try.func26 (by kernel_rfl) ?_
  refine bcond_dec (fun c => ?_) (fun c => ?_)
  · have c : 12 < ((ops.map opT).length : Int) := c
    rw [List.length_map] at c
    omega
  · refine .mk [] _ (acalls_nilL (frz_cons (.refl _) (frz_cons (.refl _) (frz_cons (.nil (.int .i64)) (.refl _)))) (aFind ops R (by omega) hs ops.length [] _ List.nodup_nil (fun _ h => absurd h (by simp)) (by simp))) ?_
    rintro _ _ ⟨out, is, rfl, rfl, h3, h4⟩
    exact .done ⟨out, is, rfl, rfl, h3, fun ⟨rest, hr⟩ => h4 ⟨rest, hr⟩⟩
theorem aRInts29 (l : List Int) (σ : Hp) (hl : l.length ≤ 1000000) : ACalls Try.prog 50 [.fsl (.int .i64) l, .fsl (.int .i64) l] σ (Ret (.bool true) σ) := by
  refine okF Try.func50 (by kernel_rfl) ?_
  refine bcond_split (fun c => absurd c (by simp)) (fun c => ?_)
  refine loopS (S := Nat) (fun k => [(0, .fsl (.int .i64) l), (1, .fsl (.int .i64) l), (12, .int .i64 l.length), (13, .int .i64 k)]) (fun _ => σ) (fun k => k ≤ l.length) (fun k => l.length - k) 0 ⟨Nat.zero_le _, ⟨rfl, rfl, rfl, rfl, trivial⟩, rfl⟩ ?_
  rintro k g hk0
  have hk : k ≤ l.length := hk0
  refine bcond_dec (fun hlt => ?_) (fun hge => ?_)
  · have hlt : k < l.length := by have hlt : (k : Int) < l.length := hlt; omega
    refine DrawW.quiet (by kernel_rfl) ?_
    refine With.mk rfl (IdxF.mk l[k] (by omega) (get_some hlt) ?_)
    refine With.mk rfl (IdxF.mk l[k] (by omega) (get_some hlt) ?_)
    refine bcond_split (fun c => absurd c (by simp)) (fun c => ?_)
    exact nextS (k + 1) (by show l.length - (k + 1) < l.length - k; omega) hlt ⟨rfl, rfl, rfl, inc64 (by omega), trivial⟩ (.refl _)
  · exact .done ⟨rfl, rfl⟩
def opsA : List OpR := [⟨0, 3, 5, 1, 9, true⟩, ⟨0, 1, 5, 2, 8, true⟩]
theorem opsA_fits : FitsP opsA (mxR 2) [1, 0] := by
  refine ⟨?_, by decide, by decide, by decide, ?_⟩
  · intro i hi
    have : i = 1 ∨ i = 0 := by simpa using hi
    rcases this with rfl | rfl <;> decide
  · intro j o hj _
    match j, hj with
    | 0, _ => decide
    | 1, _ => decide
    | j + 2, hj => simp [opsA] at hj
theorem opsA_out {out : List Int} (h : FitsP opsA (mxR 2) out) : out = [1, 0] := by
  have hlen := nodup_leF 2 out h.nodup h.inn
  have h0 := h.all 0 _ rfl (by decide)
  have h1 := h.all 1 _ rfl (by decide)
  have hd := h.does
  have hn := h.nodup
  match out, hlen, h0, h1, hd, hn with
  | [], _, h0, _, _, _ => simp at h0
  | [a], _, h0, h1, _, _ => simp at h0 h1; omega
  | [a, b], _, h0, h1, hd, hn =>
    have h0 : 0 = a ∨ 0 = b := by simpa using h0
    have h1 : 1 = a ∨ 1 = b := by simpa using h1
    rcases h0 with rfl | rfl
    · rcases h1 with h1 | rfl
      · omega
      · exact absurd hd (by decide)
    · rcases h1 with rfl | h1
      · rfl
      · omega
theorem aAwake29 (σ : Hp) : ACalls Try.prog 25 [] σ (Ret (.bool true) σ) := by
  refine okF Try.func25 (by kernel_rfl) ?_
  intro b1
  refine .frz (args' := [.fsl opSh (opsA.map opT), .int .i64 2]) 0 b1 0 2 6 _ opSh (opsA.map opT) rfl rfl ⟨rfl, rfl, by decide⟩ (frz_cons .here (.refl _)) ?_
  refine .mk [] _ (aLinFind opsA 2 (by decide) (by decide) _) ?_
  rintro _ _ ⟨out, is, rfl, rfl, h1, h2⟩
  obtain rfl := h2 ⟨_, opsA_fits⟩
  obtain rfl := opsA_out (h1 rfl)
  intro bl1
  refine .frz (args' := [.fsl (.int .i64) ([1, 0] : List Int), .fsl (.int .i64) ([1, 0] : List Int)]) 0 bl1 0 2 1 _ (.int .i64) ([1, 0] : List Int) rfl rfl ⟨rfl, rfl, by decide⟩ (frz_cons (.refl _) (frz_cons .here (.refl _))) ?_
  refine callR [] (aRInts29 [1, 0] _ (by decide)) ?_
  exact .done ⟨rfl, rfl⟩
end Go.Proofs.Ytacacplipaeokaa
