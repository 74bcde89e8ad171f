/-
  Chapter 22's example (soughlaw22.awake) is true; soughlaw22.kind; the acts that are asked for.
-/
import Derived.Test.YtldiocdjgbehcaaShared
import Derived.Test.YtldiocdjgbehcaaReads
namespace Go.Proofs.Ytldiocdjgbehcaa
open Go.RowKit

set_option maxHeartbeats 400000 in
set_option maxRecDepth 100000 in
theorem awake22 (w : World) : Calls Try.prog 29 #[] w fun e w' => e = .returned (.bool true) ∧ Turn w w' [] := by
  go_enter Try.func29, Try.ntmps29
  go_wp2_with fail
  refine (newShared_any 1 w).mono ?_
  rintro e w1 ⟨p, q, rfl, t1, h1, hp, hq⟩
  rw [show List.replicate (cutN 1) (0 : Int) = [0] from rfl] at h1
  go_wp2_with fail
  refine (sharedCas_any p q [0] 0 0 5 w1 h1 (by decide)).mono ?_
  rintro e w2 ⟨rfl, t2, h2⟩
  rw [show mCas [0] 0 0 = true from rfl]
  rw [show mCasTo [0] 0 0 5 = [5] from rfl] at h2
  go_wp2_with fail
  refine (sharedAdd_any p q [5] 0 2 w2 h2).mono ?_
  rintro e w3 ⟨rfl, t3, h3⟩
  rw [show mSum [5] 0 2 = 7 from rfl]
  rw [show mAddTo [5] 0 2 = [7] from rfl] at h3
  go_wp2_with fail
  refine (sharedLen_any p q [7] w3 h3).mono ?_
  rintro e w4 ⟨rfl, rfl⟩
  go_wp2_with fail
  go_ret
  exact ⟨rfl, (t1.trans t2 (fun _ hx _ => hx) (fun x hx hl => by simp at hx; omega)).trans t3 (fun _ hx _ => hx) (fun x hx hl => by simp at hx; omega)⟩

def kindN (n : Int) : Int := if n < 1 ∨ 4 < n then 1 else n
set_option maxHeartbeats 400000 in
set_option maxRecDepth 100000 in
theorem kind22 (n : Int) (w : World) : Calls Try.prog 32 #[.int .i64 n] w fun e w' => e = .returned (.int .i64 (kindN n)) ∧ w = w' := by
  by_cases h1 : n < 1
  · rw [show kindN n = 1 by simp [kindN, h1]]
    go_enter Try.func32, Try.ntmps32
    go_wp2_with fail
    go_ret
    exact ⟨rfl, rfl⟩
  · by_cases h2 : 4 < n
    · rw [show kindN n = 1 by simp [kindN, h2]]
      have d : decide (n < 1) = false := by simpa using h1
      go_enter Try.func32, Try.ntmps32
      go_wp2_with fail
      go_ret
      exact ⟨rfl, rfl⟩
    · rw [show kindN n = n by simp [kindN, h1, h2]]
      have d : decide (n < 1) = false := by simpa using h1
      have d2 : decide (4 < n) = false := by simpa using h2
      go_enter Try.func32, Try.ntmps32
      go_wp2_with fail
      go_ret
      exact ⟨rfl, rfl⟩

/-- An act, as it is laid out; a list of acts, as an argument. -/
def actSh : Sh := .field (.int .i64) (.field (.int .i64) (.field (.int .u64) (.field (.int .u64) .nil)))
abbrev Act : Type := Int × Int × Int × Int × Unit
theorem act_cells {w : World} {cs : List Value} {d : Act} (h : Reads w actSh cs d) :
    cs = [.int .i64 d.1, .int .i64 d.2.1, .int .u64 d.2.2.1, .int .u64 d.2.2.2.1] ∧ (0 ≤ d.2.2.1 ∧ d.2.2.1 < 18446744073709551616) ∧ (0 ≤ d.2.2.2.1 ∧ d.2.2.2.1 < 18446744073709551616) := by
  obtain ⟨c1, r1, rfl, _, ⟨rfl, _⟩, c2, r2, rfl, _, ⟨rfl, _⟩, c3, r3, rfl, _, ⟨rfl, h3⟩, c4, r4, rfl, _, ⟨rfl, h4⟩, rfl⟩ := h
  exact ⟨rfl, wf_u64 h3, wf_u64 h4⟩
/-- A slice of acts, in memory. -/
def ActRow (w : World) (v : Value) (l : List Act) : Prop :=
  ∃ a c, v = .slice a l.length c ∧ l.length ≤ c ∧ c ≤ maxLen ∧ (l ≠ [] → ∃ b o, a = some ⟨b, o, none⟩ ∧ ∀ i, (h : i < l.length) →
    w.cell? ⟨b, o + i * 4, none⟩ = some (.int .i64 l[i].1) ∧ w.cell? ⟨b, o + i * 4 + 1, none⟩ = some (.int .i64 l[i].2.1) ∧ w.cell? ⟨b, o + i * 4 + 2, none⟩ = some (.int .u64 l[i].2.2.1) ∧ w.cell? ⟨b, o + i * 4 + 3, none⟩ = some (.int .u64 l[i].2.2.2.1) ∧
    (0 ≤ l[i].2.2.1 ∧ l[i].2.2.1 < 18446744073709551616) ∧ (0 ≤ l[i].2.2.2.1 ∧ l[i].2.2.2.1 < 18446744073709551616))
theorem actrow_of {w : World} {v : Value} {l : List Act} (h : Reads w (.slice actSh) v.cells.toList l) (hv : v.cells.toList = [v]) : ActRow w v l := by
  obtain ⟨a, c, e, h1, h2, h3⟩ := h
  rw [hv] at e
  obtain rfl : v = .slice a l.length c := List.singleton_inj.1 e
  refine ⟨a, c, rfl, h1, h2, fun hne => ?_⟩
  obtain ⟨b, o, rfl, hi⟩ := h3 hne
  refine ⟨b, o, rfl, fun i hil => ?_⟩
  obtain ⟨cs', q1, q2, q3⟩ := hi i hil
  obtain ⟨rfl, b1, b2⟩ := act_cells q3
  exact ⟨q2 0 _ rfl, q2 1 _ rfl, q2 2 _ rfl, q2 3 _ rfl, b1, b2⟩
end Go.Proofs.Ytldiocdjgbehcaa
