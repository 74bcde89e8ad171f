/-
  Li: what the claim uses of them.
-/
import Derived.Test.YtacacplipaeokaaBn46
namespace Go.Proofs.Ytacacplipaeokaa
open Go.RowKit
set_option maxRecDepth 100000
set_option maxHeartbeats 4000000
theorem aRnA (R who kd n bg en : Int) (hk : kd = 1 ∧ 0 < en ∧ R ≤ 0) (σ : Hp) : ACalls Try.prog 74 [.nils, .int .i64 R, .agg (opC ⟨who, kd, n, bg, en, false⟩)] σ (DoR R [] ⟨who, kd, n, bg, en, false⟩ σ) := by
  refine okF Try.func74 (by kernel_rfl) ?_
  intro bl1
  refine LoadAt.mk 0 _ _ rfl rfl ?_
  refine bcond_dec (fun _ => ?_) (fun c => absurd (show kd = 1 by omega) c)
  refine LoadAt.mk 0 _ _ rfl rfl ?_
  refine bcond_dec (fun _ => ?_) (fun c => absurd (show 0 < en by omega) c)
  refine LoadAt.mk 0 _ _ rfl rfl ?_
  refine bcond_dec (fun _ => ?_) (fun c => absurd (show R ≤ 0 by omega) c)
  exact .drop 0 1 (.done (DoR.non (by simp [doP, hk]; try omega)))
theorem aRnB (R who kd n bg en : Int) (hk : kd = 1 ∧ 0 < R) (σ : Hp) : ACalls Try.prog 74 [.nils, .int .i64 R, .agg (opC ⟨who, kd, n, bg, en, true⟩)] σ (DoR R [] ⟨who, kd, n, bg, en, true⟩ σ) := by
  refine okF Try.func74 (by kernel_rfl) ?_
  intro bl1
  refine LoadAt.mk 0 _ _ rfl rfl ?_
  refine bcond_dec (fun _ => ?_) (fun c => absurd (show kd = 1 by omega) c)
  refine LoadAt.mk 0 _ _ rfl rfl ?_
  refine bcond_dec (fun c2 => ?_) (fun c2 => ?_)
  · have c2 : 0 < en := c2
    refine LoadAt.mk 0 _ _ rfl rfl ?_
    refine .sched [] (.one 1 false (.one 3 false (.one 7 false (.one 8 false (.one 9 false (.alt 0 (.alt 2 (.one 4 false (.one 5 false (.one 6 false (.one 10 false (.one 11 false .stop))))) (.one 4 false (.alt 2 (.one 5 false (.one 6 false (.one 10 false (.one 11 false .stop)))) (.one 5 false (.one 2 false (.one 6 false (.one 10 false (.one 11 false .stop)))))))) (.one 4 false (.alt 0 (.alt 2 (.one 5 false (.one 6 false (.one 10 false (.one 11 false .stop)))) (.one 5 false (.one 2 false (.one 6 false (.one 10 false (.one 11 false .stop)))))) (.one 5 false (.one 0 false (.one 2 false (.one 6 false (.one 10 false (.one 11 false .stop)))))))))))))) (by kernel_rfl) ?_
    repeat' first
      | exact .drop 1 2 (.done (DoR.put (l' := [n]) (v := .mref _ 0 1 1) (by simp [doP, hk]; try omega) (.mref _ 0 1 [AV.int .i64 n] [AV.int .i64 n] rfl (Nat.le_refl 1))))
      | refine And.intro ?_ ?_
      | refine bcond_dec (fun _ => ?_) (fun c => absurd (show (0 : Int) < R by omega) c)
      | refine LoadAt.mk 0 _ _ rfl rfl ?_
      | refine LoadAt.mk 1 _ _ rfl rfl ?_
      | refine LoadAt.mk 2 _ _ rfl rfl ?_
      | refine AppendAt.more 0 _ 0 0 [] _ rfl rfl (Nat.zero_le _) .nils (by decide) (by decide) (by decide) (fun b' => ?_)
      | refine AppendAt.more 1 _ 0 0 [] _ rfl rfl (Nat.zero_le _) .nils (by decide) (by decide) (by decide) (fun b' => ?_)
      | refine AppendAt.more 1 b' 0 1 [] _ rfl rfl (Nat.zero_le _) (.mref 0 _ 0 1 _ rfl (Nat.le_of_ble_eq_true rfl)) (by decide) (by decide) (by decide) (fun b8 => ?_)
      | refine AppendAt.more 0 b' 0 1 [] _ rfl rfl (Nat.zero_le _) (.mref 1 _ 0 1 _ rfl (Nat.le_of_ble_eq_true rfl)) (by decide) (by decide) (by decide) (fun b8 => ?_)
      | (intro b9)
  · have c2 : ¬ (0 < en) := c2
    refine .sched [] (.one 1 false (.one 3 false (.one 7 false (.one 8 false (.one 9 false (.alt 0 (.alt 2 (.one 4 false (.one 5 false (.one 6 false (.one 10 false (.one 11 false .stop))))) (.one 4 false (.alt 2 (.one 5 false (.one 6 false (.one 10 false (.one 11 false .stop)))) (.one 5 false (.one 2 false (.one 6 false (.one 10 false (.one 11 false .stop)))))))) (.one 4 false (.alt 0 (.alt 2 (.one 5 false (.one 6 false (.one 10 false (.one 11 false .stop)))) (.one 5 false (.one 2 false (.one 6 false (.one 10 false (.one 11 false .stop)))))) (.one 5 false (.one 0 false (.one 2 false (.one 6 false (.one 10 false (.one 11 false .stop)))))))))))))) (by kernel_rfl) ?_
    repeat' first
      | exact .drop 1 2 (.done (DoR.put (l' := [n]) (v := .mref _ 0 1 1) (by simp [doP, hk]; try omega) (.mref _ 0 1 [AV.int .i64 n] [AV.int .i64 n] rfl (Nat.le_refl 1))))
      | refine And.intro ?_ ?_
      | refine bcond_dec (fun _ => ?_) (fun c => absurd (show (0 : Int) < R by omega) c)
      | refine LoadAt.mk 0 _ _ rfl rfl ?_
      | refine LoadAt.mk 1 _ _ rfl rfl ?_
      | refine LoadAt.mk 2 _ _ rfl rfl ?_
      | refine AppendAt.more 0 _ 0 0 [] _ rfl rfl (Nat.zero_le _) .nils (by decide) (by decide) (by decide) (fun b' => ?_)
      | refine AppendAt.more 1 _ 0 0 [] _ rfl rfl (Nat.zero_le _) .nils (by decide) (by decide) (by decide) (fun b' => ?_)
      | refine AppendAt.more 1 b' 0 1 [] _ rfl rfl (Nat.zero_le _) (.mref 0 _ 0 1 _ rfl (Nat.le_of_ble_eq_true rfl)) (by decide) (by decide) (by decide) (fun b8 => ?_)
      | refine AppendAt.more 0 b' 0 1 [] _ rfl rfl (Nat.zero_le _) (.mref 1 _ 0 1 _ rfl (Nat.le_of_ble_eq_true rfl)) (by decide) (by decide) (by decide) (fun b8 => ?_)
      | (intro b9)
theorem aRnB0 (R who kd n bg en : Int) (hk : kd = 1 ∧ en = 0 ∧ 0 < R) (σ : Hp) : ACalls Try.prog 74 [.nils, .int .i64 R, .agg (opC ⟨who, kd, n, bg, en, false⟩)] σ (DoR R [] ⟨who, kd, n, bg, en, false⟩ σ) := by
  refine okF Try.func74 (by kernel_rfl) ?_
  intro bl1
  refine LoadAt.mk 0 _ _ rfl rfl ?_
  refine bcond_dec (fun _ => ?_) (fun c => absurd (show kd = 1 by omega) c)
  refine LoadAt.mk 0 _ _ rfl rfl ?_
  refine bcond_dec (fun c => absurd c (show ¬ 0 < en by omega)) (fun _ => ?_)
  refine .sched [] (.one 1 false (.one 3 false (.one 7 false (.one 8 false (.one 9 false (.alt 0 (.alt 2 (.one 4 false (.one 5 false (.one 6 false (.one 10 false (.one 11 false .stop))))) (.one 4 false (.alt 2 (.one 5 false (.one 6 false (.one 10 false (.one 11 false .stop)))) (.one 5 false (.one 2 false (.one 6 false (.one 10 false (.one 11 false .stop)))))))) (.one 4 false (.alt 0 (.alt 2 (.one 5 false (.one 6 false (.one 10 false (.one 11 false .stop)))) (.one 5 false (.one 2 false (.one 6 false (.one 10 false (.one 11 false .stop)))))) (.one 5 false (.one 0 false (.one 2 false (.one 6 false (.one 10 false (.one 11 false .stop)))))))))))))) (by kernel_rfl) ?_
  repeat' first
    | exact .drop 1 2 (.done (DoR.put (l' := [n]) (v := .mref _ 0 1 1) (by simp [doP, hk]; try omega) (.mref _ 0 1 [AV.int .i64 n] [AV.int .i64 n] rfl (Nat.le_refl 1))))
    | refine And.intro ?_ ?_
    | refine bcond_dec (fun _ => ?_) (fun c => absurd (show (0 : Int) < R by omega) c)
    | refine LoadAt.mk 0 _ _ rfl rfl ?_
    | refine LoadAt.mk 1 _ _ rfl rfl ?_
    | refine LoadAt.mk 2 _ _ rfl rfl ?_
    | refine AppendAt.more 0 _ 0 0 [] _ rfl rfl (Nat.zero_le _) .nils (by decide) (by decide) (by decide) (fun b' => ?_)
    | refine AppendAt.more 1 _ 0 0 [] _ rfl rfl (Nat.zero_le _) .nils (by decide) (by decide) (by decide) (fun b' => ?_)
    | refine AppendAt.more 1 b' 0 1 [] _ rfl rfl (Nat.zero_le _) (.mref 0 _ 0 1 _ rfl (Nat.le_of_ble_eq_true rfl)) (by decide) (by decide) (by decide) (fun b8 => ?_)
    | refine AppendAt.more 0 b' 0 1 [] _ rfl rfl (Nat.zero_le _) (.mref 1 _ 0 1 _ rfl (Nat.le_of_ble_eq_true rfl)) (by decide) (by decide) (by decide) (fun b8 => ?_)
    | (intro b9)
theorem aRnD (R who kd n bg en : Int) (hk : kd = 2 ∧ 0 < en) (σ : Hp) : ACalls Try.prog 74 [.nils, .int .i64 R, .agg (opC ⟨who, kd, n, bg, en, false⟩)] σ (DoR R [] ⟨who, kd, n, bg, en, false⟩ σ) := by
  refine okF Try.func74 (by kernel_rfl) ?_
  intro bl1
  refine LoadAt.mk 0 _ _ rfl rfl ?_
  refine bcond_dec (fun c => absurd c (show ¬ kd = 1 by omega)) (fun _ => ?_)
  refine LoadAt.mk 0 _ _ rfl rfl ?_
  refine bcond_dec (fun _ => ?_) (fun c => absurd (show kd = 2 by omega) c)
  refine LoadAt.mk 0 _ _ rfl rfl ?_
  refine bcond_dec (fun _ => ?_) (fun c => absurd (show 0 < en by omega) c)
  refine LoadAt.mk 0 _ _ rfl rfl ?_
  exact .drop 0 1 (.done (DoR.non (by simp [doP, hk]; try omega)))
theorem aRnZ (R who kd n bg en : Int) (hk : kd = 2 ∧ en = 0) (σ : Hp) : ACalls Try.prog 74 [.nils, .int .i64 R, .agg (opC ⟨who, kd, n, bg, en, true⟩)] σ (DoR R [] ⟨who, kd, n, bg, en, true⟩ σ) := by
  refine okF Try.func74 (by kernel_rfl) ?_
  intro bl1
  refine LoadAt.mk 0 _ _ rfl rfl ?_
  refine bcond_dec (fun c => absurd c (show ¬ kd = 1 by omega)) (fun _ => ?_)
  refine LoadAt.mk 0 _ _ rfl rfl ?_
  refine bcond_dec (fun _ => ?_) (fun c => absurd (show kd = 2 by omega) c)
  refine LoadAt.mk 0 _ _ rfl rfl ?_
  refine bcond_dec (fun c => absurd c (show ¬ 0 < en by omega)) (fun _ => ?_)
  refine .quiet (by kernel_rfl) ?_
  refine LoadAt.mk 0 _ _ rfl rfl ?_
  refine bcond_dec (fun _ => ?_) (fun c => absurd (show en = 0 by omega) c)
  exact .drop 0 1 (.done (DoR.non (by simp [doP, hk]; try omega)))
theorem aRnZ0 (R who kd n bg en : Int) (hk : kd = 2 ∧ en = 0) (σ : Hp) : ACalls Try.prog 74 [.nils, .int .i64 R, .agg (opC ⟨who, kd, n, bg, en, false⟩)] σ (DoR R [] ⟨who, kd, n, bg, en, false⟩ σ) := by
  refine okF Try.func74 (by kernel_rfl) ?_
  intro bl1
  refine LoadAt.mk 0 _ _ rfl rfl ?_
  refine bcond_dec (fun c => absurd c (show ¬ kd = 1 by omega)) (fun _ => ?_)
  refine LoadAt.mk 0 _ _ rfl rfl ?_
  refine bcond_dec (fun _ => ?_) (fun c => absurd (show kd = 2 by omega) c)
  refine LoadAt.mk 0 _ _ rfl rfl ?_
  refine bcond_dec (fun c => absurd c (show ¬ 0 < en by omega)) (fun _ => ?_)
  refine .quiet (by kernel_rfl) ?_
  refine LoadAt.mk 0 _ _ rfl rfl ?_
  refine bcond_dec (fun _ => ?_) (fun c => absurd (show en = 0 by omega) c)
  exact .drop 0 1 (.done (DoR.non (by simp [doP, hk]; try omega)))
theorem aRnF (R who kd n bg en : Int) (hk : kd = 3) (σ : Hp) : ACalls Try.prog 74 [.nils, .int .i64 R, .agg (opC ⟨who, kd, n, bg, en, false⟩)] σ (DoR R [] ⟨who, kd, n, bg, en, false⟩ σ) := by
  refine okF Try.func74 (by kernel_rfl) ?_
  intro bl1
  refine LoadAt.mk 0 _ _ rfl rfl ?_
  refine bcond_dec (fun c => absurd c (show ¬ kd = 1 by omega)) (fun _ => ?_)
  refine LoadAt.mk 0 _ _ rfl rfl ?_
  refine bcond_dec (fun c => absurd c (show ¬ kd = 2 by omega)) (fun _ => ?_)
  refine LoadAt.mk 0 _ _ rfl rfl ?_
  refine bcond_dec (fun _ => ?_) (fun c => absurd (show kd = 3 by omega) c)
  refine LoadAt.mk 0 _ _ rfl rfl ?_
  refine bcond_dec (fun c2 => ?_) (fun c2 => ?_)
  · have c2 : en = 0 := c2
    exact .drop 0 1 (.done (DoR.non (by simp [doP, hk]; try omega)))
  · have c2 : ¬ (en = 0) := c2
    refine LoadAt.mk 0 _ _ rfl rfl ?_
    exact .drop 0 1 (.done (DoR.non (by simp [doP, hk]; try omega)))
theorem aRnF0 (R who kd n bg en : Int) (hk : kd = 3 ∧ en = 0) (σ : Hp) : ACalls Try.prog 74 [.nils, .int .i64 R, .agg (opC ⟨who, kd, n, bg, en, true⟩)] σ (DoR R [] ⟨who, kd, n, bg, en, true⟩ σ) := by
  refine okF Try.func74 (by kernel_rfl) ?_
  intro bl1
  refine LoadAt.mk 0 _ _ rfl rfl ?_
  refine bcond_dec (fun c => absurd c (show ¬ kd = 1 by omega)) (fun _ => ?_)
  refine LoadAt.mk 0 _ _ rfl rfl ?_
  refine bcond_dec (fun c => absurd c (show ¬ kd = 2 by omega)) (fun _ => ?_)
  refine LoadAt.mk 0 _ _ rfl rfl ?_
  refine bcond_dec (fun _ => ?_) (fun c => absurd (show kd = 3 by omega) c)
  refine LoadAt.mk 0 _ _ rfl rfl ?_
  refine bcond_dec (fun _ => ?_) (fun c => absurd (show en = 0 by omega) c)
  exact .drop 0 1 (.done (DoR.non (by simp [doP, hk]; try omega)))
theorem aRDoO (R : Int) (o : OpR) (l : List Int) (v : AV) (acc : Hp) (h : AccO 1 l.length v acc (inC l)) (hl : l.length ≤ 1000000) (hok : (doP R l o).2 = true) (hen : 0 ≤ o.en) (σ : Hp) : ACalls Try.prog 74 [v, .int .i64 R, .agg (opC o)] (acc ++ σ) (DoR R l o σ) := by
  obtain ⟨who, kd, n, bg, en, ok⟩ := o
  have hen : 0 ≤ en := hen
  generalize hk : l.length = k at h
  generalize hc : inC l = cs at h
  by_cases k1 : kd = 1
  · by_cases he : 0 < en
    · cases ok
      · have hr : R ≤ (l.length : Int) := by simpa [doP, k1, he] using hok
        cases h with
        | nil =>
          obtain rfl := List.length_eq_zero_iff.1 hk
          exact aRnA R who kd n bg en ⟨k1, he, by simpa using hr⟩ σ
        | mref b off k cs all h1 h2 => subst hk; subst hc; exact aRdA R who kd n bg en b off all l ⟨k1, he, hr⟩ h1 h2 hl σ
      · have hr : (l.length : Int) < R := by simpa [doP, k1, he] using hok
        cases h with
        | nil =>
          obtain rfl := List.length_eq_zero_iff.1 hk
          exact aRnB R who kd n bg en ⟨k1, by simpa using hr⟩ σ
        | mref b off k cs all h1 h2 => subst hk; subst hc; exact aRdB R who kd n bg en b off all l ⟨k1, hr⟩ h1 h2 hl σ
    · have hr : (l.length : Int) < R := by simpa [doP, k1, he] using hok
      have he0 : en = 0 := by omega
      cases ok
      · cases h with
        | nil =>
          obtain rfl := List.length_eq_zero_iff.1 hk
          exact aRnB0 R who kd n bg en ⟨k1, he0, by simpa using hr⟩ σ
        | mref b off k cs all h1 h2 => subst hk; subst hc; exact aRdB0 R who kd n bg en b off all l ⟨k1, he0, hr⟩ h1 h2 hl σ
      · cases h with
        | nil =>
          obtain rfl := List.length_eq_zero_iff.1 hk
          exact aRnB R who kd n bg en ⟨k1, by simpa using hr⟩ σ
        | mref b off k cs all h1 h2 => subst hk; subst hc; exact aRdB R who kd n bg en b off all l ⟨k1, hr⟩ h1 h2 hl σ
  · by_cases k2 : kd = 2
    · rcases (show en = 0 ∨ 0 < en by omega) with he | he
      · cases h with
        | nil =>
          obtain rfl := List.length_eq_zero_iff.1 hk
          cases ok
          · exact aRnZ0 R who kd n bg en ⟨k2, he⟩ σ
          · exact aRnZ R who kd n bg en ⟨k2, he⟩ σ
        | mref b off k cs all h1 h2 =>
          subst hk; subst hc
          rcases Nat.eq_zero_or_pos l.length with h0 | h0
          · cases ok
            · exact aRdZ0 R who kd n bg en b off all l ⟨k2, he, h0⟩ h1 h2 hl σ
            · exact aRdZ R who kd n bg en b off all l ⟨k2, he, h0⟩ h1 h2 hl σ
          · cases ok
            · exact aRdT0 R who kd n bg en b off all l ⟨k2, he, h0⟩ h1 h2 hl σ
            · exact aRdT R who kd n bg en b off all l ⟨k2, he, h0⟩ h1 h2 hl σ
      · cases ok
        · rw [doP_D ⟨k2, by omega⟩] at hok
          have h0 : l.length = 0 := of_decide_eq_true hok
          cases h with
          | nil =>
            obtain rfl := List.length_eq_zero_iff.1 hk
            exact aRnD R who kd n bg en ⟨k2, he⟩ σ
          | mref b off k cs all h1 h2 => subst hk; subst hc; exact aRdD R who kd n bg en b off all l ⟨k2, he, h0⟩ h1 h2 hl σ
        · rw [doP_E ⟨k2, by omega⟩] at hok
          have hok := Bool.and_eq_true_iff.1 hok
          have h0 : 0 < l.length := of_decide_eq_true hok.1
          have hg : l.getD (l.length - 1) 0 = n := of_decide_eq_true hok.2
          cases h with
          | nil => omega
          | mref b off k cs all h1 h2 => subst hk; subst hc; exact aRdT1 R who kd n bg en b off all l ⟨k2, he, h0, hg⟩ h1 h2 hl σ
    · by_cases k3 : kd = 3
      · cases ok
        · cases h with
          | nil =>
            obtain rfl := List.length_eq_zero_iff.1 hk
            exact aRnF R who kd n bg en k3 σ
          | mref b off k cs all h1 h2 => subst hk; subst hc; exact aRdF R who kd n bg en b off all l k3 h1 h2 hl σ
        · rcases (show en = 0 ∨ 0 < en by omega) with he | he
          · cases h with
            | nil =>
              obtain rfl := List.length_eq_zero_iff.1 hk
              exact aRnF0 R who kd n bg en ⟨k3, he⟩ σ
            | mref b off k cs all h1 h2 => subst hk; subst hc; exact aRdF0 R who kd n bg en b off all l ⟨k3, he⟩ h1 h2 hl σ
          · rw [doP_G ⟨k3, by omega⟩] at hok
            have hok := Bool.and_eq_true_iff.1 hok
            have h0 : 0 < l.length := of_decide_eq_true hok.1
            have hg : l.getD 0 0 = n := of_decide_eq_true hok.2
            cases h with
            | nil => omega
            | mref b off k cs all h1 h2 => subst hk; subst hc; exact aRdG R who kd n bg en b off all l ⟨k3, he, h0, hg⟩ h1 h2 hl σ
      · exact absurd hok (by simp [doP, k1, k2, k3])
end Go.Proofs.Ytacacplipaeokaa
