/-
  Lb: what the claim uses of them.
-/
import Derived.Test.YtacacplipaeokaaBn39
namespace Go.Proofs.Ytacacplipaeokaa
open Go.RowKit
set_option maxRecDepth 100000
set_option maxHeartbeats 4000000
theorem DoR.non {R : Int} {o : OpR} {σ : Hp} {p : Bool} (e : doP R [] o = ([], p)) : DoR R [] o σ (.tup [.nils, .bool p]) σ := ⟨.nils, [], by rw [e], by rw [e]; exact .nil, rfl⟩
theorem aDnA (R who kd n bg en : Int) (hk : kd = 1 ∧ 0 < en) (σ : Hp) : ACalls Try.prog 79 [.nils, .int .i64 R, .agg (opC ⟨who, kd, n, bg, en, false⟩)] σ (DoR R [] ⟨who, kd, n, bg, en, false⟩ σ) := by
  refine okF Try.func79 (by kernel_rfl) ?_
  intro bl1
  refine LoadAt.mk 0 _ _ rfl rfl ?_
  refine bcond_dec (fun _ => ?_) (fun c => absurd (show kd = 1 by omega) c)
  refine LoadAt.mk 0 _ _ rfl rfl ?_
  refine bcond_dec (fun _ => ?_) (fun c => absurd (show 0 < en by omega) c)
  refine LoadAt.mk 0 _ _ rfl rfl ?_
  refine bcond_dec (fun c2 => ?_) (fun c2 => ?_)
  · have c2 : R ≤ 0 := c2
    exact .drop 0 1 (.done (DoR.non (by simp [doP, hk]; try omega)))
  · have c2 : ¬ (R ≤ 0) := c2
    exact .drop 0 1 (.done (DoR.non (by simp [doP, hk]; try omega)))
theorem aDnB (R who kd n bg en : Int) (hk : kd = 1) (σ : Hp) : ACalls Try.prog 79 [.nils, .int .i64 R, .agg (opC ⟨who, kd, n, bg, en, true⟩)] σ (DoR R [] ⟨who, kd, n, bg, en, true⟩ σ) := by
  refine okF Try.func79 (by kernel_rfl) ?_
  intro bl1
  refine LoadAt.mk 0 _ _ rfl rfl ?_
  refine bcond_dec (fun _ => ?_) (fun c => absurd (show kd = 1 by omega) c)
  refine LoadAt.mk 0 _ _ rfl rfl ?_
  refine bcond_dec (fun c2 => ?_) (fun c2 => ?_)
  · have c2 : 0 < en := c2
    refine LoadAt.mk 0 _ _ rfl rfl ?_
    refine LoadAt.mk 0 _ _ rfl rfl ?_
    refine bcond_dec (fun _ => ?_) (fun c => absurd (show kd = 1 by omega) c)
    refine LoadAt.mk 0 _ _ rfl rfl ?_
    intro bl3
    refine append_accOW [_, _] (i := _) (k := 0) (acc := []) (σ := σ) .nil (.mref 0 bl3 0 1 _ rfl (Nat.le_of_ble_eq_true rfl)) rfl (by omega) (by decide) (by decide) (fun v' acc' h' => ?_)
    obtain ⟨b', off', all', rfl, rfl⟩ := accO_posL h'
    have h' : AccO 1 1 (.mref b' off' 1 1) [(b', all')] [.int .i64 n] := h'
    refine bcond_dec (fun d => ?_) (fun d => ?_)
    · have d : ((0 : Int) < R) := d
      exact .drop 0 2 (.done (DoR.put (l' := [n]) (v := .mref b' off' 1 1) (by simp [doP, hk, d]) h'))
    · have d : ¬ ((0 : Int) < R) := d
      exact .drop 0 2 (.done (DoR.put (l' := [n]) (v := .mref b' off' 1 1) (by simp [doP, hk, d]) h'))
  · have c2 : ¬ (0 < en) := c2
    refine LoadAt.mk 0 _ _ rfl rfl ?_
    refine bcond_dec (fun _ => ?_) (fun c => absurd (show kd = 1 by omega) c)
    refine LoadAt.mk 0 _ _ rfl rfl ?_
    intro bl4
    refine append_accOW [_, _] (i := _) (k := 0) (acc := []) (σ := σ) .nil (.mref 0 bl4 0 1 _ rfl (Nat.le_of_ble_eq_true rfl)) rfl (by omega) (by decide) (by decide) (fun v' acc' h' => ?_)
    obtain ⟨b', off', all', rfl, rfl⟩ := accO_posL h'
    have h' : AccO 1 1 (.mref b' off' 1 1) [(b', all')] [.int .i64 n] := h'
    refine bcond_dec (fun d => ?_) (fun d => ?_)
    · have d : ((0 : Int) < R) := d
      exact .drop 0 2 (.done (DoR.put (l' := [n]) (v := .mref b' off' 1 1) (by simp [doP, hk, d]) h'))
    · have d : ¬ ((0 : Int) < R) := d
      exact .drop 0 2 (.done (DoR.put (l' := [n]) (v := .mref b' off' 1 1) (by simp [doP, hk, d]) h'))
theorem aDnB0 (R who kd n bg en : Int) (hk : kd = 1 ∧ ¬ 0 < en) (σ : Hp) : ACalls Try.prog 79 [.nils, .int .i64 R, .agg (opC ⟨who, kd, n, bg, en, false⟩)] σ (DoR R [] ⟨who, kd, n, bg, en, false⟩ σ) := by
  refine okF Try.func79 (by kernel_rfl) ?_
  intro bl1
  refine LoadAt.mk 0 _ _ rfl rfl ?_
  refine bcond_dec (fun _ => ?_) (fun c => absurd (show kd = 1 by omega) c)
  refine LoadAt.mk 0 _ _ rfl rfl ?_
  refine bcond_dec (fun c => absurd c (show ¬ 0 < en by omega)) (fun _ => ?_)
  refine LoadAt.mk 0 _ _ rfl rfl ?_
  refine bcond_dec (fun _ => ?_) (fun c => absurd (show kd = 1 by omega) c)
  refine LoadAt.mk 0 _ _ rfl rfl ?_
  intro bl2
  refine append_accOW [_, _] (i := _) (k := 0) (acc := []) (σ := σ) .nil (.mref 0 bl2 0 1 _ rfl (Nat.le_of_ble_eq_true rfl)) rfl (by omega) (by decide) (by decide) (fun v' acc' h' => ?_)
  obtain ⟨b', off', all', rfl, rfl⟩ := accO_posL h'
  have h' : AccO 1 1 (.mref b' off' 1 1) [(b', all')] [.int .i64 n] := h'
  refine bcond_dec (fun d => ?_) (fun d => ?_)
  · have d : ((0 : Int) < R) := d
    exact .drop 0 2 (.done (DoR.put (l' := [n]) (v := .mref b' off' 1 1) (by simp [doP, hk, d]) h'))
  · have d : ¬ ((0 : Int) < R) := d
    exact .drop 0 2 (.done (DoR.put (l' := [n]) (v := .mref b' off' 1 1) (by simp [doP, hk, d]) h'))
theorem aDnC (R who kd n bg en : Int) (ok : Bool) (hk : kd = 2 ∧ en = 0) (σ : Hp) : ACalls Try.prog 79 [.nils, .int .i64 R, .agg (opC ⟨who, kd, n, bg, en, ok⟩)] σ (DoR R [] ⟨who, kd, n, bg, en, ok⟩ σ) := by
  refine okF Try.func79 (by kernel_rfl) ?_
  intro bl1
  refine LoadAt.mk 0 _ _ rfl rfl ?_
  refine bcond_dec (fun c => absurd c (show ¬ kd = 1 by omega)) (fun _ => ?_)
  refine LoadAt.mk 0 _ _ rfl rfl ?_
  refine bcond_dec (fun c => absurd c (show ¬ kd = 1 by omega)) (fun _ => ?_)
  refine LoadAt.mk 0 _ _ rfl rfl ?_
  refine bcond_dec (fun _ => ?_) (fun c => absurd (show kd = 2 by omega) c)
  refine LoadAt.mk 0 _ _ rfl rfl ?_
  refine bcond_dec (fun _ => ?_) (fun c => absurd (show en = 0 by omega) c)
  refine With.mk (by decide) ?_
  exact .drop 0 1 (.done (DoR.non (by simp [doP, hk]; try omega)))
theorem aDnD (R who kd n bg en : Int) (hk : kd = 2 ∧ ¬ en = 0) (σ : Hp) : ACalls Try.prog 79 [.nils, .int .i64 R, .agg (opC ⟨who, kd, n, bg, en, false⟩)] σ (DoR R [] ⟨who, kd, n, bg, en, false⟩ σ) := by
  refine okF Try.func79 (by kernel_rfl) ?_
  intro bl1
  refine LoadAt.mk 0 _ _ rfl rfl ?_
  refine bcond_dec (fun c => absurd c (show ¬ kd = 1 by omega)) (fun _ => ?_)
  refine LoadAt.mk 0 _ _ rfl rfl ?_
  refine bcond_dec (fun c => absurd c (show ¬ kd = 1 by omega)) (fun _ => ?_)
  refine LoadAt.mk 0 _ _ rfl rfl ?_
  refine bcond_dec (fun _ => ?_) (fun c => absurd (show kd = 2 by omega) c)
  refine LoadAt.mk 0 _ _ rfl rfl ?_
  refine bcond_dec (fun c => absurd c (show ¬ en = 0 by omega)) (fun _ => ?_)
  refine LoadAt.mk 0 _ _ rfl rfl ?_
  refine bcond_dec (fun _ => ?_) (fun c => absurd (show kd = 2 by omega) c)
  refine LoadAt.mk 0 _ _ rfl rfl ?_
  exact .drop 0 1 (.done (DoR.non (by simp [doP, hk]; try omega)))
theorem aDnE (R who kd n bg en : Int) (hk : kd = 2 ∧ ¬ en = 0) (σ : Hp) : ACalls Try.prog 79 [.nils, .int .i64 R, .agg (opC ⟨who, kd, n, bg, en, true⟩)] σ (DoR R [] ⟨who, kd, n, bg, en, true⟩ σ) := by
  refine okF Try.func79 (by kernel_rfl) ?_
  intro bl1
  refine LoadAt.mk 0 _ _ rfl rfl ?_
  refine bcond_dec (fun c => absurd c (show ¬ kd = 1 by omega)) (fun _ => ?_)
  refine LoadAt.mk 0 _ _ rfl rfl ?_
  refine bcond_dec (fun c => absurd c (show ¬ kd = 1 by omega)) (fun _ => ?_)
  refine LoadAt.mk 0 _ _ rfl rfl ?_
  refine bcond_dec (fun _ => ?_) (fun c => absurd (show kd = 2 by omega) c)
  refine LoadAt.mk 0 _ _ rfl rfl ?_
  refine bcond_dec (fun c => absurd c (show ¬ en = 0 by omega)) (fun _ => ?_)
  refine LoadAt.mk 0 _ _ rfl rfl ?_
  refine bcond_dec (fun _ => ?_) (fun c => absurd (show kd = 2 by omega) c)
  refine LoadAt.mk 0 _ _ rfl rfl ?_
  refine LoadAt.mk 0 _ _ rfl rfl ?_
  refine bcond_dec (fun _ => ?_) (fun c => absurd (show kd = 2 by omega) c)
  refine .quiet (by kernel_rfl) ?_
  refine With.mk (by decide) ?_
  exact .drop 0 1 (.done (DoR.non (by simp [doP, hk]; try omega)))
theorem aDnF (R who kd n bg en : Int) (hk : kd = 3) (σ : Hp) : ACalls Try.prog 79 [.nils, .int .i64 R, .agg (opC ⟨who, kd, n, bg, en, false⟩)] σ (DoR R [] ⟨who, kd, n, bg, en, false⟩ σ) := by
  refine okF Try.func79 (by kernel_rfl) ?_
  intro bl1
  refine LoadAt.mk 0 _ _ rfl rfl ?_
  refine bcond_dec (fun c => absurd c (show ¬ kd = 1 by omega)) (fun _ => ?_)
  refine LoadAt.mk 0 _ _ rfl rfl ?_
  refine bcond_dec (fun c => absurd c (show ¬ kd = 1 by omega)) (fun _ => ?_)
  refine LoadAt.mk 0 _ _ rfl rfl ?_
  refine bcond_dec (fun c => absurd c (show ¬ kd = 2 by omega)) (fun _ => ?_)
  refine LoadAt.mk 0 _ _ rfl rfl ?_
  refine bcond_dec (fun c => absurd c (show ¬ kd = 2 by omega)) (fun _ => ?_)
  refine LoadAt.mk 0 _ _ rfl rfl ?_
  refine bcond_dec (fun c => absurd c (show ¬ kd = 2 by omega)) (fun _ => ?_)
  refine LoadAt.mk 0 _ _ rfl rfl ?_
  refine bcond_dec (fun _ => ?_) (fun c => absurd (show kd = 3 by omega) c)
  refine LoadAt.mk 0 _ _ rfl rfl ?_
  exact .drop 0 1 (.done (DoR.non (by simp [doP, hk]; try omega)))
theorem aDnF0 (R who kd n bg en : Int) (hk : kd = 3 ∧ en = 0) (σ : Hp) : ACalls Try.prog 79 [.nils, .int .i64 R, .agg (opC ⟨who, kd, n, bg, en, true⟩)] σ (DoR R [] ⟨who, kd, n, bg, en, true⟩ σ) := by
  refine okF Try.func79 (by kernel_rfl) ?_
  intro bl1
  refine LoadAt.mk 0 _ _ rfl rfl ?_
  refine bcond_dec (fun c => absurd c (show ¬ kd = 1 by omega)) (fun _ => ?_)
  refine LoadAt.mk 0 _ _ rfl rfl ?_
  refine bcond_dec (fun c => absurd c (show ¬ kd = 1 by omega)) (fun _ => ?_)
  refine LoadAt.mk 0 _ _ rfl rfl ?_
  refine bcond_dec (fun c => absurd c (show ¬ kd = 2 by omega)) (fun _ => ?_)
  refine LoadAt.mk 0 _ _ rfl rfl ?_
  refine bcond_dec (fun c => absurd c (show ¬ kd = 2 by omega)) (fun _ => ?_)
  refine LoadAt.mk 0 _ _ rfl rfl ?_
  refine bcond_dec (fun c => absurd c (show ¬ kd = 2 by omega)) (fun _ => ?_)
  refine LoadAt.mk 0 _ _ rfl rfl ?_
  refine bcond_dec (fun _ => ?_) (fun c => absurd (show kd = 3 by omega) c)
  refine LoadAt.mk 0 _ _ rfl rfl ?_
  refine LoadAt.mk 0 _ _ rfl rfl ?_
  refine bcond_dec (fun _ => ?_) (fun c => absurd (show en = 0 by omega) c)
  exact .drop 0 1 (.done (DoR.non (by simp [doP, hk]; try omega)))
theorem aDnG (R who kd n bg en : Int) (hk : kd = 3 ∧ ¬ en = 0) (σ : Hp) : ACalls Try.prog 79 [.nils, .int .i64 R, .agg (opC ⟨who, kd, n, bg, en, true⟩)] σ (DoR R [] ⟨who, kd, n, bg, en, true⟩ σ) := by
  refine okF Try.func79 (by kernel_rfl) ?_
  intro bl1
  refine LoadAt.mk 0 _ _ rfl rfl ?_
  refine bcond_dec (fun c => absurd c (show ¬ kd = 1 by omega)) (fun _ => ?_)
  refine LoadAt.mk 0 _ _ rfl rfl ?_
  refine bcond_dec (fun c => absurd c (show ¬ kd = 1 by omega)) (fun _ => ?_)
  refine LoadAt.mk 0 _ _ rfl rfl ?_
  refine bcond_dec (fun c => absurd c (show ¬ kd = 2 by omega)) (fun _ => ?_)
  refine LoadAt.mk 0 _ _ rfl rfl ?_
  refine bcond_dec (fun c => absurd c (show ¬ kd = 2 by omega)) (fun _ => ?_)
  refine LoadAt.mk 0 _ _ rfl rfl ?_
  refine bcond_dec (fun c => absurd c (show ¬ kd = 2 by omega)) (fun _ => ?_)
  refine LoadAt.mk 0 _ _ rfl rfl ?_
  refine bcond_dec (fun _ => ?_) (fun c => absurd (show kd = 3 by omega) c)
  refine LoadAt.mk 0 _ _ rfl rfl ?_
  refine LoadAt.mk 0 _ _ rfl rfl ?_
  refine bcond_dec (fun c => absurd c (show ¬ en = 0 by omega)) (fun _ => ?_)
  refine LoadAt.mk 0 _ _ rfl rfl ?_
  refine bcond_dec (fun _ => ?_) (fun c => absurd (show kd = 3 by omega) c)
  refine .quiet (by kernel_rfl) ?_
  refine With.mk (by omega) ?_
  exact .drop 0 1 (.done (DoR.non (by simp [doP, hk]; try omega)))
theorem aDnH (R who kd n bg en : Int) (ok : Bool) (hk : ¬ kd = 1 ∧ ¬ kd = 2 ∧ ¬ kd = 3) (σ : Hp) : ACalls Try.prog 79 [.nils, .int .i64 R, .agg (opC ⟨who, kd, n, bg, en, ok⟩)] σ (DoR R [] ⟨who, kd, n, bg, en, ok⟩ σ) := by
  refine okF Try.func79 (by kernel_rfl) ?_
  intro bl1
  refine LoadAt.mk 0 _ _ rfl rfl ?_
  refine bcond_dec (fun c => absurd c (show ¬ kd = 1 by omega)) (fun _ => ?_)
  refine LoadAt.mk 0 _ _ rfl rfl ?_
  refine bcond_dec (fun c => absurd c (show ¬ kd = 1 by omega)) (fun _ => ?_)
  refine LoadAt.mk 0 _ _ rfl rfl ?_
  refine bcond_dec (fun c => absurd c (show ¬ kd = 2 by omega)) (fun _ => ?_)
  refine LoadAt.mk 0 _ _ rfl rfl ?_
  refine bcond_dec (fun c => absurd c (show ¬ kd = 2 by omega)) (fun _ => ?_)
  refine LoadAt.mk 0 _ _ rfl rfl ?_
  refine bcond_dec (fun c => absurd c (show ¬ kd = 2 by omega)) (fun _ => ?_)
  refine LoadAt.mk 0 _ _ rfl rfl ?_
  refine bcond_dec (fun c => absurd c (show ¬ kd = 3 by omega)) (fun _ => ?_)
  refine LoadAt.mk 0 _ _ rfl rfl ?_
  refine bcond_dec (fun c => absurd c (show ¬ kd = 3 by omega)) (fun _ => ?_)
  exact .drop 0 1 (.done (DoR.non (by simp [doP, hk]; try omega)))
theorem aDoN (R : Int) (o : OpR) (σ : Hp) : ACalls Try.prog 79 [.nils, .int .i64 R, .agg (opC o)] σ (DoR R [] o σ) := by
  obtain ⟨who, kd, n, bg, en, ok⟩ := o
  by_cases h1 : kd = 1
  · by_cases he : 0 < en
    · cases ok
      · exact aDnA R who kd n bg en ⟨h1, he⟩ σ
      · exact aDnB R who kd n bg en h1 σ
    · cases ok
      · exact aDnB0 R who kd n bg en ⟨h1, he⟩ σ
      · exact aDnB R who kd n bg en h1 σ
  · by_cases h3 : kd = 2
    · by_cases he : en = 0
      · exact aDnC R who kd n bg en ok ⟨h3, he⟩ σ
      · cases ok
        · exact aDnD R who kd n bg en ⟨h3, he⟩ σ
        · exact aDnE R who kd n bg en ⟨h3, he⟩ σ
    · by_cases h4 : kd = 3
      · cases ok
        · exact aDnF R who kd n bg en h4 σ
        · by_cases he : en = 0
          · exact aDnF0 R who kd n bg en ⟨h4, he⟩ σ
          · exact aDnG R who kd n bg en ⟨h4, he⟩ σ
      · exact aDnH R who kd n bg en ok ⟨h1, h3, h4⟩ σ
theorem aDoO (R : Int) (o : OpR) (l : List Int) (v : AV) (acc : Hp) (h : AccO 1 l.length v acc (inC l)) (hl : l.length ≤ 1000000) (σ : Hp) : ACalls Try.prog 79 [v, .int .i64 R, .agg (opC o)] (acc ++ σ) (DoR R l o σ) := by
  generalize hk : l.length = k at h
  generalize hc : inC l = cs at h
  cases h with
  | nil =>
    obtain rfl := List.length_eq_zero_iff.1 hk
    exact aDoN R o σ
  | mref b off k cs all h1 h2 =>
    subst hk; subst hc
    exact aDoM R o b off all l h1 h2 hl σ
theorem aIndexL (l : List Int) (x : Int) (σ : Hp) (hl : l.length ≤ 1000000) : ACalls Try.prog 82 [.fsl (.int .i64) l, .int .i64 x] σ (fun r σ' => ∃ n : Int, r = .int .i64 n ∧ σ' = σ ∧ decide (0 ≤ n) = l.any fun z => decide (x = z)) := by
  refine okF Try.func82 (by kernel_rfl) ?_
  refine loopS (S := Nat) (fun s => [(0, .fsl (.int .i64) l), (1, .int .i64 x), (7, .int .i64 l.length), (8, .int .i64 s)]) (fun _ => σ) (fun s => s ≤ l.length ∧ ((l.take s).any fun z => decide (x = z)) = false) (fun s => l.length - s) 0 ⟨⟨Nat.zero_le _, rfl⟩, ⟨rfl, rfl, rfl, rfl, trivial⟩, rfl⟩ ?_
  rintro k t ⟨hk0, hn0⟩
  have hk : k ≤ l.length := hk0
  have hn : ((l.take k).any fun z => decide (x = z)) = false := hn0
  clear hk0 hn0
  refine bcond_dec (fun hlt => ?_) (fun hge => ?_)
  · have hlt : k < l.length := by have hlt : (k : Int) < l.length := hlt; omega
    have hs := any_take hlt fun z => decide (x = z)
    rw [hn, Bool.false_or] at hs
    refine With.mk rfl (IdxF.mk l[k] (by omega) (get_some hlt) ?_)
    refine bcond_dec (fun c => ?_) (fun c => ?_)
    · have c : x = l[k] := c
      have hp : (l.any fun z => decide (x = z)) = true := List.any_eq_true.2 ⟨l[k], List.getElem_mem hlt, decide_eq_true c⟩
      exact .done ⟨_, rfl, rfl, by rw [hp]; exact decide_eq_true (by omega)⟩
    · have c : ¬ x = l[k] := c
      exact nextS (k + 1) (by show l.length - (k + 1) < l.length - k; omega) ⟨hlt, hs.trans (decide_eq_false c)⟩ ⟨rfl, rfl, rfl, inc64 (by omega), trivial⟩ (.refl _)
  · have hge : k = l.length := by have hge : ¬ (k : Int) < l.length := hge; omega
    subst hge
    rw [List.take_length] at hn
    exact .done ⟨_, rfl, rfl, by rw [hn]; rfl⟩
theorem aContainsL (l : List Int) (x : Int) (σ : Hp) (hl : l.length ≤ 1000000) : ACalls Try.prog 78 [.fsl (.int .i64) l, .int .i64 x] σ (Ret (.bool (l.any fun z => decide (x = z))) σ) := by
  refine okF Try.func78 (by kernel_rfl) ?_
  refine .mk [] _ (aIndexL l x _ hl) ?_
  rintro _ _ ⟨n, rfl, rfl, hn⟩
  rw [← hn]
  refine bcond_dec (fun c => ?_) (fun c => ?_)
  · have c : 0 ≤ n := c
    rw [decide_eq_true c]
    exact .done ⟨rfl, rfl⟩
  · have c : ¬ 0 ≤ n := c
    rw [decide_eq_false c]
    exact .done ⟨rfl, rfl⟩
theorem aCloneN (σ : Hp) : ACalls Try.prog 72 [.nils] σ (Ret .nils σ) := by
  refine okF Try.func72 (by kernel_rfl) ?_
  exact .done ⟨rfl, rfl⟩
theorem aContL (l : List Int) (x : Int) (σ : Hp) (hl : l.length ≤ 1000000) : ACalls Try.prog 78 [.fsl (.int .i64) l, .int .i64 x] σ (Ret (.bool (decide (x ∈ l))) σ) := by
  have e : (l.any fun z => decide (x = z)) = decide (x ∈ l) := by
    rw [Bool.eq_iff_iff, List.any_eq_true, decide_eq_true_eq]
    exact ⟨fun ⟨z, hz, hx⟩ => by rw [of_decide_eq_true hx]; exact hz, fun h => ⟨x, h, decide_eq_true rfl⟩⟩
  rw [← e]
  exact aContainsL l x σ hl
end Go.Proofs.Ytacacplipaeokaa
