/-
  Qu: what the claim uses of them.
-/
import Derived.Test.YtacacplipaeokaaBn47
import Derived.Test.YtacacplipaeokaaBn48
import Derived.Test.YtacacplipaeokaaBn30
namespace Go.Proofs.Ytacacplipaeokaa
open Go.RowKit
set_option maxRecDepth 100000
set_option maxHeartbeats 4000000
theorem take_op {ops : List OpR} {k : Nat} (h : k < ops.length) : ops.take (k + 1) = ops.take k ++ [opAt ops (k : Int)] := by
  rw [List.take_succ_eq_append_getElem h]
  have := op_some h
  rw [List.getElem?_eq_getElem h] at this
  rw [Option.some.inj this]
theorem popsF_snoc (L : List OpR) (o : OpR) : popsF (L ++ [o]) = popsF L + if o.kind = 2 ∧ o.en = 0 then 1 else 0 := by
  unfold popsF
  rw [List.countP_append]
  by_cases h : o.kind = 2 ∧ o.en = 0
  · simp [h]
  · rw [if_neg h]
    have : ¬ (o.kind = 2 ∧ o.en = 0) := h
    simp [this]
theorem popsF_le (L : List OpR) : popsF L ≤ L.length := List.countP_le_length
theorem aWhole (ops : List OpR) (left rest : List Int) (σ : Hp) (h : WholeP ops left rest) (ho : ops.length ≤ 100000) (hl : left.length ≤ 100000) : ACalls Try.prog 23 [.fsl opSh (ops.map opT), .fsl (.int .u64) left] σ (Ret (.bool true) σ) := by
  refine okF Try.func23 (by kernel_rfl) ?_
  intro bl1
  intro bl2
  refine loopS (S := Nat × List (Int × Int) × List (Int × Int)) (fun x => [(1, .fsl (.int .u64) left), (5, .mapr bl1), (6, .mapr bl2), (7, .int .i64 (popsF (ops.take x.1))), (16, .fsl opSh (ops.map opT)), (17, .int .i64 (ops.map opT).length), (18, .int .i64 x.1)]) (fun x => (bl2, [.mapc x.2.2]) :: (bl1, [.mapc x.2.1]) :: σ) (fun x => x.1 ≤ ops.length ∧ WM x.2.1 (balF (ops.take x.1)) ∧ ∀ n, 0 ≤ (getM x.2.2 n).getD 0 ∧ (getM x.2.2 n).getD 0 ≤ x.1) (fun x => ops.length - x.1) (0, [], []) ⟨⟨Nat.zero_le _, WM.none.congr fun _ => rfl, fun n => ⟨Int.le_refl _, Int.le_refl _⟩⟩, ⟨rfl, rfl, rfl, rfl, rfl, rfl, rfl, trivial⟩, rfl⟩ ?_
  rintro ⟨k, sm, mm⟩ g ⟨hk, hsm, hmm⟩
  have hk : k ≤ ops.length := hk
  have hsm : WM sm (balF (ops.take k)) := hsm
  have hmm : ∀ n, 0 ≤ (getM mm n).getD 0 ∧ (getM mm n).getD 0 ≤ k := hmm
  refine bcond_dec (fun hlt => ?_) (fun hge => ?_)
  · have hlt : (k : Int) < (ops.map opT).length := hlt
    rw [List.length_map] at hlt
    have hkl : k < ops.length := by omega
    have htk := take_op hkl
    have hpk := popsF_snoc (ops.take k) (opAt ops (k : Int))
    have hpl := popsF_le (ops.take k)
    have hbl := fun n => balF_small (ops.take k) n
    have hbs := fun n => balF_snoc (ops.take k) (opAt ops (k : Int)) n
    rw [← htk] at hpk
    rw [List.length_take, Nat.min_eq_left hk] at hpl hbl
    simp only [← htk] at hbs
    have hget := op_get (ops := ops) (n := (k : Int)) (by omega) (by omega)
    generalize opAt ops (k : Int) = o at hget hpk hbs
    obtain ⟨who, kd, n, bg, en, ok⟩ := o
    have hpk : popsF (ops.take (k + 1)) = popsF (ops.take k) + if kd = 2 ∧ en = 0 then 1 else 0 := hpk
    have hbs : ∀ z, balF (ops.take (k + 1)) z = if en ≠ 0 ∧ ok = true ∧ z = n then (if kd = 1 then balF (ops.take k) z + 1 else balF (ops.take k) z - 1) else balF (ops.take k) z := hbs
    refine With.mk rfl (IdxF.mk ((who, kd, n, bg, en, ok, ()) : opSh.T) (by omega) hget ?_)
    have hmu : ops.length - (k + 1) < ops.length - k := by omega
    have fA : ¬ (en ≠ 0 ∧ ok = true) → WM sm (balF (ops.take (k + 1))) := fun hn => hsm.congr fun z => by rw [hbs, if_neg (fun h => hn ⟨h.1, h.2.1⟩)]
    have fC : kd = 1 ∧ en ≠ 0 ∧ ok = true → WM (putM sm n (IntKind.i64.wrap ((getM sm n).getD 0 + 1))) (balF (ops.take (k + 1))) := fun hn => hsm.put fun z => by
      rw [hbs]
      by_cases hz : z = n
      · have := hbl n
        rw [if_pos ⟨hn.2.1, hn.2.2, hz⟩, if_pos hn.1, if_pos hz, hz, hsm.val n, w64 (by omega) (by omega)]
      · rw [if_neg (fun h => hz h.2.2), if_neg hz]
    have fD : kd ≠ 1 ∧ en ≠ 0 ∧ ok = true → WM (putM sm n (IntKind.i64.wrap ((getM sm n).getD 0 - 1))) (balF (ops.take (k + 1))) := fun hn => hsm.put fun z => by
      rw [hbs]
      by_cases hz : z = n
      · have := hbl n
        rw [if_pos ⟨hn.2.1, hn.2.2, hz⟩, if_neg hn.1, if_pos hz, hz, hsm.val n, w64 (by omega) (by omega)]
      · rw [if_neg (fun h => hz h.2.2), if_neg hz]
    have fM : ∀ z, 0 ≤ (getM mm z).getD 0 ∧ (getM mm z).getD 0 ≤ ((k + 1 : Nat) : Int) := fun z => by have := hmm z; omega
    have fB : ∀ z, 0 ≤ (getM (putM mm n (IntKind.i64.wrap ((getM mm n).getD 0 + 1))) z).getD 0 ∧ (getM (putM mm n (IntKind.i64.wrap ((getM mm n).getD 0 + 1))) z).getD 0 ≤ ((k + 1 : Nat) : Int) := fun z => by
      rw [getM_putW]
      have h1 := hmm n
      have h2 := hmm z
      by_cases hz : z = n
      · rw [if_pos hz, w64 (by omega) (by omega)]
        show 0 ≤ (getM mm n).getD 0 + 1 ∧ (getM mm n).getD 0 + 1 ≤ _
        omega
      · rw [if_neg hz]; omega
    have p0 : ¬ (kd = 2 ∧ en = 0) → AV.int .i64 (popsF (ops.take k)) = .int .i64 (popsF (ops.take (k + 1))) := fun h => by rw [hpk, if_neg h]; rfl
    have p1 : kd = 2 ∧ en = 0 → AV.int .i64 (IntKind.i64.wrap ((popsF (ops.take k) : Nat) + 1)) = .int .i64 (popsF (ops.take (k + 1))) := fun h => by
      rw [hpk, if_pos h, w64 (by omega) (by omega)]; rfl
    intro bl1
    refine StoreAt.mk 0 _ _ rfl rfl ?_
    by_cases h1 : kd = 1
    · by_cases h2 : en = 0
      · refine LoadAt.mk 0 _ _ rfl rfl ?_
        refine bcond_dec (fun c1 => ?_) (fun c1 => ?_)
        · have c1 : kd = 2 := c1
          refine LoadAt.mk 0 _ _ rfl rfl ?_
          refine bcond_dec (fun _ => ?_) (fun c => absurd (show en = 0 by omega) c)
          first | exact (show False by omega).elim | exact nextS (k + 1, sm, mm) hmu ⟨hkl, fA (by rintro ⟨x, y⟩; first | exact x (by assumption) | cases y), fM⟩ ⟨rfl, rfl, rfl, (by first | exact p0 (by omega) | exact p1 (by omega)), rfl, rfl, inc64 (by omega), trivial⟩ (.drop 0 1 (.refl _))
        · have c1 : ¬ (kd = 2) := c1
          refine LoadAt.mk 0 _ _ rfl rfl ?_
          refine bcond_dec (fun _ => ?_) (fun c => absurd (show kd = 1 by omega) c)
          refine LoadAt.mk 0 _ _ rfl rfl ?_
          refine bcond_dec (fun _ => ?_) (fun c => absurd (show en = 0 by omega) c)
          refine LoadAt.mk 0 _ _ rfl rfl ?_
          refine MapAt.mk 1 _ _ rfl rfl ?_
          refine MapAt.mk 1 _ _ rfl rfl ?_
          first | exact (show False by omega).elim | exact nextS (k + 1, sm, putM mm n (IntKind.i64.wrap ((getM mm n).getD 0 + 1))) hmu ⟨hkl, fA (by rintro ⟨x, y⟩; first | exact x (by assumption) | cases y), fB⟩ ⟨rfl, rfl, rfl, (by first | exact p0 (by omega) | exact p1 (by omega)), rfl, rfl, inc64 (by omega), trivial⟩ (.drop 0 1 (.refl _))
      · cases ok with
        | true =>
          refine LoadAt.mk 0 _ _ rfl rfl ?_
          refine bcond_dec (fun c1 => ?_) (fun c1 => ?_)
          · have c1 : kd = 2 := c1
            refine LoadAt.mk 0 _ _ rfl rfl ?_
            refine bcond_dec (fun _ => ?_) (fun c => absurd (show en = 0 by omega) c)
            first | exact (show False by omega).elim | exact nextS (k + 1, sm, mm) hmu ⟨hkl, fA (by rintro ⟨x, y⟩; first | exact x (by assumption) | cases y), fM⟩ ⟨rfl, rfl, rfl, (by first | exact p0 (by omega) | exact p1 (by omega)), rfl, rfl, inc64 (by omega), trivial⟩ (.drop 0 1 (.refl _))
          · have c1 : ¬ (kd = 2) := c1
            refine LoadAt.mk 0 _ _ rfl rfl ?_
            refine bcond_dec (fun _ => ?_) (fun c => absurd (show kd = 1 by omega) c)
            refine LoadAt.mk 0 _ _ rfl rfl ?_
            refine bcond_dec (fun c => absurd c (show ¬ en = 0 by omega)) (fun _ => ?_)
            refine LoadAt.mk 0 _ _ rfl rfl ?_
            refine bcond_dec (fun _ => ?_) (fun c => absurd (show kd = 1 by omega) c)
            refine LoadAt.mk 0 _ _ rfl rfl ?_
            refine LoadAt.mk 0 _ _ rfl rfl ?_
            refine MapAt.mk 2 _ _ rfl rfl ?_
            refine MapAt.mk 2 _ _ rfl rfl ?_
            first | exact (show False by omega).elim | exact nextS (k + 1, putM sm n (IntKind.i64.wrap ((getM sm n).getD 0 + 1)), mm) hmu ⟨hkl, fC ⟨h1, h2, rfl⟩, fM⟩ ⟨rfl, rfl, rfl, (by first | exact p0 (by omega) | exact p1 (by omega)), rfl, rfl, inc64 (by omega), trivial⟩ (.drop 0 1 (.refl _))
        | false =>
          refine LoadAt.mk 0 _ _ rfl rfl ?_
          refine bcond_dec (fun c1 => ?_) (fun c1 => ?_)
          · have c1 : kd = 2 := c1
            refine LoadAt.mk 0 _ _ rfl rfl ?_
            refine bcond_dec (fun _ => ?_) (fun c => absurd (show en = 0 by omega) c)
            first | exact (show False by omega).elim | exact nextS (k + 1, sm, mm) hmu ⟨hkl, fA (by rintro ⟨x, y⟩; first | exact x (by assumption) | cases y), fM⟩ ⟨rfl, rfl, rfl, (by first | exact p0 (by omega) | exact p1 (by omega)), rfl, rfl, inc64 (by omega), trivial⟩ (.drop 0 1 (.refl _))
          · have c1 : ¬ (kd = 2) := c1
            refine LoadAt.mk 0 _ _ rfl rfl ?_
            refine bcond_dec (fun _ => ?_) (fun c => absurd (show kd = 1 by omega) c)
            refine LoadAt.mk 0 _ _ rfl rfl ?_
            refine bcond_dec (fun c => absurd c (show ¬ en = 0 by omega)) (fun _ => ?_)
            refine LoadAt.mk 0 _ _ rfl rfl ?_
            refine bcond_dec (fun _ => ?_) (fun c => absurd (show kd = 1 by omega) c)
            refine LoadAt.mk 0 _ _ rfl rfl ?_
            refine LoadAt.mk 0 _ _ rfl rfl ?_
            refine bcond_split (fun c => absurd (show kd = 1 by omega) (by simpa using c)) (fun _ => ?_)
            first | exact (show False by omega).elim | exact nextS (k + 1, sm, mm) hmu ⟨hkl, fA (by rintro ⟨x, y⟩; first | exact x (by assumption) | cases y), fM⟩ ⟨rfl, rfl, rfl, (by first | exact p0 (by omega) | exact p1 (by omega)), rfl, rfl, inc64 (by omega), trivial⟩ (.drop 0 1 (.refl _))
    · by_cases h2 : en = 0
      · refine LoadAt.mk 0 _ _ rfl rfl ?_
        refine bcond_dec (fun c1 => ?_) (fun c1 => ?_)
        · have c1 : kd = 2 := c1
          refine LoadAt.mk 0 _ _ rfl rfl ?_
          refine bcond_dec (fun _ => ?_) (fun c => absurd (show en = 0 by omega) c)
          first | exact (show False by omega).elim | exact nextS (k + 1, sm, mm) hmu ⟨hkl, fA (by rintro ⟨x, y⟩; first | exact x (by assumption) | cases y), fM⟩ ⟨rfl, rfl, rfl, (by first | exact p0 (by omega) | exact p1 (by omega)), rfl, rfl, inc64 (by omega), trivial⟩ (.drop 0 1 (.refl _))
        · have c1 : ¬ (kd = 2) := c1
          refine LoadAt.mk 0 _ _ rfl rfl ?_
          refine bcond_dec (fun c => absurd c (show ¬ kd = 1 by omega)) (fun _ => ?_)
          refine LoadAt.mk 0 _ _ rfl rfl ?_
          refine bcond_dec (fun c => absurd c (show ¬ kd = 1 by omega)) (fun _ => ?_)
          refine LoadAt.mk 0 _ _ rfl rfl ?_
          refine bcond_split (fun _ => ?_) (fun c => absurd (show kd = 1 by simpa using c) (by omega))
          refine LoadAt.mkB 0 _ _ rfl rfl (fun c2 => ?_) (fun c2 => ?_)
          · refine LoadAt.mk 0 _ _ rfl rfl ?_
            refine bcond_split (fun c => absurd (show en = 0 by omega) (by simpa using c)) (fun _ => ?_)
            first | exact (show False by omega).elim | exact nextS (k + 1, sm, mm) hmu ⟨hkl, fA (by rintro ⟨x, y⟩; first | exact x (by assumption) | cases y), fM⟩ ⟨rfl, rfl, rfl, (by first | exact p0 (by omega) | exact p1 (by omega)), rfl, rfl, inc64 (by omega), trivial⟩ (.drop 0 1 (.refl _))
          · first | exact (show False by omega).elim | exact nextS (k + 1, sm, mm) hmu ⟨hkl, fA (by rintro ⟨x, y⟩; first | exact x (by assumption) | cases y), fM⟩ ⟨rfl, rfl, rfl, (by first | exact p0 (by omega) | exact p1 (by omega)), rfl, rfl, inc64 (by omega), trivial⟩ (.drop 0 1 (.refl _))
      · cases ok with
        | true =>
          refine LoadAt.mk 0 _ _ rfl rfl ?_
          refine bcond_dec (fun c1 => ?_) (fun c1 => ?_)
          · have c1 : kd = 2 := c1
            refine LoadAt.mk 0 _ _ rfl rfl ?_
            refine bcond_dec (fun c => absurd c (show ¬ en = 0 by omega)) (fun _ => ?_)
            refine LoadAt.mk 0 _ _ rfl rfl ?_
            refine bcond_dec (fun c => absurd c (show ¬ kd = 1 by omega)) (fun _ => ?_)
            refine LoadAt.mk 0 _ _ rfl rfl ?_
            refine bcond_dec (fun c => absurd c (show ¬ kd = 1 by omega)) (fun _ => ?_)
            refine LoadAt.mk 0 _ _ rfl rfl ?_
            refine bcond_split (fun _ => ?_) (fun c => absurd (show kd = 1 by simpa using c) (by omega))
            refine LoadAt.mk 0 _ _ rfl rfl ?_
            refine LoadAt.mk 0 _ _ rfl rfl ?_
            refine bcond_split (fun _ => ?_) (fun c => absurd (show en = 0 by simpa using c) (by omega))
            refine LoadAt.mk 0 _ _ rfl rfl ?_
            refine MapAt.mk 2 _ _ rfl rfl ?_
            refine MapAt.mk 2 _ _ rfl rfl ?_
            first | exact (show False by omega).elim | exact nextS (k + 1, putM sm n (IntKind.i64.wrap ((getM sm n).getD 0 - 1)), mm) hmu ⟨hkl, fD ⟨h1, h2, rfl⟩, fM⟩ ⟨rfl, rfl, rfl, (by first | exact p0 (by omega) | exact p1 (by omega)), rfl, rfl, inc64 (by omega), trivial⟩ (.drop 0 1 (.refl _))
          · have c1 : ¬ (kd = 2) := c1
            refine LoadAt.mk 0 _ _ rfl rfl ?_
            refine bcond_dec (fun c => absurd c (show ¬ kd = 1 by omega)) (fun _ => ?_)
            refine LoadAt.mk 0 _ _ rfl rfl ?_
            refine bcond_dec (fun c => absurd c (show ¬ kd = 1 by omega)) (fun _ => ?_)
            refine LoadAt.mk 0 _ _ rfl rfl ?_
            refine bcond_split (fun _ => ?_) (fun c => absurd (show kd = 1 by simpa using c) (by omega))
            refine LoadAt.mk 0 _ _ rfl rfl ?_
            refine LoadAt.mk 0 _ _ rfl rfl ?_
            refine bcond_split (fun _ => ?_) (fun c => absurd (show en = 0 by simpa using c) (by omega))
            refine LoadAt.mk 0 _ _ rfl rfl ?_
            refine MapAt.mk 2 _ _ rfl rfl ?_
            refine MapAt.mk 2 _ _ rfl rfl ?_
            first | exact (show False by omega).elim | exact nextS (k + 1, putM sm n (IntKind.i64.wrap ((getM sm n).getD 0 - 1)), mm) hmu ⟨hkl, fD ⟨h1, h2, rfl⟩, fM⟩ ⟨rfl, rfl, rfl, (by first | exact p0 (by omega) | exact p1 (by omega)), rfl, rfl, inc64 (by omega), trivial⟩ (.drop 0 1 (.refl _))
        | false =>
          refine LoadAt.mk 0 _ _ rfl rfl ?_
          refine bcond_dec (fun c1 => ?_) (fun c1 => ?_)
          · have c1 : kd = 2 := c1
            refine LoadAt.mk 0 _ _ rfl rfl ?_
            refine bcond_dec (fun c => absurd c (show ¬ en = 0 by omega)) (fun _ => ?_)
            refine LoadAt.mk 0 _ _ rfl rfl ?_
            refine bcond_dec (fun c => absurd c (show ¬ kd = 1 by omega)) (fun _ => ?_)
            refine LoadAt.mk 0 _ _ rfl rfl ?_
            refine bcond_dec (fun c => absurd c (show ¬ kd = 1 by omega)) (fun _ => ?_)
            refine LoadAt.mk 0 _ _ rfl rfl ?_
            refine bcond_split (fun _ => ?_) (fun c => absurd (show kd = 1 by simpa using c) (by omega))
            refine LoadAt.mk 0 _ _ rfl rfl ?_
            first | exact (show False by omega).elim | exact nextS (k + 1, sm, mm) hmu ⟨hkl, fA (by rintro ⟨x, y⟩; first | exact x (by assumption) | cases y), fM⟩ ⟨rfl, rfl, rfl, (by first | exact p0 (by omega) | exact p1 (by omega)), rfl, rfl, inc64 (by omega), trivial⟩ (.drop 0 1 (.refl _))
          · have c1 : ¬ (kd = 2) := c1
            refine LoadAt.mk 0 _ _ rfl rfl ?_
            refine bcond_dec (fun c => absurd c (show ¬ kd = 1 by omega)) (fun _ => ?_)
            refine LoadAt.mk 0 _ _ rfl rfl ?_
            refine bcond_dec (fun c => absurd c (show ¬ kd = 1 by omega)) (fun _ => ?_)
            refine LoadAt.mk 0 _ _ rfl rfl ?_
            refine bcond_split (fun _ => ?_) (fun c => absurd (show kd = 1 by simpa using c) (by omega))
            refine LoadAt.mk 0 _ _ rfl rfl ?_
            first | exact (show False by omega).elim | exact nextS (k + 1, sm, mm) hmu ⟨hkl, fA (by rintro ⟨x, y⟩; first | exact x (by assumption) | cases y), fM⟩ ⟨rfl, rfl, rfl, (by first | exact p0 (by omega) | exact p1 (by omega)), rfl, rfl, inc64 (by omega), trivial⟩ (.drop 0 1 (.refl _))
  · have hge : ¬ (k : Int) < (ops.map opT).length := hge
    rw [List.length_map] at hge
    rw [show k = ops.length by omega, List.take_length] at hsm
    rw [show k = ops.length by omega]
    refine loopS (S := Nat × List (Int × Int)) (fun x => [(5, .mapr bl1), (6, .mapr bl2), (7, .int .i64 (popsF (ops.take ops.length))), (79, .fsl (.int .u64) left), (80, .int .i64 left.length), (81, .int .i64 x.1)]) (fun x => (bl2, [.mapc mm]) :: (bl1, [.mapc x.2]) :: σ) (fun x => x.1 ≤ left.length ∧ WM x.2 (fun z => balF ops z - (((left.take x.1).map wr).count z : Int))) (fun x => left.length - x.1) (0, sm) ⟨⟨Nat.zero_le _, hsm.congr fun z => by simp⟩, ⟨rfl, rfl, rfl, rfl, rfl, rfl, trivial⟩, rfl⟩ ?_
    rintro ⟨j, tm⟩ g ⟨hj, htm⟩
    have hj : j ≤ left.length := hj
    have htm : WM tm (fun z => balF ops z - (((left.take j).map wr).count z : Int)) := htm
    refine bcond_dec (fun hlt => ?_) (fun hge => ?_)
    · have hlt : (j : Int) < left.length := hlt
      have hjl : j < left.length := by omega
      refine With.mk rfl (IdxF.mk left[j] (by omega) (get_some hjl) ?_)
      refine MapAt.mk 1 _ _ rfl rfl ?_
      refine MapAt.mk 1 _ _ rfl rfl ?_
      have hbl := balF_small ops (wr left[j])
      have hcl := List.count_le_length (a := wr left[j]) (l := (left.take j).map wr)
      rw [List.length_map, List.length_take] at hcl
      refine nextS (j + 1, putM tm (IntKind.i64.wrap left[j]) (IntKind.i64.wrap ((getM tm (IntKind.i64.wrap left[j])).getD 0 - 1))) (by show left.length - (j + 1) < left.length - j; omega) ⟨hjl, htm.put fun z => ?_⟩ ⟨rfl, rfl, rfl, rfl, rfl, inc64 (by omega), trivial⟩ (.refl _)
      rw [List.take_succ_eq_append_getElem hjl, List.map_append, show List.map wr [left[j]] = [wr left[j]] from rfl, count_snoc, show (getM tm (IntKind.i64.wrap left[j])).getD 0 = balF ops (wr left[j]) - (((left.take j).map wr).count (wr left[j]) : Int) from htm.val _]
      by_cases hz : z = wr left[j]
      · rw [if_pos hz, if_pos hz, hz, w64 (by omega) (by omega)]; omega
      · rw [if_neg hz, if_neg hz]; omega
    · have hge : ¬ (j : Int) < left.length := hge
      rw [show j = left.length by omega, List.take_length] at htm
      refine MapAt.mk 1 _ _ rfl rfl ?_
      have htm : WM tm (fun z => (rest.count z : Int)) := htm.congr fun z => (h.count z).symm
      rw [List.take_length]
      have hpops := h.pops
      have hpl := popsF_le ops
      intro bl3
      refine loopS (S := List Nat) (fun x => [(6, .mapr bl2), (7, .int .i64 ((popsF ops : Int) - ((x.map fun i => rest.count (keyA tm i)).sum : Nat))), (92, .itr bl3)]) (fun x => (bl3, [.itrc bl1 tm.length x]) :: (bl2, [.mapc mm]) :: (bl1, [.mapc tm]) :: σ) (fun x => x.Nodup ∧ ∀ i ∈ x, i < tm.length) (fun x => tm.length - x.length) [] ⟨⟨List.nodup_nil, fun i hi => absurd hi (by simp)⟩, ⟨rfl, by show AV.int .i64 _ = AV.int .i64 _; simp, rfl, trivial⟩, rfl⟩ ?_
      rintro seen g ⟨hnd, hin⟩
      have hsum := seen_sum rest htm.keys hnd hin
      refine NextAt.mk 0 2 _ _ _ _ rfl rfl rfl (fun _ => ?_) (fun i p hp hns => ?_)
      · refine bcond_dec (fun c1 => ?_) (fun c1 => ?_)
        · have c1 : 0 ≤ (↑(popsF ops) : Int) - (↑(List.map (fun i => List.count (keyA tm i) rest) seen).sum : Int) := c1
          exact .drop 0 3 (.done ⟨rfl, rfl⟩)
        · have c1 : ¬ (0 ≤ (↑(popsF ops) : Int) - (↑(List.map (fun i => List.count (keyA tm i) rest) seen).sum : Int)) := c1
          omega
      · have hil : i < tm.length := (List.getElem?_eq_some_iff.1 hp).1
        have hv := htm.at_ hp
        have hnd2 := nodup_snocN hnd hns
        have hin2 : ∀ k ∈ seen ++ [i], k < tm.length := fun k hk => by
          rcases List.mem_append.1 hk with hk | hk
          · exact hin k hk
          · rw [List.mem_singleton.1 hk]; exact hil
        have hsum2 := seen_sum rest htm.keys hnd2 hin2
        have hlen2 := nodup_leN tm.length _ hnd2 hin2
        refine EntryAt.mk 0 2 _ _ i _ p _ rfl rfl rfl hp ?_
        refine MapAt.mk 1 _ _ rfl rfl ?_
        refine bcond_dec (fun c1 => ?_) (fun c1 => ?_)
        · have c1 : p.snd < IntKind.i64.wrap (0 - (getM mm p.fst).getD 0) := c1
          have hm := hmm p.1
          rw [w64 (by omega) (by omega)] at c1
          have hv : p.2 = (rest.count p.1 : Int) := hv
          omega
        · have c1 : ¬ (p.snd < IntKind.i64.wrap (0 - (getM mm p.fst).getD 0)) := c1
          have hv : p.2 = (rest.count p.1 : Int) := hv
          have hs : (((seen ++ [i]).map fun i => rest.count (keyA tm i)).sum : Nat) = (seen.map fun i => rest.count (keyA tm i)).sum + rest.count p.1 := by
            rw [List.map_append, List.sum_append, List.map_singleton, keyA_at hp]; simp
          rw [hs] at hsum2
          refine nextS (seen ++ [i]) ?_ ⟨hnd2, hin2⟩ ⟨rfl, ?_, rfl, trivial⟩ (.refl _)
          · show tm.length - (seen ++ [i]).length < tm.length - seen.length
            rw [List.length_append] at hlen2 ⊢
            show _ - (_ + 1) < _
            have hlen2 : seen.length + 1 ≤ tm.length := hlen2
            omega
          · show AV.int .i64 (IntKind.i64.wrap (((popsF ops : Int) - ((seen.map fun i => rest.count (keyA tm i)).sum : Nat)) - (if p.2 < 0 then 0 else p.2))) = AV.int .i64 ((popsF ops : Int) - (((seen ++ [i]).map fun i => rest.count (keyA tm i)).sum : Nat))
            rw [if_neg (by omega), w64 (by omega) (by omega), hs]
            exact av_int (by omega)
end Go.Proofs.Ytacacplipaeokaa
