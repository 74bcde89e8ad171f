/-
  Qv: what the claim uses of them.
-/
import Derived.Test.YtacacplipaeokaaBn37
import Derived.Test.YtacacplipaeokaaBn49
namespace Go.Proofs.Ytacacplipaeokaa
open Go.RowKit
set_option maxRecDepth 100000
set_option maxHeartbeats 4000000
theorem aCount28 (l : List Int) (x : Int) (σ : Hp) (hl : l.length ≤ 1000000) : ACalls Try.prog 49 [.fsl (.int .i64) l, .int .i64 x] σ (Ret (.int .i64 (l.count x : Nat)) σ) := by
  refine okF Try.func49 (by kernel_rfl) ?_
  refine loopS (S := Nat) (fun k => [(1, .int .i64 x), (5, .int .i64 ((l.take k).count x : Nat)), (8, .fsl (.int .i64) l), (9, .int .i64 l.length), (10, .int .i64 k)]) (fun _ => σ) (fun k => k ≤ l.length) (fun k => l.length - k) 0 ⟨Nat.zero_le _, ⟨rfl, rfl, rfl, rfl, rfl, trivial⟩, rfl⟩ ?_
  rintro k g hk0
  have hk : k ≤ l.length := hk0
  refine bcond_dec (fun hlt => ?_) (fun hge => ?_)
  · have hlt : k < l.length := by have hlt : (k : Int) < l.length := hlt; omega
    have hc := count_snoc (l.take k) l[k] x
    rw [← List.take_succ_eq_append_getElem hlt] at hc
    have hcl := List.count_le_length (a := x) (l := l.take k)
    rw [List.length_take] at hcl
    refine With.mk rfl (IdxF.mk l[k] (by omega) (get_some hlt) ?_)
    refine bcond_dec (p := l[k] = x) (fun d1 => ?_) (fun d1 => ?_)
    · rw [if_pos d1.symm] at hc
      exact nextS (k + 1) (by show l.length - (k + 1) < l.length - k; omega) hlt ⟨rfl, av_int (by rw [w64 (by omega) (by omega)]; omega), rfl, rfl, inc64 (by omega), trivial⟩ (.refl _)
    · rw [if_neg (fun e => d1 e.symm)] at hc
      exact nextS (k + 1) (by show l.length - (k + 1) < l.length - k; omega) hlt ⟨rfl, av_int (by omega), rfl, rfl, inc64 (by omega), trivial⟩ (.refl _)
  · have hge : k = l.length := by have hge : ¬ (k : Int) < l.length := hge; omega
    subst hge
    rw [List.take_length]
    exact .done ⟨rfl, rfl⟩
theorem append_acc3 {i : TI} {K : AV → Hp → Prop} (fr fr2 : Hp) {acc σ : Hp} {k n : Nat} {v x : AV} {cs new : List AV} (h : Acc i.size k v acc cs) (hx : SrcAt (fr ++ (fr2 ++ (acc ++ σ))) i.size x n new) (hnew : new.length = n * i.size) (hn : k + n ≤ 1048576) (hb : i.bytes ≤ 1024) (h0 : 0 < i.size)
    (go : ∀ v' acc', Acc i.size (k + n) v' acc' (cs ++ new) → K (.via v') (fr ++ (fr2 ++ (acc' ++ σ)))) : AppendAt i (fr ++ (fr2 ++ (acc ++ σ))) v x K := by
  have e : ∀ a : Hp, fr ++ (fr2 ++ (a ++ σ)) = (fr ++ fr2) ++ (a ++ σ) := fun a => (List.append_assoc _ _ _).symm
  rw [e] at hx ⊢
  exact append_acc (fr ++ fr2) h hx hnew hn hb h0 fun v' acc' h' => by
    have := go v' acc' h'
    rw [e] at this
    exact this
theorem src_accW {es : Nat} (fr : Hp) {acc σ : Hp} {k : Nat} {v : AV} {cs : List AV} (h : Acc es k v acc cs) : SrcAt (fr ++ (acc ++ σ)) es v k cs := by
  cases h with
  | nil => exact .nils
  | mref b k cs h =>
    have := SrcAt.mref (σ := fr ++ ([(b, cs)] ++ σ)) (es := es) fr.length b 0 k cs (by rw [List.getElem?_append_right (Nat.le_refl _)]; simp) (by omega)
    rw [List.drop_zero, List.take_of_length_le (by omega)] at this
    exact this
theorem frzW {t t' : Tm} {b off len es : Nat} {e : Sh} {l : List e.T} (k : Nat) (h : t k = .via (.mref b off len es)) (h' : t' = upd t [(k, .fsl e l)]) (i : Nat) : FrzRel b off len es e l (t i) (t' i) := by
  subst h'
  show FrzRel b off len es e l (t i) (match Nat.beq i k with | true => .fsl e l | false => t i)
  cases hb : Nat.beq i k with
  | true => rw [Nat.eq_of_beq_eq_true hb, h]; exact .via .here
  | false => exact .refl _
theorem frzW2 {t t' : Tm} {b off len es : Nat} {e : Sh} {l : List e.T} (k1 k2 : Nat) (h1 : t k1 = .mref b off len es) (h2 : t k2 = .mref b off len es) (h' : t' = upd t [(k1, .fsl e l), (k2, .fsl e l)]) (i : Nat) : FrzRel b off len es e l (t i) (t' i) := by
  subst h'
  show FrzRel b off len es e l (t i) (match Nat.beq i k1 with | true => .fsl e l | false => (match Nat.beq i k2 with | true => .fsl e l | false => t i))
  cases hb : Nat.beq i k1 with
  | true => rw [Nat.eq_of_beq_eq_true hb, h1]; exact .here
  | false =>
    show FrzRel b off len es e l (t i) (match Nat.beq i k2 with | true => .fsl e l | false => t i)
    cases hb2 : Nat.beq i k2 with
    | true => rw [Nat.eq_of_beq_eq_true hb2, h2]; exact .here
    | false => exact .refl _
theorem nilW {t t' : Tm} (e : Sh) (k : Nat) (h : t k = .via .nils) (h' : t' = upd t [(k, .fsl e [])]) (i : Nat) : FrzRel 0 0 0 0 .bool [] (t i) (t' i) := by
  subst h'
  show FrzRel 0 0 0 0 .bool [] (t i) (match Nat.beq i k with | true => .fsl e [] | false => t i)
  cases hb : Nat.beq i k with
  | true => rw [Nat.eq_of_beq_eq_true hb, h]; exact .via (.nil e)
  | false => exact .refl _
/-- Ahead of a loop a list that was made by append is written no more. -/
theorem LoopW.acc {body : Tm → Hp → (Ex → Tm → Hp → Prop) → Prop} {Q : Ex → Tm → Hp → Prop} {t : Tm} (j : Nat) (fr : Hp) {acc σ : Hp} {s : Sh} {k : Nat} {v : AV} {cs : List AV} {l : List s.T} (h : Acc s.size k v acc cs) (ht : t j = .via v) (hl : k = l.length) (hc : cs = l.flatMap s.cells) (hp : 0 < s.size)
    (go : LoopW body Q (upd t [(j, .fsl s l)]) (fr ++ σ)) : LoopW body Q t (fr ++ (acc ++ σ)) := by
  cases h with
  | nil =>
    have hl0 : l = [] := List.length_eq_zero_iff.1 hl.symm
    subst hl0
    exact .nil (nilW s j ht rfl) go
  | mref b k cs h =>
    refine .shed (.perm (mid_perm fr [(b, cs)] σ) (.refl _)) ?_
    exact .frz 0 b 0 k s.size cs s l rfl (by rw [List.drop_zero, List.take_of_length_le (by omega)]; exact hc) ⟨hl.symm, rfl, hp⟩ (frzW j ht rfl) go
def mayF (o : OpR) : Option Int := if o.kind = 1 ∧ o.en = 0 then some o.n else none
theorem fm_take {α β : Type} (f : α → Option β) (L : List α) (k : Nat) : ((L.take k).filterMap f).length ≤ k := by
  have h1 := fm_len_le f (L.take k)
  rw [List.length_take] at h1
  omega
theorem acc_eqW {l l' : List Int} {v : AV} {a : Hp} (e : l = l') (h : Acc 1 l'.length v a (inC l')) : Acc 1 l.length v a (inC l) := by subst e; exact h
theorem acc_snocW {l l' : List Int} {v : AV} {a : Hp} {n : Int} (e : l = l' ++ [n]) (h : Acc 1 (l'.length + 1) v a (inC l' ++ [.int .i64 n])) : Acc 1 l.length v a (inC l) := by
  subst e
  rw [List.length_append, show inC (l' ++ [n]) = inC l' ++ [.int .i64 n] by simp [inC]]
  exact h
theorem fm_snocL {α β : Type} (f : α → Option β) (L : List α) (o : α) : (L ++ [o]).filterMap f = L.filterMap f ++ (f o).toList := by
  rw [List.filterMap_append]
  cases h : f o <;> simp [h]
theorem fm_none {f : OpR → Option Int} {o : OpR} {l l' : List Int} (h : l = l' ++ (f o).toList) (hf : f o = none) : l = l' := by rw [h, hf]; exact List.append_nil _
theorem fm_some {f : OpR → Option Int} {o : OpR} {l l' : List Int} {n : Int} (h : l = l' ++ (f o).toList) (hf : f o = some n) : l = l' ++ [n] := by rw [h, hf]; rfl
theorem aRWhole (ops : List OpR) (left rest : List Int) (σ : Hp) (h : WholeP ops left rest) (ho : ops.length ≤ 100000) (hl : left.length ≤ 100000) : ACalls Try.prog 24 [.fsl opSh (ops.map opT), .fsl (.int .u64) left] σ (Ret (.bool true) σ) := by
  refine okF Try.func24 (by kernel_rfl) ?_
  refine .wrap 5 .nils rfl rfl (.wrap 6 .nils rfl rfl (.wrap 7 .nils rfl rfl ?_))
  refine loopS (S := Nat × (AV × Hp) × (AV × Hp) × (AV × Hp)) (fun x => [(1, .fsl (.int .u64) left), (5, .via x.2.1.1), (6, .via x.2.2.1.1), (7, .via x.2.2.2.1), (8, .int .i64 (popsF (ops.take x.1))), (17, .fsl opSh (ops.map opT)), (18, .int .i64 (ops.map opT).length), (19, .int .i64 x.1)]) (fun x => x.2.1.2 ++ (x.2.2.1.2 ++ (x.2.2.2.2 ++ σ))) (fun x => x.1 ≤ ops.length ∧ Acc 1 ((ops.take x.1).filterMap sureF).length x.2.1.1 x.2.1.2 (inC ((ops.take x.1).filterMap sureF)) ∧ Acc 1 ((ops.take x.1).filterMap mayF).length x.2.2.1.1 x.2.2.1.2 (inC ((ops.take x.1).filterMap mayF)) ∧ Acc 1 ((ops.take x.1).filterMap takenF).length x.2.2.2.1 x.2.2.2.2 (inC ((ops.take x.1).filterMap takenF))) (fun x => ops.length - x.1) (0, (.nils, []), (.nils, []), (.nils, [])) ⟨⟨Nat.zero_le _, .nil, .nil, .nil⟩, ⟨rfl, rfl, rfl, rfl, rfl, rfl, rfl, rfl, trivial⟩, rfl⟩ ?_
  rintro ⟨k, ⟨vS, aS⟩, ⟨vM, aM⟩, ⟨vT, aT⟩⟩ g ⟨hk, hS, hM, hT⟩
  have hk : k ≤ ops.length := hk
  have hS : Acc 1 ((ops.take k).filterMap sureF).length vS aS (inC ((ops.take k).filterMap sureF)) := hS
  have hM : Acc 1 ((ops.take k).filterMap mayF).length vM aM (inC ((ops.take k).filterMap mayF)) := hM
  have hT : Acc 1 ((ops.take k).filterMap takenF).length vT aT (inC ((ops.take k).filterMap takenF)) := hT
  refine bcond_dec (fun hlt => ?_) (fun hge => ?_)
  · have hlt : (k : Int) < (ops.map opT).length := hlt
    rw [List.length_map] at hlt
    have hkl : k < ops.length := by omega
    have htk := take_op hkl
    have hpk := popsF_snoc (ops.take k) (opAt ops (k : Int))
    have hpl := popsF_le (ops.take k)
    have hs1 := fm_snocL sureF (ops.take k) (opAt ops (k : Int))
    have hs2 := fm_snocL mayF (ops.take k) (opAt ops (k : Int))
    have hs3 := fm_snocL takenF (ops.take k) (opAt ops (k : Int))
    have hl1 := fm_take sureF ops k
    have hl2 := fm_take mayF ops k
    have hl3 := fm_take takenF ops k
    rw [← htk] at hpk hs1 hs2 hs3
    rw [List.length_take, Nat.min_eq_left hk] at hpl
    have hget := op_get (ops := ops) (n := (k : Int)) (by omega) (by omega)
    generalize opAt ops (k : Int) = o at hget hpk hs1 hs2 hs3
    obtain ⟨who, kd, n, bg, en, ok⟩ := o
    have hpk : popsF (ops.take (k + 1)) = popsF (ops.take k) + if kd = 2 ∧ en = 0 then 1 else 0 := hpk
    generalize hS1 : (ops.take k).filterMap sureF = sL at hS hs1 hl1
    generalize hM1 : (ops.take k).filterMap mayF = mL at hM hs2 hl2
    generalize hT1 : (ops.take k).filterMap takenF = tL at hT hs3 hl3
    have hmu : ops.length - (k + 1) < ops.length - k := by omega
    have fS0 : ¬ (kd = 1 ∧ en ≠ 0 ∧ ok = true) → (ops.take (k + 1)).filterMap sureF = sL := fun hn => fm_none (f := sureF) (o := ⟨who, kd, n, bg, en, ok⟩) hs1 (if_neg hn)
    have fS1 : kd = 1 ∧ en ≠ 0 ∧ ok = true → (ops.take (k + 1)).filterMap sureF = sL ++ [n] := fun hn => fm_some (f := sureF) (o := ⟨who, kd, n, bg, en, ok⟩) hs1 (if_pos hn)
    have fM0 : ¬ (kd = 1 ∧ en = 0) → (ops.take (k + 1)).filterMap mayF = mL := fun hn => fm_none (f := mayF) (o := ⟨who, kd, n, bg, en, ok⟩) hs2 (if_neg hn)
    have fM1 : kd = 1 ∧ en = 0 → (ops.take (k + 1)).filterMap mayF = mL ++ [n] := fun hn => fm_some (f := mayF) (o := ⟨who, kd, n, bg, en, ok⟩) hs2 (if_pos hn)
    have fT0 : ¬ (kd ≠ 1 ∧ en ≠ 0 ∧ ok = true) → (ops.take (k + 1)).filterMap takenF = tL := fun hn => fm_none (f := takenF) (o := ⟨who, kd, n, bg, en, ok⟩) hs3 (if_neg hn)
    have fT1 : kd ≠ 1 ∧ en ≠ 0 ∧ ok = true → (ops.take (k + 1)).filterMap takenF = tL ++ [n] := fun hn => fm_some (f := takenF) (o := ⟨who, kd, n, bg, en, ok⟩) hs3 (if_pos hn)
    have p0 : ¬ (kd = 2 ∧ en = 0) → AV.int .i64 (popsF (ops.take k)) = .int .i64 (popsF (ops.take (k + 1))) := fun h => by rw [hpk, if_neg h]; rfl
    have p1 : kd = 2 ∧ en = 0 → AV.int .i64 (IntKind.i64.wrap ((popsF (ops.take k) : Nat) + 1)) = .int .i64 (popsF (ops.take (k + 1))) := fun h => by
      rw [hpk, if_pos h, w64 (by omega) (by omega)]; rfl
    refine With.mk rfl (IdxF.mk ((who, kd, n, bg, en, ok, ()) : opSh.T) (by omega) hget ?_)
    intro bl1
    refine StoreAt.mk 0 _ _ rfl rfl ?_
    by_cases h1 : kd = 1
    · by_cases h2 : en = 0
      · refine LoadAt.mk 0 _ _ rfl rfl ?_
        refine bcond_dec (fun _ => ?_) (fun c => absurd (show kd = 1 by omega) c)
        refine LoadAt.mk 0 _ _ rfl rfl ?_
        refine bcond_dec (fun _ => ?_) (fun c => absurd (show en = 0 by omega) c)
        refine LoadAt.mk 0 _ _ rfl rfl ?_
        intro bl1
        refine append_acc (k := mL.length) (n := 1) (_ :: _ :: aS) hM (.mref 0 _ 0 1 [.int .i64 n] rfl (Nat.le_of_ble_eq_true rfl)) rfl (by omega) (by decide) (by decide) (fun vM' aM' hM' => ?_)
        refine LoadAt.mk 1 _ _ rfl rfl ?_
        refine bcond_dec (fun c => absurd c (show ¬ kd = 2 by omega)) (fun _ => ?_)
        first | exact (show False by omega).elim | exact nextS (k + 1, (vS, aS), (vM', aM'), (vT, aT)) hmu ⟨hkl, acc_eqW (fS0 (by intro hx; first | omega | exact absurd hx.2.2 (by decide))) hS, acc_snocW (fM1 ⟨h1, h2⟩) hM', acc_eqW (fT0 (by intro hx; first | omega | exact absurd hx.2.2 (by decide))) hT⟩ ⟨rfl, rfl, rfl, rfl, (by first | exact p0 (by omega) | exact p1 (by omega)), rfl, rfl, inc64 (by omega), trivial⟩ (.drop 0 2 (.refl _))
      · cases ok with
        | true =>
          refine LoadAt.mk 0 _ _ rfl rfl ?_
          refine bcond_dec (fun _ => ?_) (fun c => absurd (show kd = 1 by omega) c)
          refine LoadAt.mk 0 _ _ rfl rfl ?_
          refine bcond_dec (fun c => absurd c (show ¬ en = 0 by omega)) (fun _ => ?_)
          refine LoadAt.mk 0 _ _ rfl rfl ?_
          refine bcond_dec (fun _ => ?_) (fun c => absurd (show kd = 1 by omega) c)
          refine LoadAt.mk 0 _ _ rfl rfl ?_
          refine LoadAt.mk 0 _ _ rfl rfl ?_
          intro bl1
          refine append_acc (k := sL.length) (n := 1) [_, _] hS (.mref 0 _ 0 1 [.int .i64 n] rfl (Nat.le_of_ble_eq_true rfl)) rfl (by omega) (by decide) (by decide) (fun vS' aS' hS' => ?_)
          refine LoadAt.mk 1 _ _ rfl rfl ?_
          refine bcond_dec (fun c => absurd c (show ¬ kd = 2 by omega)) (fun _ => ?_)
          first | exact (show False by omega).elim | exact nextS (k + 1, (vS', aS'), (vM, aM), (vT, aT)) hmu ⟨hkl, acc_snocW (fS1 ⟨h1, h2, rfl⟩) hS', acc_eqW (fM0 (by intro hx; first | omega | exact absurd hx.2.2 (by decide))) hM, acc_eqW (fT0 (by intro hx; first | omega | exact absurd hx.2.2 (by decide))) hT⟩ ⟨rfl, rfl, rfl, rfl, (by first | exact p0 (by omega) | exact p1 (by omega)), rfl, rfl, inc64 (by omega), trivial⟩ (.drop 0 2 (.refl _))
        | false =>
          refine LoadAt.mk 0 _ _ rfl rfl ?_
          refine bcond_dec (fun _ => ?_) (fun c => absurd (show kd = 1 by omega) c)
          refine LoadAt.mk 0 _ _ rfl rfl ?_
          refine bcond_dec (fun c => absurd c (show ¬ en = 0 by omega)) (fun _ => ?_)
          refine LoadAt.mk 0 _ _ rfl rfl ?_
          refine bcond_dec (fun _ => ?_) (fun c => absurd (show kd = 1 by omega) c)
          refine LoadAt.mk 0 _ _ rfl rfl ?_
          refine LoadAt.mk 0 _ _ rfl rfl ?_
          refine bcond_split (fun c => absurd (show kd = 1 by omega) (by simpa using c)) (fun _ => ?_)
          refine LoadAt.mk 0 _ _ rfl rfl ?_
          refine bcond_dec (fun c => absurd c (show ¬ kd = 2 by omega)) (fun _ => ?_)
          first | exact (show False by omega).elim | exact nextS (k + 1, (vS, aS), (vM, aM), (vT, aT)) hmu ⟨hkl, acc_eqW (fS0 (by intro hx; first | omega | exact absurd hx.2.2 (by decide))) hS, acc_eqW (fM0 (by intro hx; first | omega | exact absurd hx.2.2 (by decide))) hM, acc_eqW (fT0 (by intro hx; first | omega | exact absurd hx.2.2 (by decide))) hT⟩ ⟨rfl, rfl, rfl, rfl, (by first | exact p0 (by omega) | exact p1 (by omega)), rfl, rfl, inc64 (by omega), trivial⟩ (.drop 0 1 (.refl _))
    · by_cases h2 : en = 0
      · refine LoadAt.mk 0 _ _ rfl rfl ?_
        refine bcond_dec (fun c => absurd c (show ¬ kd = 1 by omega)) (fun _ => ?_)
        refine LoadAt.mk 0 _ _ rfl rfl ?_
        refine bcond_dec (fun c => absurd c (show ¬ kd = 1 by omega)) (fun _ => ?_)
        refine LoadAt.mk 0 _ _ rfl rfl ?_
        refine bcond_split (fun _ => ?_) (fun c => absurd (show kd = 1 by simpa using c) (by omega))
        refine LoadAt.mkB 0 _ _ rfl rfl (fun c1 => ?_) (fun c1 => ?_)
        · refine LoadAt.mk 0 _ _ rfl rfl ?_
          refine bcond_split (fun c => absurd (show en = 0 by omega) (by simpa using c)) (fun _ => ?_)
          refine LoadAt.mk 0 _ _ rfl rfl ?_
          refine bcond_dec (fun c2 => ?_) (fun c2 => ?_)
          · have c2 : kd = 2 := c2
            refine LoadAt.mk 0 _ _ rfl rfl ?_
            refine bcond_dec (fun _ => ?_) (fun c => absurd (show en = 0 by omega) c)
            first | exact (show False by omega).elim | exact nextS (k + 1, (vS, aS), (vM, aM), (vT, aT)) hmu ⟨hkl, acc_eqW (fS0 (by intro hx; first | omega | exact absurd hx.2.2 (by decide))) hS, acc_eqW (fM0 (by intro hx; first | omega | exact absurd hx.2.2 (by decide))) hM, acc_eqW (fT0 (by intro hx; first | omega | exact absurd hx.2.2 (by decide))) hT⟩ ⟨rfl, rfl, rfl, rfl, (by first | exact p0 (by omega) | exact p1 (by omega)), rfl, rfl, inc64 (by omega), trivial⟩ (.drop 0 1 (.refl _))
          · have c2 : ¬ (kd = 2) := c2
            first | exact (show False by omega).elim | exact nextS (k + 1, (vS, aS), (vM, aM), (vT, aT)) hmu ⟨hkl, acc_eqW (fS0 (by intro hx; first | omega | exact absurd hx.2.2 (by decide))) hS, acc_eqW (fM0 (by intro hx; first | omega | exact absurd hx.2.2 (by decide))) hM, acc_eqW (fT0 (by intro hx; first | omega | exact absurd hx.2.2 (by decide))) hT⟩ ⟨rfl, rfl, rfl, rfl, (by first | exact p0 (by omega) | exact p1 (by omega)), rfl, rfl, inc64 (by omega), trivial⟩ (.drop 0 1 (.refl _))
        · refine LoadAt.mk 0 _ _ rfl rfl ?_
          refine bcond_dec (fun c3 => ?_) (fun c3 => ?_)
          · have c3 : kd = 2 := c3
            refine LoadAt.mk 0 _ _ rfl rfl ?_
            refine bcond_dec (fun _ => ?_) (fun c => absurd (show en = 0 by omega) c)
            first | exact (show False by omega).elim | exact nextS (k + 1, (vS, aS), (vM, aM), (vT, aT)) hmu ⟨hkl, acc_eqW (fS0 (by intro hx; first | omega | exact absurd hx.2.2 (by decide))) hS, acc_eqW (fM0 (by intro hx; first | omega | exact absurd hx.2.2 (by decide))) hM, acc_eqW (fT0 (by intro hx; first | omega | exact absurd hx.2.2 (by decide))) hT⟩ ⟨rfl, rfl, rfl, rfl, (by first | exact p0 (by omega) | exact p1 (by omega)), rfl, rfl, inc64 (by omega), trivial⟩ (.drop 0 1 (.refl _))
          · have c3 : ¬ (kd = 2) := c3
            first | exact (show False by omega).elim | exact nextS (k + 1, (vS, aS), (vM, aM), (vT, aT)) hmu ⟨hkl, acc_eqW (fS0 (by intro hx; first | omega | exact absurd hx.2.2 (by decide))) hS, acc_eqW (fM0 (by intro hx; first | omega | exact absurd hx.2.2 (by decide))) hM, acc_eqW (fT0 (by intro hx; first | omega | exact absurd hx.2.2 (by decide))) hT⟩ ⟨rfl, rfl, rfl, rfl, (by first | exact p0 (by omega) | exact p1 (by omega)), rfl, rfl, inc64 (by omega), trivial⟩ (.drop 0 1 (.refl _))
      · cases ok with
        | true =>
          refine LoadAt.mk 0 _ _ rfl rfl ?_
          refine bcond_dec (fun c => absurd c (show ¬ kd = 1 by omega)) (fun _ => ?_)
          refine LoadAt.mk 0 _ _ rfl rfl ?_
          refine bcond_dec (fun c => absurd c (show ¬ kd = 1 by omega)) (fun _ => ?_)
          refine LoadAt.mk 0 _ _ rfl rfl ?_
          refine bcond_split (fun _ => ?_) (fun c => absurd (show kd = 1 by simpa using c) (by omega))
          refine LoadAt.mk 0 _ _ rfl rfl ?_
          refine LoadAt.mk 0 _ _ rfl rfl ?_
          refine bcond_split (fun _ => ?_) (fun c => absurd (show en = 0 by simpa using c) (by omega))
          refine LoadAt.mk 0 _ _ rfl rfl ?_
          intro bl1
          refine append_acc3 (k := tL.length) (n := 1) (_ :: _ :: aS) aM hT (.mref 0 _ 0 1 [.int .i64 n] rfl (Nat.le_of_ble_eq_true rfl)) rfl (by omega) (by decide) (by decide) (fun vT' aT' hT' => ?_)
          refine LoadAt.mk 1 _ _ rfl rfl ?_
          refine bcond_dec (fun c2 => ?_) (fun c2 => ?_)
          · have c2 : kd = 2 := c2
            refine LoadAt.mk 1 _ _ rfl rfl ?_
            refine bcond_dec (fun c => absurd c (show ¬ en = 0 by omega)) (fun _ => ?_)
            first | exact (show False by omega).elim | exact nextS (k + 1, (vS, aS), (vM, aM), (vT', aT')) hmu ⟨hkl, acc_eqW (fS0 (by intro hx; first | omega | exact absurd hx.2.2 (by decide))) hS, acc_eqW (fM0 (by intro hx; first | omega | exact absurd hx.2.2 (by decide))) hM, acc_snocW (fT1 ⟨h1, h2, rfl⟩) hT'⟩ ⟨rfl, rfl, rfl, rfl, (by first | exact p0 (by omega) | exact p1 (by omega)), rfl, rfl, inc64 (by omega), trivial⟩ (.drop 0 2 (.refl _))
          · have c2 : ¬ (kd = 2) := c2
            first | exact (show False by omega).elim | exact nextS (k + 1, (vS, aS), (vM, aM), (vT', aT')) hmu ⟨hkl, acc_eqW (fS0 (by intro hx; first | omega | exact absurd hx.2.2 (by decide))) hS, acc_eqW (fM0 (by intro hx; first | omega | exact absurd hx.2.2 (by decide))) hM, acc_snocW (fT1 ⟨h1, h2, rfl⟩) hT'⟩ ⟨rfl, rfl, rfl, rfl, (by first | exact p0 (by omega) | exact p1 (by omega)), rfl, rfl, inc64 (by omega), trivial⟩ (.drop 0 2 (.refl _))
        | false =>
          refine LoadAt.mk 0 _ _ rfl rfl ?_
          refine bcond_dec (fun c => absurd c (show ¬ kd = 1 by omega)) (fun _ => ?_)
          refine LoadAt.mk 0 _ _ rfl rfl ?_
          refine bcond_dec (fun c => absurd c (show ¬ kd = 1 by omega)) (fun _ => ?_)
          refine LoadAt.mk 0 _ _ rfl rfl ?_
          refine bcond_split (fun _ => ?_) (fun c => absurd (show kd = 1 by simpa using c) (by omega))
          refine LoadAt.mk 0 _ _ rfl rfl ?_
          refine LoadAt.mk 0 _ _ rfl rfl ?_
          refine bcond_dec (fun c1 => ?_) (fun c1 => ?_)
          · have c1 : kd = 2 := c1
            refine LoadAt.mk 0 _ _ rfl rfl ?_
            refine bcond_dec (fun c => absurd c (show ¬ en = 0 by omega)) (fun _ => ?_)
            first | exact (show False by omega).elim | exact nextS (k + 1, (vS, aS), (vM, aM), (vT, aT)) hmu ⟨hkl, acc_eqW (fS0 (by intro hx; first | omega | exact absurd hx.2.2 (by decide))) hS, acc_eqW (fM0 (by intro hx; first | omega | exact absurd hx.2.2 (by decide))) hM, acc_eqW (fT0 (by intro hx; first | omega | exact absurd hx.2.2 (by decide))) hT⟩ ⟨rfl, rfl, rfl, rfl, (by first | exact p0 (by omega) | exact p1 (by omega)), rfl, rfl, inc64 (by omega), trivial⟩ (.drop 0 1 (.refl _))
          · have c1 : ¬ (kd = 2) := c1
            first | exact (show False by omega).elim | exact nextS (k + 1, (vS, aS), (vM, aM), (vT, aT)) hmu ⟨hkl, acc_eqW (fS0 (by intro hx; first | omega | exact absurd hx.2.2 (by decide))) hS, acc_eqW (fM0 (by intro hx; first | omega | exact absurd hx.2.2 (by decide))) hM, acc_eqW (fT0 (by intro hx; first | omega | exact absurd hx.2.2 (by decide))) hT⟩ ⟨rfl, rfl, rfl, rfl, (by first | exact p0 (by omega) | exact p1 (by omega)), rfl, rfl, inc64 (by omega), trivial⟩ (.drop 0 1 (.refl _))
  · have hge : ¬ (k : Int) < (ops.map opT).length := hge
    rw [List.length_map] at hge
    rw [show k = ops.length by omega, List.take_length] at hS hM hT
    rw [show k = ops.length by omega]
    refine LoopW.acc 5 [] (s := .int .i64) hS rfl rfl (inC_flat _) (by decide) (LoopW.acc 6 [] (s := .int .i64) hM rfl rfl (inC_flat _) (by decide) ?_)
    refine loopS (S := Nat × (AV × Hp)) (fun x => [(5, .fsl (.int .i64) (ops.filterMap sureF)), (6, .fsl (.int .i64) (ops.filterMap mayF)), (7, .via x.2.1), (8, .int .i64 (popsF (ops.take ops.length))), (76, .fsl (.int .u64) left), (77, .int .i64 left.length), (78, .int .i64 x.1)]) (fun x => x.2.2 ++ σ) (fun x => x.1 ≤ left.length ∧ Acc 1 (ops.filterMap takenF ++ (left.take x.1).map wr).length x.2.1 x.2.2 (inC (ops.filterMap takenF ++ (left.take x.1).map wr))) (fun x => left.length - x.1) (0, vT, aT) ⟨⟨Nat.zero_le _, acc_eqW (by simp) hT⟩, ⟨rfl, rfl, rfl, rfl, rfl, rfl, rfl, trivial⟩, rfl⟩ ?_
    rintro ⟨j, v, acc⟩ g ⟨hj, hacc⟩
    have hj : j ≤ left.length := hj
    have hacc : Acc 1 (ops.filterMap takenF ++ (left.take j).map wr).length v acc (inC (ops.filterMap takenF ++ (left.take j).map wr)) := hacc
    have hfl := fm_len_le takenF ops
    have hfs := fm_len_le sureF ops
    refine bcond_dec (fun hlt => ?_) (fun hge => ?_)
    · have hlt : (j : Int) < left.length := hlt
      have hjl : j < left.length := by omega
      have hlen : (ops.filterMap takenF ++ (left.take j).map wr).length ≤ 200000 := by rw [List.length_append, List.length_map, List.length_take]; omega
      refine With.mk rfl (IdxF.mk left[j] (by omega) (get_some hjl) ?_)
      intro bl1
      refine append_acc (k := (ops.filterMap takenF ++ (left.take j).map wr).length) (n := 1) [_] hacc (.mref 0 _ 0 1 [.int .i64 (wr left[j])] rfl (Nat.le_of_ble_eq_true rfl)) rfl (by omega) (by decide) (by decide) (fun v' a' h' => ?_)
      exact nextS (j + 1, v', a') (by show left.length - (j + 1) < left.length - j; omega) ⟨hjl, acc_snocW (by rw [List.take_succ_eq_append_getElem hjl, List.map_append, List.append_assoc]; rfl) h'⟩ ⟨rfl, rfl, rfl, rfl, rfl, rfl, inc64 (by omega), trivial⟩ (.drop 0 1 (.refl _))
    · have hge : ¬ (j : Int) < left.length := hge
      rw [show j = left.length by omega, List.take_length] at hacc
      have hlen : (ops.filterMap takenF ++ left.map wr).length ≤ 200000 := by rw [List.length_append, List.length_map]; omega
      intro bl1
      refine .more 0 _ 0 (ops.filterMap sureF).length _ _ rfl rfl (Nat.zero_le _) (.fsl (.int .i64) _ rfl) (by omega) (by decide) (by decide) (fun bl1 => ?_)
      refine .more 0 _ (0 + (ops.filterMap sureF).length) (ops.filterMap takenF ++ left.map wr).length _ _ rfl rfl ?_ (src_accW [_] hacc) (by omega) (by decide) (by decide) (fun bl4 => ?_)
      · have e : ((ops.filterMap sureF).flatMap (Sh.cells (.int .i64))).length = (ops.filterMap sureF).length := by rw [← inC_flat]; simp [inC]
        show (0 + (ops.filterMap sureF).length) * 1 ≤ ((ops.filterMap sureF).flatMap (Sh.cells (.int .i64))).length
        rw [e]; omega
      · have e2 : ∀ X : List AV, X = inC (ops.filterMap sureF) → List.take ((0 + (ops.filterMap sureF).length) * 1) (List.take (0 * 1) (repC [AV.int .i64 0] 0) ++ X) ++ inC (ops.filterMap takenF ++ left.map wr) = inC (ops.filterMap sureF ++ (ops.filterMap takenF ++ left.map wr)) := fun X hX => by
          subst hX
          rw [List.take_of_length_le (by show _ ≤ (0 + _) * 1; simp [inC, repC])]
          simp [inC, repC]
        have hlen3 : (ops.filterMap sureF ++ (ops.filterMap takenF ++ left.map wr)).length = 0 + (ops.filterMap sureF).length + (ops.filterMap takenF ++ left.map wr).length := by rw [List.length_append, Nat.zero_add]
        have e3 : List.take ((0 + (ops.filterMap sureF).length + (ops.filterMap takenF ++ left.map wr).length) * 1) (List.drop 0 (inC (ops.filterMap sureF ++ (ops.filterMap takenF ++ left.map wr)))) = (ops.filterMap sureF ++ (ops.filterMap takenF ++ left.map wr)).flatMap (Sh.cells (.int .i64)) := by
          rw [List.drop_zero, List.take_of_length_le (by simp [inC]), inC_flat]
        refine .frz 0 bl4 0 _ 1 _ (.int .i64) (ops.filterMap sureF ++ (ops.filterMap takenF ++ left.map wr)) rfl ((congrArg (fun z => List.take _ (List.drop 0 z)) (e2 _ (inC_flat _).symm)).trans e3) ⟨hlen3, rfl, by decide⟩ (frzW2 13 93 rfl rfl rfl) ?_
        refine LoopW.acc 7 [] (s := .int .i64) hacc rfl rfl (inC_flat _) (by decide) ?_
        generalize hall : ops.filterMap sureF ++ (ops.filterMap takenF ++ left.map wr) = all
        have halen : all.length ≤ 400000 := by rw [← hall, List.length_append]; omega
        have hcnt : ∀ z, ((ops.filterMap sureF).count z : Int) - ((ops.filterMap takenF ++ left.map wr).count z : Int) = (rest.count z : Int) := fun z => by
          have := h.count z
          unfold balF at this
          rw [List.count_append]; omega
        refine loopS (S := Nat × List Int) (fun x => [(5, .fsl (.int .i64) (ops.filterMap sureF)), (6, .fsl (.int .i64) (ops.filterMap mayF)), (7, .fsl (.int .i64) (ops.filterMap takenF ++ left.map wr)), (8, .int .i64 ((popsF ops : Int) - ((x.2.map fun z => rest.count z).sum : Nat))), (13, .fsl (.int .i64) all), (93, .fsl (.int .i64) all), (94, .int .i64 all.length), (95, .int .i64 x.1)]) (fun _ => σ) (fun x => x.1 ≤ all.length ∧ x.2.Nodup ∧ ∀ z, z ∈ x.2 ↔ z ∈ all.take x.1) (fun x => all.length - x.1) (0, []) ⟨⟨Nat.zero_le _, List.nodup_nil, fun z => by simp⟩, ⟨rfl, rfl, rfl, ?_, rfl, rfl, ?_, rfl, trivial⟩, rfl⟩ ?_
        · rw [List.take_length]; exact av_int (by simp)
        · exact congrArg (fun z : Nat => AV.int .i64 (z : Int)) (show 0 + (ops.filterMap sureF).length + (ops.filterMap takenF ++ left.map wr).length = all.length by rw [← hall]; simp only [List.length_append]; omega)
        rintro ⟨i, ks⟩ g ⟨hi, hnd, hks⟩
        have hi : i ≤ all.length := hi
        have hnd : ks.Nodup := hnd
        have hks : ∀ z, z ∈ ks ↔ z ∈ all.take i := hks
        have hsum := sum_count ks rest hnd
        have hpops := h.pops
        have hpl := popsF_le ops
        refine bcond_dec (fun hlt => ?_) (fun hge => ?_)
        · have hlt : (i : Int) < all.length := hlt
          have hil : i < all.length := by omega
          refine With.mk rfl (IdxF.mk all[i] (by omega) (get_some hil) ?_)
          have hcl := cutL_len all i
          have hmu : all.length - (i + 1) < all.length - i := by omega
          have hcu := hcnt all[i]
          have hcs := List.count_le_length (a := all[i]) (l := ops.filterMap sureF)
          have hct := List.count_le_length (a := all[i]) (l := ops.filterMap takenF ++ left.map wr)
          have hcm := List.count_le_length (a := all[i]) (l := ops.filterMap mayF)
          have hml := fm_len_le mayF ops
          refine With.mk ⟨by omega, by omega, (show (i : Int) ≤ (all.length : Int) by omega), rfl⟩ ?_
          refine callR [] (aCount28 (cutL all i) all[i] _ (by omega)) ?_
          refine bcond_dec (fun c1 => ?_) (fun c1 => ?_)
          · have c1 : (0 : Int) < ((cutL all i).count all[i] : Nat) := c1
            have hm : all[i] ∈ all.take i := by
              rw [cutL_eq] at c1
              exact List.count_pos_iff.1 (by omega)
            refine nextS (i + 1, ks) hmu ⟨hil, hnd, fun z => ?_⟩ ⟨rfl, rfl, rfl, rfl, rfl, rfl, rfl, inc64 (by omega), trivial⟩ (.refl _)
            rw [hks, List.take_succ_eq_append_getElem hil, List.mem_append, List.mem_singleton]
            exact ⟨.inl, fun h => h.elim id fun e => e ▸ hm⟩
          · have c1 : ¬ (0 : Int) < ((cutL all i).count all[i] : Nat) := c1
            have hnm : all[i] ∉ all.take i := fun hm => by
              rw [cutL_eq] at c1
              have := List.count_pos_iff.2 hm
              omega
            have hkw : IntKind.i64.wrap (((ops.filterMap sureF).count all[i] : Nat) - ((ops.filterMap takenF ++ left.map wr).count all[i] : Nat)) = (rest.count all[i] : Int) := by rw [w64 (by omega) (by omega)]; omega
            have hmw : IntKind.i64.wrap (0 - ((ops.filterMap mayF).count all[i] : Nat)) = -(((ops.filterMap mayF).count all[i] : Nat) : Int) := by rw [w64 (by omega) (by omega)]; omega
            have hnd2 : (ks ++ [all[i]]).Nodup := List.nodup_append.2 ⟨hnd, by simp, fun a ha b hb e => hnm (by rw [List.mem_singleton.1 hb] at e; exact e ▸ (hks a).1 ha)⟩
            have hks2 : ∀ z, z ∈ ks ++ [all[i]] ↔ z ∈ all.take (i + 1) := fun z => by
              rw [List.mem_append, List.take_succ_eq_append_getElem hil, List.mem_append, hks]
            have hsm : (((ks ++ [all[i]]).map fun z => rest.count z).sum : Nat) = (ks.map fun z => rest.count z).sum + rest.count all[i] := by
              rw [List.map_append, List.sum_append]; simp
            have hsum2 := sum_count (ks ++ [all[i]]) rest hnd2
            rw [hsm] at hsum2
            refine callR [] (aCount28 (ops.filterMap sureF) all[i] _ (by omega)) ?_
            refine callR [] (aCount28 (ops.filterMap takenF ++ left.map wr) all[i] _ (by omega)) ?_
            refine bcond_dec (fun c1 => ?_) (fun c1 => ?_)
            · have c1 : 0 < IntKind.i64.wrap ((↑(List.count all[i] (List.filterMap sureF ops)) : Int) - (↑(List.count all[i] (List.filterMap takenF ops ++ List.map wr left)) : Int)) := c1
              refine callR [] (aCount28 (ops.filterMap mayF) all[i] _ (by omega)) ?_
              refine bcond_dec (fun c2 => ?_) (fun c2 => ?_)
              · have c2 : IntKind.i64.wrap ((↑(List.count all[i] (List.filterMap sureF ops)) : Int) - (↑(List.count all[i] (List.filterMap takenF ops ++ List.map wr left)) : Int)) < IntKind.i64.wrap (0 - (↑(List.count all[i] (List.filterMap mayF ops)) : Int)) := c2
                rw [hkw, hmw] at c2; omega
              · have c2 : ¬ (IntKind.i64.wrap ((↑(List.count all[i] (List.filterMap sureF ops)) : Int) - (↑(List.count all[i] (List.filterMap takenF ops ++ List.map wr left)) : Int)) < IntKind.i64.wrap (0 - (↑(List.count all[i] (List.filterMap mayF ops)) : Int))) := c2
                exact nextS (i + 1, ks ++ [all[i]]) hmu ⟨hil, hnd2, hks2⟩ ⟨rfl, rfl, rfl, (by show AV.int .i64 (IntKind.i64.wrap (((popsF ops : Int) - ((ks.map fun z => rest.count z).sum : Nat)) - IntKind.i64.wrap (((ops.filterMap sureF).count all[i] : Nat) - ((ops.filterMap takenF ++ left.map wr).count all[i] : Nat)))) = AV.int .i64 ((popsF ops : Int) - (((ks ++ [all[i]]).map fun z => rest.count z).sum : Nat)); rw [hkw, w64 (by omega) (by omega), hsm]; exact av_int (by omega)), rfl, rfl, rfl, inc64 (by omega), trivial⟩ (.refl _)
            · have c1 : ¬ (0 < IntKind.i64.wrap ((↑(List.count all[i] (List.filterMap sureF ops)) : Int) - (↑(List.count all[i] (List.filterMap takenF ops ++ List.map wr left)) : Int))) := c1
              refine callR [] (aCount28 (ops.filterMap mayF) all[i] _ (by omega)) ?_
              refine bcond_dec (fun c3 => ?_) (fun c3 => ?_)
              · have c3 : IntKind.i64.wrap ((↑(List.count all[i] (List.filterMap sureF ops)) : Int) - (↑(List.count all[i] (List.filterMap takenF ops ++ List.map wr left)) : Int)) < IntKind.i64.wrap (0 - (↑(List.count all[i] (List.filterMap mayF ops)) : Int)) := c3
                rw [hkw, hmw] at c3; omega
              · have c3 : ¬ (IntKind.i64.wrap ((↑(List.count all[i] (List.filterMap sureF ops)) : Int) - (↑(List.count all[i] (List.filterMap takenF ops ++ List.map wr left)) : Int)) < IntKind.i64.wrap (0 - (↑(List.count all[i] (List.filterMap mayF ops)) : Int))) := c3
                rw [hkw] at c1
                exact nextS (i + 1, ks ++ [all[i]]) hmu ⟨hil, hnd2, hks2⟩ ⟨rfl, rfl, rfl, (by show AV.int .i64 ((popsF ops : Int) - ((ks.map fun z => rest.count z).sum : Nat)) = AV.int .i64 ((popsF ops : Int) - (((ks ++ [all[i]]).map fun z => rest.count z).sum : Nat)); rw [hsm]; exact av_int (by omega)), rfl, rfl, rfl, inc64 (by omega), trivial⟩ (.refl _)
        · refine bcond_dec (fun c1 => ?_) (fun c1 => ?_)
          · have c1 : 0 ≤ (↑(popsF ops) : Int) - (↑(List.map (fun z => List.count z rest) ks).sum : Int) := c1
            exact .done ⟨rfl, rfl⟩
          · have c1 : ¬ (0 ≤ (↑(popsF ops) : Int) - (↑(List.map (fun z => List.count z rest) ks).sum : Int)) := c1
            omega
end Go.Proofs.Ytacacplipaeokaa
