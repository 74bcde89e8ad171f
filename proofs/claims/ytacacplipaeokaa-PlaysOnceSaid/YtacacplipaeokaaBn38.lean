/-
  Pl: what the claim uses of them.
-/
import Derived.Test.YtacacplipaeokaaBn37
import Derived.Test.YtacacplipaeokaaBn34
import Derived.Test.YtacacplipaeokaaBn22
import Derived.Test.YtacacplipaeokaaBn32
import Derived.Test.YtacacplipaeokaaBn36
namespace Go.Proofs.Ytacacplipaeokaa
open Go.RowKit
set_option maxRecDepth 100000
set_option maxHeartbeats 4000000
def rightP (cap : Int) (ow th : List Int) : Bool := (!(decide (cap < 1) || (decide (64 < cap) || (decide (256 < (ow.length : Int)) || decide (63 < (th.length : Int)))))) && (ow.all (fun n => decide (n ≤ 2147483647)) && th.all fun n => decide (n ≤ 256))
theorem rightP_get {cap : Int} {ow th : List Int} (h : rightP cap ow th = true) : 1 ≤ cap ∧ cap ≤ 64 ∧ ow.length ≤ 256 ∧ th.length ≤ 63 ∧ (∀ n ∈ ow, n ≤ 2147483647) ∧ ∀ n ∈ th, n ≤ 256 := by
  simp [rightP] at h
  obtain ⟨⟨h1, h2, h3, h4⟩, h5, h6⟩ := h
  exact ⟨by omega, by omega, by omega, by omega, h5, h6⟩
theorem rightP_no {cap : Int} {ow th : List Int} (h : ¬ (1 ≤ cap ∧ cap ≤ 64 ∧ ow.length ≤ 256 ∧ th.length ≤ 63)) : AV.bool false = .bool (rightP cap ow th) := by
  cases hb : rightP cap ow th with
  | false => rfl
  | true => obtain ⟨h1, h2, h3, h4, _⟩ := rightP_get hb; exact absurd ⟨h1, h2, h3, h4⟩ h
theorem rightP_ow {cap : Int} {ow th : List Int} {k : Nat} (h : k < ow.length) (h2 : 2147483647 < ow[k]) : AV.bool false = .bool (rightP cap ow th) := by
  cases hb : rightP cap ow th with
  | false => rfl
  | true => obtain ⟨_, _, _, _, h5, _⟩ := rightP_get hb; have := h5 _ (List.getElem_mem h); omega
theorem rightP_th {cap : Int} {ow th : List Int} {k : Nat} (h : k < th.length) (h2 : 256 < th[k]) : AV.bool false = .bool (rightP cap ow th) := by
  cases hb : rightP cap ow th with
  | false => rfl
  | true => obtain ⟨_, _, _, _, _, h5⟩ := rightP_get hb; have := h5 _ (List.getElem_mem h); omega
theorem rightP_yes {cap : Int} {ow th : List Int} (h1 : 1 ≤ cap) (h2 : cap ≤ 64) (h3 : ow.length ≤ 256) (h4 : th.length ≤ 63) (h5 : ow.all (fun n => decide (n ≤ 2147483647)) = true) (h6 : th.all (fun n => decide (n ≤ 256)) = true) : AV.bool true = .bool (rightP cap ow th) := by
  unfold rightP
  rw [h5, h6, decide_eq_false (by omega), decide_eq_false (by omega), decide_eq_false (by omega), decide_eq_false (by omega)]; rfl
theorem aRightP (cap : Int) (ow th : List Int) (scr : List (Int × Int × Unit)) (σ : Hp) : ACalls Try.prog 19 [.agg [.int .i64 cap, .fsl (.int .i64) ow, .fsl (.int .i64) th, .fsl pickSh scr]] σ (Ret (.bool (rightP cap ow th)) σ) := by
  refine okF Try.func19 (by kernel_rfl) ?_
  intro bl1
  refine LoadAt.mk 0 _ _ rfl rfl ?_
  refine bcond_dec (fun c2 => ?_) (fun c2 => ?_)
  · have c2 : cap < 1 := c2
    exact .drop 0 1 (.done ⟨rightP_no (by omega), rfl⟩)
  · have c2 : ¬ (cap < 1) := c2
    refine LoadAt.mk 0 _ _ rfl rfl ?_
    refine bcond_dec (fun c3 => ?_) (fun c3 => ?_)
    · have c3 : 64 < cap := c3
      exact .drop 0 1 (.done ⟨rightP_no (by omega), rfl⟩)
    · have c3 : ¬ (64 < cap) := c3
      refine LoadAt.mk 0 _ _ rfl rfl ?_
      refine bcond_dec (fun c4 => ?_) (fun c4 => ?_)
      · have c4 : 256 < (↑ow.length : Int) := c4
        exact .drop 0 1 (.done ⟨rightP_no (by omega), rfl⟩)
      · have c4 : ¬ (256 < (↑ow.length : Int)) := c4
        refine LoadAt.mk 0 _ _ rfl rfl ?_
        refine bcond_dec (fun c5 => ?_) (fun c5 => ?_)
        · have c5 : 63 < (↑th.length : Int) := c5
          exact .drop 0 1 (.done ⟨rightP_no (by omega), rfl⟩)
        · have c5 : ¬ (63 < (↑th.length : Int)) := c5
          refine LoadAt.mk 0 _ _ rfl rfl ?_
          refine loopS (S := Nat) (fun s => [(1, .ptr bl1 0), (28, .fsl (.int .i64) ow), (29, .int .i64 ow.length), (30, .int .i64 s)]) (fun _ => (bl1, [.int .i64 cap, .fsl (.int .i64) ow, .fsl (.int .i64) th, .fsl pickSh scr]) :: σ) (fun s => s ≤ ow.length ∧ (ow.take s).all (fun n => decide (n ≤ 2147483647)) = true) (fun s => ow.length - s) 0 ⟨⟨Nat.zero_le _, rfl⟩, ⟨rfl, rfl, rfl, rfl, trivial⟩, rfl⟩ ?_
          rintro k g ⟨hk, hall⟩
          have hk : k ≤ ow.length := hk
          refine bcond_dec (fun hlt => ?_) (fun hge => ?_)
          · have hlt : (k : Int) < ow.length := hlt
            have hlt : k < ow.length := by omega
            refine With.mk rfl (IdxF.mk ow[k] (by omega) (get_some hlt) ?_)
            refine bcond_dec (fun c6 => ?_) (fun c6 => ?_)
            · have c6 : 2147483647 < ow[k] := c6
              exact .drop 0 1 (.done ⟨rightP_ow hlt c6, rfl⟩)
            · have c6 : ¬ (2147483647 < ow[k]) := c6
              refine nextS (k + 1) ?_ ⟨hlt, ?_⟩ ⟨rfl, rfl, rfl, inc64 (by omega), trivial⟩ (shed_eq rfl)
              · show ow.length - (k + 1) < ow.length - k; omega
              · rw [List.take_succ_eq_append_getElem hlt, List.all_append, hall]; simp; omega
          · have hge : ¬ (k : Int) < ow.length := hge
            have hall : ow.all (fun n => decide (n ≤ 2147483647)) = true := by rw [← List.take_of_length_le (show ow.length ≤ k by omega)]; exact hall
            refine LoadAt.mk 0 _ _ rfl rfl ?_
            refine loopS (S := Nat) (fun s => [(1, .ptr bl1 0), (38, .fsl (.int .i64) th), (39, .int .i64 th.length), (40, .int .i64 s)]) (fun _ => (bl1, [.int .i64 cap, .fsl (.int .i64) ow, .fsl (.int .i64) th, .fsl pickSh scr]) :: σ) (fun s => s ≤ th.length ∧ (th.take s).all (fun n => decide (n ≤ 256)) = true) (fun s => th.length - s) 0 ⟨⟨Nat.zero_le _, rfl⟩, ⟨rfl, rfl, rfl, rfl, trivial⟩, rfl⟩ ?_
            rintro j g ⟨hk, hal2⟩
            have hk : j ≤ th.length := hk
            refine bcond_dec (fun hlt => ?_) (fun hge => ?_)
            · have hlt : (j : Int) < th.length := hlt
              have hlt : j < th.length := by omega
              refine With.mk rfl (IdxF.mk th[j] (by omega) (get_some hlt) ?_)
              refine bcond_dec (fun c7 => ?_) (fun c7 => ?_)
              · have c7 : 256 < th[j] := c7
                exact .drop 0 1 (.done ⟨rightP_th hlt c7, rfl⟩)
              · have c7 : ¬ (256 < th[j]) := c7
                refine nextS (j + 1) ?_ ⟨hlt, ?_⟩ ⟨rfl, rfl, rfl, inc64 (by omega), trivial⟩ (shed_eq rfl)
                · show th.length - (j + 1) < th.length - j; omega
                · rw [List.take_succ_eq_append_getElem hlt, List.all_append, hal2]; simp; omega
            · have hge : ¬ (j : Int) < th.length := hge
              exact .drop 0 1 (.done ⟨rightP_yes (by omega) (by omega) (by omega) (by omega) hall (by rw [← List.take_of_length_le (show th.length ≤ j by omega)]; exact hal2), rfl⟩)
def opC (o : OpR) : List AV := [.int .i64 o.who, .int .i64 o.kind, .int .i64 o.n, .int .i64 o.bg, .int .i64 o.en, .bool o.ok]
theorem opC_len (o : OpR) : (opC o).length = 6 := rfl
/-- The interface's value of what a worker does, whose block is r. -/
def nwP (r : Nat) : Option (Int × DQ) → AV
  | none => .nilif
  | some (k, _) => if k = 1 then .iface 166 (.ptr r 0) else if k = 2 then .iface 168 (.ptr r 0) else .iface 161 (.ptr r 0)
def nbP (r : Nat) : Option (Int × DQ) → Hp
  | none => []
  | some (_, q) => [(r, dqC q)]
def wkP (i : Nat) (cap : Int) (pl : Nat) (t : List Int) (nv : AV) (op : Nat) : List AV := [.int .i64 i, .int .i64 0, .int .i64 cap, .fsl (.int .i64) t, nv, .int .i64 op, .ptr pl 0]
theorem flat_setC {L : List OpR} {j : Nat} (h : j < L.length) (o : OpR) (c : Nat) (hc : c < 6) (v : AV) (ho : opC o = (opC L[j]).set c v) : (L.flatMap opC).set (0 + j * 6 + c) v = (L.set j o).flatMap opC := by
  have h1 : L = L.take j ++ L[j] :: L.drop (j + 1) := by rw [← List.drop_eq_getElem_cons h, List.take_append_drop]
  have h2 : L.set j o = L.take j ++ o :: L.drop (j + 1) := List.set_eq_take_append_cons_drop.trans (if_pos h)
  have hl : ((L.take j).flatMap opC).length = j * 6 := by rw [flat_length (es := 6) opC_len]; simp; omega
  rw [h2]
  conv => lhs; rw [h1]
  rw [List.flatMap_append, List.flatMap_append, List.flatMap_cons, List.flatMap_cons, List.set_append_right _ _ (by omega), hl, List.set_append_left _ _ (by rw [opC_len]; omega), show 0 + j * 6 + c - j * 6 = c by omega, ho]
theorem op_put {i : TI} {L : List OpR} {j c : Nat} (h : j < L.length) (o : OpR) (hc : c < 6) {v : AV} (hv : v.cells? = some [v]) (hs : i.size = 1) (ho : opC o = (opC L[j]).set c v) {n : Int} (hn : n = j) : writeAs i (L.flatMap opC) (0 + n.toNat * 6 + c) v = some ((L.set j o).flatMap opC) := by
  subst hn
  have hl : (L.flatMap opC).length = L.length * 6 := flat_length (es := 6) opC_len L
  have hb : Nat.ble (0 + ((j : Int)).toNat * 6 + c + 1) (L.flatMap opC).length = true := Nat.ble_eq_true_of_le (by rw [hl]; omega)
  unfold writeAs
  rw [hv, hs]
  show (match Nat.beq 1 1, Nat.ble (0 + ((j : Int)).toNat * 6 + c + 1) (L.flatMap opC).length with | true, true => some (splice (L.flatMap opC) (0 + ((j : Int)).toNat * 6 + c) [v]) | _, _ => none) = _
  rw [hb]
  show some ((L.flatMap opC).set (0 + j * 6 + c) v) = _
  rw [flat_setC h o c hc v ho]
def opsH (us : Nat) (v : AV) : List AV := [.int .i64 us, v]
theorem acc_split {e k : Nat} {v : AV} {acc : Hp} {cs : List AV} (h : Acc e k v acc cs) : (k = 0 ∧ v = .nils ∧ acc = []) ∨ ∃ b, v = .mref b 0 k e ∧ acc = [(b, cs)] := by
  cases h with
  | nil => exact .inl ⟨rfl, rfl, rfl⟩
  | mref b k cs h => exact .inr ⟨b, rfl, rfl⟩
def BegPost (i w pl : Nat) (cap n : Int) (t : List Int) (us : Nat) (L : List OpR) (σ : Hp) : AV → Hp → Prop := fun x σ' => ∃ (r : Nat) (v' : AV) (acc' : Hp), Acc 6 (L.length + 1) v' acc' ((L ++ [OpR.mk i (begK i n) (begN i n) (wr (us + 1)) 0 false]).flatMap opC) ∧ x = .tup [] ∧ σ' = (w, wkP i cap pl t (nwP r (some (begK i n, q0P cap (wu (begN i n))))) L.length) :: (pl, opsH us v') :: (nbP r (some (begK i n, q0P cap (wu (begN i n)))) ++ (acc' ++ σ))
theorem flat_snoc (L : List OpR) (o : OpR) : (L ++ [o]).flatMap opC = L.flatMap opC ++ opC o := by rw [List.flatMap_append]; rfl
section
variable {op' : Int} {i w pl : Nat} {cap n : Int} {t : List Int} {us : Nat} {L : List OpR} {σ : Hp} {r : Nat} {v' : AV} {acc' : Hp}
theorem begEndA (ho : op' = (L.length : Int)) (h : Acc 6 (L.length + 1) v' acc' (L.flatMap opC ++ opC ⟨i, 3, 0, wr (us + 1), 0, false⟩)) (h1 : 0 < i) : BegPost i w pl cap n t us L σ (.tup []) ((w, [.int .i64 i, .int .i64 0, .int .i64 cap, .fsl (.int .i64) t, .iface 161 (.ptr r 0), .int .i64 op', .ptr pl 0]) :: (pl, opsH us v') :: (r, dqC (q0P cap 0)) :: (acc' ++ σ)) := by
  subst ho
  have e1 : begK i n = 3 := if_pos h1
  have e2 : begN i n = 0 := if_pos h1
  exact ⟨r, v', acc', by rw [flat_snoc, e1, e2]; exact h, rfl, by rw [e1, e2]; rfl⟩
theorem begEndB (ho : op' = (L.length : Int)) (h : Acc 6 (L.length + 1) v' acc' (L.flatMap opC ++ opC ⟨i, 1, n, wr (us + 1), 0, false⟩)) (h1 : ¬ 0 < i) (h2 : 1 ≤ n) : BegPost i w pl cap n t us L σ (.tup []) ((w, [.int .i64 i, .int .i64 0, .int .i64 cap, .fsl (.int .i64) t, .iface 166 (.ptr r 0), .int .i64 op', .ptr pl 0]) :: (pl, opsH us v') :: (r, dqC (q0P cap (wu n))) :: (acc' ++ σ)) := by
  subst ho
  have e1 : begK i n = 1 := (if_neg h1).trans (if_pos h2)
  have e2 : begN i n = n := (if_neg h1).trans (if_pos h2)
  exact ⟨r, v', acc', by rw [flat_snoc, e1, e2]; exact h, rfl, by rw [e1, e2]; rfl⟩
theorem begEndC (ho : op' = (L.length : Int)) (h : Acc 6 (L.length + 1) v' acc' (L.flatMap opC ++ opC ⟨i, 2, 0, wr (us + 1), 0, false⟩)) (h1 : ¬ 0 < i) (h2 : ¬ 1 ≤ n) : BegPost i w pl cap n t us L σ (.tup []) ((w, [.int .i64 i, .int .i64 0, .int .i64 cap, .fsl (.int .i64) t, .iface 168 (.ptr r 0), .int .i64 op', .ptr pl 0]) :: (pl, opsH us v') :: (r, dqC (q0P cap 0)) :: (acc' ++ σ)) := by
  subst ho
  have e1 : begK i n = 2 := (if_neg h1).trans (if_neg h2)
  have e2 : begN i n = 0 := (if_neg h1).trans (if_neg h2)
  exact ⟨r, v', acc', by rw [flat_snoc, e1, e2]; exact h, rfl, by rw [e1, e2]; rfl⟩
end
theorem Acc.cells {e k : Nat} {v : AV} {acc : Hp} {cs : List AV} (h : Acc e k v acc cs) : v.cells? = some [v] := by cases h <;> rfl
theorem ops_put {i : TI} {us e k : Nat} {v v' : AV} {acc : Hp} {cs : List AV} (hs : i.size = 1) (h : Acc e k v' acc cs) : writeAs i (opsH us v) (0 + 1) v' = some (opsH us v') := by
  unfold writeAs
  rw [h.cells, hs]; rfl
theorem aBeginP (i w pl : Nat) (cap : Int) (n : Int) (t : List Int) (nv : AV) (op us : Nat) (L : List OpR) (v : AV) (acc σ : Hp) (hacc : Acc 6 L.length v acc (L.flatMap opC)) (hL : L.length ≤ 100000) :
    ACalls Try.prog 106 [.ptr w 0] ((w, wkP i cap pl (n :: t) nv op) :: (pl, opsH us v) :: (acc ++ σ))
      (BegPost i w pl cap n t us L σ) := by
  have etl : (List.take ((((n :: t).length : Nat) : Int).toNat - Int.toNat 1) (List.drop (Int.toNat 1) (n :: t))) = t := List.take_of_length_le (by simp)
  refine okF Try.func106 (by kernel_rfl) ?_
  refine LoadAt.mk 0 _ _ rfl rfl ?_
  refine With.mk rfl ?_
  refine IdxF.mk n (by decide) rfl ?_
  refine LoadAt.mk 0 _ _ rfl rfl ?_
  refine With.mk ⟨by decide, by show (1 : Int) ≤ ((t.length + 1 : Nat) : Int); omega, Int.le_refl _, rfl⟩ ?_
  refine StoreAt.mk 0 _ _ rfl rfl ?_
  refine .meet (S := Nat) (fun b => [(0, .ptr w 0), (2, .int .i64 n), (3, .ptr b 0)]) (fun b => (b, opC ⟨i, 2, 0, wr (us + 1), 0, false⟩) :: (w, wkP i cap pl t nv op) :: (pl, opsH us v) :: (acc ++ σ)) (by kernel_rfl) ?_ ?_
  · refine And.intro ?_ ?_
    · refine LoadAt.mk 0 _ _ rfl rfl ?_
      refine And.intro ?_ ?_
      · refine LoadAt.mk 0 _ _ rfl rfl ?_
        refine And.intro ?_ ?_
        · refine LoadAt.mk 1 _ _ rfl rfl ?_
          intro bl1
          refine StoreAt.mk 0 _ _ rfl rfl ?_
          exact Meet.mk _ ⟨rfl, rfl, rfl, trivial⟩ (shed_eq (congrArg (fun z => (_, opC ⟨i, 2, 0, wr (us + 1), 0, false⟩) :: (w, wkP i cap pl z nv op) :: (pl, opsH us v) :: (acc ++ σ)) etl))
        · intro bl2
          refine LoadAt.mk 2 _ _ rfl rfl ?_
          refine StoreAt.mk 0 _ _ rfl rfl ?_
          exact Meet.mk _ ⟨rfl, rfl, rfl, trivial⟩ (shed_eq (congrArg (fun z => (_, opC ⟨i, 2, 0, wr (us + 1), 0, false⟩) :: (w, wkP i cap pl z nv op) :: (pl, opsH us v) :: (acc ++ σ)) etl))
      · intro bl3
        refine LoadAt.mk 1 _ _ rfl rfl ?_
        refine LoadAt.mk 2 _ _ rfl rfl ?_
        refine StoreAt.mk 0 _ _ rfl rfl ?_
        exact Meet.mk _ ⟨rfl, rfl, rfl, trivial⟩ (shed_eq (congrArg (fun z => (_, opC ⟨i, 2, 0, wr (us + 1), 0, false⟩) :: (w, wkP i cap pl z nv op) :: (pl, opsH us v) :: (acc ++ σ)) etl))
    · refine And.intro ?_ ?_
      · refine LoadAt.mk 0 _ _ rfl rfl ?_
        refine And.intro ?_ ?_
        · refine LoadAt.mk 0 _ _ rfl rfl ?_
          refine And.intro ?_ ?_
          · refine LoadAt.mk 1 _ _ rfl rfl ?_
            intro bl4
            refine StoreAt.mk 0 _ _ rfl rfl ?_
            exact Meet.mk _ ⟨rfl, rfl, rfl, trivial⟩ (shed_eq (congrArg (fun z => (_, opC ⟨i, 2, 0, wr (us + 1), 0, false⟩) :: (w, wkP i cap pl z nv op) :: (pl, opsH us v) :: (acc ++ σ)) etl))
          · intro bl5
            refine LoadAt.mk 2 _ _ rfl rfl ?_
            refine StoreAt.mk 0 _ _ rfl rfl ?_
            exact Meet.mk _ ⟨rfl, rfl, rfl, trivial⟩ (shed_eq (congrArg (fun z => (_, opC ⟨i, 2, 0, wr (us + 1), 0, false⟩) :: (w, wkP i cap pl z nv op) :: (pl, opsH us v) :: (acc ++ σ)) etl))
        · refine And.intro ?_ ?_
          · refine LoadAt.mk 1 _ _ rfl rfl ?_
            refine And.intro ?_ ?_
            · refine LoadAt.mk 0 _ _ rfl rfl ?_
              intro bl6
              refine StoreAt.mk 0 _ _ rfl rfl ?_
              exact Meet.mk _ ⟨rfl, rfl, rfl, trivial⟩ (shed_eq (congrArg (fun z => (_, opC ⟨i, 2, 0, wr (us + 1), 0, false⟩) :: (w, wkP i cap pl z nv op) :: (pl, opsH us v) :: (acc ++ σ)) etl))
            · intro bl7
              refine LoadAt.mk 1 _ _ rfl rfl ?_
              refine StoreAt.mk 0 _ _ rfl rfl ?_
              exact Meet.mk _ ⟨rfl, rfl, rfl, trivial⟩ (shed_eq (congrArg (fun z => (_, opC ⟨i, 2, 0, wr (us + 1), 0, false⟩) :: (w, wkP i cap pl z nv op) :: (pl, opsH us v) :: (acc ++ σ)) etl))
          · intro bl8
            refine LoadAt.mk 1 _ _ rfl rfl ?_
            refine LoadAt.mk 2 _ _ rfl rfl ?_
            refine StoreAt.mk 0 _ _ rfl rfl ?_
            exact Meet.mk _ ⟨rfl, rfl, rfl, trivial⟩ (shed_eq (congrArg (fun z => (_, opC ⟨i, 2, 0, wr (us + 1), 0, false⟩) :: (w, wkP i cap pl z nv op) :: (pl, opsH us v) :: (acc ++ σ)) etl))
      · intro bl9
        refine LoadAt.mk 1 _ _ rfl rfl ?_
        refine LoadAt.mk 1 _ _ rfl rfl ?_
        refine LoadAt.mk 2 _ _ rfl rfl ?_
        refine StoreAt.mk 0 _ _ rfl rfl ?_
        exact Meet.mk _ ⟨rfl, rfl, rfl, trivial⟩ (shed_eq (congrArg (fun z => (_, opC ⟨i, 2, 0, wr (us + 1), 0, false⟩) :: (w, wkP i cap pl z nv op) :: (pl, opsH us v) :: (acc ++ σ)) etl))
  intro bo g
  rcases acc_split hacc with ⟨hL0, rfl, rfl⟩ | ⟨b, rfl, rfl⟩
  · refine LoadAt.mk 1 _ _ rfl rfl ?_
    refine bcond_dec (fun c1 => ?_) (fun c1 => ?_)
    · have c1 : 0 < (↑i : Int) := c1
      refine StoreAt.mk 0 _ _ rfl rfl ?_
      refine LoadAt.mk 1 _ _ rfl rfl ?_
      intro bm
      refine StoreAt.mk 2 _ _ rfl rfl ?_
      refine LoadAt.mk 2 _ _ rfl rfl ?_
      refine LoadAt.mk 3 _ _ rfl rfl ?_
      refine StoreAt.mk 2 _ _ rfl rfl ?_
      refine .sched [] (.one 0 false (.one 1 false (.one 2 false (.one 4 false (.one 5 false (.one 6 false (.one 11 false (.alt 3 (.alt 7 (.one 8 false (.one 9 false (.alt 10 (.one 12 false (.one 13 false (.one 14 false (.one 15 false (.one 16 false .stop))))) (.one 12 false (.one 10 false (.one 13 false (.one 14 false (.one 15 false (.one 16 false .stop))))))))) (.one 12 false (.one 7 false (.one 8 false (.one 9 false (.one 10 false (.one 13 false (.one 14 false (.one 15 false (.one 16 false .stop)))))))))) (.alt 7 (.one 8 false (.one 9 false (.alt 3 (.alt 10 (.one 12 false (.one 13 false (.one 14 false (.one 15 false (.one 16 false .stop))))) (.one 12 false (.one 10 false (.one 13 false (.one 14 false (.one 15 false (.one 16 false .stop))))))) (.alt 10 (.alt 3 (.one 12 false (.one 13 false (.one 14 false (.one 15 false (.one 16 false .stop))))) (.one 12 false (.alt 3 (.one 13 false (.one 14 false (.one 15 false (.one 16 false .stop)))) (.one 13 false (.one 3 false (.one 14 false (.one 15 false (.one 16 false .stop)))))))) (.one 12 false (.one 10 false (.alt 3 (.one 13 false (.one 14 false (.one 15 false (.one 16 false .stop)))) (.one 13 false (.one 3 false (.one 14 false (.one 15 false (.one 16 false .stop)))))))))))) (.one 12 false (.one 7 false (.one 8 false (.one 9 false (.one 10 false (.alt 3 (.one 13 false (.one 14 false (.one 15 false (.one 16 false .stop)))) (.one 13 false (.one 3 false (.one 14 false (.one 15 false (.one 16 false .stop)))))))))))))))))))) (by kernel_rfl) ?_
      refine LoadAt.mk 1 _ _ rfl rfl ?_
      refine And.intro ?_ ?_
      · refine LoadAt.mk 2 _ _ rfl rfl ?_
        refine And.intro ?_ ?_
        · refine LoadAt.mk 2 _ _ rfl rfl ?_
          refine And.intro ?_ ?_
          · refine LoadAt.mk 3 _ _ rfl rfl ?_
            intro bl1
            refine append_accV (i := _) (k := L.length) (acc := []) (σ := σ) [_, _, _, _, _] hacc (.mref 0 _ 0 1 _ rfl (Nat.le_of_ble_eq_true rfl)) rfl (by omega) (by decide) (by decide) (fun v' acc' h' => ?_)
            refine StoreAt.mk 4 _ _ rfl (ops_put rfl h') ?_
            exact .drop 0 1 (.drop 1 1 (.pull [2, 2] (.done (begEndA (w := w) (pl := pl) (cap := cap) (t := t) (σ := σ) (r := bm) (by omega) h' (by omega)))))
          · intro bl2
            refine LoadAt.mk 4 _ _ rfl rfl ?_
            refine append_accV (i := _) (k := L.length) (acc := []) (σ := σ) [_, _, _, _, _] hacc (.mref 0 _ 0 1 _ rfl (Nat.le_of_ble_eq_true rfl)) rfl (by omega) (by decide) (by decide) (fun v' acc' h' => ?_)
            refine StoreAt.mk 4 _ _ rfl (ops_put rfl h') ?_
            exact .drop 0 1 (.drop 1 1 (.pull [2, 2] (.done (begEndA (w := w) (pl := pl) (cap := cap) (t := t) (σ := σ) (r := bm) (by omega) h' (by omega)))))
        · intro bl3
          refine LoadAt.mk 3 _ _ rfl rfl ?_
          refine LoadAt.mk 4 _ _ rfl rfl ?_
          refine append_accV (i := _) (k := L.length) (acc := []) (σ := σ) [_, _, _, _, _] hacc (.mref 0 _ 0 1 _ rfl (Nat.le_of_ble_eq_true rfl)) rfl (by omega) (by decide) (by decide) (fun v' acc' h' => ?_)
          refine StoreAt.mk 4 _ _ rfl (ops_put rfl h') ?_
          exact .drop 0 1 (.drop 1 1 (.pull [2, 2] (.done (begEndA (w := w) (pl := pl) (cap := cap) (t := t) (σ := σ) (r := bm) (by omega) h' (by omega)))))
      · refine And.intro ?_ ?_
        · refine LoadAt.mk 2 _ _ rfl rfl ?_
          refine And.intro ?_ ?_
          · refine LoadAt.mk 2 _ _ rfl rfl ?_
            refine And.intro ?_ ?_
            · refine LoadAt.mk 3 _ _ rfl rfl ?_
              intro bl4
              refine append_accV (i := _) (k := L.length) (acc := []) (σ := σ) [_, _, _, _, _] hacc (.mref 0 _ 0 1 _ rfl (Nat.le_of_ble_eq_true rfl)) rfl (by omega) (by decide) (by decide) (fun v' acc' h' => ?_)
              refine StoreAt.mk 4 _ _ rfl (ops_put rfl h') ?_
              exact .drop 0 1 (.drop 1 1 (.pull [2, 2] (.done (begEndA (w := w) (pl := pl) (cap := cap) (t := t) (σ := σ) (r := bm) (by omega) h' (by omega)))))
            · intro bl5
              refine LoadAt.mk 4 _ _ rfl rfl ?_
              refine append_accV (i := _) (k := L.length) (acc := []) (σ := σ) [_, _, _, _, _] hacc (.mref 0 _ 0 1 _ rfl (Nat.le_of_ble_eq_true rfl)) rfl (by omega) (by decide) (by decide) (fun v' acc' h' => ?_)
              refine StoreAt.mk 4 _ _ rfl (ops_put rfl h') ?_
              exact .drop 0 1 (.drop 1 1 (.pull [2, 2] (.done (begEndA (w := w) (pl := pl) (cap := cap) (t := t) (σ := σ) (r := bm) (by omega) h' (by omega)))))
          · refine And.intro ?_ ?_
            · refine LoadAt.mk 3 _ _ rfl rfl ?_
              refine And.intro ?_ ?_
              · refine LoadAt.mk 2 _ _ rfl rfl ?_
                intro bl6
                refine append_accV (i := _) (k := L.length) (acc := []) (σ := σ) [_, _, _, _, _] hacc (.mref 0 _ 0 1 _ rfl (Nat.le_of_ble_eq_true rfl)) rfl (by omega) (by decide) (by decide) (fun v' acc' h' => ?_)
                refine StoreAt.mk 4 _ _ rfl (ops_put rfl h') ?_
                exact .drop 0 1 (.drop 1 1 (.pull [2, 2] (.done (begEndA (w := w) (pl := pl) (cap := cap) (t := t) (σ := σ) (r := bm) (by omega) h' (by omega)))))
              · intro bl7
                refine And.intro ?_ ?_
                · refine LoadAt.mk 3 _ _ rfl rfl ?_
                  refine append_accV (i := _) (k := L.length) (acc := []) (σ := σ) [_, _, _, _, _] hacc (.mref 0 _ 0 1 _ rfl (Nat.le_of_ble_eq_true rfl)) rfl (by omega) (by decide) (by decide) (fun v' acc' h' => ?_)
                  refine StoreAt.mk 4 _ _ rfl (ops_put rfl h') ?_
                  exact .drop 0 1 (.drop 1 1 (.pull [2, 2] (.done (begEndA (w := w) (pl := pl) (cap := cap) (t := t) (σ := σ) (r := bm) (by omega) h' (by omega)))))
                · refine append_accV (i := _) (k := L.length) (acc := []) (σ := σ) [_, _, _, _, _] hacc (.mref 0 _ 0 1 _ rfl (Nat.le_of_ble_eq_true rfl)) rfl (by omega) (by decide) (by decide) (fun v' acc' h' => ?_)
                  refine LoadAt.mk 3 _ _ rfl rfl ?_
                  refine StoreAt.mk 4 _ _ rfl (ops_put rfl h') ?_
                  exact .drop 0 1 (.drop 1 1 (.pull [2, 2] (.done (begEndA (w := w) (pl := pl) (cap := cap) (t := t) (σ := σ) (r := bm) (by omega) h' (by omega)))))
            · intro bl8
              refine LoadAt.mk 4 _ _ rfl rfl ?_
              refine And.intro ?_ ?_
              · refine LoadAt.mk 3 _ _ rfl rfl ?_
                refine append_accV (i := _) (k := L.length) (acc := []) (σ := σ) [_, _, _, _, _] hacc (.mref 0 _ 0 1 _ rfl (Nat.le_of_ble_eq_true rfl)) rfl (by omega) (by decide) (by decide) (fun v' acc' h' => ?_)
                refine StoreAt.mk 4 _ _ rfl (ops_put rfl h') ?_
                exact .drop 0 1 (.drop 1 1 (.pull [2, 2] (.done (begEndA (w := w) (pl := pl) (cap := cap) (t := t) (σ := σ) (r := bm) (by omega) h' (by omega)))))
              · refine append_accV (i := _) (k := L.length) (acc := []) (σ := σ) [_, _, _, _, _] hacc (.mref 0 _ 0 1 _ rfl (Nat.le_of_ble_eq_true rfl)) rfl (by omega) (by decide) (by decide) (fun v' acc' h' => ?_)
                refine LoadAt.mk 3 _ _ rfl rfl ?_
                refine StoreAt.mk 4 _ _ rfl (ops_put rfl h') ?_
                exact .drop 0 1 (.drop 1 1 (.pull [2, 2] (.done (begEndA (w := w) (pl := pl) (cap := cap) (t := t) (σ := σ) (r := bm) (by omega) h' (by omega)))))
        · intro bl9
          refine LoadAt.mk 3 _ _ rfl rfl ?_
          refine LoadAt.mk 4 _ _ rfl rfl ?_
          refine And.intro ?_ ?_
          · refine LoadAt.mk 3 _ _ rfl rfl ?_
            refine append_accV (i := _) (k := L.length) (acc := []) (σ := σ) [_, _, _, _, _] hacc (.mref 0 _ 0 1 _ rfl (Nat.le_of_ble_eq_true rfl)) rfl (by omega) (by decide) (by decide) (fun v' acc' h' => ?_)
            refine StoreAt.mk 4 _ _ rfl (ops_put rfl h') ?_
            exact .drop 0 1 (.drop 1 1 (.pull [2, 2] (.done (begEndA (w := w) (pl := pl) (cap := cap) (t := t) (σ := σ) (r := bm) (by omega) h' (by omega)))))
          · refine append_accV (i := _) (k := L.length) (acc := []) (σ := σ) [_, _, _, _, _] hacc (.mref 0 _ 0 1 _ rfl (Nat.le_of_ble_eq_true rfl)) rfl (by omega) (by decide) (by decide) (fun v' acc' h' => ?_)
            refine LoadAt.mk 3 _ _ rfl rfl ?_
            refine StoreAt.mk 4 _ _ rfl (ops_put rfl h') ?_
            exact .drop 0 1 (.drop 1 1 (.pull [2, 2] (.done (begEndA (w := w) (pl := pl) (cap := cap) (t := t) (σ := σ) (r := bm) (by omega) h' (by omega)))))
    · have c1 : ¬ (0 < (↑i : Int)) := c1
      refine bcond_dec (fun c3 => ?_) (fun c3 => ?_)
      · have c3 : 1 ≤ n := c3
        refine StoreAt.mk 0 _ _ rfl rfl ?_
        refine StoreAt.mk 0 _ _ rfl rfl ?_
        refine LoadAt.mk 1 _ _ rfl rfl ?_
        intro bm
        refine StoreAt.mk 2 _ _ rfl rfl ?_
        refine LoadAt.mk 2 _ _ rfl rfl ?_
        refine LoadAt.mk 3 _ _ rfl rfl ?_
        refine StoreAt.mk 2 _ _ rfl rfl ?_
        refine .sched [] (.one 0 false (.one 1 false (.one 2 false (.one 4 false (.one 5 false (.one 6 false (.one 11 false (.alt 3 (.alt 7 (.one 8 false (.one 9 false (.alt 10 (.one 12 false (.one 13 false (.one 14 false (.one 15 false (.one 16 false .stop))))) (.one 12 false (.one 10 false (.one 13 false (.one 14 false (.one 15 false (.one 16 false .stop))))))))) (.one 12 false (.one 7 false (.one 8 false (.one 9 false (.one 10 false (.one 13 false (.one 14 false (.one 15 false (.one 16 false .stop)))))))))) (.alt 7 (.one 8 false (.one 9 false (.alt 3 (.alt 10 (.one 12 false (.one 13 false (.one 14 false (.one 15 false (.one 16 false .stop))))) (.one 12 false (.one 10 false (.one 13 false (.one 14 false (.one 15 false (.one 16 false .stop))))))) (.alt 10 (.alt 3 (.one 12 false (.one 13 false (.one 14 false (.one 15 false (.one 16 false .stop))))) (.one 12 false (.alt 3 (.one 13 false (.one 14 false (.one 15 false (.one 16 false .stop)))) (.one 13 false (.one 3 false (.one 14 false (.one 15 false (.one 16 false .stop)))))))) (.one 12 false (.one 10 false (.alt 3 (.one 13 false (.one 14 false (.one 15 false (.one 16 false .stop)))) (.one 13 false (.one 3 false (.one 14 false (.one 15 false (.one 16 false .stop)))))))))))) (.one 12 false (.one 7 false (.one 8 false (.one 9 false (.one 10 false (.alt 3 (.one 13 false (.one 14 false (.one 15 false (.one 16 false .stop)))) (.one 13 false (.one 3 false (.one 14 false (.one 15 false (.one 16 false .stop)))))))))))))))))))) (by kernel_rfl) ?_
        refine LoadAt.mk 1 _ _ rfl rfl ?_
        refine And.intro ?_ ?_
        · refine LoadAt.mk 2 _ _ rfl rfl ?_
          refine And.intro ?_ ?_
          · refine LoadAt.mk 2 _ _ rfl rfl ?_
            refine And.intro ?_ ?_
            · refine LoadAt.mk 3 _ _ rfl rfl ?_
              intro bl1
              refine append_accV (i := _) (k := L.length) (acc := []) (σ := σ) [_, _, _, _, _] hacc (.mref 0 _ 0 1 _ rfl (Nat.le_of_ble_eq_true rfl)) rfl (by omega) (by decide) (by decide) (fun v' acc' h' => ?_)
              refine StoreAt.mk 4 _ _ rfl (ops_put rfl h') ?_
              exact .drop 0 1 (.drop 1 1 (.pull [2, 2] (.done (begEndB (w := w) (pl := pl) (cap := cap) (t := t) (σ := σ) (r := bm) (by omega) h' (by omega) c3))))
            · intro bl2
              refine LoadAt.mk 4 _ _ rfl rfl ?_
              refine append_accV (i := _) (k := L.length) (acc := []) (σ := σ) [_, _, _, _, _] hacc (.mref 0 _ 0 1 _ rfl (Nat.le_of_ble_eq_true rfl)) rfl (by omega) (by decide) (by decide) (fun v' acc' h' => ?_)
              refine StoreAt.mk 4 _ _ rfl (ops_put rfl h') ?_
              exact .drop 0 1 (.drop 1 1 (.pull [2, 2] (.done (begEndB (w := w) (pl := pl) (cap := cap) (t := t) (σ := σ) (r := bm) (by omega) h' (by omega) c3))))
          · intro bl3
            refine LoadAt.mk 3 _ _ rfl rfl ?_
            refine LoadAt.mk 4 _ _ rfl rfl ?_
            refine append_accV (i := _) (k := L.length) (acc := []) (σ := σ) [_, _, _, _, _] hacc (.mref 0 _ 0 1 _ rfl (Nat.le_of_ble_eq_true rfl)) rfl (by omega) (by decide) (by decide) (fun v' acc' h' => ?_)
            refine StoreAt.mk 4 _ _ rfl (ops_put rfl h') ?_
            exact .drop 0 1 (.drop 1 1 (.pull [2, 2] (.done (begEndB (w := w) (pl := pl) (cap := cap) (t := t) (σ := σ) (r := bm) (by omega) h' (by omega) c3))))
        · refine And.intro ?_ ?_
          · refine LoadAt.mk 2 _ _ rfl rfl ?_
            refine And.intro ?_ ?_
            · refine LoadAt.mk 2 _ _ rfl rfl ?_
              refine And.intro ?_ ?_
              · refine LoadAt.mk 3 _ _ rfl rfl ?_
                intro bl4
                refine append_accV (i := _) (k := L.length) (acc := []) (σ := σ) [_, _, _, _, _] hacc (.mref 0 _ 0 1 _ rfl (Nat.le_of_ble_eq_true rfl)) rfl (by omega) (by decide) (by decide) (fun v' acc' h' => ?_)
                refine StoreAt.mk 4 _ _ rfl (ops_put rfl h') ?_
                exact .drop 0 1 (.drop 1 1 (.pull [2, 2] (.done (begEndB (w := w) (pl := pl) (cap := cap) (t := t) (σ := σ) (r := bm) (by omega) h' (by omega) c3))))
              · intro bl5
                refine LoadAt.mk 4 _ _ rfl rfl ?_
                refine append_accV (i := _) (k := L.length) (acc := []) (σ := σ) [_, _, _, _, _] hacc (.mref 0 _ 0 1 _ rfl (Nat.le_of_ble_eq_true rfl)) rfl (by omega) (by decide) (by decide) (fun v' acc' h' => ?_)
                refine StoreAt.mk 4 _ _ rfl (ops_put rfl h') ?_
                exact .drop 0 1 (.drop 1 1 (.pull [2, 2] (.done (begEndB (w := w) (pl := pl) (cap := cap) (t := t) (σ := σ) (r := bm) (by omega) h' (by omega) c3))))
            · refine And.intro ?_ ?_
              · refine LoadAt.mk 3 _ _ rfl rfl ?_
                refine And.intro ?_ ?_
                · refine LoadAt.mk 2 _ _ rfl rfl ?_
                  intro bl6
                  refine append_accV (i := _) (k := L.length) (acc := []) (σ := σ) [_, _, _, _, _] hacc (.mref 0 _ 0 1 _ rfl (Nat.le_of_ble_eq_true rfl)) rfl (by omega) (by decide) (by decide) (fun v' acc' h' => ?_)
                  refine StoreAt.mk 4 _ _ rfl (ops_put rfl h') ?_
                  exact .drop 0 1 (.drop 1 1 (.pull [2, 2] (.done (begEndB (w := w) (pl := pl) (cap := cap) (t := t) (σ := σ) (r := bm) (by omega) h' (by omega) c3))))
                · intro bl7
                  refine And.intro ?_ ?_
                  · refine LoadAt.mk 3 _ _ rfl rfl ?_
                    refine append_accV (i := _) (k := L.length) (acc := []) (σ := σ) [_, _, _, _, _] hacc (.mref 0 _ 0 1 _ rfl (Nat.le_of_ble_eq_true rfl)) rfl (by omega) (by decide) (by decide) (fun v' acc' h' => ?_)
                    refine StoreAt.mk 4 _ _ rfl (ops_put rfl h') ?_
                    exact .drop 0 1 (.drop 1 1 (.pull [2, 2] (.done (begEndB (w := w) (pl := pl) (cap := cap) (t := t) (σ := σ) (r := bm) (by omega) h' (by omega) c3))))
                  · refine append_accV (i := _) (k := L.length) (acc := []) (σ := σ) [_, _, _, _, _] hacc (.mref 0 _ 0 1 _ rfl (Nat.le_of_ble_eq_true rfl)) rfl (by omega) (by decide) (by decide) (fun v' acc' h' => ?_)
                    refine LoadAt.mk 3 _ _ rfl rfl ?_
                    refine StoreAt.mk 4 _ _ rfl (ops_put rfl h') ?_
                    exact .drop 0 1 (.drop 1 1 (.pull [2, 2] (.done (begEndB (w := w) (pl := pl) (cap := cap) (t := t) (σ := σ) (r := bm) (by omega) h' (by omega) c3))))
              · intro bl8
                refine LoadAt.mk 4 _ _ rfl rfl ?_
                refine And.intro ?_ ?_
                · refine LoadAt.mk 3 _ _ rfl rfl ?_
                  refine append_accV (i := _) (k := L.length) (acc := []) (σ := σ) [_, _, _, _, _] hacc (.mref 0 _ 0 1 _ rfl (Nat.le_of_ble_eq_true rfl)) rfl (by omega) (by decide) (by decide) (fun v' acc' h' => ?_)
                  refine StoreAt.mk 4 _ _ rfl (ops_put rfl h') ?_
                  exact .drop 0 1 (.drop 1 1 (.pull [2, 2] (.done (begEndB (w := w) (pl := pl) (cap := cap) (t := t) (σ := σ) (r := bm) (by omega) h' (by omega) c3))))
                · refine append_accV (i := _) (k := L.length) (acc := []) (σ := σ) [_, _, _, _, _] hacc (.mref 0 _ 0 1 _ rfl (Nat.le_of_ble_eq_true rfl)) rfl (by omega) (by decide) (by decide) (fun v' acc' h' => ?_)
                  refine LoadAt.mk 3 _ _ rfl rfl ?_
                  refine StoreAt.mk 4 _ _ rfl (ops_put rfl h') ?_
                  exact .drop 0 1 (.drop 1 1 (.pull [2, 2] (.done (begEndB (w := w) (pl := pl) (cap := cap) (t := t) (σ := σ) (r := bm) (by omega) h' (by omega) c3))))
          · intro bl9
            refine LoadAt.mk 3 _ _ rfl rfl ?_
            refine LoadAt.mk 4 _ _ rfl rfl ?_
            refine And.intro ?_ ?_
            · refine LoadAt.mk 3 _ _ rfl rfl ?_
              refine append_accV (i := _) (k := L.length) (acc := []) (σ := σ) [_, _, _, _, _] hacc (.mref 0 _ 0 1 _ rfl (Nat.le_of_ble_eq_true rfl)) rfl (by omega) (by decide) (by decide) (fun v' acc' h' => ?_)
              refine StoreAt.mk 4 _ _ rfl (ops_put rfl h') ?_
              exact .drop 0 1 (.drop 1 1 (.pull [2, 2] (.done (begEndB (w := w) (pl := pl) (cap := cap) (t := t) (σ := σ) (r := bm) (by omega) h' (by omega) c3))))
            · refine append_accV (i := _) (k := L.length) (acc := []) (σ := σ) [_, _, _, _, _] hacc (.mref 0 _ 0 1 _ rfl (Nat.le_of_ble_eq_true rfl)) rfl (by omega) (by decide) (by decide) (fun v' acc' h' => ?_)
              refine LoadAt.mk 3 _ _ rfl rfl ?_
              refine StoreAt.mk 4 _ _ rfl (ops_put rfl h') ?_
              exact .drop 0 1 (.drop 1 1 (.pull [2, 2] (.done (begEndB (w := w) (pl := pl) (cap := cap) (t := t) (σ := σ) (r := bm) (by omega) h' (by omega) c3))))
      · have c3 : ¬ (1 ≤ n) := c3
        refine LoadAt.mk 1 _ _ rfl rfl ?_
        intro bm
        refine StoreAt.mk 2 _ _ rfl rfl ?_
        refine LoadAt.mk 2 _ _ rfl rfl ?_
        refine LoadAt.mk 3 _ _ rfl rfl ?_
        refine StoreAt.mk 2 _ _ rfl rfl ?_
        refine .sched [] (.one 0 false (.one 1 false (.one 2 false (.one 4 false (.one 5 false (.one 6 false (.one 11 false (.alt 3 (.alt 7 (.one 8 false (.one 9 false (.alt 10 (.one 12 false (.one 13 false (.one 14 false (.one 15 false (.one 16 false .stop))))) (.one 12 false (.one 10 false (.one 13 false (.one 14 false (.one 15 false (.one 16 false .stop))))))))) (.one 12 false (.one 7 false (.one 8 false (.one 9 false (.one 10 false (.one 13 false (.one 14 false (.one 15 false (.one 16 false .stop)))))))))) (.alt 7 (.one 8 false (.one 9 false (.alt 3 (.alt 10 (.one 12 false (.one 13 false (.one 14 false (.one 15 false (.one 16 false .stop))))) (.one 12 false (.one 10 false (.one 13 false (.one 14 false (.one 15 false (.one 16 false .stop))))))) (.alt 10 (.alt 3 (.one 12 false (.one 13 false (.one 14 false (.one 15 false (.one 16 false .stop))))) (.one 12 false (.alt 3 (.one 13 false (.one 14 false (.one 15 false (.one 16 false .stop)))) (.one 13 false (.one 3 false (.one 14 false (.one 15 false (.one 16 false .stop)))))))) (.one 12 false (.one 10 false (.alt 3 (.one 13 false (.one 14 false (.one 15 false (.one 16 false .stop)))) (.one 13 false (.one 3 false (.one 14 false (.one 15 false (.one 16 false .stop)))))))))))) (.one 12 false (.one 7 false (.one 8 false (.one 9 false (.one 10 false (.alt 3 (.one 13 false (.one 14 false (.one 15 false (.one 16 false .stop)))) (.one 13 false (.one 3 false (.one 14 false (.one 15 false (.one 16 false .stop)))))))))))))))))))) (by kernel_rfl) ?_
        refine LoadAt.mk 1 _ _ rfl rfl ?_
        refine And.intro ?_ ?_
        · refine LoadAt.mk 2 _ _ rfl rfl ?_
          refine And.intro ?_ ?_
          · refine LoadAt.mk 2 _ _ rfl rfl ?_
            refine And.intro ?_ ?_
            · refine LoadAt.mk 3 _ _ rfl rfl ?_
              intro bl1
              refine append_accV (i := _) (k := L.length) (acc := []) (σ := σ) [_, _, _, _, _] hacc (.mref 0 _ 0 1 _ rfl (Nat.le_of_ble_eq_true rfl)) rfl (by omega) (by decide) (by decide) (fun v' acc' h' => ?_)
              refine StoreAt.mk 4 _ _ rfl (ops_put rfl h') ?_
              exact .drop 0 1 (.drop 1 1 (.pull [2, 2] (.done (begEndC (w := w) (pl := pl) (cap := cap) (t := t) (σ := σ) (r := bm) (by omega) h' (by omega) c3))))
            · intro bl2
              refine LoadAt.mk 4 _ _ rfl rfl ?_
              refine append_accV (i := _) (k := L.length) (acc := []) (σ := σ) [_, _, _, _, _] hacc (.mref 0 _ 0 1 _ rfl (Nat.le_of_ble_eq_true rfl)) rfl (by omega) (by decide) (by decide) (fun v' acc' h' => ?_)
              refine StoreAt.mk 4 _ _ rfl (ops_put rfl h') ?_
              exact .drop 0 1 (.drop 1 1 (.pull [2, 2] (.done (begEndC (w := w) (pl := pl) (cap := cap) (t := t) (σ := σ) (r := bm) (by omega) h' (by omega) c3))))
          · intro bl3
            refine LoadAt.mk 3 _ _ rfl rfl ?_
            refine LoadAt.mk 4 _ _ rfl rfl ?_
            refine append_accV (i := _) (k := L.length) (acc := []) (σ := σ) [_, _, _, _, _] hacc (.mref 0 _ 0 1 _ rfl (Nat.le_of_ble_eq_true rfl)) rfl (by omega) (by decide) (by decide) (fun v' acc' h' => ?_)
            refine StoreAt.mk 4 _ _ rfl (ops_put rfl h') ?_
            exact .drop 0 1 (.drop 1 1 (.pull [2, 2] (.done (begEndC (w := w) (pl := pl) (cap := cap) (t := t) (σ := σ) (r := bm) (by omega) h' (by omega) c3))))
        · refine And.intro ?_ ?_
          · refine LoadAt.mk 2 _ _ rfl rfl ?_
            refine And.intro ?_ ?_
            · refine LoadAt.mk 2 _ _ rfl rfl ?_
              refine And.intro ?_ ?_
              · refine LoadAt.mk 3 _ _ rfl rfl ?_
                intro bl4
                refine append_accV (i := _) (k := L.length) (acc := []) (σ := σ) [_, _, _, _, _] hacc (.mref 0 _ 0 1 _ rfl (Nat.le_of_ble_eq_true rfl)) rfl (by omega) (by decide) (by decide) (fun v' acc' h' => ?_)
                refine StoreAt.mk 4 _ _ rfl (ops_put rfl h') ?_
                exact .drop 0 1 (.drop 1 1 (.pull [2, 2] (.done (begEndC (w := w) (pl := pl) (cap := cap) (t := t) (σ := σ) (r := bm) (by omega) h' (by omega) c3))))
              · intro bl5
                refine LoadAt.mk 4 _ _ rfl rfl ?_
                refine append_accV (i := _) (k := L.length) (acc := []) (σ := σ) [_, _, _, _, _] hacc (.mref 0 _ 0 1 _ rfl (Nat.le_of_ble_eq_true rfl)) rfl (by omega) (by decide) (by decide) (fun v' acc' h' => ?_)
                refine StoreAt.mk 4 _ _ rfl (ops_put rfl h') ?_
                exact .drop 0 1 (.drop 1 1 (.pull [2, 2] (.done (begEndC (w := w) (pl := pl) (cap := cap) (t := t) (σ := σ) (r := bm) (by omega) h' (by omega) c3))))
            · refine And.intro ?_ ?_
              · refine LoadAt.mk 3 _ _ rfl rfl ?_
                refine And.intro ?_ ?_
                · refine LoadAt.mk 2 _ _ rfl rfl ?_
                  intro bl6
                  refine append_accV (i := _) (k := L.length) (acc := []) (σ := σ) [_, _, _, _, _] hacc (.mref 0 _ 0 1 _ rfl (Nat.le_of_ble_eq_true rfl)) rfl (by omega) (by decide) (by decide) (fun v' acc' h' => ?_)
                  refine StoreAt.mk 4 _ _ rfl (ops_put rfl h') ?_
                  exact .drop 0 1 (.drop 1 1 (.pull [2, 2] (.done (begEndC (w := w) (pl := pl) (cap := cap) (t := t) (σ := σ) (r := bm) (by omega) h' (by omega) c3))))
                · intro bl7
                  refine And.intro ?_ ?_
                  · refine LoadAt.mk 3 _ _ rfl rfl ?_
                    refine append_accV (i := _) (k := L.length) (acc := []) (σ := σ) [_, _, _, _, _] hacc (.mref 0 _ 0 1 _ rfl (Nat.le_of_ble_eq_true rfl)) rfl (by omega) (by decide) (by decide) (fun v' acc' h' => ?_)
                    refine StoreAt.mk 4 _ _ rfl (ops_put rfl h') ?_
                    exact .drop 0 1 (.drop 1 1 (.pull [2, 2] (.done (begEndC (w := w) (pl := pl) (cap := cap) (t := t) (σ := σ) (r := bm) (by omega) h' (by omega) c3))))
                  · refine append_accV (i := _) (k := L.length) (acc := []) (σ := σ) [_, _, _, _, _] hacc (.mref 0 _ 0 1 _ rfl (Nat.le_of_ble_eq_true rfl)) rfl (by omega) (by decide) (by decide) (fun v' acc' h' => ?_)
                    refine LoadAt.mk 3 _ _ rfl rfl ?_
                    refine StoreAt.mk 4 _ _ rfl (ops_put rfl h') ?_
                    exact .drop 0 1 (.drop 1 1 (.pull [2, 2] (.done (begEndC (w := w) (pl := pl) (cap := cap) (t := t) (σ := σ) (r := bm) (by omega) h' (by omega) c3))))
              · intro bl8
                refine LoadAt.mk 4 _ _ rfl rfl ?_
                refine And.intro ?_ ?_
                · refine LoadAt.mk 3 _ _ rfl rfl ?_
                  refine append_accV (i := _) (k := L.length) (acc := []) (σ := σ) [_, _, _, _, _] hacc (.mref 0 _ 0 1 _ rfl (Nat.le_of_ble_eq_true rfl)) rfl (by omega) (by decide) (by decide) (fun v' acc' h' => ?_)
                  refine StoreAt.mk 4 _ _ rfl (ops_put rfl h') ?_
                  exact .drop 0 1 (.drop 1 1 (.pull [2, 2] (.done (begEndC (w := w) (pl := pl) (cap := cap) (t := t) (σ := σ) (r := bm) (by omega) h' (by omega) c3))))
                · refine append_accV (i := _) (k := L.length) (acc := []) (σ := σ) [_, _, _, _, _] hacc (.mref 0 _ 0 1 _ rfl (Nat.le_of_ble_eq_true rfl)) rfl (by omega) (by decide) (by decide) (fun v' acc' h' => ?_)
                  refine LoadAt.mk 3 _ _ rfl rfl ?_
                  refine StoreAt.mk 4 _ _ rfl (ops_put rfl h') ?_
                  exact .drop 0 1 (.drop 1 1 (.pull [2, 2] (.done (begEndC (w := w) (pl := pl) (cap := cap) (t := t) (σ := σ) (r := bm) (by omega) h' (by omega) c3))))
          · intro bl9
            refine LoadAt.mk 3 _ _ rfl rfl ?_
            refine LoadAt.mk 4 _ _ rfl rfl ?_
            refine And.intro ?_ ?_
            · refine LoadAt.mk 3 _ _ rfl rfl ?_
              refine append_accV (i := _) (k := L.length) (acc := []) (σ := σ) [_, _, _, _, _] hacc (.mref 0 _ 0 1 _ rfl (Nat.le_of_ble_eq_true rfl)) rfl (by omega) (by decide) (by decide) (fun v' acc' h' => ?_)
              refine StoreAt.mk 4 _ _ rfl (ops_put rfl h') ?_
              exact .drop 0 1 (.drop 1 1 (.pull [2, 2] (.done (begEndC (w := w) (pl := pl) (cap := cap) (t := t) (σ := σ) (r := bm) (by omega) h' (by omega) c3))))
            · refine append_accV (i := _) (k := L.length) (acc := []) (σ := σ) [_, _, _, _, _] hacc (.mref 0 _ 0 1 _ rfl (Nat.le_of_ble_eq_true rfl)) rfl (by omega) (by decide) (by decide) (fun v' acc' h' => ?_)
              refine LoadAt.mk 3 _ _ rfl rfl ?_
              refine StoreAt.mk 4 _ _ rfl (ops_put rfl h') ?_
              exact .drop 0 1 (.drop 1 1 (.pull [2, 2] (.done (begEndC (w := w) (pl := pl) (cap := cap) (t := t) (σ := σ) (r := bm) (by omega) h' (by omega) c3))))
  · refine LoadAt.mk 1 _ _ rfl rfl ?_
    refine bcond_dec (fun c1 => ?_) (fun c1 => ?_)
    · have c1 : 0 < (↑i : Int) := c1
      refine StoreAt.mk 0 _ _ rfl rfl ?_
      refine LoadAt.mk 1 _ _ rfl rfl ?_
      intro bm
      refine StoreAt.mk 2 _ _ rfl rfl ?_
      refine LoadAt.mk 2 _ _ rfl rfl ?_
      refine LoadAt.mk 3 _ _ rfl rfl ?_
      refine StoreAt.mk 2 _ _ rfl rfl ?_
      refine .sched [] (.one 0 false (.one 1 false (.one 2 false (.one 4 false (.one 5 false (.one 6 false (.one 11 false (.alt 3 (.alt 7 (.one 8 false (.one 9 false (.alt 10 (.one 12 false (.one 13 false (.one 14 false (.one 15 false (.one 16 false .stop))))) (.one 12 false (.one 10 false (.one 13 false (.one 14 false (.one 15 false (.one 16 false .stop))))))))) (.one 12 false (.one 7 false (.one 8 false (.one 9 false (.one 10 false (.one 13 false (.one 14 false (.one 15 false (.one 16 false .stop)))))))))) (.alt 7 (.one 8 false (.one 9 false (.alt 3 (.alt 10 (.one 12 false (.one 13 false (.one 14 false (.one 15 false (.one 16 false .stop))))) (.one 12 false (.one 10 false (.one 13 false (.one 14 false (.one 15 false (.one 16 false .stop))))))) (.alt 10 (.alt 3 (.one 12 false (.one 13 false (.one 14 false (.one 15 false (.one 16 false .stop))))) (.one 12 false (.alt 3 (.one 13 false (.one 14 false (.one 15 false (.one 16 false .stop)))) (.one 13 false (.one 3 false (.one 14 false (.one 15 false (.one 16 false .stop)))))))) (.one 12 false (.one 10 false (.alt 3 (.one 13 false (.one 14 false (.one 15 false (.one 16 false .stop)))) (.one 13 false (.one 3 false (.one 14 false (.one 15 false (.one 16 false .stop)))))))))))) (.one 12 false (.one 7 false (.one 8 false (.one 9 false (.one 10 false (.alt 3 (.one 13 false (.one 14 false (.one 15 false (.one 16 false .stop)))) (.one 13 false (.one 3 false (.one 14 false (.one 15 false (.one 16 false .stop)))))))))))))))))))) (by kernel_rfl) ?_
      refine LoadAt.mk 1 _ _ rfl rfl ?_
      refine And.intro ?_ ?_
      · refine LoadAt.mk 2 _ _ rfl rfl ?_
        refine And.intro ?_ ?_
        · refine LoadAt.mk 2 _ _ rfl rfl ?_
          refine And.intro ?_ ?_
          · refine LoadAt.mk 3 _ _ rfl rfl ?_
            intro bl1
            refine append_accV (i := _) (k := L.length) (acc := [(b, L.flatMap opC)]) (σ := σ) [_, _, _, _, _] hacc (.mref 0 _ 0 1 _ rfl (Nat.le_of_ble_eq_true rfl)) rfl (by omega) (by decide) (by decide) (fun v' acc' h' => ?_)
            refine StoreAt.mk 4 _ _ rfl (ops_put rfl h') ?_
            exact .drop 0 1 (.drop 1 1 (.pull [2, 2] (.done (begEndA (w := w) (pl := pl) (cap := cap) (t := t) (σ := σ) (r := bm) rfl h' (by omega)))))
          · intro bl2
            refine LoadAt.mk 4 _ _ rfl rfl ?_
            refine append_accV (i := _) (k := L.length) (acc := [(b, L.flatMap opC)]) (σ := σ) [_, _, _, _, _] hacc (.mref 0 _ 0 1 _ rfl (Nat.le_of_ble_eq_true rfl)) rfl (by omega) (by decide) (by decide) (fun v' acc' h' => ?_)
            refine StoreAt.mk 4 _ _ rfl (ops_put rfl h') ?_
            exact .drop 0 1 (.drop 1 1 (.pull [2, 2] (.done (begEndA (w := w) (pl := pl) (cap := cap) (t := t) (σ := σ) (r := bm) rfl h' (by omega)))))
        · intro bl3
          refine LoadAt.mk 3 _ _ rfl rfl ?_
          refine LoadAt.mk 4 _ _ rfl rfl ?_
          refine append_accV (i := _) (k := L.length) (acc := [(b, L.flatMap opC)]) (σ := σ) [_, _, _, _, _] hacc (.mref 0 _ 0 1 _ rfl (Nat.le_of_ble_eq_true rfl)) rfl (by omega) (by decide) (by decide) (fun v' acc' h' => ?_)
          refine StoreAt.mk 4 _ _ rfl (ops_put rfl h') ?_
          exact .drop 0 1 (.drop 1 1 (.pull [2, 2] (.done (begEndA (w := w) (pl := pl) (cap := cap) (t := t) (σ := σ) (r := bm) rfl h' (by omega)))))
      · refine And.intro ?_ ?_
        · refine LoadAt.mk 2 _ _ rfl rfl ?_
          refine And.intro ?_ ?_
          · refine LoadAt.mk 2 _ _ rfl rfl ?_
            refine And.intro ?_ ?_
            · refine LoadAt.mk 3 _ _ rfl rfl ?_
              intro bl4
              refine append_accV (i := _) (k := L.length) (acc := [(b, L.flatMap opC)]) (σ := σ) [_, _, _, _, _] hacc (.mref 0 _ 0 1 _ rfl (Nat.le_of_ble_eq_true rfl)) rfl (by omega) (by decide) (by decide) (fun v' acc' h' => ?_)
              refine StoreAt.mk 4 _ _ rfl (ops_put rfl h') ?_
              exact .drop 0 1 (.drop 1 1 (.pull [2, 2] (.done (begEndA (w := w) (pl := pl) (cap := cap) (t := t) (σ := σ) (r := bm) rfl h' (by omega)))))
            · intro bl5
              refine LoadAt.mk 4 _ _ rfl rfl ?_
              refine append_accV (i := _) (k := L.length) (acc := [(b, L.flatMap opC)]) (σ := σ) [_, _, _, _, _] hacc (.mref 0 _ 0 1 _ rfl (Nat.le_of_ble_eq_true rfl)) rfl (by omega) (by decide) (by decide) (fun v' acc' h' => ?_)
              refine StoreAt.mk 4 _ _ rfl (ops_put rfl h') ?_
              exact .drop 0 1 (.drop 1 1 (.pull [2, 2] (.done (begEndA (w := w) (pl := pl) (cap := cap) (t := t) (σ := σ) (r := bm) rfl h' (by omega)))))
          · refine And.intro ?_ ?_
            · refine LoadAt.mk 3 _ _ rfl rfl ?_
              refine And.intro ?_ ?_
              · refine LoadAt.mk 2 _ _ rfl rfl ?_
                intro bl6
                refine append_accV (i := _) (k := L.length) (acc := [(b, L.flatMap opC)]) (σ := σ) [_, _, _, _, _] hacc (.mref 0 _ 0 1 _ rfl (Nat.le_of_ble_eq_true rfl)) rfl (by omega) (by decide) (by decide) (fun v' acc' h' => ?_)
                refine StoreAt.mk 4 _ _ rfl (ops_put rfl h') ?_
                exact .drop 0 1 (.drop 1 1 (.pull [2, 2] (.done (begEndA (w := w) (pl := pl) (cap := cap) (t := t) (σ := σ) (r := bm) rfl h' (by omega)))))
              · intro bl7
                refine And.intro ?_ ?_
                · refine LoadAt.mk 3 _ _ rfl rfl ?_
                  refine append_accV (i := _) (k := L.length) (acc := [(b, L.flatMap opC)]) (σ := σ) [_, _, _, _, _] hacc (.mref 0 _ 0 1 _ rfl (Nat.le_of_ble_eq_true rfl)) rfl (by omega) (by decide) (by decide) (fun v' acc' h' => ?_)
                  refine StoreAt.mk 4 _ _ rfl (ops_put rfl h') ?_
                  exact .drop 0 1 (.drop 1 1 (.pull [2, 2] (.done (begEndA (w := w) (pl := pl) (cap := cap) (t := t) (σ := σ) (r := bm) rfl h' (by omega)))))
                · refine append_accV (i := _) (k := L.length) (acc := [(b, L.flatMap opC)]) (σ := σ) [_, _, _, _, _] hacc (.mref 0 _ 0 1 _ rfl (Nat.le_of_ble_eq_true rfl)) rfl (by omega) (by decide) (by decide) (fun v' acc' h' => ?_)
                  refine LoadAt.mk 3 _ _ rfl rfl ?_
                  refine StoreAt.mk 4 _ _ rfl (ops_put rfl h') ?_
                  exact .drop 0 1 (.drop 1 1 (.pull [2, 2] (.done (begEndA (w := w) (pl := pl) (cap := cap) (t := t) (σ := σ) (r := bm) rfl h' (by omega)))))
            · intro bl8
              refine LoadAt.mk 4 _ _ rfl rfl ?_
              refine And.intro ?_ ?_
              · refine LoadAt.mk 3 _ _ rfl rfl ?_
                refine append_accV (i := _) (k := L.length) (acc := [(b, L.flatMap opC)]) (σ := σ) [_, _, _, _, _] hacc (.mref 0 _ 0 1 _ rfl (Nat.le_of_ble_eq_true rfl)) rfl (by omega) (by decide) (by decide) (fun v' acc' h' => ?_)
                refine StoreAt.mk 4 _ _ rfl (ops_put rfl h') ?_
                exact .drop 0 1 (.drop 1 1 (.pull [2, 2] (.done (begEndA (w := w) (pl := pl) (cap := cap) (t := t) (σ := σ) (r := bm) rfl h' (by omega)))))
              · refine append_accV (i := _) (k := L.length) (acc := [(b, L.flatMap opC)]) (σ := σ) [_, _, _, _, _] hacc (.mref 0 _ 0 1 _ rfl (Nat.le_of_ble_eq_true rfl)) rfl (by omega) (by decide) (by decide) (fun v' acc' h' => ?_)
                refine LoadAt.mk 3 _ _ rfl rfl ?_
                refine StoreAt.mk 4 _ _ rfl (ops_put rfl h') ?_
                exact .drop 0 1 (.drop 1 1 (.pull [2, 2] (.done (begEndA (w := w) (pl := pl) (cap := cap) (t := t) (σ := σ) (r := bm) rfl h' (by omega)))))
        · intro bl9
          refine LoadAt.mk 3 _ _ rfl rfl ?_
          refine LoadAt.mk 4 _ _ rfl rfl ?_
          refine And.intro ?_ ?_
          · refine LoadAt.mk 3 _ _ rfl rfl ?_
            refine append_accV (i := _) (k := L.length) (acc := [(b, L.flatMap opC)]) (σ := σ) [_, _, _, _, _] hacc (.mref 0 _ 0 1 _ rfl (Nat.le_of_ble_eq_true rfl)) rfl (by omega) (by decide) (by decide) (fun v' acc' h' => ?_)
            refine StoreAt.mk 4 _ _ rfl (ops_put rfl h') ?_
            exact .drop 0 1 (.drop 1 1 (.pull [2, 2] (.done (begEndA (w := w) (pl := pl) (cap := cap) (t := t) (σ := σ) (r := bm) rfl h' (by omega)))))
          · refine append_accV (i := _) (k := L.length) (acc := [(b, L.flatMap opC)]) (σ := σ) [_, _, _, _, _] hacc (.mref 0 _ 0 1 _ rfl (Nat.le_of_ble_eq_true rfl)) rfl (by omega) (by decide) (by decide) (fun v' acc' h' => ?_)
            refine LoadAt.mk 3 _ _ rfl rfl ?_
            refine StoreAt.mk 4 _ _ rfl (ops_put rfl h') ?_
            exact .drop 0 1 (.drop 1 1 (.pull [2, 2] (.done (begEndA (w := w) (pl := pl) (cap := cap) (t := t) (σ := σ) (r := bm) rfl h' (by omega)))))
    · have c1 : ¬ (0 < (↑i : Int)) := c1
      refine bcond_dec (fun c3 => ?_) (fun c3 => ?_)
      · have c3 : 1 ≤ n := c3
        refine StoreAt.mk 0 _ _ rfl rfl ?_
        refine StoreAt.mk 0 _ _ rfl rfl ?_
        refine LoadAt.mk 1 _ _ rfl rfl ?_
        intro bm
        refine StoreAt.mk 2 _ _ rfl rfl ?_
        refine LoadAt.mk 2 _ _ rfl rfl ?_
        refine LoadAt.mk 3 _ _ rfl rfl ?_
        refine StoreAt.mk 2 _ _ rfl rfl ?_
        refine .sched [] (.one 0 false (.one 1 false (.one 2 false (.one 4 false (.one 5 false (.one 6 false (.one 11 false (.alt 3 (.alt 7 (.one 8 false (.one 9 false (.alt 10 (.one 12 false (.one 13 false (.one 14 false (.one 15 false (.one 16 false .stop))))) (.one 12 false (.one 10 false (.one 13 false (.one 14 false (.one 15 false (.one 16 false .stop))))))))) (.one 12 false (.one 7 false (.one 8 false (.one 9 false (.one 10 false (.one 13 false (.one 14 false (.one 15 false (.one 16 false .stop)))))))))) (.alt 7 (.one 8 false (.one 9 false (.alt 3 (.alt 10 (.one 12 false (.one 13 false (.one 14 false (.one 15 false (.one 16 false .stop))))) (.one 12 false (.one 10 false (.one 13 false (.one 14 false (.one 15 false (.one 16 false .stop))))))) (.alt 10 (.alt 3 (.one 12 false (.one 13 false (.one 14 false (.one 15 false (.one 16 false .stop))))) (.one 12 false (.alt 3 (.one 13 false (.one 14 false (.one 15 false (.one 16 false .stop)))) (.one 13 false (.one 3 false (.one 14 false (.one 15 false (.one 16 false .stop)))))))) (.one 12 false (.one 10 false (.alt 3 (.one 13 false (.one 14 false (.one 15 false (.one 16 false .stop)))) (.one 13 false (.one 3 false (.one 14 false (.one 15 false (.one 16 false .stop)))))))))))) (.one 12 false (.one 7 false (.one 8 false (.one 9 false (.one 10 false (.alt 3 (.one 13 false (.one 14 false (.one 15 false (.one 16 false .stop)))) (.one 13 false (.one 3 false (.one 14 false (.one 15 false (.one 16 false .stop)))))))))))))))))))) (by kernel_rfl) ?_
        refine LoadAt.mk 1 _ _ rfl rfl ?_
        refine And.intro ?_ ?_
        · refine LoadAt.mk 2 _ _ rfl rfl ?_
          refine And.intro ?_ ?_
          · refine LoadAt.mk 2 _ _ rfl rfl ?_
            refine And.intro ?_ ?_
            · refine LoadAt.mk 3 _ _ rfl rfl ?_
              intro bl1
              refine append_accV (i := _) (k := L.length) (acc := [(b, L.flatMap opC)]) (σ := σ) [_, _, _, _, _] hacc (.mref 0 _ 0 1 _ rfl (Nat.le_of_ble_eq_true rfl)) rfl (by omega) (by decide) (by decide) (fun v' acc' h' => ?_)
              refine StoreAt.mk 4 _ _ rfl (ops_put rfl h') ?_
              exact .drop 0 1 (.drop 1 1 (.pull [2, 2] (.done (begEndB (w := w) (pl := pl) (cap := cap) (t := t) (σ := σ) (r := bm) rfl h' (by omega) c3))))
            · intro bl2
              refine LoadAt.mk 4 _ _ rfl rfl ?_
              refine append_accV (i := _) (k := L.length) (acc := [(b, L.flatMap opC)]) (σ := σ) [_, _, _, _, _] hacc (.mref 0 _ 0 1 _ rfl (Nat.le_of_ble_eq_true rfl)) rfl (by omega) (by decide) (by decide) (fun v' acc' h' => ?_)
              refine StoreAt.mk 4 _ _ rfl (ops_put rfl h') ?_
              exact .drop 0 1 (.drop 1 1 (.pull [2, 2] (.done (begEndB (w := w) (pl := pl) (cap := cap) (t := t) (σ := σ) (r := bm) rfl h' (by omega) c3))))
          · intro bl3
            refine LoadAt.mk 3 _ _ rfl rfl ?_
            refine LoadAt.mk 4 _ _ rfl rfl ?_
            refine append_accV (i := _) (k := L.length) (acc := [(b, L.flatMap opC)]) (σ := σ) [_, _, _, _, _] hacc (.mref 0 _ 0 1 _ rfl (Nat.le_of_ble_eq_true rfl)) rfl (by omega) (by decide) (by decide) (fun v' acc' h' => ?_)
            refine StoreAt.mk 4 _ _ rfl (ops_put rfl h') ?_
            exact .drop 0 1 (.drop 1 1 (.pull [2, 2] (.done (begEndB (w := w) (pl := pl) (cap := cap) (t := t) (σ := σ) (r := bm) rfl h' (by omega) c3))))
        · refine And.intro ?_ ?_
          · refine LoadAt.mk 2 _ _ rfl rfl ?_
            refine And.intro ?_ ?_
            · refine LoadAt.mk 2 _ _ rfl rfl ?_
              refine And.intro ?_ ?_
              · refine LoadAt.mk 3 _ _ rfl rfl ?_
                intro bl4
                refine append_accV (i := _) (k := L.length) (acc := [(b, L.flatMap opC)]) (σ := σ) [_, _, _, _, _] hacc (.mref 0 _ 0 1 _ rfl (Nat.le_of_ble_eq_true rfl)) rfl (by omega) (by decide) (by decide) (fun v' acc' h' => ?_)
                refine StoreAt.mk 4 _ _ rfl (ops_put rfl h') ?_
                exact .drop 0 1 (.drop 1 1 (.pull [2, 2] (.done (begEndB (w := w) (pl := pl) (cap := cap) (t := t) (σ := σ) (r := bm) rfl h' (by omega) c3))))
              · intro bl5
                refine LoadAt.mk 4 _ _ rfl rfl ?_
                refine append_accV (i := _) (k := L.length) (acc := [(b, L.flatMap opC)]) (σ := σ) [_, _, _, _, _] hacc (.mref 0 _ 0 1 _ rfl (Nat.le_of_ble_eq_true rfl)) rfl (by omega) (by decide) (by decide) (fun v' acc' h' => ?_)
                refine StoreAt.mk 4 _ _ rfl (ops_put rfl h') ?_
                exact .drop 0 1 (.drop 1 1 (.pull [2, 2] (.done (begEndB (w := w) (pl := pl) (cap := cap) (t := t) (σ := σ) (r := bm) rfl h' (by omega) c3))))
            · refine And.intro ?_ ?_
              · refine LoadAt.mk 3 _ _ rfl rfl ?_
                refine And.intro ?_ ?_
                · refine LoadAt.mk 2 _ _ rfl rfl ?_
                  intro bl6
                  refine append_accV (i := _) (k := L.length) (acc := [(b, L.flatMap opC)]) (σ := σ) [_, _, _, _, _] hacc (.mref 0 _ 0 1 _ rfl (Nat.le_of_ble_eq_true rfl)) rfl (by omega) (by decide) (by decide) (fun v' acc' h' => ?_)
                  refine StoreAt.mk 4 _ _ rfl (ops_put rfl h') ?_
                  exact .drop 0 1 (.drop 1 1 (.pull [2, 2] (.done (begEndB (w := w) (pl := pl) (cap := cap) (t := t) (σ := σ) (r := bm) rfl h' (by omega) c3))))
                · intro bl7
                  refine And.intro ?_ ?_
                  · refine LoadAt.mk 3 _ _ rfl rfl ?_
                    refine append_accV (i := _) (k := L.length) (acc := [(b, L.flatMap opC)]) (σ := σ) [_, _, _, _, _] hacc (.mref 0 _ 0 1 _ rfl (Nat.le_of_ble_eq_true rfl)) rfl (by omega) (by decide) (by decide) (fun v' acc' h' => ?_)
                    refine StoreAt.mk 4 _ _ rfl (ops_put rfl h') ?_
                    exact .drop 0 1 (.drop 1 1 (.pull [2, 2] (.done (begEndB (w := w) (pl := pl) (cap := cap) (t := t) (σ := σ) (r := bm) rfl h' (by omega) c3))))
                  · refine append_accV (i := _) (k := L.length) (acc := [(b, L.flatMap opC)]) (σ := σ) [_, _, _, _, _] hacc (.mref 0 _ 0 1 _ rfl (Nat.le_of_ble_eq_true rfl)) rfl (by omega) (by decide) (by decide) (fun v' acc' h' => ?_)
                    refine LoadAt.mk 3 _ _ rfl rfl ?_
                    refine StoreAt.mk 4 _ _ rfl (ops_put rfl h') ?_
                    exact .drop 0 1 (.drop 1 1 (.pull [2, 2] (.done (begEndB (w := w) (pl := pl) (cap := cap) (t := t) (σ := σ) (r := bm) rfl h' (by omega) c3))))
              · intro bl8
                refine LoadAt.mk 4 _ _ rfl rfl ?_
                refine And.intro ?_ ?_
                · refine LoadAt.mk 3 _ _ rfl rfl ?_
                  refine append_accV (i := _) (k := L.length) (acc := [(b, L.flatMap opC)]) (σ := σ) [_, _, _, _, _] hacc (.mref 0 _ 0 1 _ rfl (Nat.le_of_ble_eq_true rfl)) rfl (by omega) (by decide) (by decide) (fun v' acc' h' => ?_)
                  refine StoreAt.mk 4 _ _ rfl (ops_put rfl h') ?_
                  exact .drop 0 1 (.drop 1 1 (.pull [2, 2] (.done (begEndB (w := w) (pl := pl) (cap := cap) (t := t) (σ := σ) (r := bm) rfl h' (by omega) c3))))
                · refine append_accV (i := _) (k := L.length) (acc := [(b, L.flatMap opC)]) (σ := σ) [_, _, _, _, _] hacc (.mref 0 _ 0 1 _ rfl (Nat.le_of_ble_eq_true rfl)) rfl (by omega) (by decide) (by decide) (fun v' acc' h' => ?_)
                  refine LoadAt.mk 3 _ _ rfl rfl ?_
                  refine StoreAt.mk 4 _ _ rfl (ops_put rfl h') ?_
                  exact .drop 0 1 (.drop 1 1 (.pull [2, 2] (.done (begEndB (w := w) (pl := pl) (cap := cap) (t := t) (σ := σ) (r := bm) rfl h' (by omega) c3))))
          · intro bl9
            refine LoadAt.mk 3 _ _ rfl rfl ?_
            refine LoadAt.mk 4 _ _ rfl rfl ?_
            refine And.intro ?_ ?_
            · refine LoadAt.mk 3 _ _ rfl rfl ?_
              refine append_accV (i := _) (k := L.length) (acc := [(b, L.flatMap opC)]) (σ := σ) [_, _, _, _, _] hacc (.mref 0 _ 0 1 _ rfl (Nat.le_of_ble_eq_true rfl)) rfl (by omega) (by decide) (by decide) (fun v' acc' h' => ?_)
              refine StoreAt.mk 4 _ _ rfl (ops_put rfl h') ?_
              exact .drop 0 1 (.drop 1 1 (.pull [2, 2] (.done (begEndB (w := w) (pl := pl) (cap := cap) (t := t) (σ := σ) (r := bm) rfl h' (by omega) c3))))
            · refine append_accV (i := _) (k := L.length) (acc := [(b, L.flatMap opC)]) (σ := σ) [_, _, _, _, _] hacc (.mref 0 _ 0 1 _ rfl (Nat.le_of_ble_eq_true rfl)) rfl (by omega) (by decide) (by decide) (fun v' acc' h' => ?_)
              refine LoadAt.mk 3 _ _ rfl rfl ?_
              refine StoreAt.mk 4 _ _ rfl (ops_put rfl h') ?_
              exact .drop 0 1 (.drop 1 1 (.pull [2, 2] (.done (begEndB (w := w) (pl := pl) (cap := cap) (t := t) (σ := σ) (r := bm) rfl h' (by omega) c3))))
      · have c3 : ¬ (1 ≤ n) := c3
        refine LoadAt.mk 1 _ _ rfl rfl ?_
        intro bm
        refine StoreAt.mk 2 _ _ rfl rfl ?_
        refine LoadAt.mk 2 _ _ rfl rfl ?_
        refine LoadAt.mk 3 _ _ rfl rfl ?_
        refine StoreAt.mk 2 _ _ rfl rfl ?_
        refine .sched [] (.one 0 false (.one 1 false (.one 2 false (.one 4 false (.one 5 false (.one 6 false (.one 11 false (.alt 3 (.alt 7 (.one 8 false (.one 9 false (.alt 10 (.one 12 false (.one 13 false (.one 14 false (.one 15 false (.one 16 false .stop))))) (.one 12 false (.one 10 false (.one 13 false (.one 14 false (.one 15 false (.one 16 false .stop))))))))) (.one 12 false (.one 7 false (.one 8 false (.one 9 false (.one 10 false (.one 13 false (.one 14 false (.one 15 false (.one 16 false .stop)))))))))) (.alt 7 (.one 8 false (.one 9 false (.alt 3 (.alt 10 (.one 12 false (.one 13 false (.one 14 false (.one 15 false (.one 16 false .stop))))) (.one 12 false (.one 10 false (.one 13 false (.one 14 false (.one 15 false (.one 16 false .stop))))))) (.alt 10 (.alt 3 (.one 12 false (.one 13 false (.one 14 false (.one 15 false (.one 16 false .stop))))) (.one 12 false (.alt 3 (.one 13 false (.one 14 false (.one 15 false (.one 16 false .stop)))) (.one 13 false (.one 3 false (.one 14 false (.one 15 false (.one 16 false .stop)))))))) (.one 12 false (.one 10 false (.alt 3 (.one 13 false (.one 14 false (.one 15 false (.one 16 false .stop)))) (.one 13 false (.one 3 false (.one 14 false (.one 15 false (.one 16 false .stop)))))))))))) (.one 12 false (.one 7 false (.one 8 false (.one 9 false (.one 10 false (.alt 3 (.one 13 false (.one 14 false (.one 15 false (.one 16 false .stop)))) (.one 13 false (.one 3 false (.one 14 false (.one 15 false (.one 16 false .stop)))))))))))))))))))) (by kernel_rfl) ?_
        refine LoadAt.mk 1 _ _ rfl rfl ?_
        refine And.intro ?_ ?_
        · refine LoadAt.mk 2 _ _ rfl rfl ?_
          refine And.intro ?_ ?_
          · refine LoadAt.mk 2 _ _ rfl rfl ?_
            refine And.intro ?_ ?_
            · refine LoadAt.mk 3 _ _ rfl rfl ?_
              intro bl1
              refine append_accV (i := _) (k := L.length) (acc := [(b, L.flatMap opC)]) (σ := σ) [_, _, _, _, _] hacc (.mref 0 _ 0 1 _ rfl (Nat.le_of_ble_eq_true rfl)) rfl (by omega) (by decide) (by decide) (fun v' acc' h' => ?_)
              refine StoreAt.mk 4 _ _ rfl (ops_put rfl h') ?_
              exact .drop 0 1 (.drop 1 1 (.pull [2, 2] (.done (begEndC (w := w) (pl := pl) (cap := cap) (t := t) (σ := σ) (r := bm) rfl h' (by omega) c3))))
            · intro bl2
              refine LoadAt.mk 4 _ _ rfl rfl ?_
              refine append_accV (i := _) (k := L.length) (acc := [(b, L.flatMap opC)]) (σ := σ) [_, _, _, _, _] hacc (.mref 0 _ 0 1 _ rfl (Nat.le_of_ble_eq_true rfl)) rfl (by omega) (by decide) (by decide) (fun v' acc' h' => ?_)
              refine StoreAt.mk 4 _ _ rfl (ops_put rfl h') ?_
              exact .drop 0 1 (.drop 1 1 (.pull [2, 2] (.done (begEndC (w := w) (pl := pl) (cap := cap) (t := t) (σ := σ) (r := bm) rfl h' (by omega) c3))))
          · intro bl3
            refine LoadAt.mk 3 _ _ rfl rfl ?_
            refine LoadAt.mk 4 _ _ rfl rfl ?_
            refine append_accV (i := _) (k := L.length) (acc := [(b, L.flatMap opC)]) (σ := σ) [_, _, _, _, _] hacc (.mref 0 _ 0 1 _ rfl (Nat.le_of_ble_eq_true rfl)) rfl (by omega) (by decide) (by decide) (fun v' acc' h' => ?_)
            refine StoreAt.mk 4 _ _ rfl (ops_put rfl h') ?_
            exact .drop 0 1 (.drop 1 1 (.pull [2, 2] (.done (begEndC (w := w) (pl := pl) (cap := cap) (t := t) (σ := σ) (r := bm) rfl h' (by omega) c3))))
        · refine And.intro ?_ ?_
          · refine LoadAt.mk 2 _ _ rfl rfl ?_
            refine And.intro ?_ ?_
            · refine LoadAt.mk 2 _ _ rfl rfl ?_
              refine And.intro ?_ ?_
              · refine LoadAt.mk 3 _ _ rfl rfl ?_
                intro bl4
                refine append_accV (i := _) (k := L.length) (acc := [(b, L.flatMap opC)]) (σ := σ) [_, _, _, _, _] hacc (.mref 0 _ 0 1 _ rfl (Nat.le_of_ble_eq_true rfl)) rfl (by omega) (by decide) (by decide) (fun v' acc' h' => ?_)
                refine StoreAt.mk 4 _ _ rfl (ops_put rfl h') ?_
                exact .drop 0 1 (.drop 1 1 (.pull [2, 2] (.done (begEndC (w := w) (pl := pl) (cap := cap) (t := t) (σ := σ) (r := bm) rfl h' (by omega) c3))))
              · intro bl5
                refine LoadAt.mk 4 _ _ rfl rfl ?_
                refine append_accV (i := _) (k := L.length) (acc := [(b, L.flatMap opC)]) (σ := σ) [_, _, _, _, _] hacc (.mref 0 _ 0 1 _ rfl (Nat.le_of_ble_eq_true rfl)) rfl (by omega) (by decide) (by decide) (fun v' acc' h' => ?_)
                refine StoreAt.mk 4 _ _ rfl (ops_put rfl h') ?_
                exact .drop 0 1 (.drop 1 1 (.pull [2, 2] (.done (begEndC (w := w) (pl := pl) (cap := cap) (t := t) (σ := σ) (r := bm) rfl h' (by omega) c3))))
            · refine And.intro ?_ ?_
              · refine LoadAt.mk 3 _ _ rfl rfl ?_
                refine And.intro ?_ ?_
                · refine LoadAt.mk 2 _ _ rfl rfl ?_
                  intro bl6
                  refine append_accV (i := _) (k := L.length) (acc := [(b, L.flatMap opC)]) (σ := σ) [_, _, _, _, _] hacc (.mref 0 _ 0 1 _ rfl (Nat.le_of_ble_eq_true rfl)) rfl (by omega) (by decide) (by decide) (fun v' acc' h' => ?_)
                  refine StoreAt.mk 4 _ _ rfl (ops_put rfl h') ?_
                  exact .drop 0 1 (.drop 1 1 (.pull [2, 2] (.done (begEndC (w := w) (pl := pl) (cap := cap) (t := t) (σ := σ) (r := bm) rfl h' (by omega) c3))))
                · intro bl7
                  refine And.intro ?_ ?_
                  · refine LoadAt.mk 3 _ _ rfl rfl ?_
                    refine append_accV (i := _) (k := L.length) (acc := [(b, L.flatMap opC)]) (σ := σ) [_, _, _, _, _] hacc (.mref 0 _ 0 1 _ rfl (Nat.le_of_ble_eq_true rfl)) rfl (by omega) (by decide) (by decide) (fun v' acc' h' => ?_)
                    refine StoreAt.mk 4 _ _ rfl (ops_put rfl h') ?_
                    exact .drop 0 1 (.drop 1 1 (.pull [2, 2] (.done (begEndC (w := w) (pl := pl) (cap := cap) (t := t) (σ := σ) (r := bm) rfl h' (by omega) c3))))
                  · refine append_accV (i := _) (k := L.length) (acc := [(b, L.flatMap opC)]) (σ := σ) [_, _, _, _, _] hacc (.mref 0 _ 0 1 _ rfl (Nat.le_of_ble_eq_true rfl)) rfl (by omega) (by decide) (by decide) (fun v' acc' h' => ?_)
                    refine LoadAt.mk 3 _ _ rfl rfl ?_
                    refine StoreAt.mk 4 _ _ rfl (ops_put rfl h') ?_
                    exact .drop 0 1 (.drop 1 1 (.pull [2, 2] (.done (begEndC (w := w) (pl := pl) (cap := cap) (t := t) (σ := σ) (r := bm) rfl h' (by omega) c3))))
              · intro bl8
                refine LoadAt.mk 4 _ _ rfl rfl ?_
                refine And.intro ?_ ?_
                · refine LoadAt.mk 3 _ _ rfl rfl ?_
                  refine append_accV (i := _) (k := L.length) (acc := [(b, L.flatMap opC)]) (σ := σ) [_, _, _, _, _] hacc (.mref 0 _ 0 1 _ rfl (Nat.le_of_ble_eq_true rfl)) rfl (by omega) (by decide) (by decide) (fun v' acc' h' => ?_)
                  refine StoreAt.mk 4 _ _ rfl (ops_put rfl h') ?_
                  exact .drop 0 1 (.drop 1 1 (.pull [2, 2] (.done (begEndC (w := w) (pl := pl) (cap := cap) (t := t) (σ := σ) (r := bm) rfl h' (by omega) c3))))
                · refine append_accV (i := _) (k := L.length) (acc := [(b, L.flatMap opC)]) (σ := σ) [_, _, _, _, _] hacc (.mref 0 _ 0 1 _ rfl (Nat.le_of_ble_eq_true rfl)) rfl (by omega) (by decide) (by decide) (fun v' acc' h' => ?_)
                  refine LoadAt.mk 3 _ _ rfl rfl ?_
                  refine StoreAt.mk 4 _ _ rfl (ops_put rfl h') ?_
                  exact .drop 0 1 (.drop 1 1 (.pull [2, 2] (.done (begEndC (w := w) (pl := pl) (cap := cap) (t := t) (σ := σ) (r := bm) rfl h' (by omega) c3))))
          · intro bl9
            refine LoadAt.mk 3 _ _ rfl rfl ?_
            refine LoadAt.mk 4 _ _ rfl rfl ?_
            refine And.intro ?_ ?_
            · refine LoadAt.mk 3 _ _ rfl rfl ?_
              refine append_accV (i := _) (k := L.length) (acc := [(b, L.flatMap opC)]) (σ := σ) [_, _, _, _, _] hacc (.mref 0 _ 0 1 _ rfl (Nat.le_of_ble_eq_true rfl)) rfl (by omega) (by decide) (by decide) (fun v' acc' h' => ?_)
              refine StoreAt.mk 4 _ _ rfl (ops_put rfl h') ?_
              exact .drop 0 1 (.drop 1 1 (.pull [2, 2] (.done (begEndC (w := w) (pl := pl) (cap := cap) (t := t) (σ := σ) (r := bm) rfl h' (by omega) c3))))
            · refine append_accV (i := _) (k := L.length) (acc := [(b, L.flatMap opC)]) (σ := σ) [_, _, _, _, _] hacc (.mref 0 _ 0 1 _ rfl (Nat.le_of_ble_eq_true rfl)) rfl (by omega) (by decide) (by decide) (fun v' acc' h' => ?_)
              refine LoadAt.mk 3 _ _ rfl rfl ?_
              refine StoreAt.mk 4 _ _ rfl (ops_put rfl h') ?_
              exact .drop 0 1 (.drop 1 1 (.pull [2, 2] (.done (begEndC (w := w) (pl := pl) (cap := cap) (t := t) (σ := σ) (r := bm) rfl h' (by omega) c3))))
end Go.Proofs.Ytacacplipaeokaa
