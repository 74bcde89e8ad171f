/-
  Sf: what the claim uses of them.
-/
import Derived.Test.YtljbnigceammdaaGreatDoorBn43
import Derived.Test.YtljbnigceammdaaGreatDoorBn30
namespace Go.Proofs.YtljbnigceammdaaGreatDoor
open Go.RowKit
set_option maxRecDepth 100000
/-- A way's places, in cells. -/
def wayC (l : List (Int × Nat)) : List AV := l.flatMap fun t => [.int .i64 t.1, .int .i64 t.2]
theorem wayC_length : ∀ l : List (Int × Nat), (wayC l).length = l.length * 2
  | [] => rfl
  | t :: l => by
    show ([AV.int .i64 t.1, .int .i64 t.2] ++ wayC l).length = _
    rw [List.length_append, wayC_length l, List.length_cons]
    show 2 + l.length * 2 = (l.length + 1) * 2
    omega
theorem wayC_app (l m : List (Int × Nat)) : wayC (l ++ m) = wayC l ++ wayC m := List.flatMap_append
/-- The last place's node, and what was looked at. -/
theorem wayC_node {w : List (Int × Nat)} {v : Int} {k : Nat} {J : List AV} {m : Nat} (hm : m = w.length) : (wayC (w ++ [(v, k)]) ++ J)[m * 2]? = some (.int .i64 v) := by
  subst hm
  rw [wayC_app, List.append_assoc, List.getElem?_append_right (by rw [wayC_length]; omega), wayC_length, Nat.sub_self]; rfl
theorem wayC_next {w : List (Int × Nat)} {v : Int} {k : Nat} {J : List AV} {m : Nat} (hm : m = w.length) : (wayC (w ++ [(v, k)]) ++ J)[m * 2 + 1]? = some (.int .i64 k) := by
  subst hm
  rw [wayC_app, List.append_assoc, List.getElem?_append_right (by rw [wayC_length]; omega), wayC_length, Nat.add_sub_cancel_left]; rfl
theorem wayC_set {w : List (Int × Nat)} {v : Int} {k : Nat} {J : List AV} {m : Nat} (hm : m = w.length) : (wayC (w ++ [(v, k)]) ++ J).set (m * 2 + 1) (.int .i64 ((k + 1 : Nat) : Int)) = wayC (w ++ [(v, k + 1)]) ++ J := by
  subst hm
  rw [wayC_app, wayC_app, List.append_assoc, List.append_assoc, List.set_append_right _ _ (by rw [wayC_length]; omega), wayC_length, Nat.add_sub_cancel_left]; rfl
/-- The next nodes, row by row. -/
def nxL (n : Nat) (l : List EdgeT) : List (List Int) := (List.range n).map fun a : Nat => toS n l a
theorem nxL_at {n : Nat} {l : List EdgeT} {a : Int} (h : 0 ≤ a ∧ a < n) : (nxL n l)[a.toNat]? = some (toS n l a) := by
  unfold nxL
  rw [List.getElem?_map, List.getElem?_range (by omega)]
  show some (toS n l (a.toNat : Int)) = _
  rw [Int.toNat_of_nonneg h.1]
theorem sortI_permS (zs : List Int) : (sortI zs).Perm zs := List.mergeSort_perm _ _
theorem sortI_strict {zs : List Int} (h : zs.Nodup) : (sortI zs).Pairwise (· < ·) := ((sortI_sorted zs).and ((sortI_permS zs).nodup_iff.2 h)).imp fun h => by omega
theorem parts_lenS {n : Nat} {nx : Int → List Int} {P : List (List Int)} (h : POk n nx P) : P.length ≤ P.flatten.length := by
  have := h.ne
  clear h
  induction P with
  | nil => exact Nat.le_refl _
  | cons p P ih =>
    have h1 := List.length_pos_iff.2 (this p (List.mem_cons_self ..))
    have h2 := ih fun q hq => this q (List.mem_cons_of_mem _ hq)
    rw [List.flatten_cons, List.length_append, List.length_cons]; omega
theorem rd_wide {i : TI} (hw : i.wide = true) {cs v : List AV} {off : Nat} (h : off + i.size ≤ cs.length) (hv : (cs.drop off).take i.size = v) : readAs i cs off = some (.agg v) := by
  unfold readAs
  rw [hw]
  show (match Nat.ble (off + i.size) cs.length with | true => some (AV.agg ((cs.drop off).take i.size)) | false => none) = _
  rw [Nat.ble_eq_true_of_le h, hv]
theorem wayC_place {w : List (Int × Nat)} {v : Int} {k : Nat} {J : List AV} {m : Nat} (hm : m = w.length) : ((wayC (w ++ [(v, k)]) ++ J).drop (m * 2)).take 2 = [.int .i64 v, .int .i64 k] := by
  subst hm
  rw [wayC_app, List.append_assoc, List.drop_append_of_le_length (by rw [wayC_length]; exact Nat.le_refl _), List.drop_of_length_le (by rw [wayC_length]; exact Nat.le_refl _)]; rfl
theorem perm_leave (X a σ : Hp) (x y : Nat × List AV) : (X ++ (a ++ (x :: y :: σ))).Perm (x :: (X ++ (y :: (a ++ σ)))) := by
  have h1 : (a ++ (x :: y :: σ)).Perm (x :: y :: (a ++ σ)) := List.perm_middle.trans (List.Perm.cons _ List.perm_middle)
  exact (List.Perm.append_left X h1).trans List.perm_middle
/-- A scope whose rounds are shown first. -/
def RoundG (rec : Go.Code → Tm → Hp → (Ex → Tm → Hp → Prop) → Prop) (c : Go.Code) {S : Type} (lab : S → Nat) (L : S → List (Nat × AV)) (H : S → Hp) (p : S → Prop) (μ : S → Nat) (Q : Ex → Tm → Hp → Prop) : Prop :=
  ∀ s g, p s → (match findLabel c (lab s) with | some r => rec r (upd g (L s)) (H s) (fun e t' σ' => match e with | .goto l' => NextG lab L H p μ s l' t' σ' | e => Q e t' σ') | none => False)
theorem with_round {P : Program} {TT : TypeId → Option TI} {fn : Go.Func} {c : Go.Code} {xs : List AV} {σ : Hp} {R : AV → Hp → Prop} {S : Type} (hb : fn.body = some (.scope c)) (lab : S → Nat) (L : S → List (Nat × AV)) (H : S → Hp) (p : S → Prop) (μ : S → Nat)
    (hr : RoundG (codeW P TT 999) c lab L H p μ (exitW TT fn.results.toList R))
    (h : RoundG (codeW P TT 999) c lab L H p μ (exitW TT fn.results.toList R) → codeF P TT (codeW P TT 999) (.scope c) (t0 xs) σ (exitW TT fn.results.toList R)) : bodyW P TT fn xs σ R := by
  have h1 : codeW P TT 1000 (.scope c) (t0 xs) σ (exitW TT fn.results.toList R) := h hr
  unfold bodyW
  rw [hb]
  exact h1
theorem loop_with {rec : Go.Code → Tm → Hp → (Ex → Tm → Hp → Prop) → Prop} {c : Go.Code} {S : Type} {lab : S → Nat} {L : S → List (Nat × AV)} {H : S → Hp} {p : S → Prop} {μ : S → Nat} {Q : Ex → Tm → Hp → Prop} {t : Tm} {σ : Hp} {l : Nat} (hr : RoundG rec c lab L H p μ Q) (s0 : S) (h0 : l = lab s0 ∧ p s0 ∧ agree t (L s0) ∧ Shed σ (H s0)) :
    GotoW (fun l t σ Q => match findLabel c l with | some r => rec r t σ Q | none => False) l Q t σ := .loop lab L H p μ s0 h0 hr
abbrev FrS := (List Int × List Int × List Bool × List Int × Nat × List (List Int)) × (Nat × List AV × AV × Hp) × (List (Int × Nat) × Int × Nat) × (Nat × List AV)
theorem aFrom (n w bi bl bo : Nat) (l : List EdgeT) (ix0 lo0 : List Int) (on0 : List Bool) (cnt0 : Nat) (P0 : List (List Int)) (vs0 vp0 : AV) (accs0 accp0 : Hp) (a : Int) (σ : Hp) (hn : n ≤ 1000) (h : FI n (toS n l) ix0 lo0 on0 [] cnt0 P0 []) (ha : 0 ≤ a ∧ a < n) (hf : ix0.getD a.toNat 0 = 0) (hs : AccJ 1 0 vs0 accs0 []) (hp : Acc 1 P0.length vp0 accp0 (psC P0)) :
    ACalls Tryz.prog 122 [.ptr w 0, .int .i64 a] ((w, tjC (nxL n l) bi bl bo n vs0 cnt0 vp0) :: (bi, inC ix0) :: (bl, inC lo0) :: (bo, bbC on0) :: (accs0 ++ (accp0 ++ σ)))
      (fun r σ' => r = .tup [] ∧ ∃ ix lo on cnt P vs accs vp accp, FI n (toS n l) ix lo on [] cnt P [] ∧ AccJ 1 0 vs accs [] ∧ Acc 1 P.length vp accp (psC P) ∧ ix.getD a.toNat 0 ≠ 0 ∧ (∀ b : Nat, ix0.getD b 0 ≠ 0 → ix.getD b 0 ≠ 0) ∧ σ' = (w, tjC (nxL n l) bi bl bo n vs cnt vp) :: (bi, inC ix) :: (bl, inC lo) :: (bo, bbC on) :: (accs ++ (accp ++ σ))) := by
  have hle := h.cnt_le
  refine okF Tryz.func122 (by kernel_rfl) ?_
  refine with_round (S := FrS) rfl (fun _ => 0)
    (fun x => [(0, .ptr w 0), (4, .mref x.2.2.2.1 0 (x.2.2.1.1.length + 1) 2)])
    (fun x => (w, tjC (nxL n l) bi bl bo n (.mref x.2.1.1 0 x.1.2.2.2.1.length 1) x.1.2.2.2.2.1 x.2.1.2.2.1) :: (bi, inC x.1.1) :: (bl, inC x.1.2.1) :: (bo, bbC x.1.2.2.1) :: (x.2.1.1, inC x.1.2.2.2.1 ++ x.2.1.2.1) :: (x.2.2.2.1, wayC (x.2.2.1.1 ++ [(x.2.2.1.2.1, x.2.2.1.2.2)]) ++ x.2.2.2.2) :: (x.2.1.2.2.2 ++ σ))
    (fun x => (FI n (toS n l) x.1.1 x.1.2.1 x.1.2.2.1 x.1.2.2.2.1 x.1.2.2.2.2.1 x.1.2.2.2.2.2 (x.2.2.1.1 ++ [(x.2.2.1.2.1, x.2.2.1.2.2)]) ∧ Acc 1 x.1.2.2.2.2.2.length x.2.1.2.2.1 x.2.1.2.2.2 (psC x.1.2.2.2.2.2)) ∧ x.1.1.getD a.toNat 0 ≠ 0 ∧ ∀ b : Nat, ix0.getD b 0 ≠ 0 → x.1.1.getD b 0 ≠ 0)
    (fun x => remW (toS n l) (x.2.2.1.1 ++ [(x.2.2.1.2.1, x.2.2.1.2.2)]) + remU (toS n l) x.1.1 n) ?_ ?_
  · rintro ⟨⟨ix, lo, on, st, cnt, P⟩, ⟨bs, Js, vp, accp⟩, ⟨wy, v, k⟩, ⟨bw, J⟩⟩ g ⟨⟨hF0, hP0⟩, hA0, hM0⟩
    have hF : FI n (toS n l) ix lo on st cnt P (wy ++ [(v, k)]) := hF0
    have hP : Acc 1 P.length vp accp (psC P) := hP0
    have hA : ix.getD a.toNat 0 ≠ 0 := hA0
    have hM : ∀ b : Nat, ix0.getD b 0 ≠ 0 → ix.getD b 0 ≠ 0 := hM0
    clear hF0 hP0 hA0 hM0
    have hle := hF.cnt_le
    have hvs := hF.mem
    have hvn := hF.tj.node v hvs
    have htn : k ≤ (toS n l v).length := hF.tn (v, k) (List.mem_append_right _ (List.mem_singleton.2 rfl))
    have hnl := toS_length n l v
    have hwl : wy.length + 1 ≤ st.length := by
      have := hF.tj.sub.length_le
      rw [List.length_map, List.length_append] at this
      exact this
    have hidx : IntKind.i64.wrap (((wy.length + 1 : Nat) : Int) - 1) = ((wy.length : Nat) : Int) := by rw [w64 (by omega)]; omega
    have hX : 0 + (IntKind.i64.wrap (((wy.length + 1 : Nat) : Int) - 1)).toNat * 2 = wy.length * 2 := by rw [hidx]; omega
    have hrN : readAs ⟨.int .i64, 1, 8, [.int .i64 0]⟩ (wayC (wy ++ [(v, k)]) ++ J) (0 + (IntKind.i64.wrap (((wy.length + 1 : Nat) : Int) - 1)).toNat * 2 + 0) = some (.int .i64 v) := read1 rfl (by rw [hX]; exact wayC_node rfl)
    have hrK : readAs ⟨.int .i64, 1, 8, [.int .i64 0]⟩ (wayC (wy ++ [(v, k)]) ++ J) (0 + (IntKind.i64.wrap (((wy.length + 1 : Nat) : Int) - 1)).toNat * 2 + 1) = some (.int .i64 k) := read1 rfl (by rw [hX]; exact wayC_next rfl)
    have hcl : (wayC (wy ++ [(v, k)]) ++ J).length = wy.length * 2 + 2 + J.length := by rw [List.length_append, wayC_length, List.length_append]; show (wy.length + 1) * 2 + _ = _; omega
    have hk1 : IntKind.i64.wrap ((k : Int) + 1) = ((k + 1 : Nat) : Int) := by rw [w64 (by omega)]; omega
    have hwK : writeAs ⟨.int .i64, 1, 8, [.int .i64 0]⟩ (wayC (wy ++ [(v, k)]) ++ J) (0 + (IntKind.i64.wrap (((wy.length + 1 : Nat) : Int) - 1)).toNat * 2 + 1) (.int .i64 (IntKind.i64.wrap ((k : Int) + 1))) = some (wayC (wy ++ [(v, k + 1)]) ++ J) := by
      rw [write1 rfl rfl (by rw [hX, hcl]; omega), hX, hk1, wayC_set rfl]
    have hwith : 2 = 2 ∧ 0 ≤ IntKind.i64.wrap (((wy.length + 1 : Nat) : Int) - 1) ∧ IntKind.i64.wrap (((wy.length + 1 : Nat) : Int) - 1) < ((wy.length + 1 : Nat) : Int) := ⟨rfl, by omega, by omega⟩
    refine With.mk hwith ?_
    refine .quiet (by kernel_rfl) ?_
    refine LoadAt.mk 5 _ _ rfl hrK ?_
    refine LoadAt.mk 0 _ _ rfl rfl ?_
    refine LoadAt.mk 5 _ _ rfl hrN ?_
    refine With.mk rfl ?_
    refine IdxF.mk (toS n l v) (by omega) (nxL_at hvn) ?_
    refine bcond_dec (p := (k : Int) < (toS n l v).length) (fun hlt => ?_) (fun hge => ?_)
    · have hlt : k < (toS n l v).length := by omega
      obtain ⟨b, hb⟩ : ∃ b, (toS n l v)[k] = b := ⟨_, rfl⟩
      have hbm : b ∈ toS n l v := hb ▸ List.getElem_mem hlt
      have hbn := (mem_toS.1 hbm).1
      refine .quiet (by kernel_rfl) ?_
      refine LoadAt.mk 0 _ _ rfl rfl ?_
      refine LoadAt.mk 5 _ _ rfl hrN ?_
      refine With.mk rfl ?_
      refine IdxF.mk (toS n l v) (by omega) (nxL_at hvn) ?_
      refine LoadAt.mk 5 _ _ rfl hrK ?_
      refine With.mk rfl ?_
      refine IdxF.mk b (by omega) ((get_some hlt).trans (congrArg some hb)) ?_
      refine LoadAt.mk 5 _ _ rfl hrK ?_
      refine StoreAt.mk 5 _ _ rfl hwK ?_
      refine LoadAt.mk 0 _ _ rfl rfl ?_
      refine With.mk ⟨rfl, by omega, by omega⟩ ?_
      refine LoadAt.mk 1 _ _ rfl (inC_rd rfl hbn.1 (by rw [hF.li]; omega)) ?_
      refine bcond_dec (p := ix.getD b.toNat 0 = 0) (fun c1 => ?_) (fun c1 => ?_)
      · have hN := hF.new hlt hb hbn c1
        have hin : (inC st).length = st.length * 1 := by rw [inC_length, Nat.mul_one]
        refine .mk [] _ (aEnter w bi bl bo n (nxL n l) ix lo st on cnt _ vp _ b ((bw, wayC (wy ++ [(v, k + 1)]) ++ J) :: (accp ++ σ)) hbn.1 hbn.2 hF.li hF.ll hF.lon (.mref bs st.length (inC st) Js hin) (by omega) (by omega)) ?_
        rintro _ _ ⟨rfl, vs1, accs1, hs1, rfl⟩
        obtain ⟨bs1, Js1, rfl, rfl, _⟩ := hs1.pos (by rw [List.length_append]; show 0 < _ + 1; omega)
        intro bl1
        have hwl2 : (wayC (wy ++ [(v, k + 1)])).length = (wy.length + 1) * 2 := by rw [wayC_length, List.length_append]; rfl
        refine append_accJ (k := wy.length + 1) (n := 1) [_, _, _, _, _, _] (.mref bw (wy.length + 1) (wayC (wy ++ [(v, k + 1)])) J hwl2) (.mref 0 bl1 0 1 _ rfl (Nat.le_of_ble_eq_true rfl)) rfl (by omega) (by decide) (by decide) (fun v' acc' h' => ?_)
        obtain ⟨bw2, J2, rfl, rfl, _⟩ := h'.pos (by omega)
        have hlw : (wy ++ [(v, k + 1)]).length + 1 = wy.length + 1 + 1 := by rw [List.length_append]; rfl
        have hbT : (b.toNat : Int) = b := Int.toNat_of_nonneg hbn.1
        have hru := remU_set (nx := toS n l) (ix := ix) (b := b.toNat) (v := ((cnt + 1 : Nat) : Int)) (by omega) c1 (by rw [hF.li]; omega) n
        rw [if_pos (by omega), hbT] at hru
        refine .mk ((ix.set b.toNat ((cnt + 1 : Nat) : Int), lo.set b.toNat ((cnt + 1 : Nat) : Int), on.set b.toNat true, st ++ [b], cnt + 1, P), (bs1, Js1, vp, accp), (wy ++ [(v, k + 1)], b, 0), (bw2, J2)) rfl ?_ ⟨⟨hN, hP⟩, ?_, ?_⟩ ⟨rfl, by rw [hlw]; rfl, trivial⟩ (.drop 0 1 (shed_eq (by rw [wayC_app (wy ++ [(v, k + 1)])]; rfl)))
        · show remW (toS n l) ((wy ++ [(v, k + 1)]) ++ [(b, 0)]) + remU (toS n l) (ix.set b.toNat ((cnt + 1 : Nat) : Int)) n < remW (toS n l) (wy ++ [(v, k)]) + remU (toS n l) ix n
          rw [remW_app, remW_app, remW_app]; omega
        · show (ix.set b.toNat ((cnt + 1 : Nat) : Int)).getD a.toNat 0 ≠ 0
          rw [getD_setI]; split
          · omega
          · exact hA
        · intro z hz
          show (ix.set b.toNat ((cnt + 1 : Nat) : Int)).getD z 0 ≠ 0
          rw [getD_setI]; split
          · omega
          · exact hM z hz
      · have c1 : ¬ (ix.getD b.toNat 0 = 0) := c1
        refine LoadAt.mk 0 _ _ rfl rfl ?_
        refine With.mk ⟨rfl, by omega, by omega⟩ ?_
        have hon := hF.onk b hbn.1 hbn.2
        have hrN2 : readAs ⟨.int .i64, 1, 8, [.int .i64 0]⟩ (wayC (wy ++ [(v, k + 1)]) ++ J) (0 + (IntKind.i64.wrap (((wy.length + 1 : Nat) : Int) - 1)).toNat * 2 + 0) = some (.int .i64 v) := read1 rfl (by rw [hX]; exact wayC_node rfl)
        refine LoadAt.mkB 3 _ _ rfl (bbC_read rfl hbn.1 (by rw [hF.lon]; omega)) (fun c2 => ?_) (fun c2 => ?_)
        · rw [hon] at c2
          have hO := hF.onSt hlt hb (of_decide_eq_true c2)
          refine .sched [] (upto [] 28 0) (by kernel_rfl) ?_
          refine LoadAt.mk 0 _ _ rfl rfl ?_
          refine LoadAt.mk 5 _ _ rfl hrN2 ?_
          refine LoadAt.mk 0 _ _ rfl rfl ?_
          refine LoadAt.mk 5 _ _ rfl hrN2 ?_
          refine With.mk ⟨rfl, by omega, by omega⟩ ?_
          refine LoadAt.mk 2 _ _ rfl (inC_rd rfl hvn.1 (by rw [hF.ll]; omega)) ?_
          refine LoadAt.mk 0 _ _ rfl rfl ?_
          refine With.mk ⟨rfl, by omega, by omega⟩ ?_
          refine LoadAt.mk 1 _ _ rfl (inC_rd rfl hbn.1 (by rw [hF.li]; omega)) ?_
          refine With.mk ⟨rfl, by omega, by omega⟩ ?_
          refine StoreAt.mk 2 _ _ rfl (inC_wr rfl _ hvn.1 (by rw [hF.ll]; omega)) ?_
          have hmin : (if ix.getD b.toNat 0 < lo.getD v.toNat 0 then ix.getD b.toNat 0 else lo.getD v.toNat 0) = min (lo.getD v.toNat 0) (ix.getD b.toNat 0) := by split <;> omega
          refine .mk ((ix, lo.set v.toNat (min (lo.getD v.toNat 0) (ix.getD b.toNat 0)), on, st, cnt, P), (bs, Js, vp, accp), (wy, v, k + 1), (bw, J)) rfl ?_ ⟨⟨hO, hP⟩, hA, hM⟩ ⟨rfl, rfl, trivial⟩ (shed_eq (by rw [← hmin]; rfl))
          show remW (toS n l) (wy ++ [(v, k + 1)]) + remU (toS n l) ix n < remW (toS n l) (wy ++ [(v, k)]) + remU (toS n l) ix n
          rw [remW_app, remW_app]; omega
        · rw [hon] at c2
          have hO := hF.off hlt hb hbn.1 c1 (of_decide_eq_false c2)
          refine .mk ((ix, lo, on, st, cnt, P), (bs, Js, vp, accp), (wy, v, k + 1), (bw, J)) rfl ?_ ⟨⟨hO, hP⟩, hA, hM⟩ ⟨rfl, rfl, trivial⟩ (.refl _)
          show remW (toS n l) (wy ++ [(v, k + 1)]) + remU (toS n l) ix n < remW (toS n l) (wy ++ [(v, k)]) + remU (toS n l) ix n
          rw [remW_app, remW_app]; omega
    · have hge : k = (toS n l v).length := by omega
      have hrP : readAs ⟨.strct [(0, 3), (1, 3)], 2, 16, [.int .i64 0, .int .i64 0]⟩ (wayC (wy ++ [(v, k)]) ++ J) (0 + (IntKind.i64.wrap (((wy.length + 1 : Nat) : Int) - 1)).toNat * 2) = some (.agg [.int .i64 v, .int .i64 k]) := rd_wide rfl (by rw [hX, hcl]; show wy.length * 2 + 2 ≤ _; omega) (by rw [hX]; exact wayC_place rfl)
      refine LoadAt.mk 5 _ _ rfl hrP ?_
      intro bt
      refine StoreAt.mk 0 _ _ rfl rfl ?_
      refine LoadAt.mk 0 _ _ rfl rfl ?_
      have hlen' : (IntKind.i64.wrap (((wy.length + 1 : Nat) : Int) - 1)).toNat - Int.toNat 0 = wy.length := by rw [hidx]; omega
      have hsl : 0 ≤ (0 : Int) ∧ (0 : Int) ≤ IntKind.i64.wrap (((wy.length + 1 : Nat) : Int) - 1) ∧ IntKind.i64.wrap (((wy.length + 1 : Nat) : Int) - 1) ≤ ((wy.length + 1 : Nat) : Int) ∧ 2 = 2 := ⟨by omega, by omega, by omega, rfl⟩
      by_cases he : lo.getD v.toNat 0 = ix.getD v.toNat 0
      · obtain ⟨A, B, hst, hA1, hB1⟩ := inc_split hF.tj.inc hvs
        have hvA : v ∉ A := fun hm => by have := hA1 v hm; omega
        have hvB : ∀ x ∈ v :: B, 0 ≤ x ∧ x < (n : Int) := fun x hx => hF.tj.node x (by rw [hst]; exact List.mem_append_right _ hx)
        have hnd := nodup_of_inc hF.tj.inc
        rw [hst] at hnd
        have hT := hF.tell (by omega) hst he (fun x y hy => (mem_toS.1 hy).1) (sortI_permS (v :: B)) (sortI_strict (List.nodup_append.1 hnd).2.1)
        have hPl := parts_lenS hF.tj.prt
        subst hst
        have hin : (inC (A ++ v :: B)).length = (A ++ v :: B).length * 1 := by rw [inC_length, Nat.mul_one]
        refine .perm _ (perm_leave [_, _, _, _, _] accp σ _ _) (aLeaveTell w bi bl bo n (nxL n l) ix lo A B on P cnt _ vp _ accp v _ hvn.1 hvn.2 hF.li hF.ll hF.lon he hvA hvB (by omega) (by omega) (.mref bs (A ++ v :: B).length (inC (A ++ v :: B)) Js hin) hP) ?_
        rintro _ _ ⟨rfl, vs', accs', vp', accp', hs', hp', rfl⟩
        have hpm : ((bt, [AV.int .i64 v, .int .i64 k]) :: (w, tjC (nxL n l) bi bl bo n vs' cnt vp') :: (bi, inC ix) :: (bl, inC lo) :: (bo, bbC (offS (v :: B) on)) :: (bw, wayC (wy ++ [(v, k)]) ++ J) :: (accs' ++ (accp' ++ σ))).Perm ((w, tjC (nxL n l) bi bl bo n vs' cnt vp') :: (bi, inC ix) :: (bl, inC lo) :: (bo, bbC (offS (v :: B) on)) :: (accs' ++ (accp' ++ ((bt, [AV.int .i64 v, .int .i64 k]) :: (bw, wayC (wy ++ [(v, k)]) ++ J) :: σ)))) := by
          have h1 := (perm_leave [(w, tjC (nxL n l) bi bl bo n vs' cnt vp'), (bi, inC ix), (bl, inC lo), (bo, bbC (offS (v :: B) on))] (accs' ++ accp') σ (bt, [AV.int .i64 v, .int .i64 k]) (bw, wayC (wy ++ [(v, k)]) ++ J)).symm
          rw [List.append_assoc, List.append_assoc] at h1
          exact h1
        refine ⟨_, hpm, ?_⟩
        refine With.mk hsl ?_
        rcases List.eq_nil_or_concat wy with hwy | ⟨w', ⟨u, i⟩, hwy⟩
        · have hwyl : wy.length = 0 := by rw [hwy]; rfl
          rw [hwy] at hT
          obtain rfl : A = [] := hT.st_nil
          refine bcond_dec (p := (0 : Int) < (((IntKind.i64.wrap (((wy.length + 1 : Nat) : Int) - 1)).toNat - Int.toNat 0 : Nat) : Int)) (fun c3 => ?_) (fun c3 => ?_)
          · rw [hlen', hwyl] at c3; exact absurd c3 (by decide)
          · refine .drop 0 1 (.drop 4 1 (.done ⟨rfl, ix, lo, offS (v :: B) on, cnt, P ++ [sortI (v :: B)], vs', accs', vp', accp', hT, hs', hp', hA, hM, rfl⟩))
        · have hwy : wy = w' ++ [(u, i)] := by simpa using hwy
          have hwyl : wy.length = w'.length + 1 := by rw [hwy, List.length_append]; rfl
          have hlw' : (IntKind.i64.wrap (((wy.length + 1 : Nat) : Int) - 1)).toNat - Int.toNat 0 = w'.length + 1 := hlen'.trans hwyl
          have hidx2 : IntKind.i64.wrap ((((IntKind.i64.wrap (((wy.length + 1 : Nat) : Int) - 1)).toNat - Int.toNat 0 : Nat) : Int) - 1) = ((w'.length : Nat) : Int) := by rw [hlw', w64 (by omega)]; omega
          have hX2 : (0 + Int.toNat 0 * 2) + (IntKind.i64.wrap ((((IntKind.i64.wrap (((wy.length + 1 : Nat) : Int) - 1)).toNat - Int.toNat 0 : Nat) : Int) - 1)).toNat * 2 + 0 = w'.length * 2 := by rw [hidx2, Int.toNat_natCast]; show 0 + 0 * 2 + _ + 0 = _; omega
          have hway : wayC (wy ++ [(v, k)]) ++ J = wayC (w' ++ [(u, i)]) ++ ([.int .i64 v, .int .i64 k] ++ J) := by rw [hwy, wayC_app, List.append_assoc]; rfl
          have hru : readAs ⟨.int .i64, 1, 8, [.int .i64 0]⟩ (wayC (wy ++ [(v, k)]) ++ J) ((0 + Int.toNat 0 * 2) + (IntKind.i64.wrap ((((IntKind.i64.wrap (((wy.length + 1 : Nat) : Int) - 1)).toNat - Int.toNat 0 : Nat) : Int) - 1)).toNat * 2 + 0) = some (.int .i64 u) := read1 rfl (by rw [hX2, hway]; exact wayC_node rfl)
          have hun : 0 ≤ u ∧ u < (n : Int) := hF.tj.node u (hF.tj.sub.subset (by rw [hwy]; simp))
          have hcut : AV.mref bw (0 + Int.toNat 0 * 2) ((IntKind.i64.wrap (((wy.length + 1 : Nat) : Int) - 1)).toNat - Int.toNat 0) 2 = .mref bw 0 (w'.length + 1) 2 := by rw [hlw']; rfl
          have hcut2 : AV.mref bw 0 (w'.length + 1) 2 = AV.mref bw (0 + Int.toNat 0 * 2) ((IntKind.i64.wrap (((wy.length + 1 : Nat) : Int) - 1)).toNat - Int.toNat 0) 2 := hcut.symm
          refine bcond_dec (p := (0 : Int) < (((IntKind.i64.wrap (((wy.length + 1 : Nat) : Int) - 1)).toNat - Int.toNat 0 : Nat) : Int)) (fun c3 => ?_) (fun c3 => ?_)
          rotate_left
          · rw [hlw'] at c3; omega
          have hwith2 : 2 = 2 ∧ 0 ≤ IntKind.i64.wrap ((((IntKind.i64.wrap (((wy.length + 1 : Nat) : Int) - 1)).toNat - Int.toNat 0 : Nat) : Int) - 1) ∧ IntKind.i64.wrap ((((IntKind.i64.wrap (((wy.length + 1 : Nat) : Int) - 1)).toNat - Int.toNat 0 : Nat) : Int) - 1) < (((IntKind.i64.wrap (((wy.length + 1 : Nat) : Int) - 1)).toNat - Int.toNat 0 : Nat) : Int) := ⟨rfl, by rw [hidx2]; omega, by rw [hidx2, hlw']; omega⟩
          refine With.mk hwith2 ?_
          refine LoadAt.mk 5 _ _ rfl hru ?_
          refine .sched [] (upto [] 23 0) (by kernel_rfl) ?_
          refine LoadAt.mk 1 _ _ rfl rfl ?_
          refine LoadAt.mk 1 _ _ rfl rfl ?_
          refine With.mk ⟨rfl, by omega, by omega⟩ ?_
          refine LoadAt.mk 3 _ _ rfl (inC_rd rfl hun.1 (by rw [hF.ll]; omega)) ?_
          refine LoadAt.mk 1 _ _ rfl rfl ?_
          refine LoadAt.mk 0 _ _ rfl rfl ?_
          refine With.mk ⟨rfl, by omega, by omega⟩ ?_
          refine LoadAt.mk 3 _ _ rfl (inC_rd rfl hvn.1 (by rw [hF.ll]; omega)) ?_
          refine With.mk ⟨rfl, by omega, by omega⟩ ?_
          refine StoreAt.mk 3 _ _ rfl (inC_wr rfl _ hun.1 (by rw [hF.ll]; omega)) ?_
          have hmin : (if lo.getD v.toNat 0 < lo.getD u.toNat 0 then lo.getD v.toNat 0 else lo.getD u.toNat 0) = min (lo.getD u.toNat 0) (lo.getD v.toNat 0) := by split <;> omega
          have hAn : 0 < A.length := List.length_pos_of_mem (a := u) (hT.tj.sub.subset (by rw [hwy]; simp))
          obtain ⟨bs1, Js1, rfl, rfl, _⟩ := hs'.pos hAn
          have hsame := FI.same (hwy ▸ hF) he
          rw [hwy] at hT
          have hE : (w, tjC (nxL n l) bi bl bo n (.mref bs1 0 A.length 1) cnt vp') :: (bi, inC ix) :: (bl, inC (lo.set u.toNat (if lo.getD v.toNat 0 < lo.getD u.toNat 0 then lo.getD v.toNat 0 else lo.getD u.toNat 0))) :: (bo, bbC (offS (v :: B) on)) :: (bs1, inC A ++ Js1) :: (bw, wayC (wy ++ [(v, k)]) ++ J) :: (accp' ++ σ) = (w, tjC (nxL n l) bi bl bo n (.mref bs1 0 A.length 1) cnt vp') :: (bi, inC ix) :: (bl, inC (lo)) :: (bo, bbC (offS (v :: B) on)) :: (bs1, inC A ++ Js1) :: (bw, wayC (w' ++ [(u, i)]) ++ ([.int .i64 v, .int .i64 k] ++ J)) :: (accp' ++ σ) := by rw [hmin, hsame, hway]
          refine .mk ((ix, lo, offS (v :: B) on, A, cnt, P ++ [sortI (v :: B)]), (bs1, Js1, vp', accp'), (w', u, i), (bw, [AV.int .i64 v, .int .i64 k] ++ J)) rfl ?_ ⟨⟨hT, hp'⟩, hA, hM⟩ ⟨rfl, hcut, trivial⟩ (.drop 0 1 (.pull [4, 4, 4, 4, 5] (shed_eq hE)))
          show remW (toS n l) (w' ++ [(u, i)]) + remU (toS n l) ix n < remW (toS n l) (wy ++ [(v, k)]) + remU (toS n l) ix n
          rw [hwy, remW_app (toS n l) (w' ++ [(u, i)])]; omega
      · have hNo := fun ρ => aLeaveNo w bi bl bo n (nxL n l) ix lo on cnt (.mref bs 0 st.length 1) vp v ρ hvn.1 hvn.2 hF.li hF.ll he
        refine callR [4, 4, 4, 4] (hNo _) ?_
        refine With.mk hsl ?_
        rcases List.eq_nil_or_concat wy with hwy | ⟨w', ⟨u, i⟩, hwy⟩
        · have hwyl : wy.length = 0 := by rw [hwy]; rfl
          rw [hwy] at hF
          exact absurd hF.one he
        · have hwy : wy = w' ++ [(u, i)] := by simpa using hwy
          have hwyl : wy.length = w'.length + 1 := by rw [hwy, List.length_append]; rfl
          have hlw' : (IntKind.i64.wrap (((wy.length + 1 : Nat) : Int) - 1)).toNat - Int.toNat 0 = w'.length + 1 := hlen'.trans hwyl
          have hidx2 : IntKind.i64.wrap ((((IntKind.i64.wrap (((wy.length + 1 : Nat) : Int) - 1)).toNat - Int.toNat 0 : Nat) : Int) - 1) = ((w'.length : Nat) : Int) := by rw [hlw', w64 (by omega)]; omega
          have hX2 : (0 + Int.toNat 0 * 2) + (IntKind.i64.wrap ((((IntKind.i64.wrap (((wy.length + 1 : Nat) : Int) - 1)).toNat - Int.toNat 0 : Nat) : Int) - 1)).toNat * 2 + 0 = w'.length * 2 := by rw [hidx2, Int.toNat_natCast]; show 0 + 0 * 2 + _ + 0 = _; omega
          have hway : wayC (wy ++ [(v, k)]) ++ J = wayC (w' ++ [(u, i)]) ++ ([.int .i64 v, .int .i64 k] ++ J) := by rw [hwy, wayC_app, List.append_assoc]; rfl
          have hru : readAs ⟨.int .i64, 1, 8, [.int .i64 0]⟩ (wayC (wy ++ [(v, k)]) ++ J) ((0 + Int.toNat 0 * 2) + (IntKind.i64.wrap ((((IntKind.i64.wrap (((wy.length + 1 : Nat) : Int) - 1)).toNat - Int.toNat 0 : Nat) : Int) - 1)).toNat * 2 + 0) = some (.int .i64 u) := read1 rfl (by rw [hX2, hway]; exact wayC_node rfl)
          have hun : 0 ≤ u ∧ u < (n : Int) := hF.tj.node u (hF.tj.sub.subset (by rw [hwy]; simp))
          have hcut : AV.mref bw (0 + Int.toNat 0 * 2) ((IntKind.i64.wrap (((wy.length + 1 : Nat) : Int) - 1)).toNat - Int.toNat 0) 2 = .mref bw 0 (w'.length + 1) 2 := by rw [hlw']; rfl
          have hcut2 : AV.mref bw 0 (w'.length + 1) 2 = AV.mref bw (0 + Int.toNat 0 * 2) ((IntKind.i64.wrap (((wy.length + 1 : Nat) : Int) - 1)).toNat - Int.toNat 0) 2 := hcut.symm
          refine bcond_dec (p := (0 : Int) < (((IntKind.i64.wrap (((wy.length + 1 : Nat) : Int) - 1)).toNat - Int.toNat 0 : Nat) : Int)) (fun c3 => ?_) (fun c3 => ?_)
          rotate_left
          · rw [hlw'] at c3; omega
          have hwith2 : 2 = 2 ∧ 0 ≤ IntKind.i64.wrap ((((IntKind.i64.wrap (((wy.length + 1 : Nat) : Int) - 1)).toNat - Int.toNat 0 : Nat) : Int) - 1) ∧ IntKind.i64.wrap ((((IntKind.i64.wrap (((wy.length + 1 : Nat) : Int) - 1)).toNat - Int.toNat 0 : Nat) : Int) - 1) < (((IntKind.i64.wrap (((wy.length + 1 : Nat) : Int) - 1)).toNat - Int.toNat 0 : Nat) : Int) := ⟨rfl, by rw [hidx2]; omega, by rw [hidx2, hlw']; omega⟩
          refine With.mk hwith2 ?_
          refine LoadAt.mk 6 _ _ rfl hru ?_
          refine .sched [] (upto [] 23 0) (by kernel_rfl) ?_
          refine LoadAt.mk 0 _ _ rfl rfl ?_
          refine LoadAt.mk 0 _ _ rfl rfl ?_
          refine With.mk ⟨rfl, by omega, by omega⟩ ?_
          refine LoadAt.mk 2 _ _ rfl (inC_rd rfl hun.1 (by rw [hF.ll]; omega)) ?_
          refine LoadAt.mk 0 _ _ rfl rfl ?_
          refine LoadAt.mk 4 _ _ rfl rfl ?_
          refine With.mk ⟨rfl, by omega, by omega⟩ ?_
          refine LoadAt.mk 2 _ _ rfl (inC_rd rfl hvn.1 (by rw [hF.ll]; omega)) ?_
          refine With.mk ⟨rfl, by omega, by omega⟩ ?_
          refine StoreAt.mk 2 _ _ rfl (inC_wr rfl _ hun.1 (by rw [hF.ll]; omega)) ?_
          have hmin : (if lo.getD v.toNat 0 < lo.getD u.toNat 0 then lo.getD v.toNat 0 else lo.getD u.toNat 0) = min (lo.getD u.toNat 0) (lo.getD v.toNat 0) := by split <;> omega
          have hU := FI.up (hwy ▸ hF) (by omega) he
          have hE : (w, tjC (nxL n l) bi bl bo n (.mref bs 0 st.length 1) cnt vp) :: (bi, inC ix) :: (bl, inC (lo.set u.toNat (if lo.getD v.toNat 0 < lo.getD u.toNat 0 then lo.getD v.toNat 0 else lo.getD u.toNat 0))) :: (bo, bbC (on)) :: (bs, inC st ++ Js) :: (bw, wayC (wy ++ [(v, k)]) ++ J) :: (accp ++ σ) = (w, tjC (nxL n l) bi bl bo n (.mref bs 0 st.length 1) cnt vp) :: (bi, inC ix) :: (bl, inC (lo.set u.toNat (min (lo.getD u.toNat 0) (lo.getD v.toNat 0)))) :: (bo, bbC (on)) :: (bs, inC st ++ Js) :: (bw, wayC (w' ++ [(u, i)]) ++ ([.int .i64 v, .int .i64 k] ++ J)) :: (accp ++ σ) := by rw [hmin, hway]
          refine .mk ((ix, lo.set u.toNat (min (lo.getD u.toNat 0) (lo.getD v.toNat 0)), on, st, cnt, P), (bs, Js, vp, accp), (w', u, i), (bw, [AV.int .i64 v, .int .i64 k] ++ J)) rfl ?_ ⟨⟨hU, hP⟩, hA, hM⟩ ⟨rfl, hcut, trivial⟩ (.drop 4 1 (shed_eq hE))
          show remW (toS n l) (w' ++ [(u, i)]) + remU (toS n l) ix n < remW (toS n l) (wy ++ [(v, k)]) + remU (toS n l) ix n
          rw [hwy, remW_app (toS n l) (w' ++ [(u, i)])]; omega
  · intro hr
    obtain ⟨ix, lo, on, hF, hA, hM, heq, hEn⟩ : ∃ ix lo on, FI n (toS n l) ix lo on [a] (cnt0 + 1) P0 [(a, 0)] ∧ ix.getD a.toNat 0 ≠ 0 ∧ (∀ b : Nat, ix0.getD b 0 ≠ 0 → ix.getD b 0 ≠ 0) ∧ lo.getD a.toNat 0 = ix.getD a.toNat 0 ∧ ∀ ρ, ACalls Tryz.prog 146 [.ptr w 0, .int .i64 a] ((w, tjC (nxL n l) bi bl bo n vs0 cnt0 vp0) :: (bi, inC ix0) :: (bl, inC lo0) :: (bo, bbC on0) :: (accs0 ++ ρ))
        (fun r σ' => r = .agg [.int .i64 a, .int .i64 0] ∧ ∃ bs Js, σ' = (w, tjC (nxL n l) bi bl bo n (.mref bs 0 [a].length 1) (cnt0 + 1) vp0) :: (bi, inC ix) :: (bl, inC lo) :: (bo, bbC on) :: (bs, inC [a] ++ Js) :: ρ) := by
      have h1 := h.enter (way2 := []) ha hf (fun v hv => by cases hv) rfl (fun t ht => by cases ht) (fun t ht => by cases ht)
      refine ⟨_, _, _, h1, ?_, ?_, ?_, fun ρ => (aEnter w bi bl bo n (nxL n l) ix0 lo0 [] on0 cnt0 vs0 vp0 accs0 a ρ ha.1 ha.2 h.li h.ll h.lon hs (Nat.zero_le _) (by omega)).mono ?_⟩
      · rw [getD_setI, if_pos ⟨rfl, by rw [h.li]; omega⟩]; omega
      · intro z hz
        rw [getD_setI]; split
        · omega
        · exact hz
      · rw [getD_setI, getD_setI, if_pos ⟨rfl, by rw [h.ll]; omega⟩, if_pos ⟨rfl, by rw [h.li]; omega⟩]
      · rintro _ _ ⟨rfl, vs1, accs1, hs1, rfl⟩
        obtain ⟨bs, Js, rfl, rfl, _⟩ := hs1.pos (by show 0 < 1; decide)
        exact ⟨rfl, bs, Js, rfl⟩
    clear hf hs h
    have hle := hF.cnt_le
    have htn := toS_length n l a
    refine .mk [] _ (hEn (accp0 ++ σ)) ?_
    rintro _ _ ⟨rfl, bs, Js, rfl⟩
    intro bw
    refine With.mk ⟨rfl, by decide, by decide⟩ ?_
    refine .quiet (by kernel_rfl) ?_
    refine LoadAt.mk 0 _ _ rfl rfl ?_
    refine LoadAt.mk 1 _ _ rfl rfl ?_
    refine LoadAt.mk 0 _ _ rfl rfl ?_
    refine With.mk rfl ?_
    refine IdxF.mk (toS n l a) (by omega) (nxL_at ha) ?_
    refine bcond_dec (p := (0 : Int) < (toS n l a).length) (fun hlt => ?_) (fun hge => ?_)
    · have hlt : 0 < (toS n l a).length := by omega
      obtain ⟨b, hb⟩ : ∃ b, (toS n l a)[0] = b := ⟨_, rfl⟩
      have hbm : b ∈ toS n l a := hb ▸ List.getElem_mem hlt
      have hbn := (mem_toS.1 hbm).1
      refine .quiet (by kernel_rfl) ?_
      refine LoadAt.mk 1 _ _ rfl rfl ?_
      refine LoadAt.mk 0 _ _ rfl rfl ?_
      refine With.mk rfl ?_
      refine IdxF.mk (toS n l a) (by omega) (nxL_at ha) ?_
      refine LoadAt.mk 0 _ _ rfl rfl ?_
      refine With.mk rfl ?_
      refine IdxF.mk b (by decide) ((get_some hlt).trans (congrArg some hb)) ?_
      refine LoadAt.mk 0 _ _ rfl rfl ?_
      refine StoreAt.mk 0 _ _ rfl rfl ?_
      refine LoadAt.mk 1 _ _ rfl rfl ?_
      refine With.mk ⟨rfl, by omega, by omega⟩ ?_
      refine LoadAt.mk 2 _ _ rfl (inC_rd rfl hbn.1 (by rw [hF.li]; omega)) ?_
      refine bcond_dec (p := ix.getD b.toNat 0 = 0) (fun c1 => ?_) (fun c1 => ?_)
      · have hN := FI.new (w := []) hF hlt hb hbn c1
        refine .mk [5, 5, 5, 5, 5] _ (aEnter w bi bl bo n (nxL n l) ix lo [a] on (cnt0 + 1) _ vp0 _ b ((bw, [.int .i64 a, .int .i64 1]) :: (accp0 ++ σ)) hbn.1 hbn.2 hF.li hF.ll hF.lon (.mref bs 1 (inC [a]) Js rfl) (by show 1 ≤ 10000; decide) (by omega)) ?_
        rintro _ _ ⟨rfl, vs1, accs1, hs1, rfl⟩
        obtain ⟨bs1, Js1, rfl, rfl, _⟩ := hs1.pos (by show 0 < 2; decide)
        intro bl1
        refine append_accJ (k := 1) (n := 1) [_, _, _, _, _, _] (.mref bw 1 (wayC [(a, 1)]) [] rfl) (.mref 0 bl1 0 1 _ rfl (Nat.le_of_ble_eq_true rfl)) rfl (by decide) (by decide) (by decide) (fun v' acc' h' => ?_)
        obtain ⟨bw2, J2, rfl, rfl, _⟩ := h'.pos (by decide)
        refine loop_with hr ((ix.set b.toNat ((cnt0 + 1 + 1 : Nat) : Int), lo.set b.toNat ((cnt0 + 1 + 1 : Nat) : Int), on.set b.toNat true, [a] ++ [b], cnt0 + 1 + 1, P0), (bs1, Js1, vp0, accp0), ([(a, 1)], b, 0), (bw2, J2)) ⟨rfl, ⟨⟨hN, hp⟩, ?_, ?_⟩, ⟨rfl, rfl, trivial⟩, .drop 0 1 (shed_eq rfl)⟩
        · show (ix.set b.toNat ((cnt0 + 1 + 1 : Nat) : Int)).getD a.toNat 0 ≠ 0
          rw [getD_setI]; split
          · omega
          · exact hA
        · intro z hz
          show (ix.set b.toNat ((cnt0 + 1 + 1 : Nat) : Int)).getD z 0 ≠ 0
          rw [getD_setI]; split
          · omega
          · exact hM z hz
      · have c1 : ¬ (ix.getD b.toNat 0 = 0) := c1
        have hon := hF.onk b hbn.1 hbn.2
        refine LoadAt.mk 1 _ _ rfl rfl ?_
        refine With.mk ⟨rfl, by omega, by omega⟩ ?_
        refine LoadAt.mkB 4 _ _ rfl (bbC_read rfl hbn.1 (by rw [hF.lon]; omega)) (fun c2 => ?_) (fun c2 => ?_)
        · rw [hon] at c2
          have hO := FI.onSt (w := []) hF hlt hb (of_decide_eq_true c2)
          refine .sched [] (upto [] 28 0) (by kernel_rfl) ?_
          refine LoadAt.mk 1 _ _ rfl rfl ?_
          refine LoadAt.mk 0 _ _ rfl rfl ?_
          refine LoadAt.mk 1 _ _ rfl rfl ?_
          refine LoadAt.mk 0 _ _ rfl rfl ?_
          refine With.mk ⟨rfl, by omega, by omega⟩ ?_
          refine LoadAt.mk 3 _ _ rfl (inC_rd rfl ha.1 (by rw [hF.ll]; omega)) ?_
          refine LoadAt.mk 1 _ _ rfl rfl ?_
          refine With.mk ⟨rfl, by omega, by omega⟩ ?_
          refine LoadAt.mk 2 _ _ rfl (inC_rd rfl hbn.1 (by rw [hF.li]; omega)) ?_
          refine With.mk ⟨rfl, by omega, by omega⟩ ?_
          refine StoreAt.mk 3 _ _ rfl (inC_wr rfl _ ha.1 (by rw [hF.ll]; omega)) ?_
          have hmin : (if ix.getD b.toNat 0 < lo.getD a.toNat 0 then ix.getD b.toNat 0 else lo.getD a.toNat 0) = min (lo.getD a.toNat 0) (ix.getD b.toNat 0) := by split <;> omega
          have hE : (w, tjC (nxL n l) bi bl bo n (.mref bs 0 [a].length 1) (cnt0 + 1) vp0) :: (bi, inC ix) :: (bl, inC (lo.set a.toNat (if ix.getD b.toNat 0 < lo.getD a.toNat 0 then ix.getD b.toNat 0 else lo.getD a.toNat 0))) :: (bo, bbC on) :: (bs, inC [a] ++ Js) :: (bw, wayC [(a, 1)] ++ []) :: (accp0 ++ σ) = (w, tjC (nxL n l) bi bl bo n (.mref bs 0 [a].length 1) (cnt0 + 1) vp0) :: (bi, inC ix) :: (bl, inC (lo.set a.toNat (min (lo.getD a.toNat 0) (ix.getD b.toNat 0)))) :: (bo, bbC on) :: (bs, inC [a] ++ Js) :: (bw, wayC [(a, 1)] ++ []) :: (accp0 ++ σ) := by rw [hmin]
          exact loop_with hr ((ix, lo.set a.toNat (min (lo.getD a.toNat 0) (ix.getD b.toNat 0)), on, [a], cnt0 + 1, P0), (bs, Js, vp0, accp0), ([], a, 1), (bw, [])) ⟨rfl, ⟨⟨hO, hp⟩, hA, hM⟩, ⟨rfl, rfl, trivial⟩, .pull [5, 5, 5, 5, 5] (shed_eq hE)⟩
        · rw [hon] at c2
          have hO := FI.off (w := []) hF hlt hb hbn.1 c1 (of_decide_eq_false c2)
          exact loop_with hr ((ix, lo, on, [a], cnt0 + 1, P0), (bs, Js, vp0, accp0), ([], a, 1), (bw, [])) ⟨rfl, ⟨⟨hO, hp⟩, hA, hM⟩, ⟨rfl, rfl, trivial⟩, .pull [5, 5, 5, 5, 5] (shed_eq rfl)⟩
    · have hge : (toS n l a).length = 0 := by omega
      refine LoadAt.mk 0 _ _ rfl rfl ?_
      intro bl1
      refine StoreAt.mk 0 _ _ rfl rfl ?_
      refine LoadAt.mk 0 _ _ rfl rfl ?_
      have hT := FI.tell (w := []) (A := []) (B := []) (part := sortI [a]) hF (by omega) rfl heq (fun x y hy => (mem_toS.1 hy).1) (sortI_permS [a]) (sortI_strict (by simp))
      have hPl := parts_lenS hF.tj.prt
      have hpm0 : ((w, tjC (nxL n l) bi bl bo n (.mref bs 0 [a].length 1) (cnt0 + 1) vp0) :: (bi, inC ix) :: (bl, inC lo) :: (bo, bbC on) :: (bs, inC [a] ++ Js) :: (accp0 ++ ((bl1, [AV.int .i64 a, .int .i64 0]) :: (bw, [AV.int .i64 a, .int .i64 0]) :: σ))).Perm ((bl1, [AV.int .i64 a, .int .i64 0]) :: (bw, [AV.int .i64 a, .int .i64 0]) :: (w, tjC (nxL n l) bi bl bo n (.mref bs 0 [a].length 1) (cnt0 + 1) vp0) :: (bi, inC ix) :: (bl, inC lo) :: (bo, bbC on) :: (bs, inC [a] ++ Js) :: (accp0 ++ σ)) := by
        have h1 := perm_leave [(w, tjC (nxL n l) bi bl bo n (.mref bs 0 [a].length 1) (cnt0 + 1) vp0), (bi, inC ix), (bl, inC lo), (bo, bbC on), (bs, inC [a] ++ Js)] accp0 σ (bl1, [AV.int .i64 a, .int .i64 0]) (bw, [AV.int .i64 a, .int .i64 0])
        exact h1.trans (List.Perm.cons _ (List.perm_middle (l₁ := [(w, tjC (nxL n l) bi bl bo n (.mref bs 0 [a].length 1) (cnt0 + 1) vp0), (bi, inC ix), (bl, inC lo), (bo, bbC on), (bs, inC [a] ++ Js)])))
      refine .perm _ hpm0 (aLeaveTell w bi bl bo n (nxL n l) ix lo [] [] on P0 (cnt0 + 1) _ vp0 _ accp0 a _ ha.1 ha.2 hF.li hF.ll hF.lon heq (by simp) (fun x hx => by rw [List.mem_singleton.1 hx]; exact ha) (by show 1 ≤ 10000; decide) (by omega) (.mref bs 1 (inC [a]) Js rfl) hp) ?_
      rintro _ _ ⟨rfl, vs', accs', vp', accp', hs', hp', rfl⟩
      have hpm : ((bl1, [AV.int .i64 a, .int .i64 0]) :: (w, tjC (nxL n l) bi bl bo n vs' (cnt0 + 1) vp') :: (bi, inC ix) :: (bl, inC lo) :: (bo, bbC (offS [a] on)) :: (bw, [AV.int .i64 a, .int .i64 0]) :: (accs' ++ (accp' ++ σ))).Perm ((w, tjC (nxL n l) bi bl bo n vs' (cnt0 + 1) vp') :: (bi, inC ix) :: (bl, inC lo) :: (bo, bbC (offS [a] on)) :: (accs' ++ (accp' ++ ((bl1, [AV.int .i64 a, .int .i64 0]) :: (bw, [AV.int .i64 a, .int .i64 0]) :: σ)))) := by
        have h1 := (perm_leave [(w, tjC (nxL n l) bi bl bo n vs' (cnt0 + 1) vp'), (bi, inC ix), (bl, inC lo), (bo, bbC (offS [a] on))] (accs' ++ accp') σ (bl1, [AV.int .i64 a, .int .i64 0]) (bw, [AV.int .i64 a, .int .i64 0])).symm
        rw [List.append_assoc, List.append_assoc] at h1
        exact h1
      refine ⟨_, hpm, ?_⟩
      refine With.mk (by decide) ?_
      exact .drop 0 1 (.drop 4 1 (.done ⟨rfl, ix, lo, offS [a] on, cnt0 + 1, P0 ++ [sortI [a]], vs', accs', vp', accp', hT, hs', hp', hA, hM, rfl⟩))
end Go.Proofs.YtljbnigceammdaaGreatDoor
