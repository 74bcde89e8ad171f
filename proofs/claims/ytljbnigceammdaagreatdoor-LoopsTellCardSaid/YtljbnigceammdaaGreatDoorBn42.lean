/-
  Tu; Lpd; Sc: what the claim uses of them.
-/
import Derived.Test.YtljbnigceammdaaGreatDoorBn24
import Derived.Test.YtljbnigceammdaaGreatDoorBn29
import Derived.Test.YtljbnigceammdaaGreatDoorBn37
import Derived.Test.YtljbnigceammdaaGreatDoorBn33
import Derived.Test.YtljbnigceammdaaGreatDoorBn40
import Derived.Test.YtljbnigceammdaaGreatDoorBn27
import Derived.Test.YtljbnigceammdaaGreatDoorBn13
namespace Go.Proofs.YtljbnigceammdaaGreatDoor
open Go.RowKit
theorem erase_mid {α : Type} (fr σ : List α) (x : α) : (fr ++ (x :: σ)).eraseIdx fr.length = fr ++ σ := by
  rw [List.eraseIdx_append_of_length_le (Nat.le_refl _), Nat.sub_self]; rfl
theorem get_mid {α : Type} (fr σ : List α) (x : α) : (fr ++ (x :: σ))[fr.length]? = some x := by
  rw [List.getElem?_append_right (Nat.le_refl _), Nat.sub_self]; rfl
/-- Such a list among what a call is handed. -/
theorem call_acc {e : Sh} {k : Nat} {v : AV} {acc : Hp} {cs : List AV} {l : List e.T} {f : FuncId} {K : AV → Hp → Prop} (fr : Hp) {σ : Hp} {xs ys : List AV} (h : Acc e.size k v acc cs) (hl : k = l.length) (hc : cs = l.flatMap e.cells) (hp : 0 < e.size)
    (hr : ∀ {b off len es : Nat} {e' : Sh} {l' : List e'.T}, FrzRel b off len es e' l' v (.fsl e l) → FrzRel b off len es e' l' (.tup xs) (.tup ys)) (go : CallAt Tryz.prog f K ys (fr ++ σ)) : CallAt Tryz.prog f K xs (fr ++ (acc ++ σ)) := by
  cases h with
  | nil =>
    obtain rfl := List.length_eq_zero_iff.1 hl.symm
    exact .mk [] K (acalls_nil (hr (.nil e)) (callAt_get go)) fun _ _ h => h
  | mref b k cs h =>
    refine .frz (args' := ys) fr.length b 0 k e.size cs e l (get_mid fr σ _) (by rw [List.drop_zero, List.take_of_length_le (by omega)]; exact hc) ⟨hl.symm, rfl, hp⟩ (hr .here) ?_
    rw [show (fr ++ ([(b, cs)] ++ σ)).eraseIdx fr.length = fr ++ σ from erase_mid fr σ _]
    exact go
set_option maxRecDepth 100000
def turnP (x : PrT) : PrT := (x.2.1, x.1, ())
def turnE (L : List PrT) : List PrT := L.map turnP
theorem turnE_succ {L : List PrT} {k : Nat} (h : k < L.length) : turnE (L.take (k + 1)) = turnE (L.take k) ++ [turnP L[k]] := by
  unfold turnE; rw [List.take_succ_eq_append_getElem h, List.map_append]; rfl
theorem turnE_length (L : List PrT) : (turnE L).length = L.length := by unfold turnE; simp
theorem aFlowReverse (L : List PrT) (σ : Hp) (hl : L.length ≤ 100000) : ACalls Tryz.prog 121 [.fsl prSh L] σ (Ret (.fsl prSh (sortedE (turnE L))) σ) := by
  refine okF Tryz.func121 (by kernel_rfl) ?_
  refine .wrap 3 _ rfl rfl ?_
  refine loopS (S := Nat × AV × Hp) (fun s => [(3, .via s.2.1), (6, .fsl prSh L), (7, .int .i64 L.length), (8, .int .i64 s.1)]) (fun s => s.2.2 ++ σ) (fun s => s.1 ≤ L.length ∧ Acc 2 s.1 s.2.1 s.2.2 (prC (turnE (L.take s.1)))) (fun s => L.length - s.1) (0, .nils, []) ⟨⟨Nat.zero_le _, .nil⟩, ⟨rfl, rfl, rfl, rfl, trivial⟩, rfl⟩ ?_
  rintro ⟨k, v, acc⟩ g ⟨hk0, hacc0⟩
  have hk : k ≤ L.length := hk0
  have hacc : Acc 2 k v acc (prC (turnE (L.take k))) := hacc0
  clear hk0 hacc0
  refine bcond_dec (fun hlt => ?_) (fun hge => ?_)
  · have hlt : k < L.length := by have hlt : (k : Int) < L.length := hlt; omega
    have hs := turnE_succ hlt
    obtain ⟨x, hx⟩ : ∃ x : PrT, L[k] = x := ⟨_, rfl⟩
    rw [hx] at hs
    obtain ⟨x1, x2, xu⟩ := x
    refine With.mk rfl (IdxF.mk (x1, x2, xu) (by omega) ((get_some hlt).trans (congrArg some hx)) ?_)
    intro bl1
    refine StoreAt.mk 0 _ _ rfl rfl ?_
    refine LoadAt.mk 0 _ _ rfl rfl ?_
    refine LoadAt.mk 0 _ _ rfl rfl ?_
    intro bl2
    refine append_acc [_, _] hacc (.mref 0 bl2 0 1 _ rfl (Nat.le_of_ble_eq_true rfl)) rfl (by omega) (by decide) (by decide) (fun v3 acc3 h3 => ?_)
    refine nextS (k + 1, v3, acc3) (by show L.length - (k + 1) < L.length - k; omega) ⟨(show k + 1 ≤ L.length by omega), ?_⟩ ⟨rfl, rfl, rfl, inc64 (k := k) (by omega), trivial⟩ (.drop 0 2 (shed_eq rfl))
    show Acc 2 (k + 1) v3 acc3 (prC (turnE (L.take (k + 1))))
    rw [hs, prC_app]; exact h3
  · have hge : k = L.length := by have hge : ¬ (k : Int) < L.length := hge; omega
    subst hge
    rw [List.take_length] at hacc
    refine call_acc (e := prSh) (l := turnE L) [] hacc (turnE_length L).symm rfl (by decide) (fun h => frz_cons h frz_nil) ?_
    refine callR [] (aFlowSorted (turnE L) _ (by rw [turnE_length]; omega)) ?_
    exact .done ⟨rfl, rfl⟩
end Go.Proofs.YtljbnigceammdaaGreatDoor
namespace Go.Proofs.YtljbnigceammdaaGreatDoor
open Go.RowKit
set_option maxRecDepth 100000
/-- The nodes from which an edge leads to a. -/
def backZ (N : Nat) (l : List EdgeT) (a : Int) : List Int := toS N (sortedE (turnE l)) a
theorem mem_backZ {N : Nat} {l : List EdgeT} {a b : Int} : b ∈ backZ N l a ↔ a ∈ toS N l b := by
  unfold backZ
  rw [toS_sorted, mem_toS, mem_toS]
  constructor
  · rintro ⟨q1, q2, e, he, e1, e2⟩
    unfold turnE at he
    obtain ⟨x, hx, rfl⟩ := List.mem_map.1 he
    exact ⟨q2, q1, x, hx, e2, e1⟩
  · rintro ⟨q1, q2, e, he, e1, e2⟩
    exact ⟨q2, q1, turnP e, List.mem_map_of_mem he, e2, e1⟩
def mkM (ml : List (Int × Int)) (z : Int) : Int := (getM ml z).getD 0
theorem mkM_put (ml : List (Int × Int)) (a z : Int) : mkM (putM ml a 1) z = if z = a then 1 else mkM ml z := by
  unfold mkM
  rw [getM_putD]
  split <;> rfl
/-- How the nodes round a head stand: which are marked, which wait. -/
structure BI (N : Nat) (l : List EdgeT) (h : Int) (F : List Int) (ml : List (Int × Int)) (W : List Int) : Prop where
  v01 : ∀ z, mkM ml z = 0 ∨ mkM ml z = 1
  hd : mkM ml h = 1
  snd : ∀ z, mkM ml z = 1 → z = h ∨ Bk N l h F z
  wt : ∀ z ∈ W, z = h ∨ Bk N l h F z
  bs : ∀ f ∈ F, f ≠ h → mkM ml f = 1 ∨ f ∈ W
  cl : ∀ a, mkM ml a = 1 → a ≠ h → ∀ b, a ∈ toS N l b → mkM ml b = 1 ∨ b ∈ W
theorem BI.start (N : Nat) (l : List EdgeT) (h : Int) (F : List Int) : BI N l h F (putM [] h 1) (F.filter fun a => decide (a ≠ h)) := by
  have h0 : ∀ z, mkM (putM [] h 1) z = if z = h then 1 else 0 := fun z => by rw [mkM_put]; rfl
  refine ⟨fun z => ?_, by rw [h0, if_pos rfl], fun z hz => ?_, fun z hz => ?_, fun f hf hne => .inr (List.mem_filter.2 ⟨hf, decide_eq_true hne⟩), fun a ha hne => ?_⟩
  · rw [h0]; split
    · exact .inr rfl
    · exact .inl rfl
  · rw [h0] at hz
    by_cases e : z = h
    · exact .inl e
    · rw [if_neg e] at hz; cases hz
  · obtain ⟨h1, h2⟩ := List.mem_filter.1 hz
    exact .inr (.base h1 (of_decide_eq_true h2))
  · rw [h0, if_neg hne] at ha; cases ha
/-- The first one that waits was marked already. -/
theorem BI.skip {N : Nat} {l : List EdgeT} {h : Int} {F : List Int} {ml : List (Int × Int)} {a : Int} {W : List Int} (i : BI N l h F ml (a :: W)) (ha : mkM ml a ≠ 0) : BI N l h F ml W := by
  have ha : mkM ml a = 1 := (i.v01 a).resolve_left ha
  have key : ∀ {z : Int}, mkM ml z = 1 ∨ z ∈ a :: W → mkM ml z = 1 ∨ z ∈ W := fun {z} hz => by
    rcases hz with hz | hz
    · exact .inl hz
    · rcases List.mem_cons.1 hz with e | hz
      · exact .inl (e ▸ ha)
      · exact .inr hz
  exact ⟨i.v01, i.hd, i.snd, fun z hz => i.wt z (List.mem_cons_of_mem _ hz), fun f hf hne => key (i.bs f hf hne), fun b hb hne c hc => key (i.cl b hb hne c hc)⟩
/-- It is marked. -/
theorem BI.mark {N : Nat} {l : List EdgeT} {h : Int} {F : List Int} {ml : List (Int × Int)} {a : Int} {W : List Int} (i : BI N l h F ml (a :: W)) (ha : mkM ml a = 0) : BI N l h F (putM ml a 1) (W ++ backZ N l a) := by
  have hah : a ≠ h := fun e => by rw [e, i.hd] at ha; cases ha
  have hab : Bk N l h F a := (i.wt a (List.mem_cons_self ..)).resolve_left hah
  have h0 := mkM_put ml a
  have key : ∀ {z : Int}, mkM ml z = 1 ∨ z ∈ a :: W → mkM (putM ml a 1) z = 1 ∨ z ∈ W ++ backZ N l a := fun {z} hz => by
    rw [h0]
    by_cases e : z = a
    · exact .inl (if_pos e)
    · rw [if_neg e]
      rcases hz with hz | hz
      · exact .inl hz
      · exact .inr (List.mem_append_left _ ((List.mem_cons.1 hz).resolve_left e))
  refine ⟨fun z => ?_, ?_, fun z hz => ?_, fun z hz => ?_, fun f hf hne => key (i.bs f hf hne), fun b hb hne c hc => ?_⟩
  · rw [h0]; split
    · exact .inr rfl
    · exact i.v01 z
  · rw [h0]; split
    · rfl
    · exact i.hd
  · rw [h0] at hz
    by_cases e : z = a
    · rw [e]; exact .inr hab
    · rw [if_neg e] at hz; exact i.snd z hz
  · rcases List.mem_append.1 hz with hz | hz
    · exact i.wt z (List.mem_cons_of_mem _ hz)
    · by_cases e : z = h
      · exact .inl e
      · exact .inr (.step hab (mem_backZ.1 hz) e)
  · rw [h0] at hb
    by_cases e : b = a
    · subst e
      exact .inr (List.mem_append_right _ (mem_backZ.2 hc))
    · rw [if_neg e] at hb
      exact key (i.cl b hb hne c hc)
theorem BI.done {N : Nat} {l : List EdgeT} {h : Int} {F : List Int} {ml : List (Int × Int)} (i : BI N l h F ml []) (z : Int) : mkM ml z = 1 ↔ z = h ∨ Bk N l h F z := by
  refine ⟨i.snd z, fun hz => ?_⟩
  rcases hz with rfl | hz
  · exact i.hd
  · induction hz with
    | base hf hne => exact (i.bs _ hf hne).resolve_right (by simp)
    | step hb hab hne ih => exact (i.cl _ ih hb.ne _ hab).resolve_right (by simp)
theorem BI.node {N : Nat} {l : List EdgeT} {h : Int} {F : List Int} {ml : List (Int × Int)} {W : List Int} (i : BI N l h F ml W) (hh : 0 ≤ h ∧ h < N) (hF : ∀ f ∈ F, 0 ≤ f ∧ f < (N : Int)) : ∀ z ∈ W, 0 ≤ z ∧ z < (N : Int) := fun z hz => by
  rcases i.wt z hz with e | hb
  · rw [e]; exact hh
  · exact hb.node hF
/-- How many aren't marked. -/
def unM (ml : List (Int × Int)) (n : Nat) : Nat := ((List.range n).map fun a : Nat => if mkM ml a = 0 then 1 else 0).sum
theorem unM_succ (ml : List (Int × Int)) (n : Nat) : unM ml (n + 1) = unM ml n + if mkM ml n = 0 then 1 else 0 := by unfold unM; rw [List.range_succ]; simp
theorem unM_put {ml : List (Int × Int)} {a : Nat} (ha : mkM ml a = 0) : ∀ n, unM (putM ml a 1) n + (if a < n then 1 else 0) = unM ml n
  | 0 => rfl
  | n + 1 => by
    have ih := unM_put ha n
    have hg := mkM_put ml a n
    rw [unM_succ, unM_succ, hg]
    by_cases e : a = n
    · subst e
      rw [if_pos rfl, if_neg (by decide), if_pos ha, if_pos (by omega)]
      rw [if_neg (by omega)] at ih
      omega
    · rw [if_neg (show ¬ ((n : Int) = a) by omega)]
      by_cases c : a < n
      · have e2 : (if a < n + 1 then 1 else 0) = 1 := if_pos (by omega)
        rw [if_pos c] at ih; rw [e2]; omega
      · have e2 : (if a < n + 1 then 1 else 0) = 0 := if_neg (by omega)
        rw [if_neg c] at ih; rw [e2]; omega
theorem unM_le (ml : List (Int × Int)) : ∀ n, unM ml n ≤ n
  | 0 => Nat.le_refl _
  | n + 1 => by
    have := unM_le ml n
    rw [unM_succ]; split <;> omega
end Go.Proofs.YtljbnigceammdaaGreatDoor
namespace Go.Proofs.YtljbnigceammdaaGreatDoor
open Go.RowKit
set_option maxRecDepth 100000
/-- A list that was made by append, and cut: its block may go on behind it. -/
inductive AccJ (e : Nat) : Nat → AV → Hp → List AV → Prop
  | nil : AccJ e 0 .nils [] []
  | mref (b k : Nat) (cs J : List AV) (h : cs.length = k * e) : AccJ e k (.mref b 0 k e) [(b, cs ++ J)] cs
theorem AccJ.unv {e k : Nat} {v : AV} {acc : Hp} {cs : List AV} (h : AccJ e k v acc cs) : AccJ e k (unvia v) acc cs := by
  cases h with
  | nil => exact .nil
  | mref b k cs J h => exact .mref b k cs J h
theorem AccJ.pos {e k : Nat} {v : AV} {acc : Hp} {cs : List AV} (h : AccJ e k v acc cs) (h0 : 0 < k) : ∃ b J, v = .mref b 0 k e ∧ acc = [(b, cs ++ J)] ∧ cs.length = k * e := by
  cases h with
  | nil => omega
  | mref b k cs J h => exact ⟨b, J, rfl, rfl, h⟩
theorem append_accJ {i : TI} {K : AV → Hp → Prop} (fr : Hp) {acc σ : Hp} {k n : Nat} {v x : AV} {cs new : List AV} (h : AccJ i.size k v acc cs) (hx : SrcAt (fr ++ (acc ++ σ)) i.size x n new) (hnew : new.length = n * i.size) (hn : k + n ≤ 1048576) (hb : i.bytes ≤ 1024) (h0 : 0 < i.size)
    (go : ∀ v' acc', AccJ i.size (k + n) v' acc' (cs ++ new) → K v' (fr ++ (acc' ++ σ))) : AppendAt i (fr ++ (acc ++ σ)) v x K := by
  cases h with
  | nil =>
    refine .perm _ (front_perm' fr [] σ) (.fresh n new (.inl rfl) (hx.perm (front_perm' fr [] σ)) (by omega) hb h0 (K := fun v σ3 => (n = 0 ∧ v = .nils ∧ σ3 = [] ++ (fr ++ σ)) ∨ (n ≠ 0 ∧ ∃ b, v = .mref b 0 n i.size ∧ σ3 = (b, new) :: ([] ++ (fr ++ σ)))) (fun hne b => .inr ⟨hne, b, rfl, rfl⟩) (fun h0 => .inl ⟨h0, rfl, rfl⟩)) ?_
    rintro v σ3 (⟨hz, rfl, rfl⟩ | ⟨hz, b, rfl, rfl⟩)
    · subst hz
      obtain rfl : new = [] := List.length_eq_zero_iff.1 (by simpa using hnew)
      exact ⟨_, (front_perm' fr [] σ).symm, .inl (go _ _ .nil)⟩
    · refine ⟨_, (front_perm' fr [(b, new)] σ).symm, .inl (go _ _ ?_)⟩
      have := AccJ.mref (e := i.size) b (0 + n) new [] (by rw [Nat.zero_add]; exact hnew)
      rw [List.append_nil, Nat.zero_add] at this
      rw [Nat.zero_add]
      exact this
  | mref b k cs J hl =>
    refine .perm _ (front_perm' fr [(b, cs ++ J)] σ) (.more 0 b k n (cs ++ J) new rfl rfl (by rw [List.length_append]; omega) (hx.perm (front_perm' fr [(b, cs ++ J)] σ)) hn hb h0 (K := fun v σ3 => ∃ b', v = .mref b' 0 (k + n) i.size ∧ σ3 = (b', cs ++ new) :: (fr ++ σ)) (fun b' => ⟨b', rfl, by rw [List.take_append_of_le_length (by omega), List.take_of_length_le (by omega)]; rfl⟩)) ?_
    rintro v σ3 ⟨b', rfl, rfl⟩
    refine ⟨_, (front_perm' fr [(b', cs ++ new)] σ).symm, .inl (go _ _ ?_)⟩
    have := AccJ.mref (e := i.size) b' (k + n) (cs ++ new) [] (by rw [List.length_append, hl, hnew, Nat.add_mul])
    rw [List.append_nil] at this
    exact this
theorem inC_wr {i : TI} (hs : i.size = 1) {l : List Int} (x : Int) {a : Int} (h1 : 0 ≤ a) (h2 : a < l.length) : writeAs i (inC l) (0 + a.toNat * 1) (.int .i64 x) = some (inC (l.set a.toNat x)) := by
  rw [write1 hs rfl (by rw [inC_len]; omega), Nat.zero_add, Nat.mul_one]
  unfold inC; rw [List.map_set]
theorem inC_rd {i : TI} (hw : i.wide = false) {l : List Int} {a : Int} (h1 : 0 ≤ a) (h2 : a < l.length) : readAs i (inC l) (0 + a.toNat * 1) = some (.int .i64 (l.getD a.toNat 0)) := by
  refine read1 hw ?_
  unfold inC
  rw [Nat.zero_add, Nat.mul_one, List.getElem?_map, List.getD_eq_getElem?_getD, List.getElem?_eq_getElem (by omega)]; rfl
/-- A walk's cells. -/
def tjC (N : List (List Int)) (bi bl bo n : Nat) (vs : AV) (cnt : Nat) (vp : AV) : List AV := [.fsl (.slice (.int .i64)) N, .mref bi 0 n 1, .mref bl 0 n 1, .mref bo 0 n 1, vs, .int .i64 cnt, vp]
theorem aEnter (w bi bl bo n : Nat) (N : List (List Int)) (ix lo st : List Int) (on : List Bool) (cnt : Nat) (vs vp : AV) (acc : Hp) (a : Int) (σ : Hp) (h0 : 0 ≤ a) (hn : a < n) (hi : ix.length = n) (hl : lo.length = n) (ho : on.length = n) (hs : AccJ 1 st.length vs acc (inC st)) (hsl : st.length ≤ 10000) (hc : cnt ≤ 10000) :
    ACalls Tryz.prog 146 [.ptr w 0, .int .i64 a] ((w, tjC N bi bl bo n vs cnt vp) :: (bi, inC ix) :: (bl, inC lo) :: (bo, bbC on) :: (acc ++ σ))
      (fun r σ' => r = .agg [.int .i64 a, .int .i64 0] ∧ ∃ vs' acc', AccJ 1 (st ++ [a]).length vs' acc' (inC (st ++ [a])) ∧ σ' = (w, tjC N bi bl bo n vs' (cnt + 1) vp) :: (bi, inC (ix.set a.toNat ((cnt + 1 : Nat) : Int))) :: (bl, inC (lo.set a.toNat ((cnt + 1 : Nat) : Int))) :: (bo, bbC (on.set a.toNat true)) :: (acc' ++ σ)) := by
  have hwr : IntKind.i64.wrap ((cnt : Int) + 1) = ((cnt + 1 : Nat) : Int) := by rw [w64 (by omega)]; omega
  refine okF Tryz.func146 (by kernel_rfl) ?_
  intro bl1
  refine LoadAt.mk 1 _ _ rfl rfl ?_
  refine StoreAt.mk 1 _ _ rfl rfl ?_
  refine .sched [] (upto [] 29 0) (by kernel_rfl) ?_
  refine LoadAt.mk 1 _ _ rfl rfl ?_
  refine LoadAt.mk 1 _ _ rfl rfl ?_
  refine LoadAt.mk 1 _ _ rfl rfl ?_
  refine LoadAt.mk 1 _ _ rfl rfl ?_
  refine LoadAt.mk 1 _ _ rfl rfl ?_
  refine With.mk ⟨rfl, by omega, by omega⟩ ?_
  refine StoreAt.mk 2 _ _ rfl (inC_wr rfl _ h0 (by omega)) ?_
  refine With.mk ⟨rfl, by omega, by omega⟩ ?_
  refine StoreAt.mk 3 _ _ rfl (inC_wr rfl _ h0 (by omega)) ?_
  refine With.mk ⟨rfl, by omega, by omega⟩ ?_
  refine StoreAt.mk 4 _ _ rfl (bbC_write rfl true h0 (by omega)) ?_
  refine LoadAt.mk 1 _ _ rfl rfl ?_
  intro bl1
  refine append_accJ [_, _, _, _, _, _] hs.unv (.mref 0 bl1 0 1 _ rfl (Nat.le_of_ble_eq_true rfl)) rfl (by omega) (by decide) (by decide) (fun v' acc' h' => ?_)
  obtain ⟨bq, J, rfl, rfl, hq⟩ := h'.pos (by omega)
  refine StoreAt.mk 2 _ _ rfl rfl ?_
  refine StoreAt.mk 1 _ _ rfl rfl ?_
  refine LoadAt.mk 1 _ _ rfl rfl ?_
  refine .drop 0 2 (.done ⟨rfl, .mref bq 0 (st.length + 1) 1, [(bq, (inC st ++ [.int .i64 a]) ++ J)], ?_, ?_⟩)
  · rw [List.length_append, show inC (st ++ [a]) = inC st ++ [.int .i64 a] from List.map_append]; exact h'
  · rw [hwr]; rfl
end Go.Proofs.YtljbnigceammdaaGreatDoor
