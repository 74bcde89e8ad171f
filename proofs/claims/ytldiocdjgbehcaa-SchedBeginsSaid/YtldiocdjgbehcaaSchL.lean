/-
  soughlaw25: few, machines, run, awake.
-/
import Derived.Test.YtldiocdjgbehcaaSchR
namespace Go.Proofs.Ytldiocdjgbehcaa
open Go.RowKit
set_option maxRecDepth 100000
set_option maxHeartbeats 4000000
def few25 (l : List (List Ins)) (scr : List (Int × Int × Unit)) : Bool := l.all (fun x => decide (x.length ≤ 20)) && (decide (l.length ≤ 6) && decide (scr.length ≤ 80))
theorem few25T {l : List (List Ins)} {scr : List (Int × Int × Unit)} (h : l.all (fun x => decide (x.length ≤ 20)) = true) (h1 : l.length ≤ 6) (h2 : scr.length ≤ 80) : AV.bool true = .bool (few25 l scr) := by
  unfold few25
  rw [h, decide_eq_true h1, decide_eq_true h2]; rfl
theorem few25F {l : List (List Ins)} {scr : List (Int × Int × Unit)} (h : ¬ (l.length ≤ 6 ∧ scr.length ≤ 80)) : AV.bool false = .bool (few25 l scr) := by
  have : few25 l scr = false := by
    cases hb : few25 l scr with
    | false => rfl
    | true => simp [few25] at hb; exact absurd hb.2 h
  rw [this]
theorem few25L {l : List (List Ins)} {scr : List (Int × Int × Unit)} {k : Nat} (h : k < l.length) (h8 : ¬ l[k].length ≤ 20) : false = few25 l scr := by
  cases hb : few25 l scr with
  | false => rfl
  | true => simp [few25] at hb; exact absurd (hb.1 _ (List.getElem_mem h)) h8
theorem few25_get {l : List (List Ins)} {scr : List (Int × Int × Unit)} (h : few25 l scr = true) : (∀ x ∈ l, x.length ≤ 20) ∧ l.length ≤ 6 ∧ scr.length ≤ 80 := by
  simpa [few25] using h
theorem aFew25 (l : List (List Ins)) (scr : List (Int × Int × Unit)) (σ : Hp) (hL : l.length ≤ maxLen) : ACalls Try.prog 96 [.fsl (.slice instrSh) l, .fsl pickSh scr] σ (Ret (.bool (few25 l scr)) σ) := by
  refine okF Try.func96 (by kernel_rfl) ?_
  refine loopS (S := Nat) (fun s => [(0, .fsl (.slice instrSh) l), (1, .fsl pickSh scr), (7, .fsl (.slice instrSh) l), (8, .int .i64 l.length), (9, .int .i64 s)]) (fun _ => σ) (fun s => s ≤ l.length ∧ (l.take s).all (fun x => decide (x.length ≤ 20)) = true) (fun s => l.length - s) 0 ⟨⟨Nat.zero_le _, rfl⟩, ⟨rfl, rfl, rfl, rfl, rfl, trivial⟩, rfl⟩ ?_
  rintro k g ⟨hk, hall⟩
  refine bcond_dec (fun h => ?_) (fun h => ?_)
  · have h : (k : Int) < l.length := h
    have hkl : k < l.length := by omega
    refine With.mk rfl (IdxF.mk l[k] (by omega) (get_some hkl) ?_)
    refine bcond_dec (fun c1 => ?_) (fun c1 => ?_)
    · have c1 : 20 < (l[k].length : Int) := c1
      exact .done ⟨congrArg AV.bool (few25L hkl (by omega)), rfl⟩
    · have c1 : ¬ 20 < (l[k].length : Int) := c1
      refine nextS (k + 1) ?_ ⟨hkl, ?_⟩ ⟨rfl, rfl, rfl, rfl, incL hkl hL, trivial⟩ (shed_eq rfl)
      · show l.length - (k + 1) < l.length - k; omega
      · rw [List.take_succ_eq_append_getElem hkl, List.all_append, hall]; simp; omega
  · have h : ¬ (k : Int) < l.length := h
    refine bcond_dec (fun c1 => ?_) (fun c1 => ?_)
    · have c1 : (l.length : Int) ≤ 6 := c1
      refine bcond_dec (fun c2 => ?_) (fun c2 => ?_)
      · have c2 : (scr.length : Int) ≤ 80 := c2
        exact .done ⟨few25T (by rw [← List.take_of_length_le (show l.length ≤ k by omega)]; exact hall) (by omega) (by omega), rfl⟩
      · have c2 : ¬ (scr.length : Int) ≤ 80 := c2
        exact .done ⟨few25F (by omega), rfl⟩
    · have c1 : ¬ (l.length : Int) ≤ 6 := c1
      exact .done ⟨few25F (by omega), rfl⟩
/-- The lists that machines makes. -/
def MachPost (l : List (List Ins)) (σ : Hp) : AV → Hp → Prop := fun x σ' => ∃ (rs rr : List Nat) (va vb : AV) (aa ab : Hp), rs.length = l.length ∧ rr.length = l.length ∧ Acc 1 l.length va aa (rs.map fun r => .ptr r 0) ∧ Acc 1 l.length vb ab (rr.map fun r => .ptr r 0) ∧ (l.length = 0 → va = .nils ∧ aa = [] ∧ vb = .nils ∧ ab = []) ∧ x = .tup [va, vb] ∧ σ' = aa ++ (ab ++ (blkO (rs.map some) (l.map fun x => (x, ⟨0, 0, 0, 0, 0⟩)) ++ (blkO (rr.map some) (l.map fun x => (x, ⟨0, 0, 0, 0, 0⟩)) ++ σ)))
theorem mid3 {α : Type} (a b c : List α) (z : α) (y : List α) : (a ++ (b ++ (c ++ z :: y))).Perm (z :: (a ++ (b ++ (c ++ y)))) := by
  have := List.perm_middle (a := z) (l₁ := a ++ (b ++ c)) (l₂ := y)
  simpa only [List.append_assoc] using this
theorem mid5 {α : Type} (a b c d : List α) (z y : α) (s : List α) : (a ++ (b ++ ((c ++ [z]) ++ ((d ++ [y]) ++ s)))).Perm (y :: (a ++ (b ++ (c ++ z :: (d ++ s))))) := by
  have := List.perm_middle (a := y) (l₁ := a ++ (b ++ (c ++ z :: d))) (l₂ := s)
  simpa only [List.append_assoc, List.cons_append, List.nil_append] using this
theorem Acc.pos {e k : Nat} {v : AV} {acc : Hp} {cs : List AV} (h : Acc e k v acc cs) (hk : 0 < k) : ∃ b, v = .mref b 0 k e ∧ acc = [(b, cs)] := by
  cases h with
  | nil => omega
  | mref b k cs h => exact ⟨b, rfl, rfl⟩
theorem run_perm {α : Type} (x a b c d : α) (B s : List α) : ((x :: ((a :: b :: B) ++ ([c, d] ++ s)) : List α)).Perm (c :: d :: a :: b :: x :: (B ++ s)) := by
  have h1 : (B ++ ([c, d] ++ s)).Perm ([c, d] ++ (B ++ s)) := by
    rw [← List.append_assoc, ← List.append_assoc]
    exact List.Perm.append_right _ List.perm_append_comm
  refine (List.Perm.append_left [x, a, b] h1).trans ?_
  have h2 : ([x, a, b] ++ [c, d]).Perm [c, d, a, b, x] :=
    List.perm_append_comm.trans (List.Perm.append_left [c, d] (List.perm_append_comm (l₁ := [x]) (l₂ := [a, b])))
  exact List.Perm.append_right (B ++ s) h2
theorem blkO_snoc {rs : List Nat} {L : List Mach} (h : rs.length = L.length) (r : Nat) (x : Mach) : blkO ((rs ++ [r]).map some) (L ++ [x]) = blkO (rs.map some) L ++ [(r, pgC x.1 x.2)] := by
  unfold blkO
  rw [List.map_append, List.zip_append (by simp [h]), List.flatMap_append]
  rfl
theorem aMachines (l : List (List Ins)) (σ : Hp) (h1 : l.length ≤ 6) (h2 : ∀ x ∈ l, x.length ≤ 20) : ACalls Try.prog 97 [.fsl (.slice instrSh) l] σ (MachPost l σ) := by
  refine okF Try.func97 (by kernel_rfl) ?_
  refine .wrap 4 _ rfl rfl ?_
  refine .wrap 5 _ rfl rfl ?_
  refine loopS (S := Nat × List Nat × List Nat × AV × Hp × AV × Hp) (fun s => [(4, .via s.2.2.2.1), (5, .via s.2.2.2.2.2.1), (8, .fsl (.slice instrSh) l), (9, .int .i64 l.length), (10, .int .i64 s.1)])
    (fun s => s.2.2.2.2.1 ++ (s.2.2.2.2.2.2 ++ (blkO (s.2.1.map some) ((l.take s.1).map fun x => (x, ⟨0, 0, 0, 0, 0⟩)) ++ (blkO (s.2.2.1.map some) ((l.take s.1).map fun x => (x, ⟨0, 0, 0, 0, 0⟩)) ++ σ))))
    (fun s => s.1 ≤ l.length ∧ s.2.1.length = s.1 ∧ s.2.2.1.length = s.1 ∧ Acc 1 s.1 s.2.2.2.1 s.2.2.2.2.1 (s.2.1.map fun r => .ptr r 0) ∧ Acc 1 s.1 s.2.2.2.2.2.1 s.2.2.2.2.2.2 (s.2.2.1.map fun r => .ptr r 0) ∧ (s.1 = 0 → s.2.2.2.1 = .nils ∧ s.2.2.2.2.1 = [] ∧ s.2.2.2.2.2.1 = .nils ∧ s.2.2.2.2.2.2 = []))
    (fun s => l.length - s.1) (0, [], [], .nils, [], .nils, []) ⟨⟨Nat.zero_le _, rfl, rfl, .nil, .nil, fun _ => ⟨rfl, rfl, rfl, rfl⟩⟩, ⟨rfl, rfl, rfl, rfl, rfl, trivial⟩, rfl⟩ ?_
  rintro ⟨k, rs, rr, va, aa, vb, ab⟩ g ⟨hk, hrs, hrr, ha, hb, hz⟩
  have hk : k ≤ l.length := hk
  have hrs : rs.length = k := hrs
  have hrr : rr.length = k := hrr
  have ha : Acc 1 k va aa (rs.map fun r => .ptr r 0) := ha
  have hb : Acc 1 k vb ab (rr.map fun r => .ptr r 0) := hb
  refine bcond_dec (fun h => ?_) (fun h => ?_)
  · have h : (k : Int) < l.length := h
    have hkl : k < l.length := by omega
    have h20 := h2 _ (List.getElem_mem hkl)
    refine With.mk rfl (IdxF.mk l[k] (by omega) (get_some hkl) ?_)
    obtain ⟨Bx, hBx⟩ : ∃ B, B = blkO (rs.map some) ((l.take k).map fun x => (x, ⟨0, 0, 0, 0, 0⟩)) := ⟨_, rfl⟩
    obtain ⟨By, hBy⟩ : ∃ B, B = blkO (rr.map some) ((l.take k).map fun x => (x, ⟨0, 0, 0, 0, 0⟩)) := ⟨_, rfl⟩
    rw [← hBx, ← hBy]
    refine callR [] (aInstrs25 l[k] (aa ++ (ab ++ (Bx ++ (By ++ σ)))) (by omega)) ?_
    refine .perm (σ2 := aa ++ (ab ++ (Bx ++ (By ++ σ)))) _ (List.Perm.refl _) (aSNew l[k] _ (by omega)) ?_
    rintro _ _ ⟨r, rfl, rfl⟩
    refine ⟨aa ++ (ab ++ (Bx ++ ((r, pgC l[k] ⟨0, 0, 0, 0, 0⟩) :: (By ++ σ)))), mid3 _ _ _ _ _, ?_⟩
    intro bl1
    obtain ⟨Z, hZ⟩ : ∃ Z, Z = ab ++ (Bx ++ (r, pgC l[k] ⟨0, 0, 0, 0, 0⟩) :: (By ++ σ)) := ⟨_, rfl⟩
    refine append_acc [_] ha (.mref 0 bl1 0 1 _ rfl (Nat.le_of_ble_eq_true rfl)) rfl (by omega) (by decide) (by decide) (fun va' aa' ha' => ?_)
    intro bn
    intro bl2
    refine append_acc (k := k) (n := 1) (σ := Bx ++ (r, pgC l[k] ⟨0, 0, 0, 0, 0⟩) :: (By ++ σ)) (_ :: _ :: _ :: aa') hb (.mref 0 bl2 0 1 _ rfl (Nat.le_of_ble_eq_true rfl)) rfl (by omega) (by decide) (by decide) (fun vb' ab' hb' => ?_)
    have e1 : blkO ((rs ++ [r]).map some) ((l.take (k + 1)).map fun x => (x, ⟨0, 0, 0, 0, 0⟩)) = Bx ++ [(r, pgC l[k] ⟨0, 0, 0, 0, 0⟩)] := by
      rw [List.take_succ_eq_append_getElem hkl, hBx, List.map_append (l₁ := l.take k)]
      exact blkO_snoc (rs := rs) (L := (l.take k).map fun x => (x, ⟨0, 0, 0, 0, 0⟩)) (by simp; omega) r _
    have e2 : blkO ((rr ++ [bn]).map some) ((l.take (k + 1)).map fun x => (x, ⟨0, 0, 0, 0, 0⟩)) = By ++ [(bn, pgC l[k] ⟨0, 0, 0, 0, 0⟩)] := by
      rw [List.take_succ_eq_append_getElem hkl, hBy, List.map_append (l₁ := l.take k)]
      exact blkO_snoc (rs := rr) (L := (l.take k).map fun x => (x, ⟨0, 0, 0, 0, 0⟩)) (by simp; omega) bn _
    refine nextS (k + 1, rs ++ [r], rr ++ [bn], va', aa', vb', ab') ?_ ⟨hkl, by show (rs ++ [r]).length = k + 1; simp [hrs], by show (rr ++ [bn]).length = k + 1; simp [hrr], ?_, ?_, fun h => absurd h (Nat.succ_ne_zero k)⟩ ⟨rfl, rfl, rfl, rfl, inc64 (by omega), trivial⟩ (.drop 0 1 (.drop 1 1 (.perm (mid5 aa' ab' Bx By (r, pgC l[k] ⟨0, 0, 0, 0, 0⟩) (bn, pgC l[k] ⟨0, 0, 0, 0, 0⟩) σ) (shed_eq ?_))))
    · show l.length - (k + 1) < l.length - k; omega
    · show Acc 1 (k + 1) va' aa' ((rs ++ [r]).map fun r => .ptr r 0)
      rw [List.map_append]; exact ha'
    · show Acc 1 (k + 1) vb' ab' ((rr ++ [bn]).map fun r => .ptr r 0)
      rw [List.map_append]; exact hb'
    · show _ = aa' ++ (ab' ++ (blkO ((rs ++ [r]).map some) ((l.take (k + 1)).map fun x => (x, ⟨0, 0, 0, 0, 0⟩)) ++ (blkO ((rr ++ [bn]).map some) ((l.take (k + 1)).map fun x => (x, ⟨0, 0, 0, 0, 0⟩)) ++ σ)))
      rw [e1, e2]
  · have h : ¬ (k : Int) < l.length := h
    obtain rfl : k = l.length := by omega
    exact .done ⟨rs, rr, va, vb, aa, ab, hrs, hrr, ha, hb, hz, rfl, by rw [List.take_length]⟩
theorem aRun25 (p q : Nat) (rs : List Nat) (L : List Mach) (ws : List Int) (scr : List (Int × Int × Unit)) (lb : Nat) (σ : Hp) (hn : rs.length ≤ 100000) (hL : L.length = rs.length) (hs : scr.length ≤ 100000) (hl : ∀ x ∈ L, x.1.length ≤ 1000000) (h0 : 0 < rs.length) :
    ACalls Try.prog 98 [.ptr p 0, .mref lb 0 rs.length 1, .fsl pickSh scr] ((lb, rs.map fun r => .ptr r 0) :: plH p q ws (blkO (rs.map some) L ++ σ)) (fun x σ' => ∃ R : SSt (List Mach × List Int), R = goS stepO (fun a _ => a) rs.length scr ⟨(L, ws), List.replicate rs.length 0, List.replicate rs.length false, 0⟩ ∧ x = .agg [.fsl (.int .i64) R.st, .fsl .bool R.dn, .int .i64 R.us] ∧ σ' = (lb, rs.map fun r => .ptr r 0) :: plH p q R.a.2 (blkO (rs.map some) R.a.1 ++ σ)) := by
  refine okF Try.func98 (by kernel_rfl) ?_
  intro bl1
  refine .wrap 7 _ rfl rfl ?_
  refine loopS (S := Nat × AV × Hp) (fun s => [(0, .ptr p 0), (2, .fsl pickSh scr), (6, .ptr bl1 0), (7, .via s.2.1), (10, .mref lb 0 rs.length 1), (11, .int .i64 rs.length), (12, .int .i64 s.1)])
    (fun s => (bl1, [.nils, .nils, .int .i64 0]) :: (lb, rs.map fun r => .ptr r 0) :: plH p q ws (s.2.2 ++ (blkO (rs.map some) L ++ σ))) (fun s => s.1 ≤ rs.length ∧ Acc 1 s.1 s.2.1 s.2.2 (((rs.take s.1).map some).map ifO)) (fun s => rs.length - s.1) (0, .nils, []) ⟨⟨Nat.zero_le _, .nil⟩, ⟨rfl, rfl, rfl, rfl, rfl, rfl, rfl, trivial⟩, rfl⟩ ?_
  rintro ⟨k, v, acc⟩ g ⟨hk, hacc⟩
  have hk : k ≤ rs.length := hk
  have hacc : Acc 1 k v acc (((rs.take k).map some).map ifO) := hacc
  refine bcond_dec (fun h => ?_) (fun h => ?_)
  · have h : (k : Int) < rs.length := h
    have hkl : k < rs.length := by omega
    refine With.mk ⟨rfl, by omega, by omega⟩ ?_
    refine LoadAt.mk 1 _ _ rfl (p_get hkl) ?_
    intro bz
    refine append_acc [_, _, _, _, _] hacc (.mref 0 bz 0 1 _ rfl (Nat.le_of_ble_eq_true rfl)) rfl (by omega) (by decide) (by decide) (fun v' acc' h' => ?_)
    refine nextS (k + 1, v', acc') ?_ ⟨hkl, ?_⟩ ⟨rfl, rfl, rfl, rfl, rfl, rfl, inc64 (by omega), trivial⟩ (.drop 0 1 (shed_eq rfl))
    · show rs.length - (k + 1) < rs.length - k; omega
    · show Acc 1 (k + 1) v' acc' (((rs.take (k + 1)).map some).map ifO)
      rw [List.take_succ_eq_append_getElem hkl, List.map_append, List.map_append]; exact h'
  · have h : ¬ (k : Int) < rs.length := h
    obtain rfl : k = rs.length := by omega
    rw [List.take_length] at hacc
    obtain ⟨lb2, rfl, rfl⟩ := hacc.pos h0
    have hWl : (progW p q (rs.map some)).L.length = rs.length := by simp [progW]
    have hW := fun σ => aRunS (progW p q (rs.map some)) lb2 scr (L, ws) σ (by omega) hs ⟨by show L.length = (rs.map some).length; simpa using hL, hl⟩ (fun _ _ => rfl)
    rw [hWl] at hW
    have hW2 : ∀ σ, ACalls Try.prog 117 [plI p, .mref lb2 0 rs.length 1, .fsl pickSh scr] ((lb2, (rs.map some).map ifO) :: (plH p q ws (blkO (rs.map some) L) ++ σ)) (EachPost (progW p q (rs.map some)) scr (L, ws) [(lb2, (rs.map some).map ifO)] σ) := hW
    refine .perm (σ2 := (lb2, (rs.map some).map ifO) :: (plH p q ws (blkO (rs.map some) L) ++ ([(bl1, [AV.nils, AV.nils, AV.int .i64 0]), (lb, rs.map fun r => AV.ptr r 0)] ++ σ))) _ (run_perm _ _ _ _ _ (blkO (rs.map some) L) σ) (hW2 ([(bl1, [AV.nils, AV.nils, AV.int .i64 0]), (lb, rs.map fun r => AV.ptr r 0)] ++ σ)) ?_
    rintro x σ' ⟨s', h1, rfl, rfl⟩
    obtain ⟨R, hR⟩ : ∃ R, R = (progW p q (rs.map some)).run scr (L, ws) := ⟨_, rfl⟩
    have hR2 : R = goS stepO (fun a _ => a) rs.length scr ⟨(L, ws), List.replicate rs.length 0, List.replicate rs.length false, 0⟩ := by
      rw [hR]
      unfold AWorld.run AWorld.init
      rw [hWl]
      have : (progW p q (rs.map some)).L.map isNil = List.replicate rs.length false := by
        show ((rs.map some).map ifO).map isNil = _
        rw [List.map_map, List.map_map]
        exact List.map_const' ..
      rw [this]
      rfl
    have h1 : s' = R.a := h1.trans (congrArg SSt.a hR.symm)
    subst h1
    rw [← hR]
    refine ⟨(bl1, [.nils, .nils, .int .i64 0]) :: (lb, rs.map fun r => .ptr r 0) :: (lb2, (rs.map some).map ifO) :: plH p q R.a.2 (blkO (rs.map some) R.a.1 ++ σ), (front_perm' [_, _] ((lb2, (rs.map some).map ifO) :: plH p q R.a.2 (blkO (rs.map some) R.a.1)) σ).symm, ?_⟩
    refine StoreAt.mk 0 _ _ rfl rfl ?_
    refine LoadAt.mk 0 _ _ rfl rfl ?_
    exact .drop 0 1 (.drop 1 1 (.done ⟨R, hR2, rfl, rfl⟩))
theorem aRun25n (p : Nat) (scr : List (Int × Int × Unit)) (σ : Hp) : ACalls Try.prog 98 [.ptr p 0, .nils, .fsl pickSh scr] σ (Ret (.agg [.fsl (.int .i64) [], .fsl .bool [], .int .i64 0]) σ) := by
  refine okF Try.func98 (by kernel_rfl) ?_
  intro bl1
  refine loopS (S := Unit) (fun s => [(0, .ptr p 0), (2, .fsl pickSh scr), (6, .ptr bl1 0), (7, .nils), (10, .nils), (11, .int .i64 0), (12, .int .i64 0)])
    (fun s => (bl1, [.nils, .nils, .int .i64 0]) :: σ) (fun s => True) (fun s => 0) () ⟨trivial, ⟨rfl, rfl, rfl, rfl, rfl, rfl, rfl, trivial⟩, rfl⟩ ?_
  intro _ g _
  refine callR [] (aRun0 _ _ _ _) ?_
  refine StoreAt.mk 0 _ _ rfl rfl ?_
  refine LoadAt.mk 0 _ _ rfl rfl ?_
  exact .drop 0 1 (.done ⟨rfl, rfl⟩)
def scr25 : List (Int × Int × Unit) := [(0, 0, ()), (3, 0, ()), (-2, 0, ())]
def wake25L : List Ins := [(4, 0, 0, 1, ()), (4, 0, 0, 1, ())]
theorem wk25_ok : ∀ x ∈ ([(wake25L, ⟨0, 0, 0, 0, 0⟩), ([], ⟨0, 0, 0, 0, 0⟩)] : List Mach), x.1.length ≤ 1000000 := by decide
theorem awake25a : ACalls Try.prog 95 [] [] (Ret (.bool true) []) := by
  refine okF Try.func95 (by kernel_rfl) ?_
  refine .mk [] _ (aNew 1 []) ?_
  rintro _ _ ⟨p, q, rfl, rfl⟩
  intro bl1
  refine .frz (args' := [.fsl instrSh wake25L]) 0 bl1 0 2 4 _ instrSh wake25L rfl rfl ⟨rfl, rfl, by decide⟩ (frz_cons .here frz_nil) (.mk [] _ (aSNew wake25L _ (by decide)) ?_)
  rintro _ _ ⟨r, rfl, rfl⟩
  intro bl1
  intro bl2
  have hW : ACalls Try.prog 117 [plI p, .mref bl1 0 2 1, .fsl pickSh scr25] ((bl1, [.iface 94 (.ptr r 0), .nilif]) :: plH p q [0] [(r, pgC wake25L ⟨0, 0, 0, 0, 0⟩)]) (EachPost (progW p q [some r, none]) scr25 ([(wake25L, ⟨0, 0, 0, 0, 0⟩), ([], ⟨0, 0, 0, 0, 0⟩)], [0]) [(bl1, [.iface 94 (.ptr r 0), .nilif])] []) :=
    aRunS (progW p q [some r, none]) bl1 scr25 ([(wake25L, ⟨0, 0, 0, 0, 0⟩), ([], ⟨0, 0, 0, 0, 0⟩)], [0]) [] (by show 2 ≤ 100000; decide) (by decide) ⟨rfl, wk25_ok⟩ (fun _ _ => rfl)
  have hR : (progW p q [some r, none]).run scr25 ([(wake25L, ⟨0, 0, 0, 0, 0⟩), ([], ⟨0, 0, 0, 0, 0⟩)], [0]) = ⟨([(wake25L, ⟨2, 0, 0, 0, 2⟩), ([], ⟨0, 0, 0, 0, 0⟩)], [2]), [2, 0], [true, true], 3⟩ := by kernel_rfl
  refine .frz (args' := [plI p, .mref bl1 0 2 1, .fsl pickSh scr25]) 0 bl2 0 3 2 _ pickSh scr25 rfl rfl ⟨rfl, rfl, by decide⟩ (frz_cons (.refl _) (frz_cons (.refl _) (frz_cons .here frz_nil))) (.mk [3, 3, 3, 1] _ hW ?_)
  rintro x σ' ⟨s', h1, rfl, rfl⟩
  rw [hR] at h1 ⊢
  have h1 : s' = ([(wake25L, ⟨2, 0, 0, 0, 2⟩), ([], ⟨0, 0, 0, 0, 0⟩)], [2]) := h1
  subst h1
  intro bl1
  refine StoreAt.mk 0 _ _ rfl rfl ?_
  refine LoadAt.mk 0 _ _ rfl rfl ?_
  refine LoadAt.mk 0 _ _ rfl rfl ?_
  refine With.mk rfl ?_
  refine IdxF.mk (2 : Int) (by decide) rfl ?_
  refine callR [3, 3] (aLoad p q [2] 0 _) ?_
  refine LoadAt.mk 2 _ _ rfl rfl ?_
  refine callR [] (aFinF (.fsl (.int .i64) ([2, 0] : List Int)) 3 [true, true] _ (by decide)) ?_
  refine callR [] (aWhoS (-1) 0 2 _ (by decide)) ?_
  exact .drop 0 5 (.done ⟨rfl, rfl⟩)
end Go.Proofs.Ytldiocdjgbehcaa
