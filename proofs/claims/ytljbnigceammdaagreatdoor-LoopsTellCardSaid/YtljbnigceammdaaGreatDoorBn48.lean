/-
  Sg: what the claim uses of them.
-/
import Derived.Test.YtljbnigceammdaaGreatDoorBn32
import Derived.Test.YtljbnigceammdaaGreatDoorBn44
namespace Go.Proofs.YtljbnigceammdaaGreatDoor
open Go.RowKit
set_option maxRecDepth 100000
theorem AccJ.zero {e : Nat} {v : AV} {acc : Hp} {cs : List AV} (h : AccJ e 0 v acc cs) : (v = .nils ∧ acc = []) ∨ ∃ b J, v = .mref b 0 0 e ∧ acc = [(b, J)] := by
  generalize hz : (0 : Nat) = z at h
  cases h with
  | nil => exact .inl ⟨rfl, rfl⟩
  | mref b k cs J h => subst hz; exact .inr ⟨b, _, rfl, rfl⟩
def leadsO (W : List Int) (T : List Bool) (i : Int) (x : EdgeT) : Bool := decide (W.getD x.2.1.toNat 0 = i) && decide (W.getD x.1.toNat 0 ≠ i) && !T.getD (W.getD x.1.toNat 0).toNat false
theorem aOrd11 (bW bw bI bT bt n m : Nat) (W : List Int) (T : List Bool) (i : Int) (x : EdgeT) (σ : Hp) (h1 : 0 ≤ x.1 ∧ x.1 < n) (h2 : 0 ≤ x.2.1 ∧ x.2.1 < n) (hW : W.length = n) (hT : T.length = m) (hr : 0 ≤ W.getD x.1.toNat 0 ∧ W.getD x.1.toNat 0 < m) :
    ACalls Tryz.prog 149 (edgeV x :: [.ptr bW 0, .ptr bI 0, .ptr bT 0]) ((bI, [.int .i64 i]) :: (bT, [.mref bt 0 m 1]) :: (bW, [.mref bw 0 n 1]) :: (bw, inC W) :: (bt, bbC T) :: σ) (Ret (.bool (leadsO W T i x)) ((bI, [.int .i64 i]) :: (bT, [.mref bt 0 m 1]) :: (bW, [.mref bw 0 n 1]) :: (bw, inC W) :: (bt, bbC T) :: σ)) := by
  obtain ⟨x1, x2, xu⟩ := x
  have h1 : 0 ≤ x1 ∧ x1 < n := h1
  have h2 : 0 ≤ x2 ∧ x2 < n := h2
  have hr : 0 ≤ W.getD x1.toNat 0 ∧ W.getD x1.toNat 0 < m := hr
  refine okF Tryz.func149 (by kernel_rfl) ?_
  intro bx
  refine .quiet (by kernel_rfl) ?_
  refine LoadAt.mk 3 _ _ rfl rfl ?_
  refine LoadAt.mk 0 _ _ rfl rfl ?_
  refine With.mk ⟨rfl, by omega, by omega⟩ ?_
  refine LoadAt.mk 4 _ _ rfl (inC_rd rfl h2.1 (by omega)) ?_
  refine LoadAt.mk 1 _ _ rfl rfl ?_
  refine bcond_dec (fun c1 => ?_) (fun c1 => ?_)
  · have c1 : W.getD x2.toNat 0 = i := c1
    refine LoadAt.mk 3 _ _ rfl rfl ?_
    refine LoadAt.mk 0 _ _ rfl rfl ?_
    refine With.mk ⟨rfl, by omega, by omega⟩ ?_
    refine LoadAt.mk 4 _ _ rfl (inC_rd rfl h1.1 (by omega)) ?_
    refine LoadAt.mk 1 _ _ rfl rfl ?_
    refine bcond_split (fun c2 => ?_) (fun c2 => ?_)
    · have c2 : ¬ (W.getD x1.toNat 0 = i) := by simpa using c2
      refine LoadAt.mk 2 _ _ rfl rfl ?_
      refine LoadAt.mk 3 _ _ rfl rfl ?_
      refine LoadAt.mk 0 _ _ rfl rfl ?_
      refine With.mk ⟨rfl, by omega, by omega⟩ ?_
      have hL : ∀ b, T.getD (W.getD x1.toNat 0).toNat false = b → leadsO W T i (x1, x2, xu) = !b := fun b hb => by
        unfold leadsO
        rw [decide_eq_true (show W.getD x2.toNat 0 = i from c1), decide_eq_true (show W.getD x1.toNat 0 ≠ i from c2)]
        show (true && true && !T.getD (W.getD x1.toNat 0).toNat false) = _
        rw [hb]; rfl
      refine LoadAt.mk 4 _ _ rfl (inC_rd rfl h1.1 (by omega)) ?_
      refine With.mk ⟨rfl, by omega, by omega⟩ ?_
      refine LoadAt.mkB 5 _ _ rfl (bbC_read rfl hr.1 (by omega)) (fun c3 => ?_) (fun c3 => ?_)
      · exact .drop 0 1 (.done ⟨av_bool (hL true c3).symm, rfl⟩)
      · exact .drop 0 1 (.done ⟨av_bool (hL false c3).symm, rfl⟩)
    · have c2 : W.getD x1.toNat 0 = i := by simpa using c2
      refine .drop 0 1 (.done ⟨av_bool ?_, rfl⟩)
      unfold leadsO
      rw [decide_eq_false (show ¬ (W.getD x1.toNat 0 ≠ i) from fun h => h c2), Bool.and_false]; rfl
  · have c1 : ¬ (W.getD x2.toNat 0 = i) := c1
    refine .drop 0 1 (.done ⟨av_bool ?_, rfl⟩)
    unfold leadsO
    rw [decide_eq_false (show ¬ (W.getD x2.toNat 0 = i) from c1)]; rfl
theorem aOrd1 (bW bw bl bT bt n m : Nat) (l : List EdgeT) (W : List Int) (T : List Bool) (i : Int) (σ : Hp) (hl : l.length ≤ 100000) (hi : 0 ≤ i ∧ i < m) (hr : ∀ e ∈ l, (0 ≤ e.1 ∧ e.1 < (n : Int)) ∧ 0 ≤ e.2.1 ∧ e.2.1 < (n : Int)) (hW : W.length = n) (hT : T.length = m) (hw : ∀ k : Nat, k < n → 0 ≤ W.getD k 0 ∧ W.getD k 0 < m) :
    ACalls Tryz.prog 148 [.int .i64 i, .ptr bT 0, .ptr bl 0, .ptr bW 0] ((bT, [.mref bt 0 m 1]) :: (bW, [.mref bw 0 n 1]) :: (bw, inC W) :: (bt, bbC T) :: (bl, [.fsl edgeSh l]) :: σ) (Ret (.bool (freeO l W T i)) ((bT, [.mref bt 0 m 1]) :: (bW, [.mref bw 0 n 1]) :: (bw, inC W) :: (bt, bbC T) :: (bl, [.fsl edgeSh l]) :: σ)) := by
  have hF : ∀ b, T.getD i.toNat false = b → freeO l W T i = (!b && !l.any (leadsO W T i)) := fun b hb => by unfold freeO; rw [hb]; rfl
  refine okF Tryz.func148 (by kernel_rfl) ?_
  intro bI
  refine LoadAt.mk 1 _ _ rfl rfl ?_
  refine LoadAt.mk 0 _ _ rfl rfl ?_
  refine With.mk ⟨rfl, by omega, by omega⟩ ?_
  refine LoadAt.mkB 4 _ _ rfl (bbC_read rfl hi.1 (by omega)) (fun c1 => ?_) (fun c1 => ?_)
  · exact .drop 0 1 (.done ⟨av_bool (hF true c1).symm, rfl⟩)
  · refine LoadAt.mk 5 _ _ rfl rfl ?_
    have hg : ∀ (k : Nat) (hk : k < l.length), ACalls Tryz.prog 149 (edgeV l[k] :: [.ptr bW 0, .ptr bI 0, .ptr bT 0]) ((bI, [.int .i64 i]) :: (bT, [.mref bt 0 m 1]) :: (bW, [.mref bw 0 n 1]) :: (bw, inC W) :: (bt, bbC T) :: (bl, [.fsl edgeSh l]) :: σ) (Ret (.bool (leadsO W T i l[k])) ((bI, [.int .i64 i]) :: (bT, [.mref bt 0 m 1]) :: (bW, [.mref bw 0 n 1]) :: (bw, inC W) :: (bt, bbC T) :: (bl, [.fsl edgeSh l]) :: σ)) := fun k hk => by
      obtain ⟨h1, h2⟩ := hr _ (List.getElem_mem hk)
      exact aOrd11 bW bw bI bT bt n m W T i l[k] _ h1 h2 hW hT (hw _ (by omega))
    refine callR [] (aContainsEd 149 _ l (leadsO W T i) _ (Nat.le_trans hl (by decide)) hg) ?_
    exact .drop 0 1 (.done ⟨av_bool (hF false c1).symm, rfl⟩)
theorem rep_incS : ∀ n : Nat, repC [.int .i64 0] n = inC (List.replicate n 0)
  | 0 => rfl
  | n + 1 => by
    show [AV.int .i64 0] ++ repC [.int .i64 0] n = _
    rw [rep_incS n]; rfl
theorem aOrdered (n : Nat) (l : List EdgeT) (P : List (List Int)) (σ : Hp) (h : PAll n l P) (hl : l.length ≤ 100000) (hn : n ≤ 1000) (hr : ∀ e ∈ l, (0 ≤ e.1 ∧ e.1 < (n : Int)) ∧ 0 ≤ e.2.1 ∧ e.2.1 < (n : Int)) :
    ACalls Tryz.prog 123 [.int .i64 n, .fsl edgeSh l, .fsl (.slice (.int .i64)) P] σ (Ret (.fsl (.slice (.int .i64)) (rOf n l)) σ) := by
  obtain ⟨hpl, hpf⟩ := parts_len h.ok
  have hNt : ((n : Nat) : Int).toNat = n := Int.toNat_natCast n
  refine okF Tryz.func123 (by kernel_rfl) ?_
  intro bl
  refine With.mk ⟨by omega, by omega, by omega, by decide⟩ ?_
  intro bw
  intro bW
  refine StoreAt.mk 0 _ _ rfl rfl ?_
  refine loopS (S := Nat) (fun k => [(2, .fsl (.slice (.int .i64)) P), (4, .ptr bl 0), (7, .ptr bW 0), (20, .fsl (.slice (.int .i64)) P), (21, .int .i64 P.length), (22, .int .i64 k)]) (fun k => (bW, [.mref bw 0 n 1]) :: (bw, inC (whN P k (List.replicate n 0))) :: (bl, [.fsl edgeSh l]) :: σ) (fun k => k ≤ P.length) (fun k => P.length - k) 0 ⟨Nat.zero_le _, ⟨rfl, rfl, rfl, rfl, rfl, rfl, trivial⟩, by rw [show inC (whN P 0 (List.replicate n 0)) = repC [.int .i64 0] n from (rep_incS n).symm]; rfl⟩ ?_
  intro k g hk0
  have hk : k ≤ P.length := hk0
  clear hk0
  refine bcond_dec (p := (k : Int) < P.length) (fun hlt => ?_) (fun hge => ?_)
  · have hlt : k < P.length := by omega
    obtain ⟨p, hp⟩ : ∃ p, P[k] = p := ⟨_, rfl⟩
    have hpk : P[k]? = some p := (List.getElem?_eq_getElem hlt).trans (congrArg some hp)
    have hpn := h.ok.node p (List.mem_of_getElem? hpk)
    have hpl2 : p.length ≤ n := nodup_leD n p ((h.ok.srt p (List.mem_of_getElem? hpk)).imp fun h => by omega) hpn
    have hWl := whN_length P k (List.replicate n 0)
    rw [List.length_replicate] at hWl
    have hwk : whN P (k + 1) (List.replicate n 0) = whI k p (whN P k (List.replicate n 0)) := by show whI k (P.getD k []) _ = _; rw [getD_of hpk]
    generalize whN P k (List.replicate n 0) = W at hWl hwk
    refine With.mk rfl (IdxF.mk p (by omega) (show P[((k : Nat) : Int).toNat]? = some p by rw [Int.toNat_natCast]; exact hpk) ?_)
    refine loopS (S := Nat) (fun j => [(2, .fsl (.slice (.int .i64)) P), (4, .ptr bl 0), (7, .ptr bW 0), (8, .int .i64 k), (20, .fsl (.slice (.int .i64)) P), (21, .int .i64 P.length), (22, .int .i64 k), (27, .fsl (.int .i64) p), (28, .int .i64 p.length), (29, .int .i64 j)]) (fun j => (bW, [.mref bw 0 n 1]) :: (bw, inC (whI k (p.take j) W)) :: (bl, [.fsl edgeSh l]) :: σ) (fun j => j ≤ p.length) (fun j => p.length - j) 0 ⟨Nat.zero_le _, ⟨rfl, rfl, rfl, rfl, rfl, rfl, rfl, rfl, rfl, rfl, trivial⟩, rfl⟩ ?_
    intro j g2 hj0
    have hj : j ≤ p.length := hj0
    clear hj0
    refine bcond_dec (p := (j : Int) < p.length) (fun hlt2 => ?_) (fun hge2 => ?_)
    · have hlt2 : j < p.length := by omega
      obtain ⟨a, ha⟩ : ∃ a, p[j] = a := ⟨_, rfl⟩
      have han := hpn a (ha ▸ List.getElem_mem hlt2)
      have hst : (whI k (p.take j) W).set a.toNat k = whI k (p.take (j + 1)) W := by unfold whI; rw [List.take_succ_eq_append_getElem hlt2, ha, List.foldl_append]; rfl
      have hwl := whI_length k (p.take j) W
      refine With.mk rfl (IdxF.mk a (by omega) ((get_some hlt2).trans (congrArg some ha)) ?_)
      refine LoadAt.mk 0 _ _ rfl rfl ?_
      refine With.mk ⟨rfl, by omega, by omega⟩ ?_
      refine StoreAt.mk 1 _ _ rfl (inC_wr rfl _ han.1 (by omega)) ?_
      exact nextS (j + 1) (by show p.length - (j + 1) < p.length - j; omega) hlt2 ⟨rfl, rfl, rfl, rfl, rfl, rfl, rfl, rfl, rfl, inc64 (by omega), trivial⟩ (shed_eq (by rw [← hst]; rfl))
    · have hge2 : j = p.length := by omega
      subst hge2
      exact nextS (k + 1) (by show P.length - (k + 1) < P.length - k; omega) hlt ⟨rfl, rfl, rfl, rfl, rfl, inc64 (by omega), trivial⟩ (shed_eq (by rw [List.take_length, hwk]))
  · have hge : k = P.length := by omega
    subst hge
    have hWg : ∀ j : Nat, j < n → 0 ≤ (whP n P).getD j 0 ∧ (whP n P).getD j 0 < (P.length : Int) := fun j hj => by
      obtain ⟨i, p, hi, _, hw⟩ := h.idx (x := (j : Int)) (by omega)
      rw [Int.toNat_natCast] at hw
      have := lt_of_some hi
      rw [hw]; omega
    have hWl := whP_length n P
    have hord := fun k hk => (ord_inv h hr k hk)
    have hfin := ord_is h hr
    have hne : ∀ (i : Nat) (p : List Int), P[i]? = some p → p[((0 : Int)).toNat]? = some (headO P i) := fun i p hi => by
      unfold headO
      rw [getD_of hi]
      exact head_at (List.length_pos_iff.2 (h.ok.ne p (List.mem_of_getElem? hi)))
    rw [show whN P P.length (List.replicate n 0) = whP n P from rfl]
    refine With.mk ⟨by omega, by omega, by show ((P.length : Nat) : Int) ≤ 1048576; omega, by decide⟩ ?_
    intro bt
    intro bT
    refine StoreAt.mk 0 _ _ rfl rfl ?_
    obtain ⟨m, hm⟩ : ∃ m, P.length = m := ⟨_, rfl⟩
    refine .wrap 14 _ rfl rfl ?_
    refine .shed (.pull [0, 2, 3, 3] (.refl _)) ?_
    refine loopS (S := Nat × AV × Hp) (fun x => [(2, .fsl (.slice (.int .i64)) P), (12, .ptr bT 0), (13, .fn (.func 148) [] [.ptr bT 0, .ptr bl 0, .ptr bW 0]), (14, .via x.2.1), (44, .int .i64 P.length), (45, .int .i64 x.1)]) (fun x => (bT, [.mref bt 0 P.length 1]) :: (bW, [.mref bw 0 n 1]) :: (bw, inC (whP n P)) :: (bt, bbC (ordO P l (whP n P) x.1).1) :: (bl, [.fsl edgeSh l]) :: (x.2.2 ++ σ)) (fun x => x.1 ≤ P.length ∧ Acc 1 x.1 x.2.1 x.2.2 (psC (ordO P l (whP n P) x.1).2)) (fun x => P.length - x.1) (0, .nils, []) ⟨⟨Nat.zero_le _, .nil⟩, ⟨rfl, rfl, rfl, rfl, rfl, rfl, trivial⟩, by rw [show bbC (ordO P l (whP n P) 0).1 = repC [.bool false] P.length from (rep_bbC P.length).symm]; rfl⟩ ?_
    rintro ⟨k, v, acc⟩ g2 ⟨hk0, hacc0⟩
    have hk : k ≤ P.length := hk0
    have hacc : Acc 1 k v acc (psC (ordO P l (whP n P) k).2) := hacc0
    clear hk0 hacc0
    refine bcond_dec (p := (k : Int) < P.length) (fun hlt => ?_) (fun hge => ?_)
    · have hlt : k < P.length := by omega
      obtain ⟨hO, hbest, _⟩ := hord k hk
      obtain ⟨b, hb, hbl⟩ := hbest hlt
      have hTl := hO.tl
      have hs1 : (ordO P l (whP n P) (k + 1)).1 = (ordO P l (whP n P) k).1.set b true := by
        show (ordO P l (whP n P) k).1.set (bestO P l (whP n P) (ordO P l (whP n P) k).1 P.length).toNat true = _
        rw [hb, Int.toNat_natCast]
      have hs2 : (ordO P l (whP n P) (k + 1)).2 = (ordO P l (whP n P) k).2 ++ [P.getD b []] := by
        show (ordO P l (whP n P) k).2 ++ [P.getD (bestO P l (whP n P) (ordO P l (whP n P) k).1 P.length).toNat []] = _
        rw [hb, Int.toNat_natCast]
      generalize (ordO P l (whP n P) k).1 = T at hb hTl hs1
      generalize (ordO P l (whP n P) k).2 = out at hacc hs2
      clear hO hbest
      have hcnt := bestO_spec P l (whP n P) T
      refine loopS (S := Nat) (fun i => [(2, .fsl (.slice (.int .i64)) P), (12, .ptr bT 0), (13, .fn (.func 148) [] [.ptr bT 0, .ptr bl 0, .ptr bW 0]), (14, .via v), (15, .int .i64 (bestO P l (whP n P) T i)), (44, .int .i64 P.length), (45, .int .i64 k), (47, .fsl (.slice (.int .i64)) P), (48, .int .i64 P.length), (49, .int .i64 i)]) (fun _ => (bT, [.mref bt 0 P.length 1]) :: (bW, [.mref bw 0 n 1]) :: (bw, inC (whP n P)) :: (bt, bbC T) :: (bl, [.fsl edgeSh l]) :: (acc ++ σ)) (fun i => i ≤ P.length) (fun i => P.length - i) 0 ⟨Nat.zero_le _, ⟨rfl, rfl, rfl, rfl, rfl, rfl, rfl, rfl, rfl, rfl, trivial⟩, rfl⟩ ?_
      intro i g3 hi0
      have hi : i ≤ P.length := hi0
      clear hi0
      refine bcond_dec (p := (i : Int) < P.length) (fun hlt2 => ?_) (fun hge2 => ?_)
      · have hlt2 : i < P.length := by omega
        obtain ⟨p, hp⟩ : ∃ p, P[i] = p := ⟨_, rfl⟩
        have hpk : P[i]? = some p := (List.getElem?_eq_getElem hlt2).trans (congrArg some hp)
        have hFr := fun ρ => aOrd1 bW bw bl bT bt n P.length l (whP n P) T i ρ hl (by omega) hr hWl hTl hWg
        have hbs : bestO P l (whP n P) T (i + 1) = if freeO l (whP n P) T i = true ∧ (bestO P l (whP n P) T i < 0 ∨ headO P i < headO P (bestO P l (whP n P) T i).toNat) then (i : Int) else bestO P l (whP n P) T i := rfl
        have hci := hcnt i
        refine With.mk rfl (IdxF.mk p (by omega) (show P[((i : Nat) : Int).toNat]? = some p by rw [Int.toNat_natCast]; exact hpk) ?_)
        cases hf : freeO l (whP n P) T i with
        | false =>
          rw [hf] at hFr hbs
          rw [if_neg (fun h => by cases h.1)] at hbs
          refine .quiet (by kernel_rfl) ?_
          refine callQ [] (hFr _) ?_
          exact nextS (i + 1) (by show P.length - (i + 1) < P.length - i; omega) hlt2 ⟨rfl, rfl, rfl, rfl, by rw [hbs]; rfl, rfl, rfl, rfl, rfl, inc64 (by omega), trivial⟩ (.refl _)
        | true =>
          rw [hf] at hFr hbs
          refine .quiet (by kernel_rfl) ?_
          refine callQ [] (hFr _) ?_
          refine bcond_dec (p := bestO P l (whP n P) T i < 0) (fun c1 => ?_) (fun c1 => ?_)
          · rw [if_pos ⟨rfl, .inl c1⟩] at hbs
            exact nextS (i + 1) (by show P.length - (i + 1) < P.length - i; omega) hlt2 ⟨rfl, rfl, rfl, rfl, by rw [hbs]; rfl, rfl, rfl, rfl, rfl, inc64 (by omega), trivial⟩ (.refl _)
          · obtain ⟨b2, e2, l2, _⟩ := hci.resolve_left fun h => c1 (by rw [h.1]; decide)
            obtain ⟨p2, hp2⟩ : ∃ p, P[b2]? = some p := ⟨P[b2], List.getElem?_eq_getElem (by omega)⟩
            have hp2' : P[(bestO P l (whP n P) T i).toNat]? = some p2 := by rw [e2, Int.toNat_natCast]; exact hp2
            have hb0 : 0 ≤ bestO P l (whP n P) T i := by omega
            rw [e2, Int.toNat_natCast, ← e2] at hbs
            refine With.mk rfl ?_
            refine IdxF.mk (headO P i) (by decide) (hne i p hpk) ?_
            refine With.mk rfl ?_
            refine IdxF.mk p2 hb0 hp2' ?_
            refine With.mk rfl ?_
            refine IdxF.mk (headO P b2) (by decide) (hne b2 p2 hp2) ?_
            refine bcond_dec (p := headO P i < headO P b2) (fun c2 => ?_) (fun c2 => ?_)
            · rw [if_pos ⟨rfl, .inr c2⟩] at hbs
              exact nextS (i + 1) (by show P.length - (i + 1) < P.length - i; omega) hlt2 ⟨rfl, rfl, rfl, rfl, by rw [hbs]; rfl, rfl, rfl, rfl, rfl, inc64 (by omega), trivial⟩ (.refl _)
            · rw [if_neg (fun h => h.2.elim c1 c2)] at hbs
              exact nextS (i + 1) (by show P.length - (i + 1) < P.length - i; omega) hlt2 ⟨rfl, rfl, rfl, rfl, by rw [hbs]; rfl, rfl, rfl, rfl, rfl, inc64 (by omega), trivial⟩ (.refl _)
      · have hge2 : i = P.length := by omega
        subst hge2
        refine LoadAt.mk 0 _ _ rfl rfl ?_
        refine With.mk ⟨rfl, by omega, by omega⟩ ?_
        refine StoreAt.mk 3 _ _ rfl (bbC_write rfl true (by omega) (by omega)) ?_
        refine With.mk rfl ?_
        obtain ⟨pb, hpb⟩ : ∃ p, P[b]? = some p := ⟨P[b], List.getElem?_eq_getElem hbl⟩
        have hpb' : P[(bestO P l (whP n P) T P.length).toNat]? = some pb := by rw [hb, Int.toNat_natCast]; exact hpb
        rw [getD_of hpb] at hs2
        refine IdxF.mk pb (by omega) hpb' ?_
        intro bs
        refine append_acc [_, _, _, _, _, _] hacc (.mref 0 bs 0 1 _ rfl (Nat.le_of_ble_eq_true rfl)) rfl (by omega) (by decide) (by decide) (fun v' acc' h' => ?_)
        refine nextS (k + 1, v', acc') (by show P.length - (k + 1) < P.length - k; omega) ⟨hlt, ?_⟩ ⟨rfl, rfl, rfl, rfl, rfl, inc64 (by omega), trivial⟩ (.drop 0 1 (shed_eq (by rw [hs1, hb, Int.toNat_natCast]; rfl)))
        show Acc 1 (k + 1) v' acc' (psC (ordO P l (whP n P) (k + 1)).2)
        rw [hs2, show psC (out ++ [pb]) = psC out ++ [.fsl (.int .i64) pb] from List.map_append]; exact h'
    · have hge : k = P.length := by omega
      subst hge
      rw [hfin] at hacc
      have hol := (hord P.length (Nat.le_refl _)).1.ol
      rw [hfin] at hol
      exact fin_acc (s := .slice (.int .i64)) [_, _, _, _, _] hacc hol.symm (psC_flat _) (by decide) (.drop 0 5 (.done ⟨rfl, rfl⟩))
theorem aSccOfP (n : Nat) (l : List EdgeT) (σ : Hp) (hl : l.length ≤ 100000) (hri : rightE n l = true) : ACalls Tryz.prog 94 [.int .i64 n, .fsl edgeSh l] σ (fun r σ' => r = .tup [.fsl (.slice (.int .i64)) (rOf n l), .int .i64 0] ∧ σ' = σ ∧ ∃ P, PAll n l P) := by
  have hn : 1 ≤ n ∧ n ≤ 256 := by
    unfold rightE at hri
    simp only [Bool.and_eq_true, decide_eq_true_eq] at hri
    omega
  have hee : ∀ e ∈ l, (0 ≤ e.1 ∧ e.1 < (n : Int)) ∧ 0 ≤ e.2.1 ∧ e.2.1 < (n : Int) := fun e he => by
    unfold rightE at hri
    simp only [Bool.and_eq_true, List.all_eq_true] at hri
    have := hri.2 e he
    exact ⟨node_iff.1 this.1, node_iff.1 this.2⟩
  refine okF Tryz.func94 (by kernel_rfl) ?_
  refine callB [] (aRight n l _ (by omega)) (fun _ => ?_) (fun c => absurd c (by rw [hri]; decide))
  refine DrawW.meetS (S := Nat × Nat × Nat × Nat) [] (.one 0 false (.one 2 false (.one 4 false (.alt 1 (.alt 3 (.alt 5 (.one 6 false (.one 7 false (.one 8 false .stop))) (.one 7 false (.one 5 false (.one 6 false (.one 8 false .stop))))) (.alt 5 (.alt 3 (.one 6 false (.one 7 false (.one 8 false .stop))) (.one 7 false (.one 3 false (.one 6 false (.one 8 false .stop))))) (.one 7 false (.alt 3 (.one 5 false (.one 6 false (.one 8 false .stop))) (.one 5 false (.one 3 false (.one 6 false (.one 8 false .stop)))))))) (.alt 3 (.alt 1 (.alt 5 (.one 6 false (.one 7 false (.one 8 false .stop))) (.one 7 false (.one 5 false (.one 6 false (.one 8 false .stop))))) (.alt 5 (.alt 1 (.one 6 false (.one 7 false (.one 8 false .stop))) (.one 7 false (.one 1 false (.one 6 false (.one 8 false .stop))))) (.one 7 false (.alt 1 (.one 5 false (.one 6 false (.one 8 false .stop))) (.one 5 false (.one 1 false (.one 6 false (.one 8 false .stop)))))))) (.alt 5 (.alt 1 (.alt 3 (.one 6 false (.one 7 false (.one 8 false .stop))) (.one 7 false (.one 3 false (.one 6 false (.one 8 false .stop))))) (.alt 3 (.alt 1 (.one 6 false (.one 7 false (.one 8 false .stop))) (.one 7 false (.one 1 false (.one 6 false (.one 8 false .stop))))) (.one 7 false (.alt 1 (.one 3 false (.one 6 false (.one 8 false .stop))) (.one 3 false (.one 1 false (.one 6 false (.one 8 false .stop)))))))) (.one 7 false (.alt 1 (.alt 3 (.one 5 false (.one 6 false (.one 8 false .stop))) (.one 5 false (.one 3 false (.one 6 false (.one 8 false .stop))))) (.alt 3 (.alt 1 (.one 5 false (.one 6 false (.one 8 false .stop))) (.one 5 false (.one 1 false (.one 6 false (.one 8 false .stop))))) (.one 5 false (.alt 1 (.one 3 false (.one 6 false (.one 8 false .stop))) (.one 3 false (.one 1 false (.one 6 false (.one 8 false .stop))))))))))))))) (fun x => [(0, .int .i64 n), (1, .fsl edgeSh l), (6, .ptr x.1 0)]) (fun x => (x.1, [.nils, .mref x.2.1 0 n 1, .mref x.2.2.1 0 n 1, .mref x.2.2.2 0 n 1, .nils, .int .i64 0, .nils]) :: (x.2.1, repC [.int .i64 0] n) :: (x.2.2.1, repC [.int .i64 0] n) :: (x.2.2.2, repC [.bool false] n) :: σ) (by kernel_rfl) ?_ ?_
  · refine And.intro ?_ ?_
    · refine With.mk ⟨by omega, by omega, by omega, by decide⟩ ?_
      intro bi
      refine And.intro ?_ ?_
      · refine With.mk ⟨by omega, by omega, by omega, by decide⟩ ?_
        intro bl
        refine And.intro ?_ ?_
        · refine With.mk ⟨by omega, by omega, by omega, by decide⟩ ?_
          intro bo
          intro w
          refine StoreAt.mk 0 _ _ rfl rfl ?_
          exact Meet.mk (w, bi, bl, bo) ⟨rfl, rfl, rfl, trivial⟩ (.pull [3, 3, 2, 1] (shed_eq rfl))
        · intro w
          refine With.mk ⟨by omega, by omega, by omega, by decide⟩ ?_
          intro bo
          refine StoreAt.mk 1 _ _ rfl rfl ?_
          exact Meet.mk (w, bi, bl, bo) ⟨rfl, rfl, rfl, trivial⟩ (.pull [3, 3, 2, 0] (shed_eq rfl))
      · refine And.intro ?_ ?_
        · refine With.mk ⟨by omega, by omega, by omega, by decide⟩ ?_
          intro bo
          refine And.intro ?_ ?_
          · refine With.mk ⟨by omega, by omega, by omega, by decide⟩ ?_
            intro bl
            intro w
            refine StoreAt.mk 0 _ _ rfl rfl ?_
            exact Meet.mk (w, bi, bl, bo) ⟨rfl, rfl, rfl, trivial⟩ (.pull [3, 3, 2, 2] (shed_eq rfl))
          · intro w
            refine With.mk ⟨by omega, by omega, by omega, by decide⟩ ?_
            intro bl
            refine StoreAt.mk 1 _ _ rfl rfl ?_
            exact Meet.mk (w, bi, bl, bo) ⟨rfl, rfl, rfl, trivial⟩ (.pull [3, 3, 1, 2] (shed_eq rfl))
        · intro w
          refine And.intro ?_ ?_
          · refine With.mk ⟨by omega, by omega, by omega, by decide⟩ ?_
            intro bl
            refine With.mk ⟨by omega, by omega, by omega, by decide⟩ ?_
            intro bo
            refine StoreAt.mk 2 _ _ rfl rfl ?_
            exact Meet.mk (w, bi, bl, bo) ⟨rfl, rfl, rfl, trivial⟩ (.pull [3, 3, 1, 0] (shed_eq rfl))
          · refine With.mk ⟨by omega, by omega, by omega, by decide⟩ ?_
            intro bo
            refine With.mk ⟨by omega, by omega, by omega, by decide⟩ ?_
            intro bl
            refine StoreAt.mk 2 _ _ rfl rfl ?_
            exact Meet.mk (w, bi, bl, bo) ⟨rfl, rfl, rfl, trivial⟩ (.pull [3, 3, 1, 1] (shed_eq rfl))
    · refine And.intro ?_ ?_
      · refine With.mk ⟨by omega, by omega, by omega, by decide⟩ ?_
        intro bl
        refine And.intro ?_ ?_
        · refine With.mk ⟨by omega, by omega, by omega, by decide⟩ ?_
          intro bi
          refine And.intro ?_ ?_
          · refine With.mk ⟨by omega, by omega, by omega, by decide⟩ ?_
            intro bo
            intro w
            refine StoreAt.mk 0 _ _ rfl rfl ?_
            exact Meet.mk (w, bi, bl, bo) ⟨rfl, rfl, rfl, trivial⟩ (.pull [3, 3, 3, 1] (shed_eq rfl))
          · intro w
            refine With.mk ⟨by omega, by omega, by omega, by decide⟩ ?_
            intro bo
            refine StoreAt.mk 1 _ _ rfl rfl ?_
            exact Meet.mk (w, bi, bl, bo) ⟨rfl, rfl, rfl, trivial⟩ (.pull [3, 3, 3, 0] (shed_eq rfl))
        · refine And.intro ?_ ?_
          · refine With.mk ⟨by omega, by omega, by omega, by decide⟩ ?_
            intro bo
            refine And.intro ?_ ?_
            · refine With.mk ⟨by omega, by omega, by omega, by decide⟩ ?_
              intro bi
              intro w
              refine StoreAt.mk 0 _ _ rfl rfl ?_
              exact Meet.mk (w, bi, bl, bo) ⟨rfl, rfl, rfl, trivial⟩ (.pull [3, 3, 3, 2] (shed_eq rfl))
            · intro w
              refine With.mk ⟨by omega, by omega, by omega, by decide⟩ ?_
              intro bi
              refine StoreAt.mk 1 _ _ rfl rfl ?_
              exact Meet.mk (w, bi, bl, bo) ⟨rfl, rfl, rfl, trivial⟩ (.pull [3, 2, 3, 2] (shed_eq rfl))
          · intro w
            refine And.intro ?_ ?_
            · refine With.mk ⟨by omega, by omega, by omega, by decide⟩ ?_
              intro bi
              refine With.mk ⟨by omega, by omega, by omega, by decide⟩ ?_
              intro bo
              refine StoreAt.mk 2 _ _ rfl rfl ?_
              exact Meet.mk (w, bi, bl, bo) ⟨rfl, rfl, rfl, trivial⟩ (.pull [3, 2, 3, 0] (shed_eq rfl))
            · refine With.mk ⟨by omega, by omega, by omega, by decide⟩ ?_
              intro bo
              refine With.mk ⟨by omega, by omega, by omega, by decide⟩ ?_
              intro bi
              refine StoreAt.mk 2 _ _ rfl rfl ?_
              exact Meet.mk (w, bi, bl, bo) ⟨rfl, rfl, rfl, trivial⟩ (.pull [3, 2, 3, 1] (shed_eq rfl))
      · refine And.intro ?_ ?_
        · refine With.mk ⟨by omega, by omega, by omega, by decide⟩ ?_
          intro bo
          refine And.intro ?_ ?_
          · refine With.mk ⟨by omega, by omega, by omega, by decide⟩ ?_
            intro bi
            refine And.intro ?_ ?_
            · refine With.mk ⟨by omega, by omega, by omega, by decide⟩ ?_
              intro bl
              intro w
              refine StoreAt.mk 0 _ _ rfl rfl ?_
              exact Meet.mk (w, bi, bl, bo) ⟨rfl, rfl, rfl, trivial⟩ (.pull [3, 3, 2, 3] (shed_eq rfl))
            · intro w
              refine With.mk ⟨by omega, by omega, by omega, by decide⟩ ?_
              intro bl
              refine StoreAt.mk 1 _ _ rfl rfl ?_
              exact Meet.mk (w, bi, bl, bo) ⟨rfl, rfl, rfl, trivial⟩ (.pull [3, 3, 1, 3] (shed_eq rfl))
          · refine And.intro ?_ ?_
            · refine With.mk ⟨by omega, by omega, by omega, by decide⟩ ?_
              intro bl
              refine And.intro ?_ ?_
              · refine With.mk ⟨by omega, by omega, by omega, by decide⟩ ?_
                intro bi
                intro w
                refine StoreAt.mk 0 _ _ rfl rfl ?_
                exact Meet.mk (w, bi, bl, bo) ⟨rfl, rfl, rfl, trivial⟩ (.pull [3, 3, 3, 3] (shed_eq rfl))
              · intro w
                refine With.mk ⟨by omega, by omega, by omega, by decide⟩ ?_
                intro bi
                refine StoreAt.mk 1 _ _ rfl rfl ?_
                exact Meet.mk (w, bi, bl, bo) ⟨rfl, rfl, rfl, trivial⟩ (.pull [3, 2, 3, 3] (shed_eq rfl))
            · intro w
              refine And.intro ?_ ?_
              · refine With.mk ⟨by omega, by omega, by omega, by decide⟩ ?_
                intro bi
                refine With.mk ⟨by omega, by omega, by omega, by decide⟩ ?_
                intro bl
                refine StoreAt.mk 2 _ _ rfl rfl ?_
                exact Meet.mk (w, bi, bl, bo) ⟨rfl, rfl, rfl, trivial⟩ (.pull [3, 2, 1, 3] (shed_eq rfl))
              · refine With.mk ⟨by omega, by omega, by omega, by decide⟩ ?_
                intro bl
                refine With.mk ⟨by omega, by omega, by omega, by decide⟩ ?_
                intro bi
                refine StoreAt.mk 2 _ _ rfl rfl ?_
                exact Meet.mk (w, bi, bl, bo) ⟨rfl, rfl, rfl, trivial⟩ (.pull [3, 2, 2, 3] (shed_eq rfl))
        · intro w
          refine And.intro ?_ ?_
          · refine With.mk ⟨by omega, by omega, by omega, by decide⟩ ?_
            intro bi
            refine And.intro ?_ ?_
            · refine With.mk ⟨by omega, by omega, by omega, by decide⟩ ?_
              intro bl
              refine With.mk ⟨by omega, by omega, by omega, by decide⟩ ?_
              intro bo
              refine StoreAt.mk 3 _ _ rfl rfl ?_
              exact Meet.mk (w, bi, bl, bo) ⟨rfl, rfl, rfl, trivial⟩ (.pull [3, 2, 1, 0] (shed_eq rfl))
            · refine With.mk ⟨by omega, by omega, by omega, by decide⟩ ?_
              intro bo
              refine With.mk ⟨by omega, by omega, by omega, by decide⟩ ?_
              intro bl
              refine StoreAt.mk 3 _ _ rfl rfl ?_
              exact Meet.mk (w, bi, bl, bo) ⟨rfl, rfl, rfl, trivial⟩ (.pull [3, 2, 1, 1] (shed_eq rfl))
          · refine And.intro ?_ ?_
            · refine With.mk ⟨by omega, by omega, by omega, by decide⟩ ?_
              intro bl
              refine And.intro ?_ ?_
              · refine With.mk ⟨by omega, by omega, by omega, by decide⟩ ?_
                intro bi
                refine With.mk ⟨by omega, by omega, by omega, by decide⟩ ?_
                intro bo
                refine StoreAt.mk 3 _ _ rfl rfl ?_
                exact Meet.mk (w, bi, bl, bo) ⟨rfl, rfl, rfl, trivial⟩ (.pull [3, 2, 2, 0] (shed_eq rfl))
              · refine With.mk ⟨by omega, by omega, by omega, by decide⟩ ?_
                intro bo
                refine With.mk ⟨by omega, by omega, by omega, by decide⟩ ?_
                intro bi
                refine StoreAt.mk 3 _ _ rfl rfl ?_
                exact Meet.mk (w, bi, bl, bo) ⟨rfl, rfl, rfl, trivial⟩ (.pull [3, 2, 2, 1] (shed_eq rfl))
            · refine With.mk ⟨by omega, by omega, by omega, by decide⟩ ?_
              intro bo
              refine And.intro ?_ ?_
              · refine With.mk ⟨by omega, by omega, by omega, by decide⟩ ?_
                intro bi
                refine With.mk ⟨by omega, by omega, by omega, by decide⟩ ?_
                intro bl
                refine StoreAt.mk 3 _ _ rfl rfl ?_
                exact Meet.mk (w, bi, bl, bo) ⟨rfl, rfl, rfl, trivial⟩ (.pull [3, 2, 1, 2] (shed_eq rfl))
              · refine With.mk ⟨by omega, by omega, by omega, by decide⟩ ?_
                intro bl
                refine With.mk ⟨by omega, by omega, by omega, by decide⟩ ?_
                intro bi
                refine StoreAt.mk 3 _ _ rfl rfl ?_
                exact Meet.mk (w, bi, bl, bo) ⟨rfl, rfl, rfl, trivial⟩ (.pull [3, 2, 2, 2] (shed_eq rfl))
  rintro ⟨w, bi, bl, bo⟩ g
  have hnx : ∀ (a : Nat) (σ : Hp), ACalls Tryz.prog 54 [.int .i64 n, .fsl edgeSh l, .int .i64 a] σ (Ret (.fsl (.int .i64) (toS n l a)) σ) := fun a σ => aNext n l a σ hl
  have hup : ∀ k, psC ((List.range (k + 1)).map fun a : Nat => toS n l a) = psC ((List.range k).map fun a : Nat => toS n l a) ++ [.fsl (.int .i64) (toS n l k)] := fun k => by rw [List.range_succ, List.map_append]; exact List.map_append
  have hul : ∀ k, (psC ((List.range k).map fun a : Nat => toS n l a)).length = k := fun k => by rw [psC_length, List.length_map, List.length_range]
  refine loopS (S := Nat × AV × Hp) (fun x => [(0, .int .i64 n), (1, .fsl edgeSh l), (6, .ptr w 0), (20, .int .i64 n), (21, .int .i64 x.1)]) (fun x => (w, [x.2.1, .mref bi 0 n 1, .mref bl 0 n 1, .mref bo 0 n 1, .nils, .int .i64 0, .nils]) :: (bi, repC [.int .i64 0] n) :: (bl, repC [.int .i64 0] n) :: (bo, repC [.bool false] n) :: (x.2.2 ++ σ)) (fun x => x.1 ≤ n ∧ (x.1 < n → Acc 1 x.1 x.2.1 x.2.2 (psC ((List.range x.1).map fun a : Nat => toS n l a))) ∧ (x.1 = n → x.2.1 = .fsl (.slice (.int .i64)) (nxL n l) ∧ x.2.2 = [])) (fun x => n - x.1) (0, .nils, []) ⟨⟨Nat.zero_le _, fun _ => .nil, fun h => by have h : 0 = n := h; omega⟩, ⟨rfl, rfl, rfl, rfl, rfl, trivial⟩, rfl⟩ ?_
  rintro ⟨k, v, acc⟩ g ⟨hk0, hacc0, hend0⟩
  have hk : k ≤ n := hk0
  have hacc : k < n → Acc 1 k v acc (psC ((List.range k).map fun a : Nat => toS n l a)) := hacc0
  have hend : k = n → v = .fsl (.slice (.int .i64)) (nxL n l) ∧ acc = [] := hend0
  clear hk0 hacc0 hend0
  refine bcond_dec (p := (k : Int) < n) (fun hlt => ?_) (fun hge => ?_)
  · have hlt : k < n := by omega
    have hacc := hacc hlt
    clear hend
    have hnl : (nxL n l).length = n := by unfold nxL; rw [List.length_map, List.length_range]
    have hfz : ∀ k, k + 1 = n → ((psC ((List.range k).map fun a : Nat => toS n l a) ++ [AV.fsl (.int .i64) (toS n l k)]).drop 0).take ((k + 1) * 1) = (nxL n l).flatMap (Sh.cells (.slice (.int .i64))) := fun k hk => by
      rw [← hup, List.drop_zero, List.take_of_length_le (by rw [hul, Nat.mul_one]; exact Nat.le_refl _), hk]
      exact psC_flat _
    refine .sched [5] (.one 0 false (.one 2 false (.one 3 false (.one 4 false (.one 5 true (.alt 1 (.one 6 false (.one 7 false (.one 8 false (.one 9 false .stop)))) (.one 6 false (.one 1 false (.one 7 false (.one 8 false (.one 9 false .stop))))))))))) (by kernel_rfl) ?_
    refine callQ [] (aNext n l _ _ hl) ?_
    refine And.intro ?_ ?_
    · refine LoadAt.mk 0 _ _ rfl rfl ?_
      intro bl1
      refine append_accV [_, _, _, _, _] hacc.unv (.mref 0 bl1 0 1 _ rfl (Nat.le_of_ble_eq_true rfl)) rfl (by omega) (by decide) (by decide) (fun v' acc' h' => ?_)
      obtain ⟨b5, rfl, rfl⟩ := accA_one (by omega) h'
      refine StoreAt.mk 1 _ _ rfl rfl ?_
      by_cases hkn : k + 1 = n
      · refine .frzc 5 b5 0 (k + 1) 1 _ (.slice (.int .i64)) (nxL n l) rfl (hfz k hkn) ⟨(hnl.trans hkn.symm), rfl, by decide⟩ 1 0 w _ rfl rfl ?_
        exact nextS (k + 1, .fsl (.slice (.int .i64)) (nxL n l), []) (by show n - (k + 1) < n - k; omega) ⟨hlt, fun h => absurd hkn (by have h : k + 1 < n := h; omega), fun _ => ⟨rfl, rfl⟩⟩ ⟨rfl, rfl, rfl, rfl, inc64 (by omega), trivial⟩ (.drop 0 1 (shed_eq rfl))
      · exact nextS (k + 1, .mref b5 0 (k + 1) 1, [(b5, psC ((List.range k).map fun a : Nat => toS n l a) ++ [.fsl (.int .i64) (toS n l k)])]) (by show n - (k + 1) < n - k; omega) ⟨hlt, fun _ => by show Acc 1 (k + 1) _ _ (psC ((List.range (k + 1)).map fun a : Nat => toS n l a)); rw [hup]; exact h', fun h => absurd h hkn⟩ ⟨rfl, rfl, rfl, rfl, inc64 (by omega), trivial⟩ (.drop 0 1 (shed_eq rfl))
    · intro bl2
      refine LoadAt.mk 1 _ _ rfl rfl ?_
      refine append_accV [_, _, _, _, _] hacc.unv (.mref 0 bl2 0 1 _ rfl (Nat.le_of_ble_eq_true rfl)) rfl (by omega) (by decide) (by decide) (fun v' acc' h' => ?_)
      obtain ⟨b5, rfl, rfl⟩ := accA_one (by omega) h'
      refine StoreAt.mk 1 _ _ rfl rfl ?_
      by_cases hkn : k + 1 = n
      · refine .frzc 5 b5 0 (k + 1) 1 _ (.slice (.int .i64)) (nxL n l) rfl (hfz k hkn) ⟨(hnl.trans hkn.symm), rfl, by decide⟩ 1 0 w _ rfl rfl ?_
        exact nextS (k + 1, .fsl (.slice (.int .i64)) (nxL n l), []) (by show n - (k + 1) < n - k; omega) ⟨hlt, fun h => absurd hkn (by have h : k + 1 < n := h; omega), fun _ => ⟨rfl, rfl⟩⟩ ⟨rfl, rfl, rfl, rfl, inc64 (by omega), trivial⟩ (.drop 0 1 (shed_eq rfl))
      · exact nextS (k + 1, .mref b5 0 (k + 1) 1, [(b5, psC ((List.range k).map fun a : Nat => toS n l a) ++ [.fsl (.int .i64) (toS n l k)])]) (by show n - (k + 1) < n - k; omega) ⟨hlt, fun _ => by show Acc 1 (k + 1) _ _ (psC ((List.range (k + 1)).map fun a : Nat => toS n l a)); rw [hup]; exact h', fun h => absurd h hkn⟩ ⟨rfl, rfl, rfl, rfl, inc64 (by omega), trivial⟩ (.drop 0 1 (shed_eq rfl))
  · have hge : k = n := by omega
    obtain ⟨rfl, rfl⟩ := hend hge
    clear hacc hend
    refine loopS (S := Nat × (List Int × List Int × List Bool × Nat × List (List Int)) × (AV × Hp × AV × Hp)) (fun x => [(0, .int .i64 n), (1, .fsl edgeSh l), (6, .ptr w 0), (34, .int .i64 n), (35, .int .i64 x.1)]) (fun x => (w, tjC (nxL n l) bi bl bo n x.2.2.1 x.2.1.2.2.2.1 x.2.2.2.2.1) :: (bi, inC x.2.1.1) :: (bl, inC x.2.1.2.1) :: (bo, bbC x.2.1.2.2.1) :: (x.2.2.2.1 ++ (x.2.2.2.2.2 ++ σ))) (fun x => x.1 ≤ n ∧ FI n (toS n l) x.2.1.1 x.2.1.2.1 x.2.1.2.2.1 [] x.2.1.2.2.2.1 x.2.1.2.2.2.2 [] ∧ AccJ 1 0 x.2.2.1 x.2.2.2.1 [] ∧ Acc 1 x.2.1.2.2.2.2.length x.2.2.2.2.1 x.2.2.2.2.2 (psC x.2.1.2.2.2.2) ∧ ∀ b : Nat, b < x.1 → x.2.1.1.getD b 0 ≠ 0) (fun x => n - x.1) (0, (List.replicate n 0, List.replicate n 0, List.replicate n false, 0, []), (.nils, [], .nils, [])) ⟨⟨Nat.zero_le _, .start n (toS n l), .nil, .nil, fun _ h => absurd h (Nat.not_lt_zero _)⟩, ⟨rfl, rfl, rfl, rfl, rfl, trivial⟩, by rw [rep_incS, rep_bbC]; rfl⟩ ?_
    clear hge
    rintro ⟨k, ⟨ix, lo, on, cnt, P⟩, ⟨vs, accs, vp, accp⟩⟩ g2 ⟨hk0, hF0, hs0, hp0, hv0⟩
    have hk : k ≤ n := hk0
    have hF : FI n (toS n l) ix lo on [] cnt P [] := hF0
    have hs : AccJ 1 0 vs accs [] := hs0
    have hp : Acc 1 P.length vp accp (psC P) := hp0
    have hv : ∀ b : Nat, b < k → ix.getD b 0 ≠ 0 := hv0
    clear hk0 hF0 hs0 hp0 hv0
    have hkT : ((k : Nat) : Int).toNat = k := Int.toNat_natCast k
    refine bcond_dec (p := (k : Int) < n) (fun hlt => ?_) (fun hge => ?_)
    · have hlt : k < n := by omega
      refine LoadAt.mk 0 _ _ rfl rfl ?_
      refine With.mk ⟨rfl, by omega, by omega⟩ ?_
      refine LoadAt.mk 1 _ _ rfl (inC_rd rfl (by omega) (by rw [hF.li]; omega)) ?_
      refine bcond_dec (p := ix.getD ((k : Nat) : Int).toNat 0 = 0) (fun c1 => ?_) (fun c1 => ?_)
      · refine .mk [] _ (aFrom n w bi bl bo l ix lo on cnt P vs vp accs accp k σ (by omega) hF (by omega) c1 hs hp) ?_
        rintro _ _ ⟨rfl, ix2, lo2, on2, cnt2, P2, vs2, accs2, vp2, accp2, hF2, hs2, hp2, ha2, hm2, rfl⟩
        rw [hkT] at ha2
        refine nextS (k + 1, (ix2, lo2, on2, cnt2, P2), (vs2, accs2, vp2, accp2)) (by show n - (k + 1) < n - k; omega) ⟨hlt, hF2, hs2, hp2, fun b hb => ?_⟩ ⟨rfl, rfl, rfl, rfl, inc64 (by omega), trivial⟩ (.refl _)
        have hb : b < k + 1 := hb
        by_cases e : b = k
        · subst e; exact ha2
        · exact hm2 b (hv b (by omega))
      · rw [hkT] at c1
        refine nextS (k + 1, (ix, lo, on, cnt, P), (vs, accs, vp, accp)) (by show n - (k + 1) < n - k; omega) ⟨hlt, hF, hs, hp, fun b hb => ?_⟩ ⟨rfl, rfl, rfl, rfl, inc64 (by omega), trivial⟩ (.refl _)
        have hb : b < k + 1 := hb
        by_cases e : b = k
        · subst e; exact c1
        · exact hv b (by omega)
    · have hge : k = n := by omega
      subst hge
      have hall : PAll k l P := ⟨hF.tj.prt, fun x h0 h1 => by
        have h2 := hv x.toNat (by omega)
        have h3 := (hF.tj.vis x h0 h1).1 (by rw [gI_at h0]; exact h2)
        exact h3.resolve_left (by simp)⟩
      have hPl := parts_len hF.tj.prt
      refine LoadAt.mk 0 _ _ rfl rfl ?_
      obtain ⟨x, hx, _⟩ := hall.all 0 (by omega) (by omega)
      have hP0 := List.length_pos_of_mem hx
      obtain ⟨b5, rfl, rfl⟩ := accA_one hP0 hp
      rcases hs.zero with ⟨rfl, rfl⟩ | ⟨bs, J, rfl, rfl⟩
      · skip
        refine .frz (args' := [.int .i64 k, .fsl edgeSh l, .fsl (.slice (.int .i64)) P]) 4 b5 0 P.length 1 _ (.slice (.int .i64)) P rfl (by rw [List.drop_zero, List.take_of_length_le (by rw [psC_length, Nat.mul_one]; exact Nat.le_refl _)]; exact psC_flat _) ⟨rfl, rfl, by decide⟩ (frz_cons (.refl _) (frz_cons (.refl _) (frz_cons .here (.refl _)))) ?_
        refine callR [] (aOrdered k l P _ hall hl (by omega) hee) ?_
        exact .drop 0 4 (.done ⟨rfl, rfl, P, hall⟩)
      · skip
        refine .frz (args' := [.int .i64 k, .fsl edgeSh l, .fsl (.slice (.int .i64)) P]) 5 b5 0 P.length 1 _ (.slice (.int .i64)) P rfl (by rw [List.drop_zero, List.take_of_length_le (by rw [psC_length, Nat.mul_one]; exact Nat.le_refl _)]; exact psC_flat _) ⟨rfl, rfl, by decide⟩ (frz_cons (.refl _) (frz_cons (.refl _) (frz_cons .here (.refl _)))) ?_
        refine callR [] (aOrdered k l P _ hall hl (by omega) hee) ?_
        exact .drop 0 5 (.done ⟨rfl, rfl, P, hall⟩)
theorem aSccRound1 (x : EdgeT) (σ : Hp) : ACalls Tryz.prog 95 [edgeV x] σ (Ret (.bool (decide (x.1 = x.2.1))) σ) := by
  obtain ⟨x1, x2, xu⟩ := x
  refine okF Tryz.func95 (by kernel_rfl) ?_
  intro bl1
  refine LoadAt.mk 0 _ _ rfl rfl ?_
  refine LoadAt.mk 0 _ _ rfl rfl ?_
  refine bcond_dec (fun c2 => ?_) (fun c2 => ?_)
  · have c2 : x1 = x2 := c2
    exact .drop 0 1 (.done ⟨av_bool (decide_eq_true c2).symm, rfl⟩)
  · have c2 : ¬ (x1 = x2) := c2
    exact .drop 0 1 (.done ⟨av_bool (decide_eq_false c2).symm, rfl⟩)
theorem aSccRoundP (n : Nat) (l : List EdgeT) (σ : Hp) (hl : l.length ≤ 100000) (hri : rightE n l = true) : ACalls Tryz.prog 62 [.int .i64 n, .fsl edgeSh l] σ (fun r σ' => r = .bool (decide ((rOf n l).length < n) || l.any fun x : EdgeT => decide (x.1 = x.2.1)) ∧ σ' = σ ∧ ∃ P, PAll n l P) := by
  refine okF Tryz.func62 (by kernel_rfl) ?_
  refine .mk [] _ (aSccOfP n l _ hl hri) ?_
  rintro _ _ ⟨rfl, rfl, hP⟩
  refine bcond_dec (fun c1 => ?_) (fun c1 => ?_)
  · have c1 : (↑(rOf n l).length : Int) < (↑n : Int) := c1
    exact .done ⟨av_bool (by rw [decide_eq_true (show (rOf n l).length < n by omega)]; rfl), rfl, hP⟩
  · have c1 : ¬ ((↑(rOf n l).length : Int) < (↑n : Int)) := c1
    refine callR [] (aContainsEd 95 [] l (fun x : EdgeT => decide (x.1 = x.2.1)) _ (Nat.le_trans hl (by decide)) fun i hi => aSccRound1 l[i] _) ?_
    exact .done ⟨av_bool (by rw [decide_eq_false (show ¬ ((rOf n l).length < n) by omega)]; rfl), rfl, hP⟩
end Go.Proofs.YtljbnigceammdaaGreatDoor
