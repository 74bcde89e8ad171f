/-
  Kt: what the claim uses of them.
-/
import Derived.Test.YtegpahamenjiaaaGreatBn48
namespace Go.Proofs.YtegpahamenjiaaaGreat
open Go.RowKit
set_option maxRecDepth 100000
set_option maxHeartbeats 4000000
theorem aRwTake (w r m p : Nat) {s : Sy} {l : Lay} {me : Int} {x : WS} (d : Int) (ws : List Int) (σ : Hp) (hs : LS s l) (h : WV s l me x) (he : x.en = false) (hd : x.does ≤ 1) : ACalls Tryz.prog 55 [.ptr w 0, .ptr m 0, .int .i64 d] (RB s l me w r x ++ reH m p ws σ) (RPost s l me w m p x d ws σ) := by
  obtain ⟨ev, jo, en, does, now, node, has, nx, out⟩ := x
  have he : en = false := he
  have hd : does ≤ 1 := hd
  subst he
  have hdo : 0 ≤ does ∧ does ≤ 8 := h.does
  have hr : does = 1 → 2 ≤ l.k := h.rob
  rcases h.now with h0 | ⟨h0, hk⟩
  · have h0 : now = .none := h0
    subst h0
    rcases (show does = 0 ∨ does = 1 by omega) with h1 | h1
    · exact aRTakePopN w m p s l me ev jo does node has nx out d ws σ h1
    · have := nK_ne ⟨hr h1, hs.k2⟩
      exact aRTakeStealN w m p s l me ev jo does node has nx out d ws σ h1 this.1 this.2
  · cases now with
    | none => exact h0.elim
    | pop q => exact aRTakePopG w r m p s l me ev jo does q node has nx out d ws σ h0.1 h0.2.1
    | steal q => exact aRTakeStealG w r m p s l me ev jo does q node has nx out d ws σ h0.1 h0.2.1
    | quiet t => exact absurd (show does = 2 from h0.1) (by omega)
    | clear t => exact absurd (show does = 3 from h0.1) (by omega)
    | read y => exact absurd (show does = 4 from h0.1) (by omega)
    | join j => exact absurd (show does = 5 from h0.1) (by omega)
    | take t => exact absurd (show does = 6 from h0.1) (by omega)
    | push q => exact absurd (show does = 7 from h0.1) (by omega)
    | retire t => exact absurd (show does = 8 from h0.1) (by omega)
theorem aRwBoard (w r m p : Nat) {s : Sy} {l : Lay} {me : Int} {x : WS} (d : Int) (ws : List Int) (σ : Hp) (h : WV s l me x) (he : x.en = false) (hd : x.does = 2 ∨ x.does = 3 ∨ x.does = 6 ∨ x.does = 8) : ACalls Tryz.prog 59 [.ptr w 0, .ptr m 0] (RB s l me w r x ++ reH m p ws σ) (RPost s l me w m p x d ws σ) := by
  obtain ⟨ev, jo, en, does, now, node, has, nx, out⟩ := x
  have he : en = false := he
  have hd : does = 2 ∨ does = 3 ∨ does = 6 ∨ does = 8 := hd
  subst he
  have hh : does = 5 ∨ does = 6 ∨ does = 7 → 0 < nx.length := h.head
  have hn : ∀ u ∈ nx, 0 ≤ u ∧ u < s.n := h.nx
  rcases h.now with h0 | ⟨h0, hk⟩
  · have h0 : now = .none := h0
    subst h0
    rcases hd with h1 | h1 | h1 | h1
    · exact aRBoard2 w m p s l me ev jo does node has nx out d ws σ h1
    · exact aRBoard3 w m p s l me ev jo does node has nx out d ws σ h1
    · cases nx with
      | nil => exact absurd (hh (.inr (.inl h1))) (by decide)
      | cons z nx => exact aRBoard6N w m p s l me ev jo does z node has nx out d ws σ h1 (hn z (List.mem_cons_self ..)).1
    · exact aRBoard8 w m p s l me ev jo does node has nx out d ws σ h1
  · cases now with
    | none => exact h0.elim
    | pop q => exact absurd (show does = 0 from h0.1) (by omega)
    | steal q => exact absurd (show does = 1 from h0.1) (by omega)
    | quiet t => exact hk.elim
    | clear t => exact hk.elim
    | read y => exact absurd (show does = 4 from h0.1) (by omega)
    | join j => exact absurd (show does = 5 from h0.1) (by omega)
    | take t =>
      obtain ⟨h1, did, ht⟩ := h0
      have ht : t = ⟨flagsL l, countL l, nx.headD 0, did, false, did⟩ := ht
      subst ht
      have hk : did = true := hk
      subst hk
      cases nx with
      | nil => exact absurd (hh (.inr (.inl h1))) (by decide)
      | cons z nx => exact aRBoard6G w r m p s l me ev jo does z node has nx out d ws σ h1
    | push q => exact absurd (show does = 7 from h0.1) (by omega)
    | retire t => exact hk.elim
theorem aRwPush (w r m p : Nat) {s : Sy} {l : Lay} {me : Int} {x : WS} (d : Int) (ws : List Int) (σ : Hp) (h : WV s l me x) (he : x.en = false) (hd : x.does = 7) : ACalls Tryz.prog 58 [.ptr w 0, .ptr m 0] (RB s l me w r x ++ reH m p ws σ) (RPost s l me w m p x d ws σ) := by
  obtain ⟨ev, jo, en, does, now, node, has, nx, out⟩ := x
  have he : en = false := he
  have hd : does = 7 := hd
  subst he
  have hh : does = 5 ∨ does = 6 ∨ does = 7 → 0 < nx.length := h.head
  have hp : 0 < nx.length := hh (by omega)
  rcases h.now with h0 | ⟨h0, hk⟩
  · have h0 : now = .none := h0
    subst h0
    cases nx with
    | nil => exact absurd hp (by decide)
    | cons z nx => exact aRPushN w m p s l me ev jo does z node has nx out d ws σ hd
  · cases now with
    | none => exact h0.elim
    | pop q => exact absurd (show does = 0 from h0.1) (by omega)
    | steal q => exact absurd (show does = 1 from h0.1) (by omega)
    | quiet t => exact hk.elim
    | clear t => exact hk.elim
    | read y => exact absurd (show does = 4 from h0.1) (by omega)
    | join j => exact absurd (show does = 5 from h0.1) (by omega)
    | take t => exact absurd (show does = 6 from h0.1) (by omega)
    | push q =>
      cases nx with
      | nil => exact absurd hp (by decide)
      | cons z nx => exact aRPushG w r m p s l me ev jo does q z node has nx out d ws σ h0.2.1
    | retire t => exact hk.elim
theorem aRwJoin (w r m p : Nat) {s : Sy} {l : Lay} {me : Int} {x : WS} (d : Int) (ws : List Int) (σ : Hp) (h : WV s l me x) (he : x.en = false) (hw : MV s l ws) (hd : x.does = 5) : ACalls Tryz.prog 57 [.ptr w 0, .ptr m 0] (RB s l me w r x ++ reH m p ws σ) (RPost s l me w m p x d ws σ) := by
  obtain ⟨ev, jo, en, does, now, node, has, nx, out⟩ := x
  have he : en = false := he
  have hd : does = 5 := hd
  subst he
  have hh : does = 5 ∨ does = 6 ∨ does = 7 → 0 < nx.length := h.head
  have hp : 0 < nx.length := hh (.inl hd)
  have ho : does = 5 ∨ does = 6 ∨ does = 7 → Val s.what s.w out := h.out
  have ho : A64 out := (ho (.inl hd)).w64
  rcases h.now with h0 | ⟨h0, hk⟩
  · have h0 : now = .none := h0
    subst h0
    cases nx with
    | nil => exact absurd hp (by decide)
    | cons z nx => exact aRJoinN w m p s l me ev jo does z node has nx out d ws σ hd ⟨Nat.zero_le _, ho, w64_zero⟩ hw.a64
  · cases now with
    | none => exact h0.elim
    | pop q => exact absurd (show does = 0 from h0.1) (by omega)
    | steal q => exact absurd (show does = 1 from h0.1) (by omega)
    | quiet t => exact hk.elim
    | clear t => exact hk.elim
    | read y => exact absurd (show does = 4 from h0.1) (by omega)
    | join j =>
      obtain ⟨-, ⟨h2, h3, h4, h5⟩, h6, h7, h8, -⟩ := h0
      cases nx with
      | nil => exact absurd hp (by decide)
      | cons z nx => exact aRJoinG w r m p s l me ev jo does j z node has nx out d ws σ ⟨by rw [show j.words = l.words from h4]; exact h7, by rw [show j.a = out from h5]; exact ho, h8⟩ hw.a64
    | take t => exact absurd (show does = 6 from h0.1) (by omega)
    | push q => exact absurd (show does = 7 from h0.1) (by omega)
    | retire t => exact hk.elim
theorem aRwRead (w r m p : Nat) {s : Sy} {l : Lay} {me : Int} {x : WS} (d : Int) (ws : List Int) (σ : Hp) (hs : LS s l) (h : WV s l me x) (he : x.en = false) (hw : MV s l ws) (hd : x.does = 4) : ACalls Tryz.prog 56 [.ptr w 0, .ptr m 0] (RB s l me w r x ++ reH m p ws σ) (RPost s l me w m p x d ws σ) := by
  obtain ⟨ev, jo, en, does, now, node, has, nx, out⟩ := x
  have he : en = false := he
  have hd : does = 4 := hd
  subst he
  have hno : 0 ≤ node ∧ node < s.n := h.node
  obtain ⟨v, rfl⟩ := Int.eq_ofNat_of_zero_le hno.1
  have hv : v < nN s := by have := hs.nn; omega
  obtain ⟨W, hW⟩ : ∃ W, W = nW l := ⟨_, rfl⟩
  have hww := hs.ww
  rw [← hW] at hww
  obtain ⟨y, hy1, hy2, hy3, hy4⟩ : ∃ y : List Int, rnA now = rA y ∧ atW l me ⟨ev, jo, false, does, now, v, has, nx, out⟩ d = .read y ∧ (y.length < W ∨ (W = 0 ∧ y = [])) ∧ (∀ i, i < y.length → wordK s.what s.w i (wd y i)) := by
    rcases h.now with h0 | ⟨h0, hk⟩
    · have h0 : now = .none := h0
      subst h0
      refine ⟨[], rfl, beg4 hd, ?_, fun i hi => absurd hi (Nat.not_lt_zero _)⟩
      rcases Nat.eq_zero_or_pos W with h | h
      · exact .inr ⟨h, rfl⟩
      · exact .inl h
    · cases now with
      | none => exact h0.elim
      | pop q => exact absurd (show does = 0 from h0.1) (by omega)
      | steal q => exact absurd (show does = 1 from h0.1) (by omega)
      | quiet t => exact hk.elim
      | clear t => exact hk.elim
      | read y => exact ⟨y, rfl, rfl, hW ▸ h0.2.1, h0.2.2⟩
      | join j => exact absurd (show does = 5 from h0.1) (by omega)
      | take t => exact absurd (show does = 6 from h0.1) (by omega)
      | push q => exact absurd (show does = 7 from h0.1) (by omega)
      | retire t => exact hk.elim
  have hb : RB s l me w r ⟨ev, jo, false, does, now, v, has, nx, out⟩ = [(w, rwC s l me does v has nx out .nilp .nilp .nilp (rA y) ev jo false)] := by
    rcases h.now with h0 | ⟨h0, hk⟩
    · have h0 : now = .none := h0
      subst h0
      unfold RB
      rw [← hy1]; rfl
    · cases now with
      | none => exact h0.elim
      | pop q => exact absurd (show does = 0 from h0.1) (by omega)
      | steal q => exact absurd (show does = 1 from h0.1) (by omega)
      | quiet t => exact hk.elim
      | clear t => exact hk.elim
      | read z => unfold RB; rw [← hy1]; rfl
      | join j => exact absurd (show does = 5 from h0.1) (by omega)
      | take t => exact absurd (show does = 6 from h0.1) (by omega)
      | push q => exact absurd (show does = 7 from h0.1) (by omega)
      | retire t => exact hk.elim
  rw [hb]
  obtain ⟨y', ws', b, hst⟩ : ∃ y' ws' b, readStep listOps l (cellB l v) y ws = (y', ws', b) := ⟨_, _, _, rfl⟩
  obtain ⟨rfl, k2, k3, k4⟩ := read_keeps hs hw hv (hW ▸ hy3) hy4 hst
  have hnil : ∀ (R : AV → Hp → Prop), ACalls Tryz.prog 56 [.ptr w 0, .ptr m 0] ((w, rwC s l me does v has nx out .nilp .nilp .nilp (.fsl (.int .u64) y) ev jo false) :: reH m p ws' σ) R → ACalls Tryz.prog 56 [.ptr w 0, .ptr m 0] ((w, rwC s l me does v has nx out .nilp .nilp .nilp (rA y) ev jo false) :: reH m p ws' σ) R := fun R hc => by
    cases y with
    | nil => exact callAt_get (callNil 0 20 w _ (.int .u64) rfl rfl (.mk [] _ hc fun _ _ h => h))
    | cons a y => exact hc
  refine hnil _ ?_
  have hend : ∀ Y, y' = Y → b = true → RPost s l me w m p ⟨ev, jo, false, does, now, v, has, nx, out⟩ d ws' σ (.tup []) ((w, rwC s l me (if (toS s.n s.edges v).length = 0 then 8 else 5) v has (toS s.n s.edges v) (outS s Y v) .nilp .nilp .nilp .nils (wr (ev + 1)) jo false) :: reH m p ws' σ) := fun Y hY hb => by
    subst hY
    have hE : outE s v y' = 0 := outE_val ((nodeE_yes (good_zero hs.good) hno).symm) (k4 hb).v
    exact rPostT (y := ⟨wr (ev + 1), jo, false, rdDoes s v, .none, v, has, toS s.n s.edges v, outS s y' v⟩) rfl hy2 (nw_read hst) hb (beh_read hE) rfl
  rcases hy3 with hlt | ⟨h0, rfl⟩
  · have hlt' : y.length < cw l.words := by rw [show cw l.words = W from hW.symm]; exact hlt
    have hrd := rdSome (base := cellB l v) (ws := ws') hlt' (x := rdX l v y ws') rfl
    rw [hst] at hrd
    have hy' : y' = y ++ [rdX l v y ws'] := congrArg Prod.fst hrd
    have hb' : b = decide (y.length + 1 = cw l.words) := congrArg (fun z : List Int × List Int × Bool => z.2.2) hrd
    rw [show cw l.words = W from hW.symm] at hb'
    by_cases hl1 : y.length + 1 = W
    · have hbt : b = true := by rw [hb']; exact decide_eq_true hl1
      refine (aRRead w m p s l me ev jo does v has nx out y ws' σ hs.fit hs.good hno.2 W hww.1 hww.2 hlt (fun _ => hy' ▸ k4 hbt)).mono ?_
      rintro _ σ' ⟨rfl, h2⟩
      rw [if_pos hl1] at h2
      subst h2
      exact hend _ hy' hbt
    · have hbf : b = false := by rw [hb']; exact decide_eq_false hl1
      refine acalls_frzc (aRRead w m p s l me ev jo does v has nx out y ws' σ hs.fit hs.good hno.2 W hww.1 hww.2 hlt (fun h => absurd h hl1)) ?_
      rintro _ σ' ⟨rfl, h2⟩
      rw [if_neg hl1] at h2
      obtain ⟨b', rfl⟩ := h2
      refine ⟨rfl, 0, b', 0, 0 + y.length + 1, 1, _, .int .u64, y ++ [rdX l v y ws'], 0, 20, w, _, rfl, rdB_flat y _, rd_len y _, rfl, rfl, ?_⟩
      have hF := rPostF (s := s) (l := l) (who := me) (w := w) (m := m) (p := p) (σ := σ) r (show (⟨ev, jo, false, does, now, v, has, nx, out⟩ : WS).en = false from rfl) hy2 (nw_read hst) hbf
      rw [hy'] at hF
      unfold RB at hF
      rw [show rnA (Nw.read (y ++ [rdX l v y ws'])) = .fsl (.int .u64) (y ++ [rdX l v y ws']) from rA_snoc _ _] at hF
      exact hF
  · have hst' : readStep listOps l (cellB l v) [] ws' = ([], ws', true) := if_neg (by rw [show cw l.words = W from hW.symm, h0]; decide)
    rw [hst] at hst'
    have hy' : y' = [] := congrArg Prod.fst hst'
    have hb' : b = true := congrArg (fun z : List Int × List Int × Bool => z.2.2) hst'
    refine (aRReadZ w m p s l me ev jo does v has nx out ws' σ hs.fit hs.good hno.2 (by rw [hww.1, h0]; rfl) (hy' ▸ k4 hb')).mono ?_
    rintro _ σ' ⟨rfl, rfl⟩
    exact hend _ hy' hb'
theorem wStep_en {s : Sy} {l : Lay} {who : Int} {x : WS} {d : Int} {ws : List Int} (he : x.en = false) : (wStep listOps s l who x d ws).2.2 = (wStep listOps s l who x d ws).1.en := by
  unfold wStep
  rw [if_neg (by rw [he]; decide)]
  split
  · rfl
  · exact he.symm
theorem aRStep33 (w r m p : Nat) {s : Sy} {l : Lay} {me : Int} {x : WS} (d : Int) (ws : List Int) (σ : Hp) (hs : LS s l) (h : WV s l me x) (hw : MV s l ws) : ACalls Tryz.prog 27 [.ptr w 0, .ptr m 0, .int .i64 d] (RB s l me w r x ++ reH m p ws σ) (fun z σ' => ∃ r', z = .bool (wStep listOps s l me x d ws).2.2 ∧ σ' = RB s l me w r' (wStep listOps s l me x d ws).1 ++ reH m p (wStep listOps s l me x d ws).2.1 σ) := by
  cases he : x.en with
  | true =>
    have hst : wStep listOps s l me x d ws = (x, ws, true) := if_pos he
    rw [hst]
    obtain ⟨ev, jo, en, does, now, node, has, nx, out⟩ := x
    have he : en = true := he
    subst he
    refine okF Tryz.func27 (by kernel_rfl) ?_
    refine LoadAt.mk 0 _ _ rfl rfl ?_
    exact .done ⟨r, rfl, rfl⟩
  | false =>
    have hT := fun hd => aRwTake w r m p d ws σ hs h he hd
    have hB := fun hd => aRwBoard w r m p d ws σ h he hd
    have hP := fun hd => aRwPush w r m p d ws σ h he hd
    have hJ := fun hd => aRwJoin w r m p d ws σ h he hw hd
    have hR := fun hd => aRwRead w r m p d ws σ hs h he hw hd
    have hen := wStep_en (s := s) (l := l) (who := me) (d := d) (ws := ws) he
    unfold RPost at hT hB hP hJ hR
    rw [hen]
    have hdo := h.does
    generalize wStep listOps s l me x d ws = S at hT hB hP hJ hR ⊢
    obtain ⟨x', ws', b⟩ := S
    obtain ⟨ev, jo, en, does, now, node, has, nx, out⟩ := x
    have he : en = false := he
    have hdo : 0 ≤ does ∧ does ≤ 8 := hdo
    subst he
    refine okF Tryz.func27 (by kernel_rfl) ?_
    refine LoadAt.mk 0 _ _ rfl rfl ?_
    refine LoadAt.mk 0 _ _ rfl rfl ?_
    refine bcond_dec (fun c1 => ?_) (fun c1 => ?_)
    · have c1 : does ≤ 1 := c1
      (refine .mk [] _ (hT (by assumption)) ?_; rintro _ _ ⟨r', rfl, rfl⟩)
      refine LoadAt.mk 0 _ _ rfl rfl ?_
      exact .done ⟨r', rfl, rfl⟩
    · have c1 : ¬ (does ≤ 1) := c1
      refine LoadAt.mk 0 _ _ rfl rfl ?_
      refine bcond_dec (fun c2 => ?_) (fun c2 => ?_)
      · have c2 : does = 4 := c2
        (refine .mk [] _ (hR (by assumption)) ?_; rintro _ _ ⟨r', rfl, rfl⟩)
        refine LoadAt.mk 0 _ _ rfl rfl ?_
        exact .done ⟨r', rfl, rfl⟩
      · have c2 : ¬ (does = 4) := c2
        refine LoadAt.mk 0 _ _ rfl rfl ?_
        refine bcond_dec (fun c3 => ?_) (fun c3 => ?_)
        · have c3 : does = 5 := c3
          (refine .mk [] _ (hJ (by assumption)) ?_; rintro _ _ ⟨r', rfl, rfl⟩)
          refine LoadAt.mk 0 _ _ rfl rfl ?_
          exact .done ⟨r', rfl, rfl⟩
        · have c3 : ¬ (does = 5) := c3
          refine LoadAt.mk 0 _ _ rfl rfl ?_
          refine bcond_dec (fun c4 => ?_) (fun c4 => ?_)
          · have c4 : does = 7 := c4
            (refine .mk [] _ (hP (by assumption)) ?_; rintro _ _ ⟨r', rfl, rfl⟩)
            refine LoadAt.mk 0 _ _ rfl rfl ?_
            exact .done ⟨r', rfl, rfl⟩
          · have c4 : ¬ (does = 7) := c4
            (refine .mk [] _ (hB (by show does = 2 ∨ does = 3 ∨ does = 6 ∨ does = 8; omega)) ?_; rintro _ _ ⟨r', rfl, rfl⟩)
            refine LoadAt.mk 0 _ _ rfl rfl ?_
            exact .done ⟨r', rfl, rfl⟩
end Go.Proofs.YtegpahamenjiaaaGreat
