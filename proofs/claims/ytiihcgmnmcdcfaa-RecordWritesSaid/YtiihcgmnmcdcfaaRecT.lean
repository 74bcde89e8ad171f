/-
  record.Right, by the abstract walk; in plain Lean: what a new memory would tell.
-/
import Derived.Test.YtiihcgmnmcdcfaaRecR
namespace Go.Proofs.Ytiihcgmnmcdcfaa
open Go.RowKit
set_option maxRecDepth 100000
/-- One event is asked again. -/
def rstep (st : List Ev × List Int) (d : EvT) : List Ev × List Int := (st.1 ++ [(askOp listOps st.2 d.1 d.2.1 d.2.2.1 d.2.2.2.1).1], (askOp listOps st.2 d.1 d.2.1 d.2.2.1 d.2.2.2.1).2)
def replay (ws : List Int) (B : List EvT) : List Ev × List Int := B.foldl rstep ([], ws)
theorem replay_snoc {ws : List Int} {B : List EvT} {k : Nat} (h : k < B.length) : replay ws (B.take (k + 1)) = rstep (replay ws (B.take k)) B[k] := by
  unfold replay
  rw [List.take_succ_eq_append_getElem h, List.foldl_append]
  rfl
def kindB (d : EvT) : Bool := decide (1 ≤ d.1) && decide (d.1 ≤ 4)
def rightB (n : Int) (B : List EvT) : Bool := B.all kindB && decide ((replay (List.replicate (cutN n) 0) B).1.map Ev.d = B)
theorem replay_len (ws : List Int) (B : List EvT) : (replay ws B).1.length = B.length := by
  have : ∀ (B : List EvT) (st : List Ev × List Int), (B.foldl rstep st).1.length = st.1.length + B.length := by
    intro B
    induction B with
    | nil => intro st; rfl
    | cons d B ih => intro st; rw [List.foldl_cons, ih]; simp [rstep]; omega
  simpa [replay] using this B ([], ws)
theorem aEqualNil (σ : Hp) : ACalls Try.prog 105 [.nils, .fsl evSh []] σ (Ret (.bool true) σ) := by
  refine okF Try.func105 (by kernel_rfl) ?_
  refine loopS (S := Unit) (fun _ => [(12, .int .i64 0), (13, .int .i64 0)]) (fun _ => σ) (fun _ => True) (fun _ => 0) () ⟨trivial, ⟨rfl, rfl, trivial⟩, rfl⟩ ?_
  intro _ g _
  exact .done ⟨rfl, rfl⟩

theorem acc_inv {e n : Nat} {v : AV} {acc : Hp} {cs : List AV} (h : Acc e n v acc cs) : (v = .nils ∧ acc = [] ∧ n = 0) ∨ ∃ b, v = .mref b 0 n e ∧ acc = [(b, cs)] := by
  cases h with
  | nil => exact .inl ⟨rfl, rfl, rfl⟩
  | mref b k cs h => exact .inr ⟨b, rfl, rfl⟩
theorem fin_dropL {R : AV → Hp → Prop} {x : AV} {σ : Hp} (fr : Hp) (h : Fin R x σ) : Fin R x (fr ++ σ) := .drop 0 fr.length (by simpa using h)
theorem aRight (n : Int) (B : List EvT) (σ : Hp) (hB : B.length ≤ 1000) : ACalls Try.prog 60 [.int .i64 n, .fsl evSh B] σ (Ret (.bool (rightB n B)) σ) := by
  refine okF Try.func60 (by kernel_rfl) ?_
  refine .mk [] _ (aNew n σ) ?_
  rintro _ _ ⟨p, q, rfl, rfl⟩
  refine .mk [] _ (aLogNew (plainM p q) _) ?_
  rintro _ _ ⟨r, rfl, rfl⟩
  obtain ⟨zs, hzs⟩ : ∃ zs, zs = List.replicate (cutN n) (0 : Int) := ⟨_, rfl⟩
  have hlen : cutN n = zs.length := by rw [hzs]; simp
  refine loopS (S := Nat × LogS (plainM p q)) (fun s => [(1, .fsl evSh B), (5, .ptr r 0), (12, .fsl evSh B), (13, .int .i64 B.length), (14, .int .i64 s.1)])
    (fun s => (r, [(plainM p q).v, s.2.c]) :: (s.2.acc ++ ((plainM p q).B s.2.m ++ σ))) (fun s => s.1 ≤ B.length ∧ s.2.es = (replay zs (B.take s.1)).1 ∧ (plainM p q).abs s.2.m = (replay zs (B.take s.1)).2 ∧ (B.take s.1).all kindB = true) (fun s => B.length - s.1) (0, ⟨zs, [], .nils, [], .nil⟩) ⟨⟨Nat.zero_le _, rfl, rfl, rfl⟩, ⟨rfl, rfl, rfl, rfl, rfl, trivial⟩, by rw [← hzs, hlen]; rfl⟩ ?_
  rintro ⟨k, ls⟩ g ⟨hk, hes, hm, hall⟩
  have hk : k ≤ B.length := hk
  have hes : ls.es = (replay zs (B.take k)).1 := hes
  have hm : (plainM p q).abs ls.m = (replay zs (B.take k)).2 := hm
  have hall : (B.take k).all kindB = true := hall
  have hel : ls.es.length = k := by rw [hes, replay_len, List.length_take]; omega
  refine bcond_dec (fun hlt => ?_) (fun hge => ?_)
  · have hlt : k < B.length := by have hlt : (k : Int) < B.length := hlt; omega
    refine With.mk rfl (IdxF.mk B[k] (by omega) (get_some hlt) ?_)
    intro b
    refine StoreAt.mk 0 _ _ rfl rfl ?_
    refine LoadAt.mk 0 _ _ rfl rfl ?_
    generalize hd : B[k] = d
    obtain ⟨dk, dt, dx, dy, dg, dok, du⟩ := d
    have hp : ∀ (c : List AV) (s' : LogS (plainM p q)), ((b, c) :: (r, [(plainM p q).v, s'.c]) :: (s'.acc ++ ((plainM p q).B s'.m ++ σ))).Perm ((r, [(plainM p q).v, s'.c]) :: (s'.acc ++ ((plainM p q).B s'.m ++ ((b, c) :: σ)))) := fun c s' => by
      have h := front_perm' ((r, [(plainM p q).v, s'.c]) :: (s'.acc ++ (plainM p q).B s'.m)) [(b, c)] σ
      simpa using h
    have fin : ∀ (ls' : LogS (plainM p q)), kindB (dk, dt, dx, dy, dg, dok, du) = true → (plainM p q).abs ls'.m = (askOp (plainM p q).O ((plainM p q).abs ls.m) dk dt dx dy).2 → ls'.es = ls.es ++ [(askOp (plainM p q).O ((plainM p q).abs ls.m) dk dt dx dy).1] →
        ls'.es = (replay zs (B.take (k + 1))).1 ∧ (plainM p q).abs ls'.m = (replay zs (B.take (k + 1))).2 ∧ (B.take (k + 1)).all kindB = true := fun ls' h0 a1 a2 => by
      refine ⟨?_, ?_, ?_⟩
      · rw [replay_snoc hlt, hd, a2, hes]
        show _ ++ [(askOp listOps ((plainM p q).abs ls.m) dk dt dx dy).1] = _ ++ [(askOp listOps (replay zs (B.take k)).2 dk dt dx dy).1]
        rw [hm]
      · rw [replay_snoc hlt, hd, a1]
        show (askOp listOps ((plainM p q).abs ls.m) dk dt dx dy).2 = (askOp listOps (replay zs (B.take k)).2 dk dt dx dy).2
        rw [hm]
      · rw [List.take_succ_eq_append_getElem hlt, List.all_append, hall, hd]
        simp [h0]
    refine bcond_dec (fun h1 => ?_) (fun h1 => ?_)
    · have h1 : dk = 1 := h1
      refine LoadAt.mk 0 _ _ rfl rfl ?_
      refine .perm _ (hp _ ls).symm (aLogLoad (plainM p q) r ls dt _ trivial (by omega)) ?_
      rintro _ _ ⟨ls', e1, e2, rfl, rfl⟩
      obtain ⟨f1, f2, f3⟩ := fin ls' (by simp [kindB, h1]) (by simp [askOp, h1, e1]) (by simp [askOp, h1, e2])
      refine ⟨_, hp _ ls', ?_⟩
      refine nextS (k + 1, ls') ?_ ⟨hlt, f1, f2, f3⟩ ⟨rfl, rfl, rfl, rfl, inc64 (by omega), trivial⟩ (.drop 0 1 (shed_eq rfl))
      show B.length - (k + 1) < B.length - k; omega
    have h1 : ¬ dk = 1 := h1
    refine bcond_dec (fun h2 => ?_) (fun h2 => ?_)
    · have h2 : dk = 2 := h2
      refine LoadAt.mk 0 _ _ rfl rfl ?_
      refine LoadAt.mk 0 _ _ rfl rfl ?_
      refine .perm _ (hp _ ls).symm (aLogStore (plainM p q) r ls dt dx _ trivial (by omega)) ?_
      rintro _ _ ⟨ls', e1, e2, rfl, rfl⟩
      obtain ⟨f1, f2, f3⟩ := fin ls' (by simp [kindB, h2]) (by simp [askOp, h2, e1]) (by simp [askOp, h2, e2])
      refine ⟨_, hp _ ls', ?_⟩
      refine nextS (k + 1, ls') ?_ ⟨hlt, f1, f2, f3⟩ ⟨rfl, rfl, rfl, rfl, inc64 (by omega), trivial⟩ (.drop 0 1 (shed_eq rfl))
      show B.length - (k + 1) < B.length - k; omega
    have h2 : ¬ dk = 2 := h2
    refine bcond_dec (fun h3 => ?_) (fun h3 => ?_)
    · have h3 : dk = 3 := h3
      refine LoadAt.mk 0 _ _ rfl rfl ?_
      refine LoadAt.mk 0 _ _ rfl rfl ?_
      refine LoadAt.mk 0 _ _ rfl rfl ?_
      refine .perm _ (hp _ ls).symm (aLogCAS (plainM p q) r ls dt dx dy _ trivial (by omega)) ?_
      rintro _ _ ⟨ls', e1, e2, rfl, rfl⟩
      obtain ⟨f1, f2, f3⟩ := fin ls' (by simp [kindB, h3]) (by simp [askOp, h3, e1]) (by simp [askOp, h3, e2])
      refine ⟨_, hp _ ls', ?_⟩
      refine nextS (k + 1, ls') ?_ ⟨hlt, f1, f2, f3⟩ ⟨rfl, rfl, rfl, rfl, inc64 (by omega), trivial⟩ (.drop 0 1 (shed_eq rfl))
      show B.length - (k + 1) < B.length - k; omega
    have h3 : ¬ dk = 3 := h3
    refine bcond_dec (fun h4 => ?_) (fun h4 => ?_)
    · have h4 : dk = 4 := h4
      refine LoadAt.mk 0 _ _ rfl rfl ?_
      refine LoadAt.mk 0 _ _ rfl rfl ?_
      refine .perm _ (hp _ ls).symm (aLogAdd (plainM p q) r ls dt dx _ trivial (by omega)) ?_
      rintro _ _ ⟨ls', e1, e2, rfl, rfl⟩
      obtain ⟨f1, f2, f3⟩ := fin ls' (by simp [kindB, h4]) (by simp [askOp, h4, e1]) (by simp [askOp, h4, e2])
      refine ⟨_, hp _ ls', ?_⟩
      refine nextS (k + 1, ls') ?_ ⟨hlt, f1, f2, f3⟩ ⟨rfl, rfl, rfl, rfl, inc64 (by omega), trivial⟩ (.drop 0 1 (shed_eq rfl))
      show B.length - (k + 1) < B.length - k; omega
    have h4 : ¬ dk = 4 := h4
    have hno : rightB n B = false := by
      have : B.all kindB = false := by
        rw [List.all_eq_false]
        refine ⟨B[k], List.getElem_mem hlt, ?_⟩
        rw [hd]
        simp only [kindB, Bool.and_eq_true, decide_eq_true_eq]
        omega
      simp [rightB, this]
    have h := fin_dropL (R := Ret (.bool (rightB n B)) σ) (x := .bool false) ((b, evSh.cells (dk, dt, dx, dy, dg, dok, du)) :: (r, [(plainM p q).v, ls.c]) :: (ls.acc ++ (plainM p q).B ls.m)) (.done ⟨by rw [hno], rfl⟩)
    simp only [List.cons_append, List.append_assoc] at h
    exact h
  · have hge : ¬ (k : Int) < B.length := hge
    have hkB : k = B.length := by omega
    have hfin : rightB n B = decide (ls.es.map Ev.d = B) := by
      rw [hkB, List.take_length] at hes hall
      unfold rightB
      rw [hall, ← hzs, ← hes]
      rfl
    rw [hfin]
    obtain ⟨m, es, c, acc, h⟩ := ls
    have hel : es.length = k := hel
    cases h with
    | nil =>
      have : B = [] := List.length_eq_zero_iff.1 (by rw [← hkB, ← hel]; rfl)
      subst this
      refine LoadAt.mk 0 _ _ rfl rfl ?_
      refine callR [] (aEqualNil _) ?_
      exact .drop 0 3 (.done ⟨rfl, rfl⟩)
    | acc v _ _ h =>
      rcases acc_inv h with ⟨rfl, rfl, hn⟩ | ⟨b, rfl, rfl⟩
      · have : B = [] := List.length_eq_zero_iff.1 (by rw [← hkB, ← hel]; exact hn)
        subst this
        obtain rfl : es = [] := List.length_eq_zero_iff.1 hn
        refine LoadAt.mk 0 _ _ rfl rfl ?_
        refine callR [] (aEqualNil _) ?_
        exact .drop 0 3 (.done ⟨rfl, rfl⟩)
      · refine LoadAt.mk 0 _ _ rfl rfl ?_
        refine callR [1] (aEqualE b es B _ (by omega)) ?_
        exact .drop 0 4 (.done ⟨rfl, rfl⟩)
end Go.Proofs.Ytiihcgmnmcdcfaa
