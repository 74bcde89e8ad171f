/-
  Lf: what the claim uses of them.
-/
import Derived.Test.YtacacplipaeokaaBn43
namespace Go.Proofs.Ytacacplipaeokaa
open Go.RowKit
set_option maxRecDepth 100000
set_option maxHeartbeats 4000000
theorem nodup_leF : ∀ (n : Nat) (l : List Int), l.Nodup → (∀ z ∈ l, 0 ≤ z ∧ z < n) → l.length ≤ n
  | 0, l, _, h => by
    cases l with
    | nil => exact Nat.le_refl _
    | cons z l => have := h z (List.mem_cons_self ..); omega
  | n + 1, l, hn, h => by
    have h1 := nodup_leF n (l.erase (n : Int)) (hn.erase _) (fun z hz => by
      rw [hn.mem_erase_iff] at hz
      have := h z hz.2
      have := hz.1
      omega)
    rw [List.length_erase] at h1
    split at h1 <;> omega
theorem aCloneFI (l : List Int) (σ : Hp) (hl : l.length ≤ 1000000) : ACalls Try.prog 72 [.fsl (.int .i64) l] σ (fun x σ' => ∃ acc, Acc 1 l.length x acc (inC l) ∧ σ' = acc ++ σ) := by
  refine acalls_fsl (fun h => ⟨?_, ?_⟩) (fun h => ?_)
  · subst h
    refine okF Try.func72 (by kernel_rfl) ?_
    exact .done ⟨[], .nil, rfl⟩
  · subst h
    refine okF Try.func72 (by kernel_rfl) ?_
    intro b
    refine AppendAt.more 0 b 0 0 [] _ rfl rfl (Nat.le_of_ble_eq_true rfl) .esl (by decide) (by decide) (by decide) (fun b' => ?_)
    exact .done ⟨[(b', [])], .mref b' 0 [] rfl, rfl⟩
  · refine okF Try.func72 (by kernel_rfl) ?_
    refine With.mk (List.length_pos_iff.2 h) ?_
    intro b
    refine AppendAt.more 0 b 0 l.length [] _ rfl rfl (Nat.le_of_ble_eq_true rfl) (.fsl (.int .i64) l rfl) (by omega) (by decide) (by decide) (fun b' => ?_)
    refine .done ⟨[(b', inC l)], ?_, ?_⟩
    · rw [Nat.zero_add]; exact .mref b' l.length _ (by simp [inC])
    · show (b', [] ++ l.flatMap (Sh.cells (.int .i64))) :: σ = _
      rw [inC_flat]; rfl
theorem YCalls.shedL {l : Nat} {xs : List AV} {σ : Hp} {R R' : AV → Hp → Prop} (h : YCalls Try.prog l xs σ R) (hr : ∀ r σ3, R r σ3 → ∃ σ', Shed σ3 σ' ∧ R' r σ') : YCalls Try.prog l xs σ R' := fun F w vs hv hσ => by
  obtain ⟨f, tm, a, b, h1, h2⟩ := h F w vs hv hσ
  refine ⟨f, tm, a, b, h1, RoundIn.mono h2 fun e w' ⟨r, v, σ', F', k1, k2, k3, k4, k5⟩ => ?_⟩
  obtain ⟨σ4, h4, h5⟩ := hr _ _ k5
  exact ⟨r, v, σ4, F', k1, k2, k3.shed h4, k4, h5⟩
theorem aFree (ops : List OpR) (dn : List Int) (σ : Hp) : ACalls Try.prog 71 [.fsl opSh (ops.map opT), .fsl (.int .i64) dn] σ (fun x σ' => ∃ bo bd, x = .fn (.func 81) [] [.ptr bo 0, .ptr bd 0] ∧ σ' = (bd, [.fsl (.int .i64) dn]) :: (bo, [.fsl opSh (ops.map opT)]) :: σ) := by
  refine okF Try.func71 (by kernel_rfl) ?_
  intro bl1
  intro bl2
  exact .done ⟨bl1, bl2, rfl, rfl⟩
def FindR (ops : List OpR) (R : Int) (dn : List Int) (σ : Hp) : AV → Hp → Prop := fun x σ' => ∃ (out : List Int) (is : Bool), x = .tup [.fsl (.int .i64) out, .bool is] ∧ σ' = σ ∧ (is = true → FitsP ops (mxR R) out) ∧ ((∃ rest, FitsP ops (mxR R) (dn ++ rest)) → is = true)
theorem shed_mid (FR : Hp) (B : Hp) {σ σ2 : Hp} (h : Shed (FR ++ σ) σ2) : Shed (FR ++ (B ++ σ)) σ2 := .drop FR.length B.length (by
  rw [List.take_left, List.drop_append, List.drop_eq_nil_of_le (by omega), show FR.length + B.length - FR.length = B.length by omega, List.drop_left]
  exact h)
theorem acc_unvL {e k : Nat} {v : AV} {acc : Hp} {cs : List AV} (h : Acc e k v acc cs) : Acc e k (unvia v) acc cs := by
  cases h with
  | nil => exact .nil
  | mref b k cs h => exact .mref b k cs h
theorem acc_oneL {k : Nat} {v : AV} {acc : Hp} {cs : List AV} (h : Acc 1 (k + 1) v acc cs) : ∃ b, v = .mref b 0 (k + 1) 1 ∧ acc = [(b, cs)] := by
  cases h with
  | mref b => exact ⟨b, rfl, rfl⟩
theorem snoc_len (dn : List Int) (i : Int) : (dn ++ [i]).length = dn.length + 1 := by simp
theorem snoc_cells (dn : List Int) (i : Int) : ((inC dn ++ [AV.int .i64 i]).drop 0).take ((dn.length + 1) * 1) = (dn ++ [i]).flatMap (Sh.cells (.int .i64)) := by
  rw [List.drop_zero, List.take_of_length_le (by simp [inC]), show inC dn ++ [AV.int .i64 i] = inC (dn ++ [i]) by simp [inC]]
  exact inC_flat _
theorem aReplayK (ops : List OpR) (R : Int) (ord : List Int) (b k : Nat) (cs : List AV) (hk : k = ord.length) (hc : cs = inC ord) (σ : Hp) (hr : ∀ i ∈ ord, 0 ≤ i ∧ i < ops.length) (hl : ord.length ≤ 100000) : ACalls Try.prog 73 [.fsl opSh (ops.map opT), .int .i64 R, .mref b 0 k 1] ((b, cs) :: σ) (fun x σ' => ∃ v G, (v = .nils ∨ ∃ b off k, v = .mref b off k 1) ∧ x = .tup [v, .bool (replayP (mxR R) ops [] ord).isSome] ∧ σ' = (b, cs) :: (G ++ σ)) := by
  subst hk; subst hc
  exact aReplay ops R ord b σ hr hl
theorem aFind (ops : List OpR) (R : Int) (ho : ops.length ≤ 100) (hs : ∀ o ∈ ops, ¬ (0 < o.en ∧ o.en < o.bg)) : ∀ (m : Nat) (dn : List Int) (σ : Hp), dn.Nodup → (∀ i ∈ dn, 0 ≤ i ∧ i < ops.length) → ops.length - dn.length ≤ m → ACalls Try.prog 51 [.fsl opSh (ops.map opT), .int .i64 R, .fsl (.int .i64) dn] σ (FindR ops R dn σ) := by
  intro m
  induction m using Nat.strongRecOn with
  | ind m ih =>
    intro dn σ hnd hin hm
    have hdl := nodup_leF ops.length dn hnd hin
    refine okF Try.func51 (by kernel_rfl) ?_
    intro bl1
    intro bl2
    intro bl3
    intro bl4
    intro bl5
    refine LoadAt.mk 4 _ _ rfl rfl ?_
    refine LoadAt.mk 3 _ _ rfl rfl ?_
    refine LoadAt.mk 2 _ _ rfl rfl ?_
    refine callB [] (aFits ops R dn _ (by omega) (by omega)) (fun c => ?_) (fun c => ?_)
    · refine LoadAt.mk 2 _ _ rfl rfl ?_
      refine StoreAt.mk 1 _ _ rfl rfl ?_
      refine StoreAt.mk 0 _ _ rfl rfl ?_
      refine LoadAt.mk 1 _ _ rfl rfl ?_
      refine LoadAt.mk 0 _ _ rfl rfl ?_
      exact .drop 0 5 (.done ⟨dn, true, rfl, rfl, fun _ => fitsB_is.1 c, fun _ => rfl⟩)
    · refine LoadAt.mk 4 _ _ rfl rfl ?_
      refine LoadAt.mk 2 _ _ rfl rfl ?_
      refine .mk [] _ (aFree ops dn _) ?_
      rintro _ _ ⟨bo, bd, rfl, rfl⟩
      refine .shed (.pull [1] (.refl _)) ?_
      refine .mk (fun l rd dnx hY => ?_)
      refine (aFreeIt l bo bd rd ops dn ((bl5, [.bool false]) :: (bl4, [.nils]) :: (bl3, [.fsl (.int .i64) dn]) :: (bl2, [.int .i64 R]) :: (bl1, [.fsl opSh (ops.map opT)]) :: σ) (fun i => ¬ ∃ rest, FitsP ops (mxR R) (dn ++ i :: rest)) (fun σ' => ∃ out G, FitsP ops (mxR R) out ∧ σ' = (l, [dnx .ret]) :: (bl5, [.bool true]) :: (bl4, [.fsl (.int .i64) out]) :: (G ++ σ)) (by omega) (by omega) ?_).mono ?_
      · intro i p hf
        refine (hY [.int .i64 i] _ (fun e σ2 => (e = .normal ∧ (¬ ∃ rest, FitsP ops (mxR R) (dn ++ i :: rest)) ∧ ∃ A B, σ2 = A ++ ([(bo, [.fsl opSh (ops.map opT)]), (bd, [.fsl (.int .i64) dn]), p, (bl5, [.bool false]), (bl4, [.nils]), (bl3, [.fsl (.int .i64) dn]), (bl2, [.int .i64 R]), (bl1, [.fsl opSh (ops.map opT)])] ++ (B ++ σ))) ∨ (e = .ret ∧ ∃ out G, FitsP ops (mxR R) out ∧ ((bl5, [AV.bool true]) :: (bl4, [AV.fsl (.int .i64) out]) :: (G ++ σ)).Perm σ2)) rfl ?_).shedL ?_
        · have hin2 : ∀ j ∈ dn ++ [i], 0 ≤ j ∧ j < ops.length := fun j hj => by
            rcases List.mem_append.1 hj with h | h
            · exact hin j h
            · rw [List.mem_singleton.1 h]; exact hf.inn
          have hnd2 : (dn ++ [i]).Nodup := by
            refine List.nodup_append.2 ⟨hnd, by simp, fun x hx y hy e => ?_⟩
            rw [List.mem_singleton.1 hy] at e
            exact hf.new (e ▸ hx)
          have hlt2 := nodup_leF ops.length (dn ++ [i]) hnd2 hin2
          rw [List.length_append, List.length_singleton] at hlt2
          refine LoadAt.mk 5 _ _ rfl rfl ?_
          refine .mk [] _ (aCloneFI dn _ (by omega)) ?_
          rintro v2 _ ⟨acc2, hacc2, rfl⟩
          intro b3
          refine append_accV [_] (acc_unvL hacc2) (.mref 0 b3 0 1 _ rfl (Nat.le_of_ble_eq_true rfl)) rfl (by omega) (by decide) (by decide) (fun v' acc' h' => ?_)
          have h2 : Acc 1 (dn.length + 1) v' acc' (inC dn ++ [AV.int .i64 i]) := h'
          clear h'
          obtain ⟨b, rfl, rfl⟩ := acc_oneL h2
          refine LoadAt.mk 9 _ _ rfl rfl ?_
          refine LoadAt.mk 8 _ _ rfl rfl ?_
          refine .perm _ (.swap _ _ _) (aReplayK ops R (dn ++ [i]) b (dn.length + 1) (inC dn ++ [AV.int .i64 i]) (by simp) (by simp [inC]) ([(b3, [.int .i64 i]), (bo, [.fsl opSh (ops.map opT)]), (bd, [.fsl (.int .i64) dn]), p, (bl5, [.bool false]), (bl4, [.nils]), (bl3, [.fsl (.int .i64) dn]), (bl2, [.int .i64 R]), (bl1, [.fsl opSh (ops.map opT)])] ++ σ) hin2 (by simp; omega)) ?_
          rintro _ _ ⟨v3, G, hv3, rfl, rfl⟩
          refine ⟨(b, inC dn ++ [.int .i64 i]) :: ([(b3, [.int .i64 i]), (bo, [.fsl opSh (ops.map opT)]), (bd, [.fsl (.int .i64) dn]), p, (bl5, [.bool false]), (bl4, [.nils]), (bl3, [.fsl (.int .i64) dn]), (bl2, [.int .i64 R]), (bl1, [.fsl opSh (ops.map opT)])] ++ (G ++ σ)), .cons _ (mid_perm _ _ _), ?_⟩
          rcases hv3 with rfl | ⟨b5, o5, k5, rfl⟩
          · refine bcond_split (fun d => ?_) (fun d => ?_)
            · have d : (replayP (mxR R) ops [] (dn ++ [i])).isSome = true := d
              refine LoadAt.mk 9 _ _ rfl rfl ?_
              refine LoadAt.mk 8 _ _ rfl rfl ?_
              refine .frz (args' := [.fsl opSh (ops.map opT), .int .i64 R, .fsl (.int .i64) (dn ++ [i])]) 0 b 0 (dn.length + 1) 1 _ (.int .i64) (dn ++ [i]) rfl (snoc_cells dn i) ⟨snoc_len dn i, rfl, by decide⟩ (frz_cons (.refl _) (frz_cons (.refl _) (frz_cons .here (.refl _)))) ?_
              refine .mk [] _ (ih (ops.length - (dn ++ [i]).length) (by rw [List.length_append, List.length_singleton]; omega) (dn ++ [i]) _ hnd2 hin2 (Nat.le_refl _)) ?_
              rintro _ _ ⟨out, is, rfl, rfl, h3, h4⟩
              cases is with
              | false =>
                refine .inl ⟨rfl, fun ⟨rest, hr⟩ => ?_, [(b3, [.int .i64 i])], G, rfl⟩
                exact Bool.noConfusion (h4 ⟨rest, by rw [List.append_assoc]; exact hr⟩)
              | true =>
                refine StoreAt.mk 5 _ _ rfl rfl ?_
                refine StoreAt.mk 4 _ _ rfl rfl ?_
                exact .inr ⟨rfl, out, [(b3, [.int .i64 i]), (bo, [.fsl opSh (ops.map opT)]), (bd, [.fsl (.int .i64) dn]), p, (bl3, [.fsl (.int .i64) dn]), (bl2, [.int .i64 R]), (bl1, [.fsl opSh (ops.map opT)])] ++ G, h3 rfl, (mid_perm [_, _] [_, _, _, _] _).symm⟩
            · have d : (replayP (mxR R) ops [] (dn ++ [i])).isSome = false := d
              refine .inl ⟨rfl, fun ⟨rest, hr⟩ => ?_, [(b, inC dn ++ [.int .i64 i]), (b3, [.int .i64 i])], G, rfl⟩
              rw [(hr.free hs).2] at d
              cases d
          · refine bcond_split (fun d => ?_) (fun d => ?_)
            · have d : (replayP (mxR R) ops [] (dn ++ [i])).isSome = true := d
              refine LoadAt.mk 9 _ _ rfl rfl ?_
              refine LoadAt.mk 8 _ _ rfl rfl ?_
              refine .frz (args' := [.fsl opSh (ops.map opT), .int .i64 R, .fsl (.int .i64) (dn ++ [i])]) 0 b 0 (dn.length + 1) 1 _ (.int .i64) (dn ++ [i]) rfl (snoc_cells dn i) ⟨snoc_len dn i, rfl, by decide⟩ (frz_cons (.refl _) (frz_cons (.refl _) (frz_cons .here (.refl _)))) ?_
              refine .mk [] _ (ih (ops.length - (dn ++ [i]).length) (by rw [List.length_append, List.length_singleton]; omega) (dn ++ [i]) _ hnd2 hin2 (Nat.le_refl _)) ?_
              rintro _ _ ⟨out, is, rfl, rfl, h3, h4⟩
              cases is with
              | false =>
                refine .inl ⟨rfl, fun ⟨rest, hr⟩ => ?_, [(b3, [.int .i64 i])], G, rfl⟩
                exact Bool.noConfusion (h4 ⟨rest, by rw [List.append_assoc]; exact hr⟩)
              | true =>
                refine StoreAt.mk 5 _ _ rfl rfl ?_
                refine StoreAt.mk 4 _ _ rfl rfl ?_
                exact .inr ⟨rfl, out, [(b3, [.int .i64 i]), (bo, [.fsl opSh (ops.map opT)]), (bd, [.fsl (.int .i64) dn]), p, (bl3, [.fsl (.int .i64) dn]), (bl2, [.int .i64 R]), (bl1, [.fsl opSh (ops.map opT)])] ++ G, h3 rfl, (mid_perm [_, _] [_, _, _, _] _).symm⟩
            · have d : (replayP (mxR R) ops [] (dn ++ [i])).isSome = false := d
              refine .inl ⟨rfl, fun ⟨rest, hr⟩ => ?_, [(b, inC dn ++ [.int .i64 i]), (b3, [.int .i64 i])], G, rfl⟩
              rw [(hr.free hs).2] at d
              cases d
        · rintro r σ' (⟨rfl, σ2, rfl, (⟨_, hn, A, B, rfl⟩ | ⟨he, _⟩)⟩ | ⟨rfl, e, σ2, hne, rfl, (⟨he, _⟩ | ⟨rfl, out, G, ho2, hp⟩)⟩)
          · exact ⟨_, shed_mid [_] A (shed_mid [_, _, _, _, _, _, _, _, _] B (.refl _)), .inl ⟨rfl, hn, [], rfl⟩⟩
          · cases he
          · exact absurd he hne
          · exact ⟨_, .perm (.cons _ hp) (.refl _), .inr ⟨rfl, out, G, ho2, rfl⟩⟩
      · rintro r σ' (⟨rfl, hN⟩ | ⟨out, G, ho2, rfl⟩)
        · refine .inl ⟨_, rfl, ?_⟩
          refine StoreAt.mk 3 _ _ rfl rfl ?_
          refine StoreAt.mk 2 _ _ rfl rfl ?_
          refine LoadAt.mk 3 _ _ rfl rfl ?_
          refine LoadAt.mk 2 _ _ rfl rfl ?_
          refine .nil (frz_cons (.nil (.int .i64)) (.refl _)) (.drop 0 7 (.done ⟨[], false, rfl, rfl, fun h => (by cases h), ?_⟩))
          rintro ⟨rest, hf⟩
          cases rest with
          | nil =>
            rw [List.append_nil] at hf
            rw [fitsB_is.2 hf] at c
            cases c
          | cons i rest => exact absurd ⟨rest, hf⟩ (hN i (hf.free hs).1)
        · refine .inr ⟨.ret, _, by simp, rfl, ?_⟩
          refine LoadAt.mk 1 _ _ rfl rfl ?_
          refine LoadAt.mk 0 _ _ rfl rfl ?_
          exact .drop 0 2 (fin_frontP G (.done ⟨out, true, rfl, rfl, fun _ => ho2, fun _ => rfl⟩))
end Go.Proofs.Ytacacplipaeokaa
