/-
  soughlaw23: the walk of RecordNotes.
-/
import Derived.Test.YtphifpfndhfdfaaRecW
namespace Go.Proofs.Ytphifpfndhfdfaa
open Go.RowKit
set_option maxRecDepth 100000
theorem askOp_length (ws : List Int) (k t x y : Int) : (askOp listOps ws k t x y).2.length = ws.length := by
  unfold askOp
  repeat' split
  all_goals first | rfl | exact mStore_length _ _ _ | exact mCasTo_length _ _ _ _ | exact mAddTo_length _ _ _
theorem kindN_ok (k : Int) : 1 ≤ kindN k ∧ kindN k ≤ 4 := by unfold kindN; split <;> omega
/-- The blocks, as the loop has them, and as a Log's call wants them. -/
theorem log_perm (fr : Hp) (r : Nat × List AV) (acc lacc B : Hp) : (r :: (lacc ++ (B ++ (fr ++ acc)))).Perm (fr ++ (r :: (acc ++ (lacc ++ (B ++ []))))) := by
  have h1 : (fr ++ (r :: (acc ++ (lacc ++ (B ++ []))))).Perm (fr ++ (acc ++ (r :: (lacc ++ B)))) := by
    refine List.Perm.append_left _ ?_
    rw [List.append_nil]
    have := front_perm' [r] acc (lacc ++ B)
    exact this.symm
  refine List.Perm.trans ?_ h1.symm
  have h2 : (r :: (lacc ++ (B ++ (fr ++ acc)))) = (r :: (lacc ++ B)) ++ (fr ++ acc) := by simp
  rw [h2, ← List.append_assoc fr acc]
  exact List.perm_append_comm

theorem frz_via {t t' : Tm} {b off len es : Nat} {e : Sh} {l : List e.T} (k : Nat) (h : t k = .via (.mref b off len es)) (h' : t' = upd t [(k, .fsl e l)]) (i : Nat) : FrzRel b off len es e l (t i) (t' i) := by
  subst h'
  show FrzRel b off len es e l (t i) (match Nat.beq i k with | true => .fsl e l | false => t i)
  cases hb : Nat.beq i k with
  | true => rw [Nat.eq_of_beq_eq_true hb, h]; exact .via .here
  | false => exact .refl _
theorem callQP {P : Program} {f : FuncId} {xs : List AV} {σ σ2 : Hp} {K : AV → Prop} {x : AV} (hp : σ2.Perm σ) (h : ACalls P f xs σ2 (Ret x σ2)) (k : K x) : CallQ P f xs σ K := .perm hp x (h.mono fun _ _ ⟨a, b⟩ => ⟨a, b ▸ List.Perm.refl _⟩) k
theorem aLogLenP (p q r : Nat) (s : LogS (plainM p q)) (σ : Hp) : ACalls Try.prog 15 [.ptr r 0] ((r, [(plainM p q).v, s.c]) :: (s.acc ++ ((plainM p q).B s.m ++ σ))) (Ret (.int .i64 (List.length (α := Int) s.m)) ((r, [(plainM p q).v, s.c]) :: (s.acc ++ ((plainM p q).B s.m ++ σ)))) := by
  refine okF Try.func15 (by kernel_rfl) ?_
  refine callR [] (aMade r _ _ _ _) ?_
  refine LoadAt.mk 0 _ _ rfl rfl ?_
  refine (plainM p q).aLen ((_, _) :: s.acc) fun m' hm => ?_
  have hm : m' = s.m := hm
  subst hm
  exact .done ⟨rfl, rfl⟩
theorem pl_perm (B fr lacc : Hp) : (B ++ (fr ++ lacc)).Perm (fr ++ (lacc ++ (B ++ []))) := by
  rw [List.append_nil, ← List.append_assoc fr]
  exact List.perm_append_comm
theorem aEvsNil (σ : Hp) : ACalls Try.prog 20 [.nils] σ (Ret .nils σ) := by
  refine okF Try.func20 (by kernel_rfl) ?_
  refine loopS (S := Unit) (fun _ => [(3, .nils), (6, .nils), (7, .int .i64 0), (8, .int .i64 0)]) (fun _ => σ) (fun _ => True) (fun _ => 0) () ⟨trivial, ⟨rfl, rfl, rfl, rfl, trivial⟩, rfl⟩ ?_
  intro _ g _
  exact .done ⟨rfl, rfl⟩
theorem aSameNil (σ : Hp) : ACalls Try.prog 12 [.fsl evSh [], .nils] σ (Ret (.bool true) σ) := by
  refine okF Try.func12 (by kernel_rfl) ?_
  refine callR [] (aEvsNil _) ?_
  refine loopS (S := Unit) (fun _ => [(14, .int .i64 0), (15, .int .i64 0)]) (fun _ => σ) (fun _ => True) (fun _ => 0) () ⟨trivial, ⟨rfl, rfl, trivial⟩, rfl⟩ ?_
  intro _ g _
  exact .done ⟨rfl, rfl⟩
theorem dec_self (ws : List Int) : decide (ws = ws) = true := by simp
theorem recordNotes_walk (n : Int) (ax : List Act) : ACalls Try.prog 3 [.int .i64 n, .fsl actS ax] [] (fun r _ => r = .bool true) := by
  refine okF Try.func3 (by kernel_rfl) ?_
  refine callR [] awake23a ?_
  refine bcond_dec (fun h => ?_) (fun h1 => ?_)
  · exact .done rfl
  have h1 : ¬ 50 < n := h1
  refine bcond_dec (fun h => ?_) (fun h2 => ?_)
  · exact .done rfl
  have h2 : ¬ 60 < (ax.length : Int) := h2
  refine .mk [] _ (aNew n _) ?_
  rintro _ _ ⟨p, q, rfl, rfl⟩
  refine .mk [] _ (aLogNew (plainM p q) _) ?_
  rintro _ _ ⟨r, rfl, rfl⟩
  refine .mk [] _ (aRNew n _) ?_
  rintro _ _ ⟨m, q2, rfl, rfl⟩
  obtain ⟨zs, hzs⟩ : ∃ zs, zs = List.replicate (cutN n) (0 : Int) := ⟨_, rfl⟩
  have hlen : cutN n = zs.length := by rw [hzs]; simp
  have hz50 : zs.length ≤ 50 := by rw [← hlen]; unfold cutN; omega
  refine .wrap 8 _ rfl rfl ?_
  refine loopS (S := Nat × LogS (plainM p q) × AV × Hp) (fun s => [(0, .int .i64 n), (5, .ptr p 0), (6, .ptr r 0), (7, .ptr m 0), (8, .via s.2.2.1), (27, .fsl actS ax), (28, .int .i64 ax.length), (29, .int .i64 s.1)])
    (fun s => reH m q2 s.2.1.m ((r, [(plainM p q).v, s.2.1.c]) :: (s.2.2.2 ++ (s.2.1.acc ++ ((plainM p q).B s.2.1.m ++ [])))))
    (fun s => s.1 ≤ ax.length ∧ s.2.1.es.length = s.1 ∧ Acc 6 s.1 s.2.2.1 s.2.2.2 (s.2.1.es.flatMap evC) ∧ replay zs (s.2.1.es.map Ev.d) = (s.2.1.es, s.2.1.m) ∧ (s.2.1.es.map Ev.d).all kindB = true ∧ List.length (α := Int) s.2.1.m ≤ 50) (fun s => ax.length - s.1)
    (0, ⟨zs, [], .nils, [], .nil⟩, .nils, []) ⟨⟨Nat.zero_le _, rfl, .nil, rfl, rfl, hz50⟩, ⟨rfl, rfl, rfl, rfl, rfl, rfl, rfl, rfl, trivial⟩, by rw [← hzs, hlen]; rfl⟩ ?_
  rintro ⟨k, ls, v, acc⟩ g ⟨hk, hel, hacc, hrep, hall, hm50⟩
  have hk : k ≤ ax.length := hk
  have hel : ls.es.length = k := hel
  have hacc : Acc 6 k v acc (ls.es.flatMap evC) := hacc
  have hrep : replay zs (ls.es.map Ev.d) = (ls.es, ls.m) := hrep
  have hall : (ls.es.map Ev.d).all kindB = true := hall
  refine bcond_dec (fun hlt => ?_) (fun hge => ?_)
  · have hlt : k < ax.length := by have hlt : (k : Int) < ax.length := hlt; omega
    refine With.mk rfl (IdxF.mk ax[k] (by omega) (get_some hlt) ?_)
    intro b
    refine StoreAt.mk 0 _ _ rfl rfl ?_
    refine LoadAt.mk 0 _ _ rfl rfl ?_
    obtain ⟨dk, dt, dx, dy, du⟩ := ax[k]
    refine callR [] (aKind dk _) ?_
    refine StoreAt.mk 0 _ _ rfl rfl ?_
    refine LoadAt.mk 0 _ _ rfl rfl ?_
    refine .perm _ (log_perm [_, _, _] _ acc ls.acc _) (aAsk (plainM p q) r ls (kindN dk) dt dx dy ([_, _, _] ++ acc) trivial (by omega)) ?_
    rintro _ _ ⟨rfl, ls', f1, f2, rfl⟩
    refine ⟨_, (log_perm [_, _, _] _ acc ls'.acc _).symm, ?_⟩
    have hm' : ls'.m = (askOp listOps ls.m (kindN dk) dt dx dy).2 := f1
    have f2 : ls'.es = ls.es ++ [(askOp listOps ls.m (kindN dk) dt dx dy).1] := f2
    refine LoadAt.mk 0 _ _ rfl rfl ?_
    refine callR [2, 2] (aRAsk m q2 ls.m (kindN dk) dt dx dy _ (kindN_ok dk)) ?_
    intro b1
    refine append_acc [_, _, _, _, _] hacc (.mref 0 b1 0 1 _ rfl (Nat.le_of_ble_eq_true rfl)) rfl (by omega) (by decide) (by decide) (fun v' acc' h' => ?_)
    refine nextS (k + 1, ls', v', acc') ?_ ⟨hlt, ?_, ?_, ?_, ?_, ?_⟩ ⟨rfl, rfl, rfl, rfl, rfl, rfl, rfl, inc64 (by omega), trivial⟩ (.drop 0 1 (.drop 2 1 (shed_eq ?_)))
    · show ax.length - (k + 1) < ax.length - k; omega
    · show ls'.es.length = k + 1
      rw [f2]; simp [hel]
    · show Acc 6 (k + 1) v' acc' (ls'.es.flatMap evC)
      rw [f2, List.flatMap_append, show [(askOp listOps ls.m (kindN dk) dt dx dy).1].flatMap evC = evC (askOp listOps ls.m (kindN dk) dt dx dy).1 by simp]
      exact h'
    · show replay zs (ls'.es.map Ev.d) = (ls'.es, ls'.m)
      rw [hm', f2]
      exact replay_more (kindN_ok dk) hrep
    · show (ls'.es.map Ev.d).all kindB = true
      rw [f2, List.map_append, List.all_append, hall]
      have := (ask_again ls.m (kindN dk) dt dx dy (kindN_ok dk) _ rfl).1
      simp [this]
    · show List.length (α := Int) ls'.m ≤ 50
      rw [hm']
      exact Nat.le_trans (Nat.le_of_eq (askOp_length ls.m _ _ _ _)) hm50
    · show reH m q2 (askOp listOps ls.m (kindN dk) dt dx dy).2 _ = reH m q2 ls'.m _
      rw [hm']
      rfl
  · have hge : ¬ (k : Int) < ax.length := hge
    have hR : rightB n (ls.es.map Ev.d) = true := by
      unfold rightB
      rw [← hzs, hall, hrep]
      simp
    have hes60 : ls.es.length ≤ 60 := by omega
    rcases acc_inv hacc with ⟨rfl, rfl, hk0⟩ | ⟨lb, rfl, rfl⟩
    · have he0 : ls.es = [] := List.length_eq_zero_iff.1 (by rw [hel]; exact hk0)
      have hev := fun σ => aEventsF (plainM p q) r ls σ (by omega)
      have hcount := fun σ => aCount (plainM p q) r ls σ (by omega)
      rw [he0] at hev hcount
      refine .quiet (by kernel_rfl) ?_
      refine callQP (log_perm [_, _] _ [] ls.acc _) (hev _) ?_
      refine callQ [] (aSameNil _) ?_
      refine callQP (log_perm [_, _] _ [] ls.acc _) (hcount _) ?_
      refine callQP (log_perm [_, _] _ [] ls.acc _) (aLogLenP p q r ls _) ?_
      refine callQP (pl_perm _ [_, _, _] ls.acc) (aLen p q ls.m _) ?_
      refine bcond_dec (fun _ => ?_) (fun h => absurd rfl h)
      refine callQP (log_perm [_, _] _ [] ls.acc _) (aEventsF (plainM p q) r ls _ (by omega)) ?_
      have hright := fun σ => aRight n (ls.es.map Ev.d) σ (Nat.le_trans (Nat.le_of_eq (List.length_map Ev.d)) (by omega))
      rw [hR] at hright
      refine callQ [] (hright _) ?_
      refine callQP (pl_perm _ [_, _, _] ls.acc) (aAll p q ls.m _ (Nat.le_trans hm50 (by decide))) ?_
      refine LoadAt.mk 0 _ _ rfl rfl ?_
      refine callQ [1] (same10m ls.m ls.m q2 _ (Nat.le_trans hm50 (by decide))) ?_
      exact .done (av_bool (dec_self ls.m))
    · refine .frz 3 lb 0 k 6 (ls.es.flatMap evC) evSh (ls.es.map Ev.d) rfl ?_ ⟨?_, rfl, by decide⟩ (frz_via 8 rfl rfl) ?_
      · rw [List.drop_zero, List.take_of_length_le (Nat.le_of_eq hacc.length)]; exact ev_flat _
      · exact (List.length_map Ev.d).trans hel
      refine .quiet (by kernel_rfl) ?_
      refine callQP (log_perm [_, _] _ [] ls.acc _) (aEventsF (plainM p q) r ls _ (by omega)) ?_
      refine callQ [] (aSameE ls.es _ (by omega)) ?_
      refine callQP (log_perm [_, _] _ [] ls.acc _) (aCount (plainM p q) r ls _ (by omega)) ?_
      refine bcond_dec (fun _ => ?_) (fun h => absurd (congrArg Int.ofNat (List.length_map Ev.d).symm) h)
      refine callQP (log_perm [_, _] _ [] ls.acc _) (aLogLenP p q r ls _) ?_
      refine callQP (pl_perm _ [_, _, _] ls.acc) (aLen p q ls.m _) ?_
      refine bcond_dec (fun _ => ?_) (fun h => absurd rfl h)
      refine callQP (log_perm [_, _] _ [] ls.acc _) (aEventsF (plainM p q) r ls _ (by omega)) ?_
      have hright := fun σ => aRight n (ls.es.map Ev.d) σ (Nat.le_trans (Nat.le_of_eq (List.length_map Ev.d)) (by omega))
      rw [hR] at hright
      refine callQ [] (hright _) ?_
      refine callQP (pl_perm _ [_, _, _] ls.acc) (aAll p q ls.m _ (Nat.le_trans hm50 (by decide))) ?_
      refine LoadAt.mk 0 _ _ rfl rfl ?_
      refine callQ [1] (same10m ls.m ls.m q2 _ (Nat.le_trans hm50 (by decide))) ?_
      exact .done (av_bool (dec_self ls.m))
end Go.Proofs.Ytphifpfndhfdfaa
