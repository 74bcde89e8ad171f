/-
  Se: what the claim uses of them.
-/
import Derived.Test.YtljbnigceammdaaGreatDoorBn29
import Derived.Test.YtljbnigceammdaaGreatDoorBn27
import Derived.Test.YtljbnigceammdaaGreatDoorBn42
import Derived.Test.YtljbnigceammdaaGreatDoorBn14
namespace Go.Proofs.YtljbnigceammdaaGreatDoor
open Go.RowKit
set_option maxRecDepth 100000
theorem psC_length (P : List (List Int)) : (psC P).length = P.length := List.length_map _
theorem inCJ_get {l : List Int} {J : List AV} {k : Nat} (h : k < l.length) : (inC l ++ J)[k]? = some (.int .i64 (l.getD k 0)) := by
  rw [List.getElem?_append_left (by rw [inC_len]; exact h)]
  unfold inC
  rw [List.getElem?_map, List.getD_eq_getElem?_getD, List.getElem?_eq_getElem h]; rfl
theorem aIndexJ (b k : Nat) (A B : List Int) (J : List AV) (x : Int) (σ : Hp) (hk : (A ++ x :: B).length = k) (hx : x ∉ A) (hl : k ≤ 1000000) : ACalls Tryz.prog 80 [.mref b 0 k 1, .int .i64 x] ((b, inC (A ++ x :: B) ++ J) :: σ) (Ret (.int .i64 A.length) ((b, inC (A ++ x :: B) ++ J) :: σ)) := by
  have hkA : A.length < k := by rw [← hk, List.length_append, List.length_cons]; omega
  refine okF Tryz.func80 (by kernel_rfl) ?_
  refine loopS (S := Nat) (fun s => [(0, .mref b 0 k 1), (1, .int .i64 x), (7, .int .i64 k), (8, .int .i64 s)]) (fun _ => (b, inC (A ++ x :: B) ++ J) :: σ) (fun s => s ≤ A.length) (fun s => A.length - s) 0 ⟨Nat.zero_le _, ⟨rfl, rfl, rfl, rfl, trivial⟩, rfl⟩ ?_
  rintro i t hi0
  have hi : i ≤ A.length := hi0
  clear hi0
  refine bcond_dec (p := (i : Int) < k) (fun hlt => ?_) (fun hge => ?_)
  · have hg := inCJ_get (l := A ++ x :: B) (J := J) (k := i) (by omega)
    obtain ⟨y, hy⟩ : ∃ y, (A ++ x :: B).getD i 0 = y := ⟨_, rfl⟩
    rw [hy] at hg
    refine With.mk ⟨rfl, by omega, by omega⟩ ?_
    refine LoadAt.mk 0 _ _ rfl (read1 rfl (by rw [Nat.zero_add, Nat.mul_one, Int.toNat_natCast]; exact hg)) ?_
    refine bcond_dec (fun c => ?_) (fun c => ?_)
    · have c : x = y := c
      refine .done ⟨?_, rfl⟩
      by_cases e : i = A.length
      · subst e; rfl
      · have : y ∈ A := by
          rw [← hy, List.getD_eq_getElem?_getD, List.getElem?_append_left (by omega), List.getElem?_eq_getElem (by omega)]
          exact List.getElem_mem _
        exact absurd (c ▸ this) hx
    · have c : ¬ x = y := c
      have hne : i ≠ A.length := fun e => by
        subst e
        refine c ?_
        rw [← hy, List.getD_eq_getElem?_getD, List.getElem?_append_right (Nat.le_refl _), Nat.sub_self]; rfl
      exact nextS (i + 1) (by show A.length - (i + 1) < A.length - i; omega) (by show i + 1 ≤ A.length; omega) ⟨rfl, rfl, rfl, inc64 (by omega), trivial⟩ (.refl _)
  · omega
theorem aCloneJ (b off k : Nat) (C cs : List AV) (σ : Hp) (h : (C.drop off).take (k * 1) = cs) (h2 : off + k * 1 ≤ C.length) (hl : k ≤ 1000000) : ACalls Tryz.prog 119 [.mref b off k 1] ((b, C) :: σ) (fun x σ' => ∃ b', x = .mref b' 0 k 1 ∧ σ' = (b', cs) :: (b, C) :: σ) := by
  refine okF Tryz.func119 (by kernel_rfl) ?_
  intro b2
  refine AppendAt.more 0 b2 0 k [] ((C.drop off).take (k * 1)) rfl rfl (Nat.le_of_ble_eq_true rfl) (.mem (List.mem_cons_of_mem _ (List.mem_cons_self ..)) h2) (by omega) (by decide) (by decide) (fun b' => ?_)
  refine .done ⟨b', by rw [Nat.zero_add]; rfl, ?_⟩
  rw [h]; rfl
theorem aLeaveNo (w bi bl bo n : Nat) (N : List (List Int)) (ix lo : List Int) (on : List Bool) (cnt : Nat) (vs vp : AV) (a : Int) (σ : Hp) (h0 : 0 ≤ a) (hn : a < n) (hi : ix.length = n) (hl : lo.length = n) (hne : lo.getD a.toNat 0 ≠ ix.getD a.toNat 0) :
    ACalls Tryz.prog 147 [.ptr w 0, .int .i64 a] ((w, tjC N bi bl bo n vs cnt vp) :: (bi, inC ix) :: (bl, inC lo) :: (bo, bbC on) :: σ) (Ret (.tup []) ((w, tjC N bi bl bo n vs cnt vp) :: (bi, inC ix) :: (bl, inC lo) :: (bo, bbC on) :: σ)) := by
  refine okF Tryz.func147 (by kernel_rfl) ?_
  refine .quiet (by kernel_rfl) ?_
  refine LoadAt.mk 0 _ _ rfl rfl ?_
  refine With.mk ⟨rfl, by omega, by omega⟩ ?_
  refine LoadAt.mk 2 _ _ rfl (inC_rd rfl h0 (by omega)) ?_
  refine LoadAt.mk 0 _ _ rfl rfl ?_
  refine With.mk ⟨rfl, by omega, by omega⟩ ?_
  refine LoadAt.mk 1 _ _ rfl (inC_rd rfl h0 (by omega)) ?_
  refine bcond_split (fun c => ?_) (fun c => ?_)
  · exact .done ⟨rfl, rfl⟩
  · exact absurd (by simpa using c) hne
theorem aLeaveTell (w bi bl bo n : Nat) (N : List (List Int)) (ix lo A B : List Int) (on : List Bool) (P : List (List Int)) (cnt : Nat) (vs vp : AV) (accs accp : Hp) (a : Int) (σ : Hp) (h0 : 0 ≤ a) (hn : a < n) (hi : ix.length = n) (hl : lo.length = n) (ho : on.length = n) (he : lo.getD a.toNat 0 = ix.getD a.toNat 0) (haA : a ∉ A) (hB : ∀ x ∈ a :: B, 0 ≤ x ∧ x < n) (hsl : (A ++ a :: B).length ≤ 10000) (hpl : P.length ≤ 10000)
    (hs : AccJ 1 (A ++ a :: B).length vs accs (inC (A ++ a :: B))) (hp : Acc 1 P.length vp accp (psC P)) :
    ACalls Tryz.prog 147 [.ptr w 0, .int .i64 a] ((w, tjC N bi bl bo n vs cnt vp) :: (bi, inC ix) :: (bl, inC lo) :: (bo, bbC on) :: (accs ++ (accp ++ σ)))
      (fun r σ' => r = .tup [] ∧ ∃ vs' accs' vp' accp', AccJ 1 A.length vs' accs' (inC A) ∧ Acc 1 (P ++ [sortI (a :: B)]).length vp' accp' (psC (P ++ [sortI (a :: B)])) ∧ σ' = (w, tjC N bi bl bo n vs' cnt vp') :: (bi, inC ix) :: (bl, inC lo) :: (bo, bbC (offS (a :: B) on)) :: (accs' ++ (accp' ++ σ))) := by
  obtain ⟨K, hK⟩ : ∃ K, (A ++ a :: B).length = K := ⟨_, rfl⟩
  obtain ⟨L, hL⟩ : ∃ L : List Int, a :: B = L := ⟨_, rfl⟩
  obtain ⟨q, hq⟩ : ∃ q, L.length = q := ⟨_, rfl⟩
  have hKA : K = A.length + q := by rw [← hK, List.length_append, hL, hq]
  have hq0 : 0 < q := by rw [← hq, ← hL, List.length_cons]; omega
  rw [hK] at hs hsl
  obtain ⟨bs, J, rfl, rfl, hKl⟩ := hs.pos (by omega)
  have hcut : ((inC (A ++ a :: B) ++ J).drop A.length).take (q * 1) = inC L := by
    rw [hL]
    unfold inC
    rw [List.map_append, List.append_assoc, List.drop_append_of_le_length (by rw [List.length_map]; exact Nat.le_refl _), List.drop_of_length_le (by rw [List.length_map]; exact Nat.le_refl _), List.nil_append, List.take_append_of_le_length (by rw [List.length_map]; omega), List.take_of_length_le (by rw [List.length_map]; omega)]
  have hcl : A.length + q * 1 ≤ (inC (A ++ a :: B) ++ J).length := by rw [List.length_append, hKl]; omega
  refine okF Tryz.func147 (by kernel_rfl) ?_
  refine .quiet (by kernel_rfl) ?_
  refine LoadAt.mk 0 _ _ rfl rfl ?_
  refine With.mk ⟨rfl, by omega, by omega⟩ ?_
  refine LoadAt.mk 2 _ _ rfl (inC_rd rfl h0 (by omega)) ?_
  refine LoadAt.mk 0 _ _ rfl rfl ?_
  refine With.mk ⟨rfl, by omega, by omega⟩ ?_
  refine LoadAt.mk 1 _ _ rfl (inC_rd rfl h0 (by omega)) ?_
  refine bcond_split (fun c => ?_) (fun c => ?_)
  · exact absurd he (by simpa using c)
  clear c
  refine LoadAt.mk 0 _ _ rfl rfl ?_
  refine callR [4] (aIndexJ bs K A B J a _ hK haA (by omega)) ?_
  refine LoadAt.mk 1 _ _ rfl rfl ?_
  refine With.mk ⟨by omega, by omega, by omega, rfl⟩ ?_
  have hC : ∀ σ, ACalls Tryz.prog 119 [.mref bs (0 + ((A.length : Nat) : Int).toNat * 1) (((K : Nat) : Int).toNat - ((A.length : Nat) : Int).toNat) 1] ((bs, inC (A ++ a :: B) ++ J) :: σ) (fun x σ' => ∃ b', x = .mref b' 0 q 1 ∧ σ' = (b', inC L) :: (bs, inC (A ++ a :: B) ++ J) :: σ) := fun σ => by
    rw [show 0 + ((A.length : Nat) : Int).toNat * 1 = A.length by omega, show ((K : Nat) : Int).toNat - ((A.length : Nat) : Int).toNat = q by omega]
    exact aCloneJ bs A.length q _ _ σ hcut hcl (by omega)
  refine .mk [0] _ (hC _) ?_
  rintro _ _ ⟨bp, rfl, rfl⟩
  refine LoadAt.mk 2 _ _ rfl rfl ?_
  refine With.mk ⟨by omega, by omega, by omega, by omega, rfl⟩ ?_
  refine StoreAt.mk 2 _ _ rfl rfl ?_
  refine loopS (S := Nat) (fun i => [(0, .ptr w 0), (5, .mref bp 0 q 1), (46, .mref bp 0 q 1), (47, .int .i64 q), (48, .int .i64 i)]) (fun i => (bp, inC L) :: (bs, inC (A ++ a :: B) ++ J) :: (w, tjC N bi bl bo n (.mref bs 0 A.length 1) cnt vp) :: (bi, inC ix) :: (bl, inC lo) :: (bo, bbC (offS (L.take i) on)) :: (accp ++ σ)) (fun i => i ≤ q) (fun i => q - i) 0 ⟨Nat.zero_le _, ⟨rfl, rfl, rfl, rfl, rfl, trivial⟩, rfl⟩ ?_
  rintro i g hi0
  have hiq : i ≤ q := hi0
  clear hi0
  refine bcond_dec (p := (i : Int) < q) (fun hlt => ?_) (fun hge => ?_)
  · have hlt : i < L.length := by omega
    obtain ⟨x, hx⟩ : ∃ x, L[i] = x := ⟨_, rfl⟩
    have hxn := hB x (by rw [hL, ← hx]; exact List.getElem_mem hlt)
    have hol := offS_length (L.take i) on
    have hoff : (offS (L.take i) on).set x.toNat false = offS (L.take (i + 1)) on := by unfold offS; rw [List.take_succ_eq_append_getElem hlt, hx, List.foldl_append]; rfl
    have hrd : readAs ⟨.int .i64, 1, 8, [.int .i64 0]⟩ (inC L) (0 + ((i : Nat) : Int).toNat * 1) = some (.int .i64 x) := by
      rw [inC_rd rfl (by omega) (by omega), Int.toNat_natCast, List.getD_eq_getElem?_getD, List.getElem?_eq_getElem hlt, hx]; rfl
    refine With.mk ⟨rfl, by omega, by omega⟩ ?_
    refine LoadAt.mk 0 _ _ rfl hrd ?_
    refine LoadAt.mk 2 _ _ rfl rfl ?_
    refine With.mk ⟨rfl, by omega, by omega⟩ ?_
    refine StoreAt.mk 5 _ _ rfl (bbC_write rfl false hxn.1 (by omega)) ?_
    exact nextS (i + 1) (by show q - (i + 1) < q - i; omega) (by show i + 1 ≤ q; omega) ⟨rfl, rfl, rfl, rfl, inc64 (by omega), trivial⟩ (shed_eq (by rw [hoff]; rfl))
  · have hge : i = q := by omega
    subst hge
    refine callR [0] (aSortI bp L i _ hq (by omega)) ?_
    refine LoadAt.mk 2 _ _ rfl rfl ?_
    intro bl2
    refine append_accV [_, _, _, _, _, _, _] hp.unv (.mref 0 bl2 0 1 _ rfl (Nat.le_of_ble_eq_true rfl)) rfl (by omega) (by decide) (by decide) (fun v' acc' h' => ?_)
    obtain ⟨b5, rfl, rfl⟩ := accA_one (by omega) h'
    refine StoreAt.mk 3 _ _ rfl rfl ?_
    have hgs := get_snoc (psC P) (AV.mref bp 0 i 1) (k := P.length) (psC_length P).symm
    have hss := set_snoc (psC P) (AV.mref bp 0 i 1) (.fsl (.int .i64) (sortI L)) (k := P.length) (psC_length P).symm
    refine .frzc 1 bp 0 i 1 _ (.int .i64) (sortI L) rfl (by rw [List.drop_zero, List.take_of_length_le (by rw [inC_length, sortI_length, Nat.mul_one]; omega)]; exact inC_flat _) ⟨(sortI_length L).trans hq, rfl, by decide⟩ 6 P.length b5 _ rfl hgs ?_
    refine .drop 0 1 (.perm (front_perm' [_, _, _, _] [_] _).symm (.done ⟨rfl, .mref bs 0 A.length 1, [(bs, inC A ++ (inC L ++ J))], .mref b5 0 (P.length + 1) 1, [(b5, psC (P ++ [sortI L]))], .mref bs A.length (inC A) (inC L ++ J) (by rw [inC_length, Nat.mul_one]), ?_, ?_⟩))
    · subst hL
      rw [List.length_append]
      exact .mref b5 (P.length + 1) (psC (P ++ [sortI (a :: B)])) ((psC_length _).trans (by rw [List.length_append, Nat.mul_one]; rfl))
    · rw [List.take_of_length_le (Nat.le_of_eq hq)]
      subst hL
      have e1 : inC (A ++ a :: B) ++ J = inC A ++ (inC (a :: B) ++ J) := by unfold inC; rw [List.map_append, List.append_assoc]
      have e2 : psC (P ++ [sortI (a :: B)]) = psC P ++ [.fsl (.int .i64) (sortI (a :: B))] := List.map_append
      rw [e1, e2, ← hss]
      rfl
end Go.Proofs.YtljbnigceammdaaGreatDoor
