/-
  Aj; Yd; Ye: what the claim uses of them.
-/
import Derived.Test.YtljbnigceammdaaGreatDoorBn26
import Derived.Test.YtljbnigceammdaaGreatDoorBn28
namespace Go.Proofs.YtljbnigceammdaaGreatDoor
open Go.RowKit
set_option maxRecDepth 100000
/-- Rows, in cells. -/
def iiC (l : List (List Int)) : List AV := l.map (AV.fsl (.int .i64))
theorem iiC_flat : ∀ l : List (List Int), iiC l = l.flatMap (Sh.cells (.slice (.int .i64)))
  | [] => rfl
  | x :: l => congrArg (AV.fsl (.int .i64) x :: ·) (iiC_flat l)
theorem iiC_length (l : List (List Int)) : (iiC l).length = l.length := List.length_map ..
theorem Acc.unv {e k : Nat} {v : AV} {acc : Hp} {cs : List AV} (h : Acc e k v acc cs) : Acc e k (unvia v) acc cs := by
  cases h with
  | nil => exact .nil
  | mref b k cs h => exact .mref b k cs h
theorem YCalls.shed {l : Nat} {xs : List AV} {σ : Hp} {R R' : AV → Hp → Prop} (h : YCalls Tryz.prog l xs σ R) (hr : ∀ r σ3, R r σ3 → ∃ σ', Shed σ3 σ' ∧ R' r σ') : YCalls Tryz.prog l xs σ R' := fun F w vs hv hσ => by
  obtain ⟨f, tm, a, b, h1, h2⟩ := h F w vs hv hσ
  refine ⟨f, tm, a, b, h1, RoundIn.mono h2 fun e w' ⟨r, v, σ', F', k1, k2, k3, k4, k5⟩ => ?_⟩
  obtain ⟨σ4, h4, h5⟩ := hr _ _ k5
  exact ⟨r, v, σ4, F', k1, k2, k3.shed h4, k4, h5⟩
/-- append to such a list; the list stays known. -/
theorem append_accV {i : TI} {K : AV → Hp → Prop} (fr : Hp) {acc σ : Hp} {k n : Nat} {v x : AV} {cs new : List AV} (h : Acc i.size k v acc cs) (hx : SrcAt (fr ++ (acc ++ σ)) i.size x n new) (hnew : new.length = n * i.size) (hn : k + n ≤ 1048576) (hb : i.bytes ≤ 1024) (h0 : 0 < i.size)
    (go : ∀ v' acc', Acc i.size (k + n) v' acc' (cs ++ new) → K v' (fr ++ (acc' ++ σ))) : AppendAt i (fr ++ (acc ++ σ)) v x K := by
  have hl := h.length
  cases h with
  | nil =>
    refine .perm _ (front_perm' fr [] σ) (.fresh n new (.inl rfl) (hx.perm (front_perm' fr [] σ)) (by omega) hb h0 (K := fun v σ3 => (n = 0 ∧ v = .nils ∧ σ3 = [] ++ (fr ++ σ)) ∨ (n ≠ 0 ∧ ∃ b, v = .mref b 0 n i.size ∧ σ3 = (b, new) :: ([] ++ (fr ++ σ)))) (fun hne b => .inr ⟨hne, b, rfl, rfl⟩) (fun h0 => .inl ⟨h0, rfl, rfl⟩)) ?_
    rintro v σ3 (⟨hz, rfl, rfl⟩ | ⟨hz, b, rfl, rfl⟩)
    · subst hz
      obtain rfl : new = [] := List.length_eq_zero_iff.1 (by simpa using hnew)
      exact ⟨_, (front_perm' fr [] σ).symm, .inl (go _ _ .nil)⟩
    · refine ⟨_, (front_perm' fr [(b, new)] σ).symm, .inl (go _ _ ?_)⟩
      have := Acc.mref (e := i.size) b (0 + n) new (by rw [hnew, Nat.zero_add])
      rw [Nat.zero_add] at this ⊢
      exact this
  | mref b k cs h =>
    refine .perm _ (front_perm' fr [(b, cs)] σ) (.more 0 b k n cs new rfl rfl (by rw [h]; exact Nat.le_refl _) (hx.perm (front_perm' fr [(b, cs)] σ)) hn hb h0 (K := fun v σ3 => ∃ b', v = .mref b' 0 (k + n) i.size ∧ σ3 = (b', cs.take (k * i.size) ++ new) :: (fr ++ σ)) (fun b' => ⟨b', rfl, rfl⟩)) ?_
    rintro v σ3 ⟨b', rfl, rfl⟩
    rw [List.take_of_length_le (by omega)]
    exact ⟨_, (front_perm' fr [(b', cs ++ new)] σ).symm, .inl (go _ _ (.mref _ _ _ (by rw [List.length_append, h, hnew, Nat.add_mul])))⟩
theorem set_snoc {α : Type} (l : List α) (x y : α) {k : Nat} (h : k = l.length) : (l ++ [x]).set k y = l ++ [y] := by subst h; simp
theorem get_snoc {α : Type} (l : List α) (x : α) {k : Nat} (h : k = l.length) : (l ++ [x])[k]? = some x := by subst h; simp
theorem accA_one {k : Nat} {v : AV} {acc : Hp} {cs : List AV} (h0 : 0 < k) (h : Acc 1 k v acc cs) : ∃ b, v = .mref b 0 k 1 ∧ acc = [(b, cs)] := by
  cases h with
  | nil => omega
  | mref b k cs h => exact ⟨b, rfl, rfl⟩
theorem gzL2 {l : List (List Int)} {j : Nat} (h : j < l.length) : l[((j : Int)).toNat]? = some (l.getD j []) := by
  rw [Int.toNat_natCast, List.getD_eq_getElem?_getD, List.getElem?_eq_getElem h]; rfl
theorem accE_one {e k : Nat} {v : AV} {acc : Hp} {cs : List AV} (h0 : 0 < k) (h : Acc e k v acc cs) : ∃ b, v = .mref b 0 k e ∧ acc = [(b, cs)] := by
  cases h with
  | nil => omega
  | mref b k cs h => exact ⟨b, rfl, rfl⟩
theorem aRInts20 (l : List Int) (σ : Hp) (hl : l.length ≤ 1000000) : ACalls Tryz.prog 19 [.fsl (.int .i64) l, .fsl (.int .i64) l] σ (Ret (.bool true) σ) := by
  refine okF Tryz.func19 (by kernel_rfl) ?_
  refine bcond_split (fun c => absurd c (by simp)) (fun c => ?_)
  refine loopS (S := Nat) (fun k => [(0, .fsl (.int .i64) l), (1, .fsl (.int .i64) l), (12, .int .i64 l.length), (13, .int .i64 k)]) (fun _ => σ) (fun k => k ≤ l.length) (fun k => l.length - k) 0 ⟨Nat.zero_le _, ⟨rfl, rfl, rfl, rfl, trivial⟩, rfl⟩ ?_
  rintro k g hk0
  have hk : k ≤ l.length := hk0
  refine bcond_dec (fun hlt => ?_) (fun hge => ?_)
  · have hlt : k < l.length := by have hlt : (k : Int) < l.length := hlt; omega
    refine DrawW.quiet (by kernel_rfl) ?_
    refine With.mk rfl (IdxF.mk l[k] (by omega) (get_some hlt) ?_)
    refine With.mk rfl (IdxF.mk l[k] (by omega) (get_some hlt) ?_)
    refine bcond_split (fun c => absurd c (by simp)) (fun c => ?_)
    exact nextS (k + 1) (by show l.length - (k + 1) < l.length - k; omega) hlt ⟨rfl, rfl, rfl, inc64 (by omega), trivial⟩ (.refl _)
  · exact .done ⟨rfl, rfl⟩
end Go.Proofs.YtljbnigceammdaaGreatDoor
namespace Go.Proofs.YtljbnigceammdaaGreatDoor
open Go.RowKit
def jn (a b : Int) : Int := if a = b ∨ b = 0 then a else if a = 0 then b else 1
theorem joinW_jn {a b : Int} (ha : normW a = a) (hb : normW b = b) : joinW a b = jn a b := by unfold joinW jn; rw [ha, hb]
theorem jn_comm (a b : Int) : jn a b = jn b a := by
  unfold jn
  by_cases h1 : a = b
  · subst h1; rfl
  · by_cases h2 : a = 0
    · by_cases h3 : b = 0
      · omega
      · rw [if_neg (by omega), if_pos h2, if_pos (by omega)]
    · by_cases h3 : b = 0
      · rw [if_pos (by omega), if_neg (by omega), if_pos h3]
      · rw [if_neg (by omega), if_neg h2, if_neg (by omega), if_neg h3]
theorem jn_zero (a : Int) : jn a 0 = a := by unfold jn; rw [if_pos (.inr rfl)]
theorem zero_jn (a : Int) : jn 0 a = a := by rw [jn_comm, jn_zero]
theorem jn_self (a : Int) : jn a a = a := by unfold jn; rw [if_pos (.inl rfl)]
theorem jn_ne {a b : Int} (h : a ≠ b) (ha : a ≠ 0) (hb : b ≠ 0) : jn a b = 1 := by unfold jn; rw [if_neg (by omega), if_neg ha]
theorem jn_one (a : Int) : jn a 1 = 1 := by
  by_cases h : a = 1
  · rw [h, jn_self]
  · by_cases h0 : a = 0
    · rw [h0, zero_jn]
    · exact jn_ne h h0 (by decide)
theorem jn_assoc (a b c : Int) : jn (jn a b) c = jn a (jn b c) := by
  by_cases ha : a = 0
  · rw [ha, zero_jn, zero_jn]
  by_cases hb : b = 0
  · rw [hb, jn_zero, zero_jn]
  by_cases hc : c = 0
  · rw [hc, jn_zero, jn_zero]
  by_cases h1 : a = b
  · subst h1
    by_cases h2 : a = c
    · subst h2; rw [jn_self]
    · rw [jn_self, jn_ne h2 ha hc, jn_one]
  · rw [jn_ne h1 ha hb, jn_comm 1 c, jn_one]
    by_cases h2 : b = c
    · subst h2; rw [jn_self, jn_ne h1 ha hb]
    · rw [jn_ne h2 hb hc, jn_one]
theorem flat_join {a b : List Int} (ha : okW a = true) (hb : okW b = true) {i : Nat} (h : i < a.length) (h2 : i < b.length) : wd (join12 3 a b) i = jn (wd a i) (wd b i) := by
  rw [join_wd h h2, word3, joinW_jn (norm_wd ha h) (norm_wd hb h2)]
theorem val_eqlen {what w : Int} {a b : List Int} (va : valL what w a = true) (vb : valL what w b = true) : a.length = b.length := by have h1 := val_len va; have h2 := val_len vb; omega
theorem opB_comm (what : Int) (x y : Bool) : opB what x y = opB what y x := by unfold opB; split <;> cases x <;> cases y <;> rfl
theorem opB_assoc (what : Int) (x y z : Bool) : opB what (opB what x y) z = opB what x (opB what y z) := by unfold opB; split <;> cases x <;> cases y <;> cases z <;> rfl
/-- A value, of words. -/
structure Val (what w : Int) (a : List Int) : Prop where
  v : valL what w a = true
  w64 : A64 a
theorem Val.join {what w : Int} {a b : List Int} (ha : Val what w a) (hb : Val what w b) : Val what w (join12 what a b) := ⟨join_val ha.w64 hb.w64 ha.v hb.v, join_64 ha.w64 hb.w64⟩
theorem join_ext {what w : Int} {x y : List Int} (hx : Val what w x) (hy : Val what w y) (h3 : what = 3 → ∀ i, i < x.length → wd x i = wd y i) (hs : what = 1 ∨ what = 2 → ∀ i k, i < x.length → k < 64 → bitW x i k = bitW y i k) : x = y := by
  have hl := val_eqlen hx.v hy.v
  by_cases h : what = 3
  · exact wd_ext hl (h3 h)
  · exact row_ext hx.w64 hy.w64 hl (hs (is_set (val_is hx.v) h))
theorem join_comm {what w : Int} {a b : List Int} (ha : Val what w a) (hb : Val what w b) : join12 what a b = join12 what b a := by
  have hl := val_eqlen ha.v hb.v
  refine join_ext (ha.join hb) (hb.join ha) (fun h3 i hi => ?_) (fun hs i k hi _ => ?_)
  · subst h3
    rw [join_len hl] at hi
    have va := ((val_flat (val_is ha.v) rfl).1 ha.v).2
    have vb := ((val_flat (val_is hb.v) rfl).1 hb.v).2
    rw [flat_join va vb hi (by omega), flat_join vb va (by omega) hi, jn_comm]
  · rw [join_len hl] at hi
    rw [join_bit hs ha.w64 hb.w64 hl i k hi, join_bit hs hb.w64 ha.w64 hl.symm i k (by omega), opB_comm]
theorem join_assoc {what w : Int} {a b c : List Int} (ha : Val what w a) (hb : Val what w b) (hc : Val what w c) : join12 what (join12 what a b) c = join12 what a (join12 what b c) := by
  have hl := val_eqlen ha.v hb.v
  have hl2 := val_eqlen hb.v hc.v
  have l1 := join_len (what := what) hl
  have l2 := join_len (what := what) hl2
  refine join_ext ((ha.join hb).join hc) (ha.join (hb.join hc)) (fun h3 i hi => ?_) (fun hs i k hi _ => ?_)
  · subst h3
    rw [join_len (by omega), l1] at hi
    have o : ∀ {x : List Int}, Val 3 w x → okW x = true := fun h => ((val_flat (val_is h.v) rfl).1 h.v).2
    rw [flat_join (o (ha.join hb)) (o hc) (by omega) (by omega), flat_join (o ha) (o hb) (by omega) (by omega), flat_join (o ha) (o (hb.join hc)) (by omega) (by omega), flat_join (o hb) (o hc) (by omega) (by omega), jn_assoc]
  · rw [join_len (by omega), l1] at hi
    rw [join_bit hs (ha.join hb).w64 hc.w64 (by omega) i k (by omega), join_bit hs ha.w64 hb.w64 hl i k (by omega), join_bit hs ha.w64 (hb.join hc).w64 (by omega) i k (by omega), join_bit hs hb.w64 hc.w64 hl2 i k (by omega), opB_assoc]
theorem join_self {what w : Int} {a : List Int} (ha : Val what w a) : join12 what a a = a := by
  refine join_ext (ha.join ha) ha (fun h3 i hi => ?_) (fun hs i k hi _ => ?_)
  · subst h3
    rw [join_len rfl] at hi
    have va := ((val_flat (val_is ha.v) rfl).1 ha.v).2
    rw [flat_join va va hi hi, jn_self]
  · rw [join_len rfl] at hi
    rw [join_bit hs ha.w64 ha.w64 rfl i k hi, (opB_up _ (bitW a i k) (bitW a i k)).2.2]
/-- Below. -/
def leV (what w : Int) (a b : List Int) : Prop := Val what w a ∧ Val what w b ∧ join12 what a b = b
theorem leV.refl {what w : Int} {a : List Int} (h : Val what w a) : leV what w a a := ⟨h, h, join_self h⟩
theorem leV.trans {what w : Int} {a b c : List Int} (h1 : leV what w a b) (h2 : leV what w b c) : leV what w a c := by
  refine ⟨h1.1, h2.2.1, ?_⟩
  have := join_assoc h1.1 h1.2.1 h2.2.1
  rw [h1.2.2, h2.2.2] at this
  exact this.symm
theorem leV.left {what w : Int} {a b : List Int} (ha : Val what w a) (hb : Val what w b) : leV what w a (join12 what a b) := by
  refine ⟨ha, ha.join hb, ?_⟩
  rw [← join_assoc ha ha hb, join_self ha]
theorem leV.right {what w : Int} {a b : List Int} (ha : Val what w a) (hb : Val what w b) : leV what w b (join12 what a b) := by
  rw [join_comm ha hb]; exact leV.left hb ha
theorem leV.join {what w : Int} {a b c : List Int} (h1 : leV what w a c) (h2 : leV what w b c) : leV what w (join12 what a b) c := by
  refine ⟨h1.1.join h2.1, h1.2.1, ?_⟩
  rw [join_assoc h1.1 h2.1 h1.2.1, h2.2.2, h1.2.2]
theorem leV.mono {what w : Int} {a b c d : List Int} (h1 : leV what w a c) (h2 : leV what w b d) : leV what w (join12 what a b) (join12 what c d) :=
  leV.join (h1.trans (leV.left h1.2.1 h2.2.1)) (h2.trans (leV.right h1.2.1 h2.2.1))
theorem below_le {what w : Int} {a b : List Int} (ha : A64 a) (hb : A64 b) : belowL what w a b = true ↔ leV what w a b := by
  rw [below_iff]
  exact ⟨fun h => ⟨⟨h.1, ha⟩, ⟨h.2.1, hb⟩, h.2.2⟩, fun h => ⟨h.1.v, h.2.1.v, h.2.2⟩⟩
/-- The least value is below all. -/
theorem bot_le {what w : Int} {a : List Int} (ha : Val what w a) : leV what w (botL what w) a := by
  have hi := val_is ha.v
  have hb : Val what w (botL what w) := ⟨bot_val hi, bot_64 _ _⟩
  have hl := val_eqlen hb.v ha.v
  refine ⟨hb, ha, join_ext (hb.join ha) ha (fun h3 i hi' => ?_) (fun hs i k hi' hk => ?_)⟩
  · subst h3
    rw [join_len hl] at hi'
    have va := ((val_flat hi rfl).1 ha.v).2
    have vb := ((val_flat hi rfl).1 hb.v).2
    rw [flat_join vb va hi' (by omega)]
    have : wd (botL 3 w) i = 0 := by
      have e : botL 3 w = List.replicate (wordsL 3 w).toNat 0 := if_neg (fun h => absurd h.1 (by decide))
      rw [e] at hi' ⊢
      rw [wd_get _ hi', List.getElem_replicate]
    rw [this, zero_jn]
  · rw [join_len hl] at hi'
    rw [join_bit hs hb.w64 ha.w64 hl i k hi']
    rcases hs with rfl | rfl
    · have e : botL 1 w = List.replicate (wordsL 1 w).toNat 0 := if_neg (fun h => absurd h.1 (by decide))
      have h0 : bitW (botL 1 w) i k = false := by
        unfold bitW
        rw [e] at hi' ⊢
        rw [wd_get _ hi', List.getElem_replicate]; exact zero_bit k
      rw [h0]; exact Bool.false_or _
    · have e : botL 2 w = fullW w := if_pos ⟨rfl, hi⟩
      have fa := (val_set hi (by decide)).1 ha.v
      rw [e] at hi' ⊢
      rw [fullW_length] at hi'
      show (bitW (fullW w) i k && bitW a i k) = bitW a i k
      by_cases hc : 64 * i + k < cutW w
      · have h1 : bitW (fullW w) i k = true := by
          unfold bitW
          rw [fullW_wd w hi', Int.toNat_natCast, Nat.testBit_two_pow_sub_one]
          exact decide_eq_true (by omega)
        rw [h1, Bool.true_and]
      · have h2 := (fits_bit ha.w64 (fits_len fa)).1 fa i k (by rw [fits_len fa]; exact hi') hk (by omega)
        rw [h2, Bool.and_false]
/-- What goes through a transfer rises. -/
theorem apply_mono {what w : Int} {g k a b : List Int} {l : List CodeT} (hg : A64 g) (hk : A64 k) (hc : checkT what w g k l = 0) (h : leV what w a b) : leV what w (applyR what g k l a) (applyR what g k l b) := by
  have := (rises hg hk h.1.w64 h.2.1.w64 hc h.1.v h.2.1.v).1
  rw [h.2.2, below_le (applyR_64 h.1.w64) (applyR_64 h.2.1.w64)] at this
  exact this
/-- Lists of values, one a node. -/
structure Vals (s : Sy) (a : List (List Int)) : Prop where
  len : (a.length : Int) = s.n
  val : ∀ x ∈ a, Val s.what s.w x
theorem vals_of {s : Sy} {a : List (List Int)} (h : valsS s a = true) (ha : okLL a) : Vals s a :=
  ⟨(vals_iff.1 h).1, fun x hx => ⟨(vals_iff.1 h).2 x hx, (ha.2 x hx).1⟩⟩
theorem Vals.vals {s : Sy} {a : List (List Int)} (h : Vals s a) : valsS s a = true := vals_iff.2 ⟨h.len, fun x hx => (h.val x hx).v⟩
theorem Vals.ok {s : Sy} {a : List (List Int)} (hg : Good s) (h : Vals s a) : okLL a := by
  have h1 := h.len
  have h2 := hg.n2
  exact ⟨by omega, fun x hx => ⟨(h.val x hx).w64, by have := val_short (h.val x hx).v; omega⟩⟩
theorem Vals.get {s : Sy} {a : List (List Int)} (h : Vals s a) {i : Nat} (hi : (i : Int) < s.n) : Val s.what s.w (a.getD i []) := by
  have hl := h.len
  have hlt : i < a.length := by omega
  rw [List.getD_eq_getElem?_getD, List.getElem?_eq_getElem hlt]
  exact h.val _ (List.getElem_mem hlt)
def leA (s : Sy) (a b : List (List Int)) : Prop := Vals s a ∧ Vals s b ∧ ∀ i : Nat, (i : Int) < s.n → leV s.what s.w (a.getD i []) (b.getD i [])
theorem out_mono {s : Sy} (hf : Fit s) (hg : Good s) {x y : List Int} (h : leV s.what s.w x y) {v : Nat} (hv : (v : Int) < s.n) : leV s.what s.w (outS s x v) (outS s y v) := by
  obtain ⟨h2, e⟩ := T_get hg hv
  unfold outS
  rw [e]
  have ho := hf.ts _ (List.getElem_mem h2)
  exact apply_mono ho.1 ho.2.1 (hg.trs _ (List.getElem_mem h2)) h
theorem start_Val {s : Sy} (hf : Fit s) (hg : Good s) (v : Int) : Val s.what s.w (startS s v) := ⟨(start_val hf hg v).1, (start_val hf hg v).2⟩
theorem stepV_Val {s : Sy} (hf : Fit s) (hg : Good s) {a : List (List Int)} (h : Vals s a) (v k : Nat) (hk : k ≤ s.edges.length) : Val s.what s.w (stepV s a k v) :=
  ⟨(stepV_val hf hg (h.ok hg) h.vals v k hk).1, (stepV_val hf hg (h.ok hg) h.vals v k hk).2⟩
theorem step_Vals {s : Sy} (hf : Fit s) (hg : Good s) {a : List (List Int)} (h : Vals s a) : Vals s (stepS s a) := vals_of (stepS_vals hf hg (h.ok hg) h.vals).1 (stepS_vals hf hg (h.ok hg) h.vals).2
theorem stepS_get (s : Sy) (a : List (List Int)) {i : Nat} (h : (i : Int) < s.n) : (stepS s a).getD i [] = stepV s a s.edges.length i := by
  unfold stepS stepK
  rw [List.getD_eq_getElem?_getD, List.getElem?_map, List.getElem?_range (by omega)]; rfl
theorem stepV_mono {s : Sy} (hf : Fit s) (hg : Good s) {a b : List (List Int)} (h : leA s a b) (v : Nat) : ∀ k, k ≤ s.edges.length → leV s.what s.w (stepV s a k v) (stepV s b k v)
  | 0, _ => leV.refl (start_Val hf hg v)
  | k + 1, hk => by
    have ih := stepV_mono hf hg h v k (by omega)
    rw [stepV_succ s a (by omega), stepV_succ s b (by omega)]
    unfold joinE
    have he := hg.edge _ (List.getElem_mem (show k < s.edges.length by omega))
    split
    · exact ih.mono (out_mono hf hg (h.2.2 _ (by omega)) (by omega))
    · exact ih
theorem step_mono {s : Sy} (hf : Fit s) (hg : Good s) {a b : List (List Int)} (h : leA s a b) : leA s (stepS s a) (stepS s b) :=
  ⟨step_Vals hf hg h.1, step_Vals hf hg h.2.1, fun i hi => by
    rw [stepS_get s a hi, stepS_get s b hi]
    exact stepV_mono hf hg h i _ (Nat.le_refl _)⟩
theorem leA.trans {s : Sy} {a b c : List (List Int)} (h1 : leA s a b) (h2 : leA s b c) : leA s a c := ⟨h1.1, h2.2.1, fun i hi => (h1.2.2 i hi).trans (h2.2.2 i hi)⟩
theorem errS_ok {s : Sy} (hg : Good s) {a : List (List Int)} (h : Vals s a) : errS s a = 0 := by unfold errS; rw [if_pos (good_zero hg), if_pos h.vals]
end Go.Proofs.YtljbnigceammdaaGreatDoor
namespace Go.Proofs.YtljbnigceammdaaGreatDoor
open Go.RowKit
set_option maxRecDepth 100000
theorem frz_agg {b off len es : Nat} {e : Sh} {l : List e.T} {xs ys : List AV} (h : FrzRel b off len es e l (.tup xs) (.tup ys)) (hl : ys.all AV.leaf = true) : FrzRel b off len es e l (.agg xs) (.agg ys) := by
  cases h with
  | refl => exact .refl _
  | tup _ _ h1 h2 => exact .agg _ _ h1 (fun i y hy => List.all_eq_true.1 hl y (List.mem_of_getElem? hy)) h2
end Go.Proofs.YtljbnigceammdaaGreatDoor
