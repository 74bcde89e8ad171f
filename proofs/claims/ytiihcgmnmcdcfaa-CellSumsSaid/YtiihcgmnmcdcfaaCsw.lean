/-
  soughlaw30: the walk of CellSums.
-/
import Derived.Test.YtiihcgmnmcdcfaaCsr
import Derived.Test.YtiihcgmnmcdcfaaCellB
import Derived.Test.YtiihcgmnmcdcfaaRow
import Derived.Test.YtiihcgmnmcdcfaaRecW
import Derived.Test.YtiihcgmnmcdcfaaSchR
namespace Go.Proofs.Ytiihcgmnmcdcfaa
open Go.RowKit
set_option maxRecDepth 100000
set_option maxHeartbeats 4000000
theorem runJ_in {α : Type} (l p q bo la : α) (X : List α) : ((l :: ((p :: q :: X) ++ [bo, la])) : List α).Perm (p :: q :: bo :: la :: l :: X) := by
  have h : ((l :: p :: q :: X) ++ [bo, la]).Perm ([bo, la] ++ (l :: p :: q :: X)) := List.perm_append_comm
  refine h.trans ?_
  show ([bo, la, l, p, q] ++ X).Perm ([p, q, bo, la, l] ++ X)
  exact List.Perm.append_right X (List.perm_append_comm (l₁ := [bo, la, l]) (l₂ := [p, q]))
/-- A run of Joins. -/
theorem aRunJ (p q bo la lb : Nat) {what : Int} {a : List Int} {l : List (List Int)} (hw : isL what) (ha : ∀ i, LD what (wd a i)) (hb : ∀ x ∈ l, ∀ i, LD what (wd x i)) (h1024 : a.length ≤ 1024) (hn : 0 < l.length) (h5 : l.length ≤ 5) (rs : List Nat) (hr : rs.length = l.length) (scr : List (Int × Int × Unit)) (hs : scr.length ≤ 200) (cb ca : List AV) :
    ACalls Try.prog 45 [plI p, .mref lb 0 l.length 1, .fsl pickSh scr] (plH p q a ((bo, cb) :: (la, ca) :: (lb, rs.map fun r => .iface 90 (.ptr r 0)) :: (joinK p q).blks rs (l.map (jn0 what a.length))))
      (fun x σ' => ∃ (L : List Jn) (ws st : List Int) (us : Int), CSums what a l L ws ∧ x = .agg [.fsl (.int .i64) st, .fsl .bool (L.map Jn.ended), .int .i64 us] ∧ σ' = plH p q ws ((bo, cb) :: (la, ca) :: (lb, rs.map fun r => .iface 90 (.ptr r 0)) :: (joinK p q).blks rs L)) := by
  have hl : ((joinK p q).world rs).L.length = l.length := by show (rs.map _).length = l.length; rw [List.length_map, hr]
  have h := aRunS ((joinK p q).world rs) lb scr (l.map (jn0 what a.length), a) [(bo, cb), (la, ca)] (by omega) (by omega) ⟨by show (l.map (jn0 what a.length)).length = rs.length; rw [List.length_map, hr], fun x hx => by obtain ⟨y, _, rfl⟩ := List.mem_map.1 hx; exact Nat.zero_le _⟩ (fun _ _ => rfl)
  rw [hl] at h
  refine (h.perm (runJ_in (lb, rs.map fun r => AV.iface 90 (.ptr r 0)) (p, plC q a.length) (q, woC a) (bo, cb) (la, ca) ((joinK p q).blks rs (l.map (jn0 what a.length))))).fin ?_
  rintro _ _ ⟨s', hs', rfl, rfl⟩
  obtain ⟨h2, h3⟩ := cs_run p q hw ha hb h1024 hn scr rs hr _ rfl
  have hs' : s' = (((joinK p q).world rs).run scr (l.map (jn0 what a.length), a)).a := hs'
  obtain ⟨L, ws⟩ : List Jn × List Int := s'
  have e1 : L = _ := congrArg (fun x : List Jn × List Int => x.1) hs'
  have e2 : ws = _ := congrArg (fun x : List Jn × List Int => x.2) hs'
  have e3 : CSums what a l L ws := by rw [e1, e2]; exact h3
  have e4 : (((joinK p q).world rs).run scr (l.map (jn0 what a.length), a)).dn = L.map Jn.ended := h2.trans (congrArg (fun x : List Jn => x.map Jn.ended) e1.symm)
  exact .perm (runJ_in (lb, rs.map fun r => AV.iface 90 (.ptr r 0)) (p, plC q ws.length) (q, woC ws) (bo, cb) (la, ca) ((joinK p q).blks rs L)).symm (.done ⟨L, ws, _, _, e3, congrArg (fun d => AV.agg [_, .fsl .bool d, _]) e4, rfl⟩)
theorem val3_ld {a : List Int} {w : Int} (h64 : A64 a) (h : val3 w a = true) : ∀ i, LD 3 (wd a i) := by
  intro i
  refine ⟨wd_64 h64 i, fun _ => ?_⟩
  unfold val3 at h
  simp only [Bool.and_eq_true, List.all_eq_true, decide_eq_true_eq] at h
  unfold wd
  cases hq : a[i]? with
  | none => exact norm0
  | some z => exact h.2 z (List.mem_of_getElem? hq)
theorem ld_64 {what : Int} (h3 : what ≠ 3) {a : List Int} (h64 : A64 a) : ∀ i, LD what (wd a i) := fun i => ⟨wd_64 h64 i, fun h => absurd h h3⟩
theorem jn_perm {α : Type} (r p q bo : α) (A B X : List α) : ((p :: q :: bo :: (A ++ (B ++ (X ++ [r]))) : List α)).Perm (r :: p :: q :: bo :: (A ++ (B ++ X))) := by
  have e : p :: q :: bo :: (A ++ (B ++ (X ++ [r]))) = (p :: q :: bo :: (A ++ (B ++ X))) ++ [r] := by simp
  rw [e]
  exact List.perm_append_comm
theorem put_all (a : List Int) (h : a.length ≤ 1024) : putW 0 a (List.replicate (cutN (a.length : Int)) 0) (cw (a.length : Int)) = a := by
  have hc : cutN (a.length : Int) = a.length := by unfold cutN; omega
  have hcw : cw (a.length : Int) = a.length := by unfold cw; omega
  rw [hc, hcw]
  have hl : (putW 0 a (List.replicate a.length 0) a.length).length = a.length := by rw [putW_length, List.length_replicate]
  refine List.ext_getElem hl fun i h1 h2 => ?_
  have h : (putW 0 a (List.replicate a.length 0) a.length).getD i 0 = _ := putW_get 0 a (List.replicate a.length 0) a.length (by simp) (by omega) a.length (Nat.le_refl _) i
  rw [if_pos (by omega), List.getD_eq_getElem?_getD, List.getElem?_eq_getElem h1] at h
  refine Eq.trans h ?_
  unfold wd
  rw [Nat.sub_zero, List.getElem?_eq_getElem h2]; rfl
theorem get_all (ws : List Int) {n : Nat} (hn : ws.length = n) (h : n ≤ 1024) : getW 0 ws n = ws := by
  subst hn
  unfold getW
  refine List.ext_getElem (by simp) fun i h1 h2 => ?_
  rw [List.getElem_map, List.getElem_range, show wr ((0 : Int) + (i : Nat)) = ((i : Nat) : Int) by rw [Int.zero_add]; exact wr_nat (by omega), load_hit, List.getD_eq_getElem?_getD, List.getElem?_eq_getElem h2]
  rfl
theorem not_dec_true {p : Prop} [Decidable p] (h : (!decide p) = true) : ¬ p := by simpa using h
theorem not_dec_false {p : Prop} [Decidable p] (h : (!decide p) = false) : p := by simpa using h
theorem cut1 {α : Type} (b : List α) (t : Nat) (h : t < b.length) (h2 : b.length ≤ 1000) : (b.drop ((t : Int)).toNat).take ((IntKind.i64.wrap ((t : Int) + 1)).toNat - ((t : Int)).toNat) = [b[t]] := by
  have e : (IntKind.i64.wrap ((t : Int) + 1)).toNat - ((t : Int)).toNat = 1 := by
    rw [show IntKind.i64.wrap ((t : Int) + 1) = ((t + 1 : Nat) : Int) by rw [IntKind.wrap_i64]; omega, Int.toNat_natCast, Int.toNat_natCast]; omega
  rw [e, Int.toNat_natCast, List.drop_eq_getElem_cons h]; rfl
theorem cut_with (t n : Nat) (h : t < n) (h2 : n ≤ 1000) : 0 ≤ (t : Int) ∧ (t : Int) ≤ IntKind.i64.wrap ((t : Int) + 1) ∧ IntKind.i64.wrap ((t : Int) + 1) ≤ n ∧ 1 = 1 := by
  rw [show IntKind.i64.wrap ((t : Int) + 1) = ((t + 1 : Nat) : Int) by rw [IntKind.wrap_i64]; omega]
  omega
theorem aBel1 (what x y : Int) (σ : Hp) (h1 : W64 x) (h2 : W64 y) (h3 : lle what x y) : ACalls Try.prog 47 [.int .i64 what, .fsl (.int .u64) [x], .fsl (.int .u64) [y]] σ (Ret (.bool true) σ) := by
  have h := aRBelow12 what [x] [y] σ (fun z hz => by rw [List.mem_singleton.1 hz]; exact h1) (fun z hz => by rw [List.mem_singleton.1 hz]; exact h2) (by show 1 ≤ 1000000; decide)
  rw [show below12 what [x] [y] = true by unfold below12 join12; simp; exact h3] at h
  exact h
theorem wd_at (b : List Int) {i : Nat} (h : i < b.length) : wd b i = b[i] := by unfold wd; rw [List.getElem?_eq_getElem h]; rfl
theorem cs_64 {what : Int} {a : List Int} {l : List (List Int)} {L : List Jn} {ws : List Int} (hcs : CSums what a l L ws) : A64 ws := fun z hz => by
  obtain ⟨t, ht, rfl⟩ := List.mem_iff_getElem.1 hz
  have := (hcs.dom t).1
  rw [wd_at ws ht] at this
  exact this
abbrev BelT (what : Int) (X Y : List Int) : Prop := ∀ σ, ACalls Try.prog 47 [.int .i64 what, .fsl (.int .u64) X, .fsl (.int .u64) Y] σ (Ret (.bool true) σ)
/-- What is told of one word. -/
theorem cs_word {what : Int} {a : List Int} {l : List (List Int)} {L : List Jn} {ws : List Int} (hcs : CSums what a l L ws) (ha : A64 a) (hl : ∀ x ∈ l, A64 x) (h5 : a.length ≤ 1000) {i : Nat} (hi : i < a.length) :
    BelT what ((a.drop ((i : Int)).toNat).take ((IntKind.i64.wrap ((i : Int) + 1)).toNat - ((i : Int)).toNat)) ((ws.drop ((i : Int)).toNat).take ((IntKind.i64.wrap ((i : Int) + 1)).toNat - ((i : Int)).toNat)) ∧
    BelT what ((ws.drop ((i : Int)).toNat).take ((IntKind.i64.wrap ((i : Int) + 1)).toNat - ((i : Int)).toNat)) (((sumL what a l).drop ((i : Int)).toNat).take ((IntKind.i64.wrap ((i : Int) + 1)).toNat - ((i : Int)).toNat)) := by
  have hn := hcs.hn
  have hw : i < ws.length := by omega
  have hs : i < (sumL what a l).length := by rw [sumL_length]; exact hi
  have g1 := hcs.lo i
  have g2 := hcs.hi i hi
  rw [wd_at a hi, wd_at ws hw] at g1
  rw [wd_at ws hw, wd_at _ hs] at g2
  rw [cut1 a i hi h5, cut1 ws i hw (by omega), cut1 _ i hs (by rw [sumL_length]; exact h5)]
  exact ⟨fun σ => aBel1 what _ _ σ (ha _ (List.getElem_mem hi)) (cs_64 hcs _ (List.getElem_mem hw)) g1, fun σ => aBel1 what _ _ σ (cs_64 hcs _ (List.getElem_mem hw)) (sumL_64 ha hl _ (List.getElem_mem hs)) g2⟩
abbrev SumT (what : Int) (a : List Int) (X : List (List Int)) (R : List Int) : Prop := ∀ σ, ACalls Try.prog 48 [.int .i64 what, .fsl (.int .u64) a, .fsl (.slice (.int .u64)) X] σ (Ret (.fsl (.int .u64) R) σ)
theorem lle_below {what : Int} {xs ys : List Int} (hl : xs.length = ys.length) (h : ∀ i, i < xs.length → lle what (wd xs i) (wd ys i)) : below12 what xs ys = true := by
  unfold below12
  rw [decide_eq_true hl, Bool.true_and, decide_eq_true_eq]
  refine List.ext_getElem ((join12_length what xs ys hl).trans hl) fun i h1 h2 => ?_
  have hx : i < xs.length := by omega
  have := h i hx
  rw [wd_at xs hx, wd_at ys h2] at this
  have e : (join12 what xs ys)[i] = wordW what xs[i] ys[i] := List.getElem_zipWith ..
  rw [e]
  exact this
/-- What is told of a Join that is ended. -/
theorem cs_end {what : Int} {a : List Int} {l : List (List Int)} {L : List Jn} {ws : List Int} (hw : isL what) (hcs : CSums what a l L ws) (hda : ∀ i, LD what (wd a i)) (hdl : ∀ x ∈ l, ∀ i, LD what (wd x i)) (ha : A64 a) (hl : ∀ x ∈ l, A64 x) (h5 : a.length ≤ 1000) (hl5 : l.length ≤ 1000) {j : Nat} (hj : j < l.length) (hjL : j < L.length) (he : L[j].ended = true) :
    SumT what a ((l.drop ((j : Int)).toNat).take ((IntKind.i64.wrap ((j : Int) + 1)).toNat - ((j : Int)).toNat)) (sumL what a [l[j]]) ∧ BelT what (sumL what a [l[j]]) ws := by
  rw [cut1 l j hj hl5]
  have hx := hl _ (List.getElem_mem hj)
  have hJ := hcs.each j hjL hj
  have hen := hJ.en he
  have h64 : A64 (sumL what a [l[j]]) := sumL_64 ha (fun x h => by rw [List.mem_singleton.1 h]; exact hx)
  refine ⟨fun σ => aRSum what a [l[j]] σ ha (fun x h => by rw [List.mem_singleton.1 h]; exact hx) (by omega) (by simp), fun σ => ?_⟩
  obtain ⟨S, hS⟩ : ∃ S, S = sumL what a [l[j]] := ⟨_, rfl⟩
  have hSl : S.length = a.length := by rw [hS]; exact sumL_length ..
  have hle : ∀ i, i < S.length → lle what (wd S i) (wd ws i) := fun i hi => by
    have hi : i < a.length := by omega
    rw [hS]
    refine sum_le hw [l[j]] a ws hda (fun x h => ?_) hcs.dom i hi (hcs.lo i) (fun x h => ?_)
    · rw [List.mem_singleton.1 h]; exact hdl _ (List.getElem_mem hj)
    · rw [List.mem_singleton.1 h]; exact hJ.done i (by rw [hen]; exact hi)
  rw [← hS] at h64 ⊢
  have h := aRBelow12 what S ws σ h64 (cs_64 hcs) (by omega)
  rw [lle_below (hSl.trans hcs.hn.symm) hle] at h
  exact h
/-- All Joins are ended: all is joined. -/
theorem cs_fin {what : Int} {a : List Int} {l : List (List Int)} {L : List Jn} {ws : List Int} (hw : isL what) (hcs : CSums what a l L ws) (hda : ∀ i, LD what (wd a i)) (hdl : ∀ x ∈ l, ∀ i, LD what (wd x i)) (hall : (L.map Jn.ended).all id = true) : ws = sumL what a l := by
  have hall : ∀ j ∈ L, j.ended = true := fun j hj => by
    rw [List.all_map, List.all_eq_true] at hall
    exact hall j hj
  have hlen : ws.length = (sumL what a l).length := by rw [sumL_length]; exact hcs.hn
  refine List.ext_getElem hlen fun i h1 h2 => ?_
  have hi : i < a.length := by rw [← hcs.hn]; exact h1
  have hsd := (sum_hi hw l a hda hdl).1
  have hle := sum_le hw l a ws hda hdl hcs.dom i hi (hcs.lo i) (fun x hx => by
    obtain ⟨j, hj, rfl⟩ := List.mem_iff_getElem.1 hx
    have hjL : j < L.length := by rw [hcs.hl]; exact hj
    have hJ := hcs.each j hjL hj
    exact hJ.done i (by rw [hJ.en (hall _ (List.getElem_mem hjL))]; exact hi))
  have := lle_anti hw (hcs.dom i) (hsd i) (hcs.hi i hi) hle
  rw [wd_at ws h1, wd_at _ h2] at this
  exact this
theorem cellSums_walk (what : Int) (a : List Int) (l : List (List Int)) (scr : List (Int × Int × Unit)) (ha64 : A64 a) (hl64 : ∀ x ∈ l, A64 x) (hL : l.length ≤ maxLen) : ACalls Try.prog 7 [.int .i64 what, .fsl (.int .u64) a, .fsl (.slice (.int .u64)) l, .fsl pickSh scr] [] (fun r _ => r = .bool true) := by
  refine okF Try.func7 (by kernel_rfl) ?_
  refine callR [] awake30a ?_
  have hF := fun σ => aFew30 a.length a l σ hL
  cases hf : fewB a.length a l with
  | false =>
    rw [hf] at hF
    refine callR [] (hF _) ?_
    exact .done rfl
  | true =>
    rw [hf] at hF
    obtain ⟨hf1, hf2, hf3, hf4⟩ := few_get hf
    have h5 : a.length ≤ 5 := by omega
    have hI := fun σ => aRIs what 1 σ
    cases hi : is12 what 1 with
    | false =>
      rw [hi] at hI
      refine callR [] (hF _) ?_
      refine bcond_dec (fun c1 => ?_) (fun c1 => ?_)
      · have c1 : 200 < (↑scr.length : Int) := c1
        exact .done rfl
      · have c1 : ¬ (200 < (↑scr.length : Int)) := c1
        refine callR [] (hI _) ?_
        exact .done rfl
    | true =>
      rw [hi] at hI
      have hw : isL what := by
        unfold is12 at hi
        simp only [Bool.and_eq_true, decide_eq_true_eq] at hi
        omega
      by_cases h3 : what = 3
      · have hV3 : ∀ (b : List Int) (σ : Hp), A64 b → b.length ≤ 1000000 → ACalls Try.prog 43 [.int .i64 what, .int .i64 b.length, .fsl (.int .u64) b] σ (Ret (.bool (val3 b.length b)) σ) := fun b σ h1 h2 => by rw [h3]; exact aRValue3 b.length b σ h1 h2
        have hV := fun σ => hV3 a σ ha64 (by omega)
        cases hv : val3 a.length a with
        | false =>
          rw [hv] at hV
          refine callR [] (hF _) ?_
          refine bcond_dec (fun c1 => ?_) (fun c1 => ?_)
          · exact .done rfl
          refine callR [] (hI _) ?_
          refine bcond_dec (fun _ => ?_) (fun h => absurd h3 h)
          refine callR [] (hV _) ?_
          exact .done rfl
        | true =>
          rw [hv] at hV
          have hdom : ∀ i, LD what (wd a i) := by rw [h3]; exact val3_ld ha64 hv
          refine callR [] (hF _) ?_
          refine bcond_dec (fun c1 => ?_) (fun c1 => ?_)
          · exact .done rfl
          have hscr : ¬ 200 < (scr.length : Int) := c1
          refine callR [] (hI _) ?_
          refine bcond_dec (fun _ => ?_) (fun h => absurd h3 h)
          refine callR [] (hV _) ?_
          intro bo
          refine StoreAt.mk 0 _ _ rfl rfl ?_
          refine .mk [] _ (aNew (a.length : Int) _) ?_
          rintro _ _ ⟨p, q, rfl, rfl⟩
          have hPut := fun σ => aPut p q (List.replicate (cutN (a.length : Int)) 0) 0 what a.length a σ
          rw [put_all a (by omega)] at hPut
          unfold plH at hPut
          rw [List.length_replicate] at hPut
          refine LoadAt.mk 2 _ _ rfl rfl ?_
          refine callR [] (hPut _) ?_
          refine .wrap 12 _ rfl rfl ?_
          refine .wrap 13 _ rfl rfl ?_
          refine loopS (S := Nat × List Nat × AV × Hp × AV × Hp) (fun s => [(0, .int .i64 what), (1, .fsl (.int .u64) a), (2, .fsl (.slice (.int .u64)) l), (3, .fsl pickSh scr), (10, .ptr bo 0), (11, .ptr p 0), (12, .via s.2.2.1), (13, .via s.2.2.2.2.1), (64, .fsl (.slice (.int .u64)) l), (65, .int .i64 l.length), (66, .int .i64 s.1)])
            (fun s => plH p q a ((bo, [.int .i64 0, .int .i64 what, .int .i64 a.length]) :: (s.2.2.2.1 ++ (s.2.2.2.2.2 ++ (joinK p q).blks s.2.1 ((l.take s.1).map (jn0 what a.length))))))
            (fun s => s.1 ≤ l.length ∧ s.2.1.length = s.1 ∧ Acc 1 s.1 s.2.2.1 s.2.2.2.1 (s.2.1.map fun r => .ptr r 0) ∧ Acc 1 s.1 s.2.2.2.2.1 s.2.2.2.2.2 (s.2.1.map fun r => .iface 90 (.ptr r 0)) ∧ (∀ x ∈ l.take s.1, ∀ i, LD what (wd x i)) ∧ (s.1 = 0 → s.2.2.1 = .nils ∧ s.2.2.2.1 = [] ∧ s.2.2.2.2.1 = .nils ∧ s.2.2.2.2.2 = []))
            (fun s => l.length - s.1) (0, [], .nils, [], .nils, []) ⟨⟨Nat.zero_le _, rfl, .nil, .nil, (fun x h => by cases h), fun _ => ⟨rfl, rfl, rfl, rfl⟩⟩, ⟨rfl, rfl, rfl, rfl, rfl, rfl, rfl, rfl, rfl, rfl, rfl, trivial⟩, rfl⟩ ?_
          rintro ⟨k, rs, va, aa, vb, ab⟩ g ⟨hk0, hrs0, ha0, hb0, hd0, hz0⟩
          have hk : k ≤ l.length := hk0
          have hrs : rs.length = k := hrs0
          have ha : Acc 1 k va aa (rs.map fun r => .ptr r 0) := ha0
          have hb : Acc 1 k vb ab (rs.map fun r => .iface 90 (.ptr r 0)) := hb0
          have hd : ∀ x ∈ l.take k, ∀ i, LD what (wd x i) := hd0
          have hz : k = 0 → va = .nils ∧ aa = [] ∧ vb = .nils ∧ ab = [] := hz0
          clear hk0 hrs0 ha0 hb0 hd0 hz0
          refine bcond_dec (fun hlt => ?_) (fun hge => ?_)
          · have hlt : k < l.length := by have hlt : (k : Int) < l.length := hlt; omega
            refine With.mk rfl (IdxF.mk l[k] (by omega) (get_some hlt) ?_)
            have hx64 := hl64 _ (List.getElem_mem hlt)
            have hx8 := hf1 _ (List.getElem_mem hlt)
            have hV := fun σ => hV3 l[k] σ hx64 (by omega)
            refine bcond_dec (fun _ => ?_) (fun h => absurd h3 h)
            cases hv2 : val3 l[k].length l[k] with
            | false =>
              rw [hv2] at hV
              refine callR [] (hV _) ?_
              exact .done rfl
            | true =>
              rw [hv2] at hV
              have hdk : ∀ i, LD what (wd l[k] i) := by rw [h3]; exact val3_ld hx64 hv2
              refine callR [] (hV _) ?_
              refine LoadAt.mk 2 _ _ rfl rfl ?_
              intro r
              intro bl1
              refine append_acc [_, _, _, _, _] ha (.mref 0 bl1 0 1 _ rfl (Nat.le_of_ble_eq_true rfl)) rfl (by omega) (by decide) (by decide) (fun va' aa' ha' => ?_)
              intro bl2
              refine append_acc (k := k) (n := 1) (σ := (joinK p q).blks rs ((l.take k).map (jn0 what a.length))) (_ :: _ :: _ :: _ :: _ :: _ :: aa') hb (.mref 0 bl2 0 1 _ rfl (Nat.le_of_ble_eq_true rfl)) rfl (by omega) (by decide) (by decide) (fun vb' ab' hb' => ?_)
              have e1 : (joinK p q).blks (rs ++ [r]) ((l.take (k + 1)).map (jn0 what a.length)) = (joinK p q).blks rs ((l.take k).map (jn0 what a.length)) ++ [(r, jnC (jn0 what a.length l[k]))] := by
                rw [List.take_succ_eq_append_getElem hlt, List.map_append]
                exact (joinK p q).blks_snoc (by simp; omega) r (jn0 what a.length l[k])
              refine nextS (k + 1, rs ++ [r], va', aa', vb', ab') (by show l.length - (k + 1) < l.length - k; omega) ⟨hlt, by show (rs ++ [r]).length = k + 1; simp [hrs], ?_, ?_, ?_, fun h => absurd h (Nat.succ_ne_zero k)⟩ ⟨rfl, rfl, rfl, rfl, rfl, rfl, rfl, rfl, rfl, rfl, inc64 (by omega), trivial⟩ (.drop 0 2 (.perm (jn_perm _ _ _ _ aa' ab' _) (shed_eq ?_)))
              · show Acc 1 (k + 1) va' aa' ((rs ++ [r]).map fun r => .ptr r 0)
                rw [List.map_append]; exact ha'
              · show Acc 1 (k + 1) vb' ab' ((rs ++ [r]).map fun r => .iface _ (.ptr r 0))
                rw [List.map_append]; exact hb'
              · show ∀ x ∈ l.take (k + 1), ∀ i, LD what (wd x i)
                intro x hx
                rw [List.take_succ_eq_append_getElem hlt] at hx
                rcases List.mem_append.1 hx with hx | hx
                · exact hd x hx
                · rw [List.mem_singleton.1 hx]; exact hdk
              · show _ = plH p q a ((bo, [.int .i64 0, .int .i64 what, .int .i64 a.length]) :: (aa' ++ (ab' ++ (joinK p q).blks (rs ++ [r]) ((l.take (k + 1)).map (jn0 what a.length)))))
                rw [e1]; rfl
          · have hge : k = l.length := by have hge : ¬ (k : Int) < l.length := hge; omega
            subst hge
            rw [List.take_length] at hd
            have hsum := sum_hi hw l a hdom hd
            have hSum := fun σ => aRSum what a l σ ha64 hl64 (by omega) (by omega)
            have hFi := fun st (us : Int) (L : List Jn) σ (h : L.length ≤ 1000000) => aFinF (.fsl (.int .i64) st) us (L.map Jn.ended) σ (by rw [List.length_map]; exact h)
            have hcw : cw (a.length : Int) = a.length := by unfold cw; omega
            by_cases hl0 : l.length = 0
            · obtain ⟨rfl, rfl, rfl, rfl⟩ := hz hl0
              have hrs0 : rs = [] := List.length_eq_zero_iff.1 (hrs.trans hl0)
              have hln : l = [] := List.length_eq_zero_iff.1 hl0
              subst hrs0
              refine callR [] (aRun0 _ p scr _) ?_
              intro rr
              refine StoreAt.mk 0 _ _ rfl rfl ?_
              refine LoadAt.mk 3 _ _ rfl rfl ?_
              have hcs : CSums what a l [] a := by
                have h := cs_first hw hdom hd
                rw [hln] at h ⊢
                exact h
              have hwl : (a).length = a.length := hcs.hn
              have hGet := fun σ => aGet p q a 0 what a.length σ
              rw [hcw, get_all a hwl (by omega)] at hGet
              refine callR [2, 2] (hGet _) ?_
              refine loopS (S := Nat × Nat) (fun s => [(0, .int .i64 what), (1, .fsl (.int .u64) a), (2, .fsl (.slice (.int .u64)) l), (12, .via .nils), (17, .ptr rr 0), (18, .fsl (.int .u64) a), (19, .int .i64 ((64 * s.2 : Nat) : Int)), (20, .int .i64 0), (103, .fsl (.int .u64) a), (104, .int .i64 (a).length), (105, .int .i64 s.1)])
                (fun s => plH p q a ((rr, [.fsl (.int .i64) ([] : List Int), .fsl .bool (List.map Jn.ended ([] : List Jn)), .int .i64 0]) :: [(bo, [.int .i64 0, .int .i64 what, .int .i64 a.length])])) (fun s => s.1 ≤ a.length ∧ s.2 ≤ s.1 ∧ (∀ t, t < s.1 → wd a t ≠ wd a t → 0 < s.2)) (fun s => a.length - s.1) (0, 0) ⟨⟨Nat.zero_le _, Nat.le_refl _, fun t h => absurd h (Nat.not_lt_zero t)⟩, ⟨rfl, rfl, rfl, rfl, rfl, rfl, rfl, rfl, rfl, rfl, rfl, trivial⟩, rfl⟩ ?_
              rintro ⟨i, m⟩ g ⟨hi0, hm0, hr0⟩
              have hi : i ≤ a.length := hi0
              have hm : m ≤ i := hm0
              have hrose : ∀ t, t < i → wd a t ≠ wd a t → 0 < m := hr0
              clear hi0 hm0 hr0
              refine bcond_dec (fun hlt => ?_) (fun hge => ?_)
              · have hlt : i < a.length := by have hlt : (i : Int) < (a).length := hlt; omega
                have hltw : i < (a).length := by omega
                have hlts : i < (sumL what a l).length := by rw [sumL_length]; exact hlt
                have ha1 : a.length ≤ 1000 := by omega
                have hw1 : (a).length ≤ 1000 := by omega
                have hs1 : (sumL what a l).length ≤ 1000 := by rw [sumL_length]; omega
                obtain ⟨hB1, hB2⟩ := cs_word hcs ha64 hl64 (by omega) hlt
                refine .quiet (by kernel_rfl) ?_
                refine With.mk (cut_with i _ hlt ha1) ?_
                refine With.mk (cut_with i _ hltw hw1) ?_
                refine callQ [] (hB1 _) ?_
                refine With.mk (cut_with i _ hltw hw1) ?_
                refine callQ [] (hSum _) ?_
                refine With.mk (cut_with i _ hlts hs1) ?_
                refine callQ [] (hB2 _) ?_
                refine .quiet (by kernel_rfl) ?_
                refine With.mk rfl ?_
                refine IdxF.mk (a)[i] (by omega) (get_some hltw) ?_
                refine With.mk rfl ?_
                refine IdxF.mk a[i] (by omega) (get_some hlt) ?_
                refine bcond_split (fun c1 => ?_) (fun c1 => ?_)
                · have c1 : ¬ ((a)[i] = a[i]) := not_dec_true c1
                  refine nextS (i + 1, m + 1) (by show a.length - (i + 1) < a.length - i; omega) ⟨hlt, by show m + 1 ≤ i + 1; omega, fun _ _ _ => Nat.succ_pos m⟩ ⟨rfl, rfl, rfl, rfl, rfl, rfl, ?_, rfl, rfl, rfl, inc64 (by omega), trivial⟩ (shed_eq rfl)
                  refine av_int ?_
                  show IntKind.i64.wrap (((64 * m : Nat) : Int) + 64) = ((64 * (m + 1) : Nat) : Int)
                  rw [IntKind.wrap_i64]; omega
                · have c1 : (a)[i] = a[i] := not_dec_false c1
                  refine nextS (i + 1, m) (by show a.length - (i + 1) < a.length - i; omega) ⟨hlt, by show m ≤ i + 1; omega, ?_⟩ ⟨rfl, rfl, rfl, rfl, rfl, rfl, rfl, rfl, rfl, rfl, inc64 (by omega), trivial⟩ (shed_eq rfl)
                  intro t ht hne
                  by_cases hti : t = i
                  · subst hti
                    exact absurd ((wd_at a hltw).trans (c1.trans (wd_at a hlt).symm)) hne
                  · exact hrose t (by have ht : t < i + 1 := ht; omega) hne
              · have hge : i = a.length := by have hge : ¬ (i : Int) < (a).length := hge; omega
                subst hge
                refine loopS (S := Unit) (fun _ => [(0, .int .i64 what), (1, .fsl (.int .u64) a), (2, .fsl (.slice (.int .u64)) l), (17, .ptr rr 0), (18, .fsl (.int .u64) a), (19, .int .i64 ((64 * m : Nat) : Int)), (20, .int .i64 0), (151, .via .nils), (152, .int .i64 0), (153, .int .i64 0)])
                  (fun _ => plH p q a ((rr, [.fsl (.int .i64) ([] : List Int), .fsl .bool (List.map Jn.ended ([] : List Jn)), .int .i64 0]) :: [(bo, [.int .i64 0, .int .i64 what, .int .i64 a.length])])) (fun _ => True) (fun _ => 0) () ⟨trivial, ⟨rfl, rfl, rfl, rfl, rfl, rfl, rfl, rfl, rfl, rfl, trivial⟩, rfl⟩ ?_
                intro _ g _
                have hFi' := fun σ => hFi ([] : List Int) 0 ([] : List Jn) σ (Nat.zero_le _)
                have hsame : ∀ σ, ACalls Try.prog 20 [.fsl (.int .u64) a, .fsl (.int .u64) (sumL what a l)] σ (Ret (.bool true) σ) := fun σ => by
                  have h := same10 a (sumL what a l) σ (by omega)
                  rw [decide_eq_true (cs_fin hw hcs hdom hd rfl)] at h
                  exact h
                refine LoadAt.mk 2 _ _ rfl rfl ?_
                refine callR [] (hFi' _) ?_
                refine callR [] (hSum _) ?_
                refine callR [] (hsame _) ?_
                exact .done rfl
            · rcases acc_inv ha with ⟨_, _, h⟩ | ⟨la, rfl, rfl⟩
              · exact absurd h hl0
              rcases acc_inv hb with ⟨_, _, h⟩ | ⟨lb, rfl, rfl⟩
              · exact absurd h hl0
              have hrun := aRunJ p q bo la lb hw hdom hd (by omega) (by omega) hf4 rs hrs scr (by omega) [.int .i64 0, .int .i64 what, .int .i64 a.length] (rs.map fun r => .ptr r 0)
              rw [List.take_length]
              refine .mk [] _ hrun ?_
              rintro _ _ ⟨L, ws, st, us, hcs, rfl, rfl⟩
              intro rr
              refine StoreAt.mk 0 _ _ rfl rfl ?_
              refine LoadAt.mk 3 _ _ rfl rfl ?_
              have hwl : (ws).length = a.length := hcs.hn
              have hGet := fun σ => aGet p q ws 0 what a.length σ
              rw [hcw, get_all ws hwl (by omega)] at hGet
              refine callR [2, 2] (hGet _) ?_
              refine loopS (S := Nat × Nat) (fun s => [(0, .int .i64 what), (1, .fsl (.int .u64) a), (2, .fsl (.slice (.int .u64)) l), (12, .via (.mref la 0 l.length 1)), (17, .ptr rr 0), (18, .fsl (.int .u64) ws), (19, .int .i64 ((64 * s.2 : Nat) : Int)), (20, .int .i64 0), (103, .fsl (.int .u64) ws), (104, .int .i64 (ws).length), (105, .int .i64 s.1)])
                (fun s => plH p q ws ((rr, [.fsl (.int .i64) st, .fsl .bool (List.map Jn.ended L), .int .i64 us]) :: ((bo, [.int .i64 0, .int .i64 what, .int .i64 a.length]) :: (la, rs.map fun r => .ptr r 0) :: (lb, rs.map fun r => .iface 90 (.ptr r 0)) :: (joinK p q).blks rs L))) (fun s => s.1 ≤ a.length ∧ s.2 ≤ s.1 ∧ (∀ t, t < s.1 → wd ws t ≠ wd a t → 0 < s.2)) (fun s => a.length - s.1) (0, 0) ⟨⟨Nat.zero_le _, Nat.le_refl _, fun t h => absurd h (Nat.not_lt_zero t)⟩, ⟨rfl, rfl, rfl, rfl, rfl, rfl, rfl, rfl, rfl, rfl, rfl, trivial⟩, rfl⟩ ?_
              rintro ⟨i, m⟩ g ⟨hi0, hm0, hr0⟩
              have hi : i ≤ a.length := hi0
              have hm : m ≤ i := hm0
              have hrose : ∀ t, t < i → wd ws t ≠ wd a t → 0 < m := hr0
              clear hi0 hm0 hr0
              refine bcond_dec (fun hlt => ?_) (fun hge => ?_)
              · have hlt : i < a.length := by have hlt : (i : Int) < (ws).length := hlt; omega
                have hltw : i < (ws).length := by omega
                have hlts : i < (sumL what a l).length := by rw [sumL_length]; exact hlt
                have ha1 : a.length ≤ 1000 := by omega
                have hw1 : (ws).length ≤ 1000 := by omega
                have hs1 : (sumL what a l).length ≤ 1000 := by rw [sumL_length]; omega
                obtain ⟨hB1, hB2⟩ := cs_word hcs ha64 hl64 (by omega) hlt
                refine .quiet (by kernel_rfl) ?_
                refine With.mk (cut_with i _ hlt ha1) ?_
                refine With.mk (cut_with i _ hltw hw1) ?_
                refine callQ [] (hB1 _) ?_
                refine With.mk (cut_with i _ hltw hw1) ?_
                refine callQ [] (hSum _) ?_
                refine With.mk (cut_with i _ hlts hs1) ?_
                refine callQ [] (hB2 _) ?_
                refine .quiet (by kernel_rfl) ?_
                refine With.mk rfl ?_
                refine IdxF.mk (ws)[i] (by omega) (get_some hltw) ?_
                refine With.mk rfl ?_
                refine IdxF.mk a[i] (by omega) (get_some hlt) ?_
                refine bcond_split (fun c1 => ?_) (fun c1 => ?_)
                · have c1 : ¬ ((ws)[i] = a[i]) := not_dec_true c1
                  refine nextS (i + 1, m + 1) (by show a.length - (i + 1) < a.length - i; omega) ⟨hlt, by show m + 1 ≤ i + 1; omega, fun _ _ _ => Nat.succ_pos m⟩ ⟨rfl, rfl, rfl, rfl, rfl, rfl, ?_, rfl, rfl, rfl, inc64 (by omega), trivial⟩ (shed_eq rfl)
                  refine av_int ?_
                  show IntKind.i64.wrap (((64 * m : Nat) : Int) + 64) = ((64 * (m + 1) : Nat) : Int)
                  rw [IntKind.wrap_i64]; omega
                · have c1 : (ws)[i] = a[i] := not_dec_false c1
                  refine nextS (i + 1, m) (by show a.length - (i + 1) < a.length - i; omega) ⟨hlt, by show m ≤ i + 1; omega, ?_⟩ ⟨rfl, rfl, rfl, rfl, rfl, rfl, rfl, rfl, rfl, rfl, inc64 (by omega), trivial⟩ (shed_eq rfl)
                  intro t ht hne
                  by_cases hti : t = i
                  · subst hti
                    exact absurd ((wd_at ws hltw).trans (c1.trans (wd_at a hlt).symm)) hne
                  · exact hrose t (by have ht : t < i + 1 := ht; omega) hne
              · have hge : i = a.length := by have hge : ¬ (i : Int) < (ws).length := hge; omega
                subst hge
                refine loopS (S := Nat × Nat) (fun s => [(0, .int .i64 what), (1, .fsl (.int .u64) a), (2, .fsl (.slice (.int .u64)) l), (17, .ptr rr 0), (18, .fsl (.int .u64) ws), (19, .int .i64 ((64 * m : Nat) : Int)), (20, .int .i64 s.2), (151, .via (.mref la 0 l.length 1)), (152, .int .i64 l.length), (153, .int .i64 s.1)])
                  (fun s => plH p q ws ((rr, [.fsl (.int .i64) st, .fsl .bool (List.map Jn.ended L), .int .i64 us]) :: (bo, [.int .i64 0, .int .i64 what, .int .i64 a.length]) :: (la, rs.map fun r => .ptr r 0) :: (lb, rs.map fun r => .iface 90 (.ptr r 0)) :: (joinK p q).blks rs L)) (fun s => s.1 ≤ l.length ∧ s.2 ≤ s.1 ∧ (0 < s.2 → ∃ t, t < a.length ∧ wd ws t ≠ wd a t)) (fun s => l.length - s.1) (0, 0) ⟨⟨Nat.zero_le _, Nat.le_refl _, fun h => absurd h (Nat.lt_irrefl 0)⟩, ⟨rfl, rfl, rfl, rfl, rfl, rfl, rfl, rfl, rfl, rfl, trivial⟩, rfl⟩ ?_
                rintro ⟨j, c⟩ g ⟨hj0, hc0, hch0⟩
                have hj : j ≤ l.length := hj0
                have hc : c ≤ j := hc0
                have hch : 0 < c → ∃ t, t < a.length ∧ wd ws t ≠ wd a t := hch0
                clear hj0 hc0 hch0
                refine bcond_dec (fun hlt => ?_) (fun hge => ?_)
                · have hlt : j < l.length := by have hlt : (j : Int) < l.length := hlt; omega
                  have hjL : j < L.length := by rw [hcs.hl]; exact hlt
                  have hjr : j < rs.length := by omega
                  have hb6 := (joinK p q).blks_at (by rw [hrs, hcs.hl] : rs.length = L.length) hjr hjL
                  have hJ := hcs.each j hjL hlt
                  have hde : (L.map Jn.ended)[((j : Int)).toNat]? = some L[j].ended := by rw [List.getElem?_map, Int.toNat_natCast, List.getElem?_eq_getElem hjL]; rfl
                  refine With.mk ⟨rfl, by omega, by omega⟩ ?_
                  refine LoadAt.mk 4 _ (.ptr rs[j] 0) rfl ?_ ?_
                  · show (rs.map fun r => AV.ptr r 0)[0 + ((j : Int)).toNat * 1]? = _
                    rw [show 0 + ((j : Int)).toNat * 1 = j by omega, List.getElem?_map, List.getElem?_eq_getElem hjr]; rfl
                  cases hcc : L[j].changed with
                  | true =>
                    have hch' := hJ.ch hcc
                    cases he : L[j].ended with
                    | true =>
                      refine LoadAt.mk (j + 6) _ (.bool true) hb6 (by show some (AV.bool L[j].changed) = _; rw [hcc]) ?_
                      refine .quiet (by kernel_rfl) ?_
                      refine LoadAt.mk (j + 6) _ (.bool true) hb6 (by show some (AV.bool L[j].ended) = _; rw [he]) ?_
                      refine LoadAt.mk 2 _ _ rfl rfl ?_
                      refine With.mk rfl ?_
                      refine IdxF.mk true (by omega) (hde.trans (congrArg some he)) ?_
                      refine LoadAt.mk (j + 6) _ (.bool true) hb6 (by show some (AV.bool L[j].ended) = _; rw [he]) ?_
                      obtain ⟨hS, hB⟩ := cs_end hw hcs hdom hd ha64 hl64 (by omega) (by omega) hlt hjL he
                      have hl1 : l.length ≤ 1000 := by omega
                      refine With.mk (cut_with j _ hlt hl1) ?_
                      refine callQ [] (hS _) ?_
                      refine callQ [] (hB _) ?_
                      refine nextS (j + 1, c + 1) (by show l.length - (j + 1) < l.length - j; omega) ⟨hlt, by show c + 1 ≤ j + 1; omega, fun _ => hch'⟩ ⟨rfl, rfl, rfl, rfl, rfl, rfl, inc64 (by omega), rfl, rfl, inc64 (by omega), trivial⟩ (shed_eq rfl)
                    | false =>
                      refine LoadAt.mk (j + 6) _ (.bool true) hb6 (by show some (AV.bool L[j].changed) = _; rw [hcc]) ?_
                      refine .quiet (by kernel_rfl) ?_
                      refine LoadAt.mk (j + 6) _ (.bool false) hb6 (by show some (AV.bool L[j].ended) = _; rw [he]) ?_
                      refine LoadAt.mk 2 _ _ rfl rfl ?_
                      refine With.mk rfl ?_
                      refine IdxF.mk false (by omega) (hde.trans (congrArg some he)) ?_
                      refine LoadAt.mk (j + 6) _ (.bool false) hb6 (by show some (AV.bool L[j].ended) = _; rw [he]) ?_
                      refine nextS (j + 1, c + 1) (by show l.length - (j + 1) < l.length - j; omega) ⟨hlt, by show c + 1 ≤ j + 1; omega, fun _ => hch'⟩ ⟨rfl, rfl, rfl, rfl, rfl, rfl, inc64 (by omega), rfl, rfl, inc64 (by omega), trivial⟩ (shed_eq rfl)
                  | false =>
                    cases he : L[j].ended with
                    | true =>
                      refine LoadAt.mk (j + 6) _ (.bool false) hb6 (by show some (AV.bool L[j].changed) = _; rw [hcc]) ?_
                      refine .quiet (by kernel_rfl) ?_
                      refine LoadAt.mk (j + 6) _ (.bool true) hb6 (by show some (AV.bool L[j].ended) = _; rw [he]) ?_
                      refine LoadAt.mk 2 _ _ rfl rfl ?_
                      refine With.mk rfl ?_
                      refine IdxF.mk true (by omega) (hde.trans (congrArg some he)) ?_
                      refine LoadAt.mk (j + 6) _ (.bool true) hb6 (by show some (AV.bool L[j].ended) = _; rw [he]) ?_
                      obtain ⟨hS, hB⟩ := cs_end hw hcs hdom hd ha64 hl64 (by omega) (by omega) hlt hjL he
                      have hl1 : l.length ≤ 1000 := by omega
                      refine With.mk (cut_with j _ hlt hl1) ?_
                      refine callQ [] (hS _) ?_
                      refine callQ [] (hB _) ?_
                      refine nextS (j + 1, c) (by show l.length - (j + 1) < l.length - j; omega) ⟨hlt, by show c ≤ j + 1; omega, hch⟩ ⟨rfl, rfl, rfl, rfl, rfl, rfl, rfl, rfl, rfl, inc64 (by omega), trivial⟩ (shed_eq rfl)
                    | false =>
                      refine LoadAt.mk (j + 6) _ (.bool false) hb6 (by show some (AV.bool L[j].changed) = _; rw [hcc]) ?_
                      refine .quiet (by kernel_rfl) ?_
                      refine LoadAt.mk (j + 6) _ (.bool false) hb6 (by show some (AV.bool L[j].ended) = _; rw [he]) ?_
                      refine LoadAt.mk 2 _ _ rfl rfl ?_
                      refine With.mk rfl ?_
                      refine IdxF.mk false (by omega) (hde.trans (congrArg some he)) ?_
                      refine LoadAt.mk (j + 6) _ (.bool false) hb6 (by show some (AV.bool L[j].ended) = _; rw [he]) ?_
                      refine nextS (j + 1, c) (by show l.length - (j + 1) < l.length - j; omega) ⟨hlt, by show c ≤ j + 1; omega, hch⟩ ⟨rfl, rfl, rfl, rfl, rfl, rfl, rfl, rfl, rfl, inc64 (by omega), trivial⟩ (shed_eq rfl)
                · have hge : j = l.length := by have hge : ¬ (j : Int) < l.length := hge; omega
                  refine bcond_dec (fun c1 => ?_) (fun c1 => ?_)
                  · have c1 : (↑c : Int) ≤ (↑(64 * m) : Int) := c1
                    refine LoadAt.mk 2 _ _ rfl rfl ?_
                    have hFi' := fun σ => hFi st us L σ (by rw [hcs.hl]; omega)
                    cases hfb : (L.map Jn.ended).all id with
                    | false =>
                      rw [hfb] at hFi'
                      refine callR [] (hFi' _) ?_
                      exact .done rfl
                    | true =>
                      rw [hfb] at hFi'
                      have hsame : ∀ σ, ACalls Try.prog 20 [.fsl (.int .u64) ws, .fsl (.int .u64) (sumL what a l)] σ (Ret (.bool true) σ) := fun σ => by
                        have h := same10 ws (sumL what a l) σ (by rw [hwl]; omega)
                        rw [decide_eq_true (cs_fin hw hcs hdom hd hfb)] at h
                        exact h
                      refine callR [] (hFi' _) ?_
                      refine callR [] (hSum _) ?_
                      refine callR [] (hsame _) ?_
                      exact .done rfl
                  · have c1 : ¬ ((↑c : Int) ≤ (↑(64 * m) : Int)) := c1
                    refine absurd ?_ c1
                    by_cases hc0 : 0 < c
                    · obtain ⟨t, ht, hne⟩ := hch hc0
                      have := hrose t ht hne
                      omega
                    · omega
      · have hdom := ld_64 h3 ha64
        refine callR [] (hF _) ?_
        refine bcond_dec (fun c1 => ?_) (fun c1 => ?_)
        · exact .done rfl
        have hscr : ¬ 200 < (scr.length : Int) := c1
        refine callR [] (hI _) ?_
        refine bcond_dec (fun h => absurd h h3) (fun _ => ?_)
        intro bo
        refine StoreAt.mk 0 _ _ rfl rfl ?_
        refine .mk [] _ (aNew (a.length : Int) _) ?_
        rintro _ _ ⟨p, q, rfl, rfl⟩
        have hPut := fun σ => aPut p q (List.replicate (cutN (a.length : Int)) 0) 0 what a.length a σ
        rw [put_all a (by omega)] at hPut
        unfold plH at hPut
        rw [List.length_replicate] at hPut
        refine LoadAt.mk 2 _ _ rfl rfl ?_
        refine callR [] (hPut _) ?_
        refine .wrap 12 _ rfl rfl ?_
        refine .wrap 13 _ rfl rfl ?_
        refine loopS (S := Nat × List Nat × AV × Hp × AV × Hp) (fun s => [(0, .int .i64 what), (1, .fsl (.int .u64) a), (2, .fsl (.slice (.int .u64)) l), (3, .fsl pickSh scr), (10, .ptr bo 0), (11, .ptr p 0), (12, .via s.2.2.1), (13, .via s.2.2.2.2.1), (64, .fsl (.slice (.int .u64)) l), (65, .int .i64 l.length), (66, .int .i64 s.1)])
          (fun s => plH p q a ((bo, [.int .i64 0, .int .i64 what, .int .i64 a.length]) :: (s.2.2.2.1 ++ (s.2.2.2.2.2 ++ (joinK p q).blks s.2.1 ((l.take s.1).map (jn0 what a.length))))))
          (fun s => s.1 ≤ l.length ∧ s.2.1.length = s.1 ∧ Acc 1 s.1 s.2.2.1 s.2.2.2.1 (s.2.1.map fun r => .ptr r 0) ∧ Acc 1 s.1 s.2.2.2.2.1 s.2.2.2.2.2 (s.2.1.map fun r => .iface 90 (.ptr r 0)) ∧ (∀ x ∈ l.take s.1, ∀ i, LD what (wd x i)) ∧ (s.1 = 0 → s.2.2.1 = .nils ∧ s.2.2.2.1 = [] ∧ s.2.2.2.2.1 = .nils ∧ s.2.2.2.2.2 = []))
          (fun s => l.length - s.1) (0, [], .nils, [], .nils, []) ⟨⟨Nat.zero_le _, rfl, .nil, .nil, (fun x h => by cases h), fun _ => ⟨rfl, rfl, rfl, rfl⟩⟩, ⟨rfl, rfl, rfl, rfl, rfl, rfl, rfl, rfl, rfl, rfl, rfl, trivial⟩, rfl⟩ ?_
        rintro ⟨k, rs, va, aa, vb, ab⟩ g ⟨hk0, hrs0, ha0, hb0, hd0, hz0⟩
        have hk : k ≤ l.length := hk0
        have hrs : rs.length = k := hrs0
        have ha : Acc 1 k va aa (rs.map fun r => .ptr r 0) := ha0
        have hb : Acc 1 k vb ab (rs.map fun r => .iface 90 (.ptr r 0)) := hb0
        have hd : ∀ x ∈ l.take k, ∀ i, LD what (wd x i) := hd0
        have hz : k = 0 → va = .nils ∧ aa = [] ∧ vb = .nils ∧ ab = [] := hz0
        clear hk0 hrs0 ha0 hb0 hd0 hz0
        refine bcond_dec (fun hlt => ?_) (fun hge => ?_)
        · have hlt : k < l.length := by have hlt : (k : Int) < l.length := hlt; omega
          refine With.mk rfl (IdxF.mk l[k] (by omega) (get_some hlt) ?_)
          have hx64 := hl64 _ (List.getElem_mem hlt)
          have hx8 := hf1 _ (List.getElem_mem hlt)
          have hdk := ld_64 h3 hx64
          refine bcond_dec (fun h => absurd h h3) (fun _ => ?_)
          refine LoadAt.mk 2 _ _ rfl rfl ?_
          intro r
          intro bl1
          refine append_acc [_, _, _, _, _] ha (.mref 0 bl1 0 1 _ rfl (Nat.le_of_ble_eq_true rfl)) rfl (by omega) (by decide) (by decide) (fun va' aa' ha' => ?_)
          intro bl2
          refine append_acc (k := k) (n := 1) (σ := (joinK p q).blks rs ((l.take k).map (jn0 what a.length))) (_ :: _ :: _ :: _ :: _ :: _ :: aa') hb (.mref 0 bl2 0 1 _ rfl (Nat.le_of_ble_eq_true rfl)) rfl (by omega) (by decide) (by decide) (fun vb' ab' hb' => ?_)
          have e1 : (joinK p q).blks (rs ++ [r]) ((l.take (k + 1)).map (jn0 what a.length)) = (joinK p q).blks rs ((l.take k).map (jn0 what a.length)) ++ [(r, jnC (jn0 what a.length l[k]))] := by
            rw [List.take_succ_eq_append_getElem hlt, List.map_append]
            exact (joinK p q).blks_snoc (by simp; omega) r (jn0 what a.length l[k])
          refine nextS (k + 1, rs ++ [r], va', aa', vb', ab') (by show l.length - (k + 1) < l.length - k; omega) ⟨hlt, by show (rs ++ [r]).length = k + 1; simp [hrs], ?_, ?_, ?_, fun h => absurd h (Nat.succ_ne_zero k)⟩ ⟨rfl, rfl, rfl, rfl, rfl, rfl, rfl, rfl, rfl, rfl, inc64 (by omega), trivial⟩ (.drop 0 2 (.perm (jn_perm _ _ _ _ aa' ab' _) (shed_eq ?_)))
          · show Acc 1 (k + 1) va' aa' ((rs ++ [r]).map fun r => .ptr r 0)
            rw [List.map_append]; exact ha'
          · show Acc 1 (k + 1) vb' ab' ((rs ++ [r]).map fun r => .iface _ (.ptr r 0))
            rw [List.map_append]; exact hb'
          · show ∀ x ∈ l.take (k + 1), ∀ i, LD what (wd x i)
            intro x hx
            rw [List.take_succ_eq_append_getElem hlt] at hx
            rcases List.mem_append.1 hx with hx | hx
            · exact hd x hx
            · rw [List.mem_singleton.1 hx]; exact hdk
          · show _ = plH p q a ((bo, [.int .i64 0, .int .i64 what, .int .i64 a.length]) :: (aa' ++ (ab' ++ (joinK p q).blks (rs ++ [r]) ((l.take (k + 1)).map (jn0 what a.length)))))
            rw [e1]; rfl
        · have hge : k = l.length := by have hge : ¬ (k : Int) < l.length := hge; omega
          subst hge
          rw [List.take_length] at hd
          have hsum := sum_hi hw l a hdom hd
          have hSum := fun σ => aRSum what a l σ ha64 hl64 (by omega) (by omega)
          have hFi := fun st (us : Int) (L : List Jn) σ (h : L.length ≤ 1000000) => aFinF (.fsl (.int .i64) st) us (L.map Jn.ended) σ (by rw [List.length_map]; exact h)
          have hcw : cw (a.length : Int) = a.length := by unfold cw; omega
          by_cases hl0 : l.length = 0
          · obtain ⟨rfl, rfl, rfl, rfl⟩ := hz hl0
            have hrs0 : rs = [] := List.length_eq_zero_iff.1 (hrs.trans hl0)
            have hln : l = [] := List.length_eq_zero_iff.1 hl0
            subst hrs0
            refine callR [] (aRun0 _ p scr _) ?_
            intro rr
            refine StoreAt.mk 0 _ _ rfl rfl ?_
            refine LoadAt.mk 3 _ _ rfl rfl ?_
            have hcs : CSums what a l [] a := by
              have h := cs_first hw hdom hd
              rw [hln] at h ⊢
              exact h
            have hwl : (a).length = a.length := hcs.hn
            have hGet := fun σ => aGet p q a 0 what a.length σ
            rw [hcw, get_all a hwl (by omega)] at hGet
            refine callR [2, 2] (hGet _) ?_
            refine loopS (S := Nat × Nat) (fun s => [(0, .int .i64 what), (1, .fsl (.int .u64) a), (2, .fsl (.slice (.int .u64)) l), (12, .via .nils), (17, .ptr rr 0), (18, .fsl (.int .u64) a), (19, .int .i64 ((64 * s.2 : Nat) : Int)), (20, .int .i64 0), (103, .fsl (.int .u64) a), (104, .int .i64 (a).length), (105, .int .i64 s.1)])
              (fun s => plH p q a ((rr, [.fsl (.int .i64) ([] : List Int), .fsl .bool (List.map Jn.ended ([] : List Jn)), .int .i64 0]) :: [(bo, [.int .i64 0, .int .i64 what, .int .i64 a.length])])) (fun s => s.1 ≤ a.length ∧ s.2 ≤ s.1 ∧ (∀ t, t < s.1 → wd a t ≠ wd a t → 0 < s.2)) (fun s => a.length - s.1) (0, 0) ⟨⟨Nat.zero_le _, Nat.le_refl _, fun t h => absurd h (Nat.not_lt_zero t)⟩, ⟨rfl, rfl, rfl, rfl, rfl, rfl, rfl, rfl, rfl, rfl, rfl, trivial⟩, rfl⟩ ?_
            rintro ⟨i, m⟩ g ⟨hi0, hm0, hr0⟩
            have hi : i ≤ a.length := hi0
            have hm : m ≤ i := hm0
            have hrose : ∀ t, t < i → wd a t ≠ wd a t → 0 < m := hr0
            clear hi0 hm0 hr0
            refine bcond_dec (fun hlt => ?_) (fun hge => ?_)
            · have hlt : i < a.length := by have hlt : (i : Int) < (a).length := hlt; omega
              have hltw : i < (a).length := by omega
              have hlts : i < (sumL what a l).length := by rw [sumL_length]; exact hlt
              have ha1 : a.length ≤ 1000 := by omega
              have hw1 : (a).length ≤ 1000 := by omega
              have hs1 : (sumL what a l).length ≤ 1000 := by rw [sumL_length]; omega
              obtain ⟨hB1, hB2⟩ := cs_word hcs ha64 hl64 (by omega) hlt
              refine .quiet (by kernel_rfl) ?_
              refine With.mk (cut_with i _ hlt ha1) ?_
              refine With.mk (cut_with i _ hltw hw1) ?_
              refine callQ [] (hB1 _) ?_
              refine With.mk (cut_with i _ hltw hw1) ?_
              refine callQ [] (hSum _) ?_
              refine With.mk (cut_with i _ hlts hs1) ?_
              refine callQ [] (hB2 _) ?_
              refine .quiet (by kernel_rfl) ?_
              refine With.mk rfl ?_
              refine IdxF.mk (a)[i] (by omega) (get_some hltw) ?_
              refine With.mk rfl ?_
              refine IdxF.mk a[i] (by omega) (get_some hlt) ?_
              refine bcond_split (fun c1 => ?_) (fun c1 => ?_)
              · have c1 : ¬ ((a)[i] = a[i]) := not_dec_true c1
                refine nextS (i + 1, m + 1) (by show a.length - (i + 1) < a.length - i; omega) ⟨hlt, by show m + 1 ≤ i + 1; omega, fun _ _ _ => Nat.succ_pos m⟩ ⟨rfl, rfl, rfl, rfl, rfl, rfl, ?_, rfl, rfl, rfl, inc64 (by omega), trivial⟩ (shed_eq rfl)
                refine av_int ?_
                show IntKind.i64.wrap (((64 * m : Nat) : Int) + 64) = ((64 * (m + 1) : Nat) : Int)
                rw [IntKind.wrap_i64]; omega
              · have c1 : (a)[i] = a[i] := not_dec_false c1
                refine nextS (i + 1, m) (by show a.length - (i + 1) < a.length - i; omega) ⟨hlt, by show m ≤ i + 1; omega, ?_⟩ ⟨rfl, rfl, rfl, rfl, rfl, rfl, rfl, rfl, rfl, rfl, inc64 (by omega), trivial⟩ (shed_eq rfl)
                intro t ht hne
                by_cases hti : t = i
                · subst hti
                  exact absurd ((wd_at a hltw).trans (c1.trans (wd_at a hlt).symm)) hne
                · exact hrose t (by have ht : t < i + 1 := ht; omega) hne
            · have hge : i = a.length := by have hge : ¬ (i : Int) < (a).length := hge; omega
              subst hge
              refine loopS (S := Unit) (fun _ => [(0, .int .i64 what), (1, .fsl (.int .u64) a), (2, .fsl (.slice (.int .u64)) l), (17, .ptr rr 0), (18, .fsl (.int .u64) a), (19, .int .i64 ((64 * m : Nat) : Int)), (20, .int .i64 0), (151, .via .nils), (152, .int .i64 0), (153, .int .i64 0)])
                (fun _ => plH p q a ((rr, [.fsl (.int .i64) ([] : List Int), .fsl .bool (List.map Jn.ended ([] : List Jn)), .int .i64 0]) :: [(bo, [.int .i64 0, .int .i64 what, .int .i64 a.length])])) (fun _ => True) (fun _ => 0) () ⟨trivial, ⟨rfl, rfl, rfl, rfl, rfl, rfl, rfl, rfl, rfl, rfl, trivial⟩, rfl⟩ ?_
              intro _ g _
              have hFi' := fun σ => hFi ([] : List Int) 0 ([] : List Jn) σ (Nat.zero_le _)
              have hsame : ∀ σ, ACalls Try.prog 20 [.fsl (.int .u64) a, .fsl (.int .u64) (sumL what a l)] σ (Ret (.bool true) σ) := fun σ => by
                have h := same10 a (sumL what a l) σ (by omega)
                rw [decide_eq_true (cs_fin hw hcs hdom hd rfl)] at h
                exact h
              refine LoadAt.mk 2 _ _ rfl rfl ?_
              refine callR [] (hFi' _) ?_
              refine callR [] (hSum _) ?_
              refine callR [] (hsame _) ?_
              exact .done rfl
          · rcases acc_inv ha with ⟨_, _, h⟩ | ⟨la, rfl, rfl⟩
            · exact absurd h hl0
            rcases acc_inv hb with ⟨_, _, h⟩ | ⟨lb, rfl, rfl⟩
            · exact absurd h hl0
            have hrun := aRunJ p q bo la lb hw hdom hd (by omega) (by omega) hf4 rs hrs scr (by omega) [.int .i64 0, .int .i64 what, .int .i64 a.length] (rs.map fun r => .ptr r 0)
            rw [List.take_length]
            refine .mk [] _ hrun ?_
            rintro _ _ ⟨L, ws, st, us, hcs, rfl, rfl⟩
            intro rr
            refine StoreAt.mk 0 _ _ rfl rfl ?_
            refine LoadAt.mk 3 _ _ rfl rfl ?_
            have hwl : (ws).length = a.length := hcs.hn
            have hGet := fun σ => aGet p q ws 0 what a.length σ
            rw [hcw, get_all ws hwl (by omega)] at hGet
            refine callR [2, 2] (hGet _) ?_
            refine loopS (S := Nat × Nat) (fun s => [(0, .int .i64 what), (1, .fsl (.int .u64) a), (2, .fsl (.slice (.int .u64)) l), (12, .via (.mref la 0 l.length 1)), (17, .ptr rr 0), (18, .fsl (.int .u64) ws), (19, .int .i64 ((64 * s.2 : Nat) : Int)), (20, .int .i64 0), (103, .fsl (.int .u64) ws), (104, .int .i64 (ws).length), (105, .int .i64 s.1)])
              (fun s => plH p q ws ((rr, [.fsl (.int .i64) st, .fsl .bool (List.map Jn.ended L), .int .i64 us]) :: ((bo, [.int .i64 0, .int .i64 what, .int .i64 a.length]) :: (la, rs.map fun r => .ptr r 0) :: (lb, rs.map fun r => .iface 90 (.ptr r 0)) :: (joinK p q).blks rs L))) (fun s => s.1 ≤ a.length ∧ s.2 ≤ s.1 ∧ (∀ t, t < s.1 → wd ws t ≠ wd a t → 0 < s.2)) (fun s => a.length - s.1) (0, 0) ⟨⟨Nat.zero_le _, Nat.le_refl _, fun t h => absurd h (Nat.not_lt_zero t)⟩, ⟨rfl, rfl, rfl, rfl, rfl, rfl, rfl, rfl, rfl, rfl, rfl, trivial⟩, rfl⟩ ?_
            rintro ⟨i, m⟩ g ⟨hi0, hm0, hr0⟩
            have hi : i ≤ a.length := hi0
            have hm : m ≤ i := hm0
            have hrose : ∀ t, t < i → wd ws t ≠ wd a t → 0 < m := hr0
            clear hi0 hm0 hr0
            refine bcond_dec (fun hlt => ?_) (fun hge => ?_)
            · have hlt : i < a.length := by have hlt : (i : Int) < (ws).length := hlt; omega
              have hltw : i < (ws).length := by omega
              have hlts : i < (sumL what a l).length := by rw [sumL_length]; exact hlt
              have ha1 : a.length ≤ 1000 := by omega
              have hw1 : (ws).length ≤ 1000 := by omega
              have hs1 : (sumL what a l).length ≤ 1000 := by rw [sumL_length]; omega
              obtain ⟨hB1, hB2⟩ := cs_word hcs ha64 hl64 (by omega) hlt
              refine .quiet (by kernel_rfl) ?_
              refine With.mk (cut_with i _ hlt ha1) ?_
              refine With.mk (cut_with i _ hltw hw1) ?_
              refine callQ [] (hB1 _) ?_
              refine With.mk (cut_with i _ hltw hw1) ?_
              refine callQ [] (hSum _) ?_
              refine With.mk (cut_with i _ hlts hs1) ?_
              refine callQ [] (hB2 _) ?_
              refine .quiet (by kernel_rfl) ?_
              refine With.mk rfl ?_
              refine IdxF.mk (ws)[i] (by omega) (get_some hltw) ?_
              refine With.mk rfl ?_
              refine IdxF.mk a[i] (by omega) (get_some hlt) ?_
              refine bcond_split (fun c1 => ?_) (fun c1 => ?_)
              · have c1 : ¬ ((ws)[i] = a[i]) := not_dec_true c1
                refine nextS (i + 1, m + 1) (by show a.length - (i + 1) < a.length - i; omega) ⟨hlt, by show m + 1 ≤ i + 1; omega, fun _ _ _ => Nat.succ_pos m⟩ ⟨rfl, rfl, rfl, rfl, rfl, rfl, ?_, rfl, rfl, rfl, inc64 (by omega), trivial⟩ (shed_eq rfl)
                refine av_int ?_
                show IntKind.i64.wrap (((64 * m : Nat) : Int) + 64) = ((64 * (m + 1) : Nat) : Int)
                rw [IntKind.wrap_i64]; omega
              · have c1 : (ws)[i] = a[i] := not_dec_false c1
                refine nextS (i + 1, m) (by show a.length - (i + 1) < a.length - i; omega) ⟨hlt, by show m ≤ i + 1; omega, ?_⟩ ⟨rfl, rfl, rfl, rfl, rfl, rfl, rfl, rfl, rfl, rfl, inc64 (by omega), trivial⟩ (shed_eq rfl)
                intro t ht hne
                by_cases hti : t = i
                · subst hti
                  exact absurd ((wd_at ws hltw).trans (c1.trans (wd_at a hlt).symm)) hne
                · exact hrose t (by have ht : t < i + 1 := ht; omega) hne
            · have hge : i = a.length := by have hge : ¬ (i : Int) < (ws).length := hge; omega
              subst hge
              refine loopS (S := Nat × Nat) (fun s => [(0, .int .i64 what), (1, .fsl (.int .u64) a), (2, .fsl (.slice (.int .u64)) l), (17, .ptr rr 0), (18, .fsl (.int .u64) ws), (19, .int .i64 ((64 * m : Nat) : Int)), (20, .int .i64 s.2), (151, .via (.mref la 0 l.length 1)), (152, .int .i64 l.length), (153, .int .i64 s.1)])
                (fun s => plH p q ws ((rr, [.fsl (.int .i64) st, .fsl .bool (List.map Jn.ended L), .int .i64 us]) :: (bo, [.int .i64 0, .int .i64 what, .int .i64 a.length]) :: (la, rs.map fun r => .ptr r 0) :: (lb, rs.map fun r => .iface 90 (.ptr r 0)) :: (joinK p q).blks rs L)) (fun s => s.1 ≤ l.length ∧ s.2 ≤ s.1 ∧ (0 < s.2 → ∃ t, t < a.length ∧ wd ws t ≠ wd a t)) (fun s => l.length - s.1) (0, 0) ⟨⟨Nat.zero_le _, Nat.le_refl _, fun h => absurd h (Nat.lt_irrefl 0)⟩, ⟨rfl, rfl, rfl, rfl, rfl, rfl, rfl, rfl, rfl, rfl, trivial⟩, rfl⟩ ?_
              rintro ⟨j, c⟩ g ⟨hj0, hc0, hch0⟩
              have hj : j ≤ l.length := hj0
              have hc : c ≤ j := hc0
              have hch : 0 < c → ∃ t, t < a.length ∧ wd ws t ≠ wd a t := hch0
              clear hj0 hc0 hch0
              refine bcond_dec (fun hlt => ?_) (fun hge => ?_)
              · have hlt : j < l.length := by have hlt : (j : Int) < l.length := hlt; omega
                have hjL : j < L.length := by rw [hcs.hl]; exact hlt
                have hjr : j < rs.length := by omega
                have hb6 := (joinK p q).blks_at (by rw [hrs, hcs.hl] : rs.length = L.length) hjr hjL
                have hJ := hcs.each j hjL hlt
                have hde : (L.map Jn.ended)[((j : Int)).toNat]? = some L[j].ended := by rw [List.getElem?_map, Int.toNat_natCast, List.getElem?_eq_getElem hjL]; rfl
                refine With.mk ⟨rfl, by omega, by omega⟩ ?_
                refine LoadAt.mk 4 _ (.ptr rs[j] 0) rfl ?_ ?_
                · show (rs.map fun r => AV.ptr r 0)[0 + ((j : Int)).toNat * 1]? = _
                  rw [show 0 + ((j : Int)).toNat * 1 = j by omega, List.getElem?_map, List.getElem?_eq_getElem hjr]; rfl
                cases hcc : L[j].changed with
                | true =>
                  have hch' := hJ.ch hcc
                  cases he : L[j].ended with
                  | true =>
                    refine LoadAt.mk (j + 6) _ (.bool true) hb6 (by show some (AV.bool L[j].changed) = _; rw [hcc]) ?_
                    refine .quiet (by kernel_rfl) ?_
                    refine LoadAt.mk (j + 6) _ (.bool true) hb6 (by show some (AV.bool L[j].ended) = _; rw [he]) ?_
                    refine LoadAt.mk 2 _ _ rfl rfl ?_
                    refine With.mk rfl ?_
                    refine IdxF.mk true (by omega) (hde.trans (congrArg some he)) ?_
                    refine LoadAt.mk (j + 6) _ (.bool true) hb6 (by show some (AV.bool L[j].ended) = _; rw [he]) ?_
                    obtain ⟨hS, hB⟩ := cs_end hw hcs hdom hd ha64 hl64 (by omega) (by omega) hlt hjL he
                    have hl1 : l.length ≤ 1000 := by omega
                    refine With.mk (cut_with j _ hlt hl1) ?_
                    refine callQ [] (hS _) ?_
                    refine callQ [] (hB _) ?_
                    refine nextS (j + 1, c + 1) (by show l.length - (j + 1) < l.length - j; omega) ⟨hlt, by show c + 1 ≤ j + 1; omega, fun _ => hch'⟩ ⟨rfl, rfl, rfl, rfl, rfl, rfl, inc64 (by omega), rfl, rfl, inc64 (by omega), trivial⟩ (shed_eq rfl)
                  | false =>
                    refine LoadAt.mk (j + 6) _ (.bool true) hb6 (by show some (AV.bool L[j].changed) = _; rw [hcc]) ?_
                    refine .quiet (by kernel_rfl) ?_
                    refine LoadAt.mk (j + 6) _ (.bool false) hb6 (by show some (AV.bool L[j].ended) = _; rw [he]) ?_
                    refine LoadAt.mk 2 _ _ rfl rfl ?_
                    refine With.mk rfl ?_
                    refine IdxF.mk false (by omega) (hde.trans (congrArg some he)) ?_
                    refine LoadAt.mk (j + 6) _ (.bool false) hb6 (by show some (AV.bool L[j].ended) = _; rw [he]) ?_
                    refine nextS (j + 1, c + 1) (by show l.length - (j + 1) < l.length - j; omega) ⟨hlt, by show c + 1 ≤ j + 1; omega, fun _ => hch'⟩ ⟨rfl, rfl, rfl, rfl, rfl, rfl, inc64 (by omega), rfl, rfl, inc64 (by omega), trivial⟩ (shed_eq rfl)
                | false =>
                  cases he : L[j].ended with
                  | true =>
                    refine LoadAt.mk (j + 6) _ (.bool false) hb6 (by show some (AV.bool L[j].changed) = _; rw [hcc]) ?_
                    refine .quiet (by kernel_rfl) ?_
                    refine LoadAt.mk (j + 6) _ (.bool true) hb6 (by show some (AV.bool L[j].ended) = _; rw [he]) ?_
                    refine LoadAt.mk 2 _ _ rfl rfl ?_
                    refine With.mk rfl ?_
                    refine IdxF.mk true (by omega) (hde.trans (congrArg some he)) ?_
                    refine LoadAt.mk (j + 6) _ (.bool true) hb6 (by show some (AV.bool L[j].ended) = _; rw [he]) ?_
                    obtain ⟨hS, hB⟩ := cs_end hw hcs hdom hd ha64 hl64 (by omega) (by omega) hlt hjL he
                    have hl1 : l.length ≤ 1000 := by omega
                    refine With.mk (cut_with j _ hlt hl1) ?_
                    refine callQ [] (hS _) ?_
                    refine callQ [] (hB _) ?_
                    refine nextS (j + 1, c) (by show l.length - (j + 1) < l.length - j; omega) ⟨hlt, by show c ≤ j + 1; omega, hch⟩ ⟨rfl, rfl, rfl, rfl, rfl, rfl, rfl, rfl, rfl, inc64 (by omega), trivial⟩ (shed_eq rfl)
                  | false =>
                    refine LoadAt.mk (j + 6) _ (.bool false) hb6 (by show some (AV.bool L[j].changed) = _; rw [hcc]) ?_
                    refine .quiet (by kernel_rfl) ?_
                    refine LoadAt.mk (j + 6) _ (.bool false) hb6 (by show some (AV.bool L[j].ended) = _; rw [he]) ?_
                    refine LoadAt.mk 2 _ _ rfl rfl ?_
                    refine With.mk rfl ?_
                    refine IdxF.mk false (by omega) (hde.trans (congrArg some he)) ?_
                    refine LoadAt.mk (j + 6) _ (.bool false) hb6 (by show some (AV.bool L[j].ended) = _; rw [he]) ?_
                    refine nextS (j + 1, c) (by show l.length - (j + 1) < l.length - j; omega) ⟨hlt, by show c ≤ j + 1; omega, hch⟩ ⟨rfl, rfl, rfl, rfl, rfl, rfl, rfl, rfl, rfl, inc64 (by omega), trivial⟩ (shed_eq rfl)
              · have hge : j = l.length := by have hge : ¬ (j : Int) < l.length := hge; omega
                refine bcond_dec (fun c1 => ?_) (fun c1 => ?_)
                · have c1 : (↑c : Int) ≤ (↑(64 * m) : Int) := c1
                  refine LoadAt.mk 2 _ _ rfl rfl ?_
                  have hFi' := fun σ => hFi st us L σ (by rw [hcs.hl]; omega)
                  cases hfb : (L.map Jn.ended).all id with
                  | false =>
                    rw [hfb] at hFi'
                    refine callR [] (hFi' _) ?_
                    exact .done rfl
                  | true =>
                    rw [hfb] at hFi'
                    have hsame : ∀ σ, ACalls Try.prog 20 [.fsl (.int .u64) ws, .fsl (.int .u64) (sumL what a l)] σ (Ret (.bool true) σ) := fun σ => by
                      have h := same10 ws (sumL what a l) σ (by rw [hwl]; omega)
                      rw [decide_eq_true (cs_fin hw hcs hdom hd hfb)] at h
                      exact h
                    refine callR [] (hFi' _) ?_
                    refine callR [] (hSum _) ?_
                    refine callR [] (hsame _) ?_
                    exact .done rfl
                · have c1 : ¬ ((↑c : Int) ≤ (↑(64 * m) : Int)) := c1
                  refine absurd ?_ c1
                  by_cases hc0 : 0 < c
                  · obtain ⟨t, ht, hne⟩ := hch hc0
                    have := hrose t ht hne
                    omega
                  · omega
end Go.Proofs.Ytiihcgmnmcdcfaa
