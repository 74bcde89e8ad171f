/-
  Whatever machines are run by whatever script, each does its Steps in turn: the program and the document agree on each machine, on the Steps, on who is done, and on the words. (The statement, out of its walk.)
-/
import Derived.Test.YtldiocdjgbehcaaSchA
import Derived.Test.YtldiocdjgbehcaaFacts
import Derived.Test.YtldiocdjgbehcaaLaws
namespace Go.Proofs.Ytldiocdjgbehcaa.schedRuns
open Go.ChangeShapes Go.WideShapes Go.ChangeAt Go.RowKit
theorem k1 : Rows.schedRunsRow.wf (OpenSpec.ofChange Rows.schedRunsSpec) = true := by kernel_rfl
theorem k4 : Try.f16.params.all (Try.prog.readableRec ·) = true := by kernel_rfl
theorem k5 : namedTie Try.prog Rows.schedRunsRow.named Rows.schedRunsSpec.vars = true := by kernel_rfl
theorem k10 : (Rows.schedRunsRow.inPlace == Try.prog.inPlace 16) = true := by kernel_rfl
theorem k11 : (Rows.schedRunsRow.unfollowed == Try.prog.unfollowed 16) = true := by kernel_rfl
theorem k12 : (Rows.schedRunsRow.recurses == Try.prog.recurses 16) = true := by kernel_rfl
theorem k13 : (Rows.schedRunsRow.named == Try.prog.varsNamed 16) = true := by kernel_rfl
theorem k14 : (Rows.schedRunsRow.maps == (Try.f16.params.toList ++ Rows.schedRunsSpec.plain.varTypes Try.prog).any (Try.prog.mapsRec ·)) = true := by kernel_rfl
theorem k15 : (Rows.schedRunsRow.ifaces == (Try.f16.params.toList ++ Rows.schedRunsSpec.plain.varTypes Try.prog).any (Try.prog.ifacesRec ·)) = true := by kernel_rfl
theorem k16 : (Rows.schedRunsRow.mapsOut == Try.prog.mapsAmong Try.f16.resultTypes.toList) = true := by kernel_rfl
theorem k17 : (Rows.schedRunsRow.loops == (Try.f16.params.toList ++ Rows.schedRunsSpec.plain.varTypes Try.prog).any (Try.prog.loopsFrom ·)) = true := by kernel_rfl
theorem k18 : (Rows.schedRunsRow.wideKeys == (Try.f16.params.toList ++ Rows.schedRunsSpec.plain.varTypes Try.prog ++ Try.f16.resultTypes.toList).any (Try.prog.wideKeysFrom ·)) = true := by kernel_rfl
theorem k19 : Rows.schedRunsSpec.vars.all (Try.prog.varReadable ·) = true := by kernel_rfl
theorem k20 : Try.f16.resultTypes.all (fun t => Try.prog.readableRec t && decide (t < Try.prog.types.size)) = true := by kernel_rfl
theorem k21 : (Rows.schedRunsRow.ifacesOut == Try.f16.resultTypes.toList.any (Try.prog.ifacesRec ·)) = true := by kernel_rfl
theorem k22 : (Rows.schedRunsRow.loopsOut == Try.f16.resultTypes.toList.any (Try.prog.loopsFrom ·)) = true := by kernel_rfl
theorem k29 : (Rows.schedRunsRow.kinds == (if Rows.schedRunsRow.domain.isEmpty then [] else Try.f16.params.toList.map fun t => match Try.prog.underlying t with | some (.int k) => some k | _ => none)) = true := by kernel_rfl
theorem k30 : (Rows.schedRunsRow.pinned == Rows.schedRunsRow.pinnedBy) = true := by kernel_rfl
theorem k31 : (Rows.schedRunsRow.veiled == (Try.f16.params.toList ++ Rows.schedRunsSpec.plain.varTypes Try.prog ++ Try.f16.resultTypes.toList).any (Try.prog.veiledRec ·)) = true := by kernel_rfl
theorem k32 : Rows.schedRunsRow.veiledFits Try.prog Try.f16.params.toList (Try.f16.params.toList ++ Rows.schedRunsSpec.plain.varTypes Try.prog ++ Try.f16.resultTypes.toList) = true := by kernel_rfl
theorem hinst : decide (Try.f16.isInstance Try.prog Rows.schedRunsRow.origin Rows.schedRunsRow.targs) = true := by kernel_rfl
set_option maxRecDepth 100000 in
theorem closed : joinedFacts Try.prog 16 Try.f16 Rows.schedRunsSpec Rows.schedRunsRow = true := andI (andI (andI (andI (andI (andI (andI (andI (andI (andI (andI (andI (andI (andI (andI (andI (andI (andI (andI (andI (andI (andI (andI (andI (andI (andI (andI (andI (andI (andI (andI k1 fk2) fk3) k4) k5) (by kernel_rfl)) fk7) (by kernel_rfl)) fk9) k10) k11) k12) k13) k14) k15) k16) k17) k18) k19) k20) k21) k22) fk23) (by kernel_rfl)) fk25) fk26) fk27) fk28) k29) k30) k31) k32

set_option maxRecDepth 100000 in
theorem lifted (os : Os) (started : os.Started) (H : Type) (enc : TypeId × Value → H) :
    ReturnsInHanded {} Try.checked os 16 .any (Rows.schedRunsSpec.pre6 enc Try.prog Try.f16 Rows.schedRunsRow.domain false) (Rows.schedRunsSpec.post enc Try.prog Try.f16 false true false false) := by
  refine returnsInHanded_of_change (C := Try.checked) fown started (by kernel_rfl) Try.func16
    (ChangeSpec.witness6 (enc := enc) (C := Try.checked) false ⟨#[], #[.slice none 0 0, .slice none 0 0], []⟩ 8 (by kernel_rfl) (by kernel_rfl) (by kernel_rfl) (by kernel_rfl)) ?_
  intro W base args ds gs before hval0 hW hcnd _
  have hval : ∀ (j : Nat) t v, Try.f16.params[j]? = some t → args[j]? = some v → Value.okWide Try.prog W .any base t v := hval0
  have hW' := hW
  obtain ⟨p, q, hA0, hV, rfl, hfz, hnd⟩ := hW
  have hA : DataW.TrodAll enc Try.prog W 0 (fun _ => true) true Try.f16.params.toList args.toList ds p := hA0
  rw [Try.params16] at hA hval
  obtain ⟨v0, vs0, d0, ds0, p0, q0, hargs, rfl, rfl, h0, r0⟩ := trodAll_cons hA
  obtain ⟨v1, vs1, d1, ds1, p1, q1, rfl, rfl, rfl, h1, r1⟩ := trodAll_cons r0
  obtain ⟨rfl, rfl, rfl⟩ := trodAll_nil r1
  obtain rfl : args = #[v0, v1] := by cases args; simp_all
  obtain ⟨rfl, rfl⟩ := trodVars_none hV
  have lt0 : ∀ x ∈ p0, x.block < W.heap.size := by obtain ⟨m, hm⟩ := h0; exact DataW.trod_lt m _ _ _ hm
  have t0 := h0
  have lt1 : ∀ x ∈ p1, x.block < W.heap.size := by obtain ⟨m, hm⟩ := h1; exact DataW.trod_lt m _ _ _ hm
  have t1 := h1
  obtain ⟨x0, y0⟩ := reads_arg (.slice (.slice instrSh)) (by kernel_rfl) h0
  obtain ⟨sa0, sn0, sc0, rfl⟩ := okWide_slice Try.underlying150 (hval 0 150 v0 rfl rfl)
  obtain ⟨x1, y1⟩ := reads_arg (.slice (.field (.int .i64) (.field (.int .i64) .nil))) (by kernel_rfl) h1
  obtain ⟨sa1, sn1, sc1, rfl⟩ := okWide_slice Try.underlying151 (hval 1 151 v1 rfl rfl)
  clear hA0 hval0
  refine (law_of (schedRuns_walk x0 x1 (reads_len y0)) (va (vl rfl y0) (va (vl rfl y1) vn))).mono fun e W' ⟨he, bel⟩ => ?_
  subst he
  exact ⟨_, rfl, _, _, _, [], _, [], hW', trodAll_mk1 (shut_bool Try.underlying4 _), (trodAll_cons_mk (Below.trod fk2 (by kernel_rfl) (of_decide_eq_true (by kernel_rfl)) t0 bel lt0) (trodAll_cons_mk (Below.trod fk2 (by kernel_rfl) (of_decide_eq_true (by kernel_rfl)) t1 bel lt1) trodAll_mk0)), rfl, bel.frame _, fun h => by cases h⟩

theorem over : Rows.schedRunsRow.holds Try.pinned (OpenSpec.ofChange Rows.schedRunsSpec) :=
  OpenClaim.holds_of_wide 16 Try.f16 rfl rfl rfl rfl rfl rfl rfl ⟨rfl, rfl, rfl, rfl, rfl⟩ rfl rfl rfl rfl rfl (by kernel_rfl) Try.func16 closed
    (of_decide_eq_true hinst) (by unfold Func.isWrapper; first | (rw [if_pos (by decide +kernel)]; kernel_rfl) | (rw [if_neg (by decide +kernel)]; exact ⟨rfl, rfl⟩))
    (fun os started H enc _ => lifted os started H enc)

theorem proved : Rows.SchedRunsSaid := over
#print axioms proved
end Go.Proofs.Ytldiocdjgbehcaa.schedRuns
