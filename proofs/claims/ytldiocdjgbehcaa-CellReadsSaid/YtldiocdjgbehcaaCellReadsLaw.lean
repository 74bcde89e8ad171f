/-
  What is put into a cell is read from it, Step by Step, and at once: for every number of words and every list of words. (The statement, out of its walk.)
-/
import Derived.Test.YtldiocdjgbehcaaCellA
import Derived.Test.YtldiocdjgbehcaaFacts
import Derived.Test.YtldiocdjgbehcaaLaws
namespace Go.Proofs.Ytldiocdjgbehcaa.cellReads
open Go.ChangeShapes Go.WideShapes Go.ChangeAt Go.RowKit
theorem k1 : Rows.cellReadsRow.wf (OpenSpec.ofChange Rows.cellReadsSpec) = true := by kernel_rfl
theorem k4 : Try.f13.params.all (Try.prog.readableRec ·) = true := by kernel_rfl
theorem k5 : namedTie Try.prog Rows.cellReadsRow.named Rows.cellReadsSpec.vars = true := by kernel_rfl
theorem k10 : (Rows.cellReadsRow.inPlace == Try.prog.inPlace 13) = true := by kernel_rfl
theorem k11 : (Rows.cellReadsRow.unfollowed == Try.prog.unfollowed 13) = true := by kernel_rfl
theorem k12 : (Rows.cellReadsRow.recurses == Try.prog.recurses 13) = true := by kernel_rfl
theorem k13 : (Rows.cellReadsRow.named == Try.prog.varsNamed 13) = true := by kernel_rfl
theorem k14 : (Rows.cellReadsRow.maps == (Try.f13.params.toList ++ Rows.cellReadsSpec.plain.varTypes Try.prog).any (Try.prog.mapsRec ·)) = true := by kernel_rfl
theorem k15 : (Rows.cellReadsRow.ifaces == (Try.f13.params.toList ++ Rows.cellReadsSpec.plain.varTypes Try.prog).any (Try.prog.ifacesRec ·)) = true := by kernel_rfl
theorem k16 : (Rows.cellReadsRow.mapsOut == Try.prog.mapsAmong Try.f13.resultTypes.toList) = true := by kernel_rfl
theorem k17 : (Rows.cellReadsRow.loops == (Try.f13.params.toList ++ Rows.cellReadsSpec.plain.varTypes Try.prog).any (Try.prog.loopsFrom ·)) = true := by kernel_rfl
theorem k18 : (Rows.cellReadsRow.wideKeys == (Try.f13.params.toList ++ Rows.cellReadsSpec.plain.varTypes Try.prog ++ Try.f13.resultTypes.toList).any (Try.prog.wideKeysFrom ·)) = true := by kernel_rfl
theorem k19 : Rows.cellReadsSpec.vars.all (Try.prog.varReadable ·) = true := by kernel_rfl
theorem k20 : Try.f13.resultTypes.all (fun t => Try.prog.readableRec t && decide (t < Try.prog.types.size)) = true := by kernel_rfl
theorem k21 : (Rows.cellReadsRow.ifacesOut == Try.f13.resultTypes.toList.any (Try.prog.ifacesRec ·)) = true := by kernel_rfl
theorem k22 : (Rows.cellReadsRow.loopsOut == Try.f13.resultTypes.toList.any (Try.prog.loopsFrom ·)) = true := by kernel_rfl
theorem k29 : (Rows.cellReadsRow.kinds == (if Rows.cellReadsRow.domain.isEmpty then [] else Try.f13.params.toList.map fun t => match Try.prog.underlying t with | some (.int k) => some k | _ => none)) = true := by kernel_rfl
theorem k30 : (Rows.cellReadsRow.pinned == Rows.cellReadsRow.pinnedBy) = true := by kernel_rfl
theorem k31 : (Rows.cellReadsRow.veiled == (Try.f13.params.toList ++ Rows.cellReadsSpec.plain.varTypes Try.prog ++ Try.f13.resultTypes.toList).any (Try.prog.veiledRec ·)) = true := by kernel_rfl
theorem k32 : Rows.cellReadsRow.veiledFits Try.prog Try.f13.params.toList (Try.f13.params.toList ++ Rows.cellReadsSpec.plain.varTypes Try.prog ++ Try.f13.resultTypes.toList) = true := by kernel_rfl
theorem hinst : decide (Try.f13.isInstance Try.prog Rows.cellReadsRow.origin Rows.cellReadsRow.targs) = true := by kernel_rfl
set_option maxRecDepth 100000 in
theorem closed : joinedFacts Try.prog 13 Try.f13 Rows.cellReadsSpec Rows.cellReadsRow = true := andI (andI (andI (andI (andI (andI (andI (andI (andI (andI (andI (andI (andI (andI (andI (andI (andI (andI (andI (andI (andI (andI (andI (andI (andI (andI (andI (andI (andI (andI (andI k1 fk2) fk3) k4) k5) (by kernel_rfl)) fk7) (by kernel_rfl)) fk9) k10) k11) k12) k13) k14) k15) k16) k17) k18) k19) k20) k21) k22) fk23) (by kernel_rfl)) fk25) fk26) fk27) fk28) k29) k30) k31) k32

set_option maxRecDepth 100000 in
theorem lifted (os : Os) (started : os.Started) (H : Type) (enc : TypeId × Value → H) :
    ReturnsInHanded {} Try.checked os 13 .any (Rows.cellReadsSpec.pre6 enc Try.prog Try.f13 Rows.cellReadsRow.domain false) (Rows.cellReadsSpec.post enc Try.prog Try.f13 false true false false) := by
  refine returnsInHanded_of_change (C := Try.checked) fown started (by kernel_rfl) Try.func13
    (ChangeSpec.witness6 (enc := enc) (C := Try.checked) false ⟨#[], #[.int .i64 0, .slice none 0 0], []⟩ 8 (by kernel_rfl) (by kernel_rfl) (by kernel_rfl) (by kernel_rfl)) ?_
  intro W base args ds gs before hval0 hW hcnd _
  have hval : ∀ (j : Nat) t v, Try.f13.params[j]? = some t → args[j]? = some v → Value.okWide Try.prog W .any base t v := hval0
  have hW' := hW
  obtain ⟨p, q, hA0, hV, rfl, hfz, hnd⟩ := hW
  have hA : DataW.TrodAll enc Try.prog W 0 (fun _ => true) true Try.f13.params.toList args.toList ds p := hA0
  rw [Try.params13] at hA hval
  obtain ⟨v0, vs0, d0, ds0, p0, q0, hargs, rfl, rfl, h0, r0⟩ := trodAll_cons hA
  obtain ⟨v1, vs1, d1, ds1, p1, q1, rfl, rfl, rfl, h1, r1⟩ := trodAll_cons r0
  obtain ⟨rfl, rfl, rfl⟩ := trodAll_nil r1
  obtain rfl : args = #[v0, v1] := by cases args; simp_all
  obtain ⟨rfl, rfl⟩ := trodVars_none hV
  have lt0 : ∀ x ∈ p0, x.block < W.heap.size := by obtain ⟨m, hm⟩ := h0; exact DataW.trod_lt m _ _ _ hm
  have t0 := h0
  have lt1 : ∀ x ∈ p1, x.block < W.heap.size := by obtain ⟨m, hm⟩ := h1; exact DataW.trod_lt m _ _ _ hm
  have t1 := h1
  obtain ⟨a0, rfl, -, -, w0⟩ := open_int Try.underlying3 (hval 0 3 v0 rfl rfl) h0
  obtain ⟨x1, y1⟩ := reads_arg (.slice (.int .u64)) (by kernel_rfl) h1
  obtain ⟨sa1, sn1, sc1, rfl⟩ := okWide_slice Try.underlying40 (hval 1 40 v1 rfl rfl)
  clear hA0 hval0
  refine (law_of (cellReads_walk a0 x1 (fun z hz => wf_u64 ((introw_of y1 rfl).2 z hz))) (va vi (va (vl rfl y1) vn))).mono fun e W' ⟨he, bel⟩ => ?_
  subst he
  exact ⟨_, rfl, _, _, _, [], _, [], hW', trodAll_mk1 (shut_bool Try.underlying4 _), (trodAll_cons_mk (Below.trod fk2 (by kernel_rfl) (of_decide_eq_true (by kernel_rfl)) t0 bel lt0) (trodAll_cons_mk (Below.trod fk2 (by kernel_rfl) (of_decide_eq_true (by kernel_rfl)) t1 bel lt1) trodAll_mk0)), rfl, bel.frame _, fun h => by cases h⟩

theorem over : Rows.cellReadsRow.holds Try.pinned (OpenSpec.ofChange Rows.cellReadsSpec) :=
  OpenClaim.holds_of_wide 13 Try.f13 rfl rfl rfl rfl rfl rfl rfl ⟨rfl, rfl, rfl, rfl, rfl⟩ rfl rfl rfl rfl rfl (by kernel_rfl) Try.func13 closed
    (of_decide_eq_true hinst) (by unfold Func.isWrapper; first | (rw [if_pos (by decide +kernel)]; kernel_rfl) | (rw [if_neg (by decide +kernel)]; exact ⟨rfl, rfl⟩))
    (fun os started H enc _ => lifted os started H enc)

theorem proved : Rows.CellReadsSaid := over
#print axioms proved
end Go.Proofs.Ytldiocdjgbehcaa.cellReads
