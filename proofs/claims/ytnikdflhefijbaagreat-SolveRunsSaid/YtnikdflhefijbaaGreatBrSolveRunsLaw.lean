import Derived.Test.YtnikdflhefijbaaGreatBr21
namespace Go.Proofs.YtnikdflhefijbaaGreat.solveRuns
open Go.ChangeShapes Go.WideShapes Go.ChangeAt Go.RowKit
theorem k1:Rows.solveRunsRow.wf (OpenSpec.ofChange Rows.solveRunsSpec)=true:=by kernel_rfl
theorem k4:Tryz.f3.params.all (Tryz.prog.readableRec ·)=true:=by kernel_rfl
theorem k5:namedTie Tryz.prog Rows.solveRunsRow.named Rows.solveRunsSpec.vars=true:=by kernel_rfl
theorem k10:(Rows.solveRunsRow.inPlace == Tryz.prog.inPlace 3)=true:=by kernel_rfl
theorem k11:(Rows.solveRunsRow.unfollowed == Tryz.prog.unfollowed 3)=true:=by kernel_rfl
theorem k12:(Rows.solveRunsRow.recurses == Tryz.prog.recurses 3)=true:=by kernel_rfl
theorem k13:(Rows.solveRunsRow.named == Tryz.prog.varsNamed 3)=true:=by kernel_rfl
theorem k14:(Rows.solveRunsRow.maps == (Tryz.f3.params.toList++Rows.solveRunsSpec.plain.varTypes Tryz.prog).any (Tryz.prog.mapsRec ·))=true:=by kernel_rfl
theorem k15:(Rows.solveRunsRow.ifaces == (Tryz.f3.params.toList++Rows.solveRunsSpec.plain.varTypes Tryz.prog).any (Tryz.prog.ifacesRec ·))=true:=by kernel_rfl
theorem k16:(Rows.solveRunsRow.mapsOut == Tryz.prog.mapsAmong Tryz.f3.resultTypes.toList)=true:=by kernel_rfl
theorem k17:(Rows.solveRunsRow.loops == (Tryz.f3.params.toList++Rows.solveRunsSpec.plain.varTypes Tryz.prog).any (Tryz.prog.loopsFrom ·))=true:=by kernel_rfl
theorem k18:(Rows.solveRunsRow.wideKeys == (Tryz.f3.params.toList++Rows.solveRunsSpec.plain.varTypes Tryz.prog++Tryz.f3.resultTypes.toList).any (Tryz.prog.wideKeysFrom ·))=true:=by kernel_rfl
theorem k19:Rows.solveRunsSpec.vars.all (Tryz.prog.varReadable ·)=true:=by kernel_rfl
theorem k20:Tryz.f3.resultTypes.all (fun t=>Tryz.prog.readableRec t&&decide (t<Tryz.prog.types.size))=true:=by kernel_rfl
theorem k21:(Rows.solveRunsRow.ifacesOut == Tryz.f3.resultTypes.toList.any (Tryz.prog.ifacesRec ·))=true:=by kernel_rfl
theorem k22:(Rows.solveRunsRow.loopsOut == Tryz.f3.resultTypes.toList.any (Tryz.prog.loopsFrom ·))=true:=by kernel_rfl
theorem k29:(Rows.solveRunsRow.kinds == (if Rows.solveRunsRow.domain.isEmpty then [] else Tryz.f3.params.toList.map fun t=>match Tryz.prog.underlying t with | some (.int k)=>some k | _=>none))=true:=by kernel_rfl
theorem k30:(Rows.solveRunsRow.pinned == Rows.solveRunsRow.pinnedBy)=true:=by kernel_rfl
theorem k31:(Rows.solveRunsRow.veiled == (Tryz.f3.params.toList++Rows.solveRunsSpec.plain.varTypes Tryz.prog++Tryz.f3.resultTypes.toList).any (Tryz.prog.veiledRec ·))=true:=by kernel_rfl
theorem k32:Rows.solveRunsRow.veiledFits Tryz.prog Tryz.f3.params.toList (Tryz.f3.params.toList++Rows.solveRunsSpec.plain.varTypes Tryz.prog++Tryz.f3.resultTypes.toList)=true:=by kernel_rfl
theorem acL:decide (Tryz.f3.isInstance Tryz.prog Rows.solveRunsRow.origin Rows.solveRunsRow.targs)=true:=by kernel_rfl
set_option maxRecDepth 100000 in
theorem closed:joinedFacts Tryz.prog 3 Tryz.f3 Rows.solveRunsSpec Rows.solveRunsRow=true:=gA (gA (gA (gA (gA (gA (gA (gA (gA (gA (gA (gA (gA (gA (gA (gA (gA (gA (gA (gA (gA (gA (gA (gA (gA (gA (gA (gA (gA (gA (gA k1 Hc) fk3) k4) k5) (by kernel_rfl)) fk7) (by kernel_rfl)) fk9) k10) k11) k12) k13) k14) k15) k16) k17) k18) k19) k20) k21) k22) aep) (by kernel_rfl)) aeo) aen) aem) ael) k29) k30) k31) k32
set_option maxRecDepth 100000 in
theorem lifted(os:Os)(started:os.Started)(H:Type)(enc:TypeId×Value→H):
  ReturnsInHanded {} Tryz.checked os 3 .any (Rows.solveRunsSpec.pre6 enc Tryz.prog Tryz.f3 Rows.solveRunsRow.domain false) (Rows.solveRunsSpec.post enc Tryz.prog Tryz.f3 false true false false):=by
 refine returnsInHanded_of_change (C:=Tryz.checked) aej started (by kernel_rfl) Tryz.func3
  (ChangeSpec.witness6 (enc:=enc) (C:=Tryz.checked) false ⟨#[],#[.agg #[.int .i64 0,.int .i64 0,.int .i64 0,.slice none 0 0,.slice none 0 0,.slice none 0 0,.slice none 0 0],.int .i64 0,.slice none 0 0],[]⟩ 8 (by kernel_rfl) (by kernel_rfl) (by kernel_rfl) (by kernel_rfl)) ?_
 intro W base args ds gs before R9 hW hcnd _
 have FP:∀(j:Nat) t v,Tryz.f3.params[j]?=some t→args[j]?=some v→Value.okWide Tryz.prog W .any base t v:=R9
 have hW':=hW
 obtain⟨p,q,p8,hV,rfl,z8,ck⟩:=hW
 have hA:DataW.TrodAll enc Tryz.prog W 0 (fun _=>true) true Tryz.f3.params.toList args.toList ds p:=p8
 rw[Tryz.params3]at hA FP
 obtain⟨v0,sP,d0,ds0,p0,q0,JJ,rfl,rfl,h0,r0⟩:=trodAll_cons hA
 obtain⟨v1,zL,d1,ds1,p1,q1,rfl,rfl,rfl,h1,r1⟩:=trodAll_cons r0
 obtain⟨v2,Gf,d2,ds2,p2,q2,rfl,rfl,rfl,h2,r2⟩:=trodAll_cons r1
 obtain⟨rfl,rfl,rfl⟩:=trodAll_nil r2
 obtain rfl:args = #[v0,v1,v2]:=by cases args;simp_all
 obtain⟨rfl,rfl⟩:=trodVars_none hV
 have lt0:∀x∈p0,x.block<W.heap.size:=by obtain⟨m,hm⟩:=h0;exact DataW.trod_lt m _ _ _ hm
 have t0:=h0
 have lt1:∀x∈p1,x.block<W.heap.size:=by obtain⟨m,hm⟩:=h1;exact DataW.trod_lt m _ _ _ hm
 have t1:=h1
 have lt2:∀x∈p2,x.block<W.heap.size:=by obtain⟨m,hm⟩:=h2;exact DataW.trod_lt m _ _ _ hm
 have t2:=h2
 obtain⟨x0,y0⟩:=N2 (RW) (by kernel_rfl) h0
 obtain⟨cs0,rfl,-⟩:=okWide_struct Tryz.underlying27 (FP 0 27 v0 rfl rfl)
 obtain⟨a1,rfl,-,-,w1⟩:=open_int Tryz.underlying3 (FP 1 3 v1 rfl rfl) h1
 obtain⟨x2,y2⟩:=N2 ((.slice (.field (.int .i64) (.field (.int .i64) .nil)))) (by kernel_rfl) h2
 obtain⟨sa2,sn2,sc2,rfl⟩:=okWide_slice Tryz.underlying28 (FP 2 28 v2 rfl rfl)
 clear p8 R9
 refine (abv (Ts (adw x0) a1 x2 (N1 y0).1 (N1 y0).2) (va (vg rfl y0) (va vi (va (vl rfl y2) vn)))).mono fun e W' ⟨he,Hg⟩=>?_
 subst he
 exact⟨_,rfl,_,_,_,[],_,[],hW',trodAll_mk1 (shut_bool Tryz.underlying4 _),(trodAll_cons_mk (Below.trod Hc (by kernel_rfl) (fk (by kernel_rfl)) t0 Hg lt0) (trodAll_cons_mk (Below.trod Hc (by kernel_rfl) (fk (by kernel_rfl)) t1 Hg lt1) (trodAll_cons_mk (Below.trod Hc (by kernel_rfl) (fk (by kernel_rfl)) t2 Hg lt2) trodAll_mk0))),rfl,Hg.frame _,fun h=>by cases h⟩
theorem over:Rows.solveRunsRow.holds Tryz.pinned (OpenSpec.ofChange Rows.solveRunsSpec):=
 OpenClaim.holds_of_wide 3 Tryz.f3 rfl rfl rfl rfl rfl rfl rfl ⟨rfl,rfl,rfl,rfl,rfl⟩ rfl rfl rfl rfl rfl (by kernel_rfl) Tryz.func3 closed
  (fk acL) (by unfold Func.isWrapper;first | (rw[az (by decide +kernel)];kernel_rfl) | (rw[aA (by decide +kernel)];exact⟨rfl,rfl⟩))
  (fun os started H enc _=>lifted os started H enc)
theorem proved:Rows.SolveRunsSaid:=over
#print axioms proved
end Go.Proofs.YtnikdflhefijbaaGreat.solveRuns
