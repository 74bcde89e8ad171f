import Derived.Test.YtnikdflhefijbaaGreatBn21
namespace Go.Proofs.YtnikdflhefijbaaGreat.solveLeast
open Go.ChangeShapes Go.WideShapes Go.ChangeAt Go.RowKit
theorem k1:Rows.solveLeastRow.wf (OpenSpec.ofChange Rows.solveLeastSpec)=true:=by kernel_rfl
theorem k4:Tryz.f5.params.all (Tryz.prog.readableRec ·)=true:=by kernel_rfl
theorem k5:namedTie Tryz.prog Rows.solveLeastRow.named Rows.solveLeastSpec.vars=true:=by kernel_rfl
theorem k10:(Rows.solveLeastRow.inPlace == Tryz.prog.inPlace 5)=true:=by kernel_rfl
theorem k11:(Rows.solveLeastRow.unfollowed == Tryz.prog.unfollowed 5)=true:=by kernel_rfl
theorem k12:(Rows.solveLeastRow.recurses == Tryz.prog.recurses 5)=true:=by kernel_rfl
theorem k13:(Rows.solveLeastRow.named == Tryz.prog.varsNamed 5)=true:=by kernel_rfl
theorem k14:(Rows.solveLeastRow.maps == (Tryz.f5.params.toList++Rows.solveLeastSpec.plain.varTypes Tryz.prog).any (Tryz.prog.mapsRec ·))=true:=by kernel_rfl
theorem k15:(Rows.solveLeastRow.ifaces == (Tryz.f5.params.toList++Rows.solveLeastSpec.plain.varTypes Tryz.prog).any (Tryz.prog.ifacesRec ·))=true:=by kernel_rfl
theorem k16:(Rows.solveLeastRow.mapsOut == Tryz.prog.mapsAmong Tryz.f5.resultTypes.toList)=true:=by kernel_rfl
theorem k17:(Rows.solveLeastRow.loops == (Tryz.f5.params.toList++Rows.solveLeastSpec.plain.varTypes Tryz.prog).any (Tryz.prog.loopsFrom ·))=true:=by kernel_rfl
theorem k18:(Rows.solveLeastRow.wideKeys == (Tryz.f5.params.toList++Rows.solveLeastSpec.plain.varTypes Tryz.prog++Tryz.f5.resultTypes.toList).any (Tryz.prog.wideKeysFrom ·))=true:=by kernel_rfl
theorem k19:Rows.solveLeastSpec.vars.all (Tryz.prog.varReadable ·)=true:=by kernel_rfl
theorem k20:Tryz.f5.resultTypes.all (fun t=>Tryz.prog.readableRec t&&decide (t<Tryz.prog.types.size))=true:=by kernel_rfl
theorem k21:(Rows.solveLeastRow.ifacesOut == Tryz.f5.resultTypes.toList.any (Tryz.prog.ifacesRec ·))=true:=by kernel_rfl
theorem k22:(Rows.solveLeastRow.loopsOut == Tryz.f5.resultTypes.toList.any (Tryz.prog.loopsFrom ·))=true:=by kernel_rfl
theorem k29:(Rows.solveLeastRow.kinds == (if Rows.solveLeastRow.domain.isEmpty then [] else Tryz.f5.params.toList.map fun t=>match Tryz.prog.underlying t with | some (.int k)=>some k | _=>none))=true:=by kernel_rfl
theorem k30:(Rows.solveLeastRow.pinned == Rows.solveLeastRow.pinnedBy)=true:=by kernel_rfl
theorem k31:(Rows.solveLeastRow.veiled == (Tryz.f5.params.toList++Rows.solveLeastSpec.plain.varTypes Tryz.prog++Tryz.f5.resultTypes.toList).any (Tryz.prog.veiledRec ·))=true:=by kernel_rfl
theorem k32:Rows.solveLeastRow.veiledFits Tryz.prog Tryz.f5.params.toList (Tryz.f5.params.toList++Rows.solveLeastSpec.plain.varTypes Tryz.prog++Tryz.f5.resultTypes.toList)=true:=by kernel_rfl
theorem af7:decide (Tryz.f5.isInstance Tryz.prog Rows.solveLeastRow.origin Rows.solveLeastRow.targs)=true:=by kernel_rfl
set_option maxRecDepth 100000 in
theorem closed:joinedFacts Tryz.prog 5 Tryz.f5 Rows.solveLeastSpec Rows.solveLeastRow=true:=gA (gA (gA (gA (gA (gA (gA (gA (gA (gA (gA (gA (gA (gA (gA (gA (gA (gA (gA (gA (gA (gA (gA (gA (gA (gA (gA (gA (gA (gA (gA k1 Fc) fk3) k4) k5) (by kernel_rfl)) fk7) (by kernel_rfl)) fk9) k10) k11) k12) k13) k14) k15) k16) k17) k18) k19) k20) k21) k22) agp) (by kernel_rfl)) ago) agn) agm) agl) k29) k30) k31) k32
set_option maxRecDepth 100000 in
theorem lifted(os:Os)(started:os.Started)(H:Type)(enc:TypeId×Value→H):
  ReturnsInHanded {} Tryz.checked os 5 .any (Rows.solveLeastSpec.pre6 enc Tryz.prog Tryz.f5 Rows.solveLeastRow.domain false) (Rows.solveLeastSpec.post enc Tryz.prog Tryz.f5 false true false false):=by
 refine returnsInHanded_of_change (C:=Tryz.checked) agj started (by kernel_rfl) Tryz.func5
  (ChangeSpec.witness6 (enc:=enc) (C:=Tryz.checked) false ⟨#[],#[.agg #[.int .i64 0,.int .i64 0,.int .i64 0,.slice none 0 0,.slice none 0 0,.slice none 0 0,.slice none 0 0],.int .i64 0,.slice none 0 0,.slice none 0 0],[]⟩ 8 (by kernel_rfl) (by kernel_rfl) (by kernel_rfl) (by kernel_rfl)) ?_
 intro W base args ds gs before UQ hW hcnd _
 have yR:∀(j:Nat) t v,Tryz.f5.params[j]?=some t→args[j]?=some v→Value.okWide Tryz.prog W .any base t v:=UQ
 have hW':=hW
 obtain⟨p,q,lU,hV,rfl,Bl,ca⟩:=hW
 have hA:DataW.TrodAll enc Tryz.prog W 0 (fun _=>true) true Tryz.f5.params.toList args.toList ds p:=lU
 rw[Tryz.params5]at hA yR
 obtain⟨v0,tD,d0,ds0,p0,q0,Mi,rfl,rfl,h0,r0⟩:=trodAll_cons hA
 obtain⟨v1,A4,d1,ds1,p1,q1,rfl,rfl,rfl,h1,r1⟩:=trodAll_cons r0
 obtain⟨v2,Ix,d2,ds2,p2,q2,rfl,rfl,rfl,h2,r2⟩:=trodAll_cons r1
 obtain⟨v3,vs3,d3,ds3,p3,q3,rfl,rfl,rfl,h3,r3⟩:=trodAll_cons r2
 obtain⟨rfl,rfl,rfl⟩:=trodAll_nil r3
 obtain rfl:args = #[v0,v1,v2,v3]:=by cases args;simp_all
 obtain⟨rfl,rfl⟩:=trodVars_none hV
 have lt0:∀x∈p0,x.block<W.heap.size:=by obtain⟨m,hm⟩:=h0;exact DataW.trod_lt m _ _ _ hm
 have t0:=h0
 have lt1:∀x∈p1,x.block<W.heap.size:=by obtain⟨m,hm⟩:=h1;exact DataW.trod_lt m _ _ _ hm
 have t1:=h1
 have lt2:∀x∈p2,x.block<W.heap.size:=by obtain⟨m,hm⟩:=h2;exact DataW.trod_lt m _ _ _ hm
 have t2:=h2
 have lt3:∀x∈p3,x.block<W.heap.size:=by obtain⟨m,hm⟩:=h3;exact DataW.trod_lt m _ _ _ hm
 have t3:=h3
 obtain⟨x0,y0⟩:=Ki (UI) (by kernel_rfl) h0
 obtain⟨cs0,rfl,-⟩:=okWide_struct Tryz.underlying27 (yR 0 27 v0 rfl rfl)
 obtain⟨a1,rfl,-,-,w1⟩:=open_int Tryz.underlying3 (yR 1 3 v1 rfl rfl) h1
 obtain⟨x2,y2⟩:=Ki ((.slice (.field (.int .i64) (.field (.int .i64) .nil)))) (by kernel_rfl) h2
 obtain⟨sa2,sn2,sc2,rfl⟩:=okWide_slice Tryz.underlying28 (yR 2 28 v2 rfl rfl)
 obtain⟨x3,y3⟩:=Ki ((.slice (.int .i64))) (by kernel_rfl) h3
 obtain⟨sa3,sn3,sc3,rfl⟩:=okWide_slice Tryz.underlying23 (yR 3 23 v3 rfl rfl)
 clear lU UQ
 refine (ae1 (VQ (afD x0) a1 x2 x3 (Qy y0).1 (Qy y0).2) (va (vg rfl y0) (va vi (va (vl rfl y2) (va (vl rfl y3) vn))))).mono fun e W' ⟨he,Fk⟩=>?_
 subst he
 exact⟨_,rfl,_,_,_,[],_,[],hW',trodAll_mk1 (shut_bool Tryz.underlying4 _),(trodAll_cons_mk (Below.trod Fc (by kernel_rfl) (fA (by kernel_rfl)) t0 Fk lt0) (trodAll_cons_mk (Below.trod Fc (by kernel_rfl) (fA (by kernel_rfl)) t1 Fk lt1) (trodAll_cons_mk (Below.trod Fc (by kernel_rfl) (fA (by kernel_rfl)) t2 Fk lt2) (trodAll_cons_mk (Below.trod Fc (by kernel_rfl) (fA (by kernel_rfl)) t3 Fk lt3) trodAll_mk0)))),rfl,Fk.frame _,fun h=>by cases h⟩
theorem over:Rows.solveLeastRow.holds Tryz.pinned (OpenSpec.ofChange Rows.solveLeastSpec):=
 OpenClaim.holds_of_wide 5 Tryz.f5 rfl rfl rfl rfl rfl rfl rfl ⟨rfl,rfl,rfl,rfl,rfl⟩ rfl rfl rfl rfl rfl (by kernel_rfl) Tryz.func5 closed
  (fA af7) (by unfold Func.isWrapper;first | (rw[ah (by decide +kernel)];kernel_rfl) | (rw[ag (by decide +kernel)];exact⟨rfl,rfl⟩))
  (fun os started H enc _=>lifted os started H enc)
theorem proved:Rows.SolveLeastSaid:=over
#print axioms proved
end Go.Proofs.YtnikdflhefijbaaGreat.solveLeast
