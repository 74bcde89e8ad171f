import Derived.Test.YtnikdflhefijbaaGreatBn53
namespace Go.Proofs.YtnikdflhefijbaaGreat.solveBelow
open Go.ChangeShapes Go.WideShapes Go.ChangeAt Go.RowKit
theorem k1:Rows.solveBelowRow.wf (OpenSpec.ofChange Rows.solveBelowSpec)=true:=by kernel_rfl
theorem k4:Tryz.f4.params.all (Tryz.prog.readableRec ·)=true:=by kernel_rfl
theorem k5:namedTie Tryz.prog Rows.solveBelowRow.named Rows.solveBelowSpec.vars=true:=by kernel_rfl
theorem k10:(Rows.solveBelowRow.inPlace == Tryz.prog.inPlace 4)=true:=by kernel_rfl
theorem k11:(Rows.solveBelowRow.unfollowed == Tryz.prog.unfollowed 4)=true:=by kernel_rfl
theorem k12:(Rows.solveBelowRow.recurses == Tryz.prog.recurses 4)=true:=by kernel_rfl
theorem k13:(Rows.solveBelowRow.named == Tryz.prog.varsNamed 4)=true:=by kernel_rfl
theorem k14:(Rows.solveBelowRow.maps == (Tryz.f4.params.toList++Rows.solveBelowSpec.plain.varTypes Tryz.prog).any (Tryz.prog.mapsRec ·))=true:=by kernel_rfl
theorem k15:(Rows.solveBelowRow.ifaces == (Tryz.f4.params.toList++Rows.solveBelowSpec.plain.varTypes Tryz.prog).any (Tryz.prog.ifacesRec ·))=true:=by kernel_rfl
theorem k16:(Rows.solveBelowRow.mapsOut == Tryz.prog.mapsAmong Tryz.f4.resultTypes.toList)=true:=by kernel_rfl
theorem k17:(Rows.solveBelowRow.loops == (Tryz.f4.params.toList++Rows.solveBelowSpec.plain.varTypes Tryz.prog).any (Tryz.prog.loopsFrom ·))=true:=by kernel_rfl
theorem k18:(Rows.solveBelowRow.wideKeys == (Tryz.f4.params.toList++Rows.solveBelowSpec.plain.varTypes Tryz.prog++Tryz.f4.resultTypes.toList).any (Tryz.prog.wideKeysFrom ·))=true:=by kernel_rfl
theorem k19:Rows.solveBelowSpec.vars.all (Tryz.prog.varReadable ·)=true:=by kernel_rfl
theorem k20:Tryz.f4.resultTypes.all (fun t=>Tryz.prog.readableRec t&&decide (t<Tryz.prog.types.size))=true:=by kernel_rfl
theorem k21:(Rows.solveBelowRow.ifacesOut == Tryz.f4.resultTypes.toList.any (Tryz.prog.ifacesRec ·))=true:=by kernel_rfl
theorem k22:(Rows.solveBelowRow.loopsOut == Tryz.f4.resultTypes.toList.any (Tryz.prog.loopsFrom ·))=true:=by kernel_rfl
theorem k29:(Rows.solveBelowRow.kinds == (if Rows.solveBelowRow.domain.isEmpty then [] else Tryz.f4.params.toList.map fun t=>match Tryz.prog.underlying t with | some (.int k)=>some k | _=>none))=true:=by kernel_rfl
theorem k30:(Rows.solveBelowRow.pinned == Rows.solveBelowRow.pinnedBy)=true:=by kernel_rfl
theorem k31:(Rows.solveBelowRow.veiled == (Tryz.f4.params.toList++Rows.solveBelowSpec.plain.varTypes Tryz.prog++Tryz.f4.resultTypes.toList).any (Tryz.prog.veiledRec ·))=true:=by kernel_rfl
theorem k32:Rows.solveBelowRow.veiledFits Tryz.prog Tryz.f4.params.toList (Tryz.f4.params.toList++Rows.solveBelowSpec.plain.varTypes Tryz.prog++Tryz.f4.resultTypes.toList)=true:=by kernel_rfl
theorem aeV:decide (Tryz.f4.isInstance Tryz.prog Rows.solveBelowRow.origin Rows.solveBelowRow.targs)=true:=by kernel_rfl
set_option maxRecDepth 100000 in
theorem closed:joinedFacts Tryz.prog 4 Tryz.f4 Rows.solveBelowSpec Rows.solveBelowRow=true:=gp (gp (gp (gp (gp (gp (gp (gp (gp (gp (gp (gp (gp (gp (gp (gp (gp (gp (gp (gp (gp (gp (gp (gp (gp (gp (gp (gp (gp (gp (gp k1 ES) fk3) k4) k5) (by kernel_rfl)) fk7) (by kernel_rfl)) fk9) k10) k11) k12) k13) k14) k15) k16) k17) k18) k19) k20) k21) k22) age) (by kernel_rfl)) agd) agc) agb) aga) k29) k30) k31) k32
set_option maxRecDepth 100000 in
theorem lifted(os:Os)(started:os.Started)(H:Type)(enc:TypeId×Value→H):
  ReturnsInHanded {} Tryz.checked os 4 .any (Rows.solveBelowSpec.pre6 enc Tryz.prog Tryz.f4 Rows.solveBelowRow.domain false) (Rows.solveBelowSpec.post enc Tryz.prog Tryz.f4 false true false false):=by
 refine returnsInHanded_of_change (C:=Tryz.checked) ag8 started (by kernel_rfl) Tryz.func4
  (ChangeSpec.witness6 (enc:=enc) (C:=Tryz.checked) false ⟨#[],#[.agg #[.int .i64 0,.int .i64 0,.int .i64 0,.slice none 0 0,.slice none 0 0,.slice none 0 0,.slice none 0 0],.int .i64 0,.slice none 0 0,.int .u16 0],[]⟩ 8 (by kernel_rfl) (by kernel_rfl) (by kernel_rfl) (by kernel_rfl)) ?_
 intro W base args ds gs before UM hW hcnd _
 have yK:∀(j:Nat) t v,Tryz.f4.params[j]?=some t→args[j]?=some v→Value.okWide Tryz.prog W .any base t v:=UM
 have hW':=hW
 obtain⟨p,q,qx,hV,rfl,A3,bZ⟩:=hW
 have hA:DataW.TrodAll enc Tryz.prog W 0 (fun _=>true) true Tryz.f4.params.toList args.toList ds p:=qx
 rw[Tryz.params4]at hA yK
 obtain⟨v0,tB,d0,ds0,p0,q0,Mc,rfl,rfl,h0,r0⟩:=trodAll_cons hA
 obtain⟨v1,AL,d1,ds1,p1,q1,rfl,rfl,rfl,h1,r1⟩:=trodAll_cons r0
 obtain⟨v2,Ic,d2,ds2,p2,q2,rfl,rfl,rfl,h2,r2⟩:=trodAll_cons r1
 obtain⟨v3,vs3,d3,ds3,p3,q3,rfl,rfl,rfl,h3,r3⟩:=trodAll_cons r2
 obtain⟨rfl,rfl,rfl⟩:=trodAll_nil r3
 obtain rfl:args = #[v0,v1,v2,v3]:=by cases args;simp_all
 obtain⟨rfl,rfl⟩:=trodVars_none hV
 have lt0:∀x∈p0,x.block<W.heap.size:=by obtain⟨m,hm⟩:=h0;exact DataW.trod_lt m _ _ _ hm
 have t0:=h0
 have lt1:∀x∈p1,x.block<W.heap.size:=by obtain⟨m,hm⟩:=h1;exact DataW.trod_lt m _ _ _ hm
 have t1:=h1
 have lt2:∀x∈p2,x.block<W.heap.size:=by obtain⟨m,hm⟩:=h2;exact DataW.trod_lt m _ _ _ hm
 have t2:=h2
 have lt3:∀x∈p3,x.block<W.heap.size:=by obtain⟨m,hm⟩:=h3;exact DataW.trod_lt m _ _ _ hm
 have t3:=h3
 obtain⟨x0,y0⟩:=Qv (UE) (by kernel_rfl) h0
 obtain⟨cs0,rfl,-⟩:=okWide_struct Tryz.underlying27 (yK 0 27 v0 rfl rfl)
 obtain⟨a1,rfl,-,-,w1⟩:=open_int Tryz.underlying3 (yK 1 3 v1 rfl rfl) h1
 obtain⟨x2,y2⟩:=Qv ((.slice (.field (.int .i64) (.field (.int .i64) .nil)))) (by kernel_rfl) h2
 obtain⟨sa2,sn2,sc2,rfl⟩:=okWide_slice Tryz.underlying28 (yK 2 28 v2 rfl rfl)
 obtain⟨a3,rfl,-,-,w3⟩:=open_int Tryz.underlying62 (yK 3 62 v3 rfl rfl) h3
 clear qx UM
 refine (adN (VQ (afv x0) a1 x2 a3 (wf_u16 w3).1 (wf_u16 w3).2 (Qu y0).1 (Qu y0).2) (va (vg rfl y0) (va vi (va (vl rfl y2) (va vi vn))))).mono fun e W' ⟨he,EZ⟩=>?_
 subst he
 exact⟨_,rfl,_,_,_,[],_,[],hW',trodAll_mk1 (shut_bool Tryz.underlying4 _),(trodAll_cons_mk (Below.trod ES (by kernel_rfl) (fm (by kernel_rfl)) t0 EZ lt0) (trodAll_cons_mk (Below.trod ES (by kernel_rfl) (fm (by kernel_rfl)) t1 EZ lt1) (trodAll_cons_mk (Below.trod ES (by kernel_rfl) (fm (by kernel_rfl)) t2 EZ lt2) (trodAll_cons_mk (Below.trod ES (by kernel_rfl) (fm (by kernel_rfl)) t3 EZ lt3) trodAll_mk0)))),rfl,EZ.frame _,fun h=>by cases h⟩
theorem over:Rows.solveBelowRow.holds Tryz.pinned (OpenSpec.ofChange Rows.solveBelowSpec):=
 OpenClaim.holds_of_wide 4 Tryz.f4 rfl rfl rfl rfl rfl rfl rfl ⟨rfl,rfl,rfl,rfl,rfl⟩ rfl rfl rfl rfl rfl (by kernel_rfl) Tryz.func4 closed
  (fm aeV) (by unfold Func.isWrapper;first | (rw[ai (by decide +kernel)];kernel_rfl) | (rw[ah (by decide +kernel)];exact⟨rfl,rfl⟩))
  (fun os started H enc _=>lifted os started H enc)
theorem proved:Rows.SolveBelowSaid:=over
#print axioms proved
end Go.Proofs.YtnikdflhefijbaaGreat.solveBelow
