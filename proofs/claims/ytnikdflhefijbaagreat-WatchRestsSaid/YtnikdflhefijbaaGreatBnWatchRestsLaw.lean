import Derived.Test.YtnikdflhefijbaaGreatBn21
namespace Go.Proofs.YtnikdflhefijbaaGreat.watchRests
open Go.ChangeShapes Go.WideShapes Go.ChangeAt Go.RowKit
theorem k1:Rows.watchRestsRow.wf (OpenSpec.ofChange Rows.watchRestsSpec)=true:=by kernel_rfl
theorem k4:Tryz.f9.params.all (Tryz.prog.readableRec ·)=true:=by kernel_rfl
theorem k5:namedTie Tryz.prog Rows.watchRestsRow.named Rows.watchRestsSpec.vars=true:=by kernel_rfl
theorem k10:(Rows.watchRestsRow.inPlace == Tryz.prog.inPlace 9)=true:=by kernel_rfl
theorem k11:(Rows.watchRestsRow.unfollowed == Tryz.prog.unfollowed 9)=true:=by kernel_rfl
theorem k12:(Rows.watchRestsRow.recurses == Tryz.prog.recurses 9)=true:=by kernel_rfl
theorem k13:(Rows.watchRestsRow.named == Tryz.prog.varsNamed 9)=true:=by kernel_rfl
theorem k14:(Rows.watchRestsRow.maps == (Tryz.f9.params.toList++Rows.watchRestsSpec.plain.varTypes Tryz.prog).any (Tryz.prog.mapsRec ·))=true:=by kernel_rfl
theorem k15:(Rows.watchRestsRow.ifaces == (Tryz.f9.params.toList++Rows.watchRestsSpec.plain.varTypes Tryz.prog).any (Tryz.prog.ifacesRec ·))=true:=by kernel_rfl
theorem k16:(Rows.watchRestsRow.mapsOut == Tryz.prog.mapsAmong Tryz.f9.resultTypes.toList)=true:=by kernel_rfl
theorem k17:(Rows.watchRestsRow.loops == (Tryz.f9.params.toList++Rows.watchRestsSpec.plain.varTypes Tryz.prog).any (Tryz.prog.loopsFrom ·))=true:=by kernel_rfl
theorem k18:(Rows.watchRestsRow.wideKeys == (Tryz.f9.params.toList++Rows.watchRestsSpec.plain.varTypes Tryz.prog++Tryz.f9.resultTypes.toList).any (Tryz.prog.wideKeysFrom ·))=true:=by kernel_rfl
theorem k19:Rows.watchRestsSpec.vars.all (Tryz.prog.varReadable ·)=true:=by kernel_rfl
theorem k20:Tryz.f9.resultTypes.all (fun t=>Tryz.prog.readableRec t&&decide (t<Tryz.prog.types.size))=true:=by kernel_rfl
theorem k21:(Rows.watchRestsRow.ifacesOut == Tryz.f9.resultTypes.toList.any (Tryz.prog.ifacesRec ·))=true:=by kernel_rfl
theorem k22:(Rows.watchRestsRow.loopsOut == Tryz.f9.resultTypes.toList.any (Tryz.prog.loopsFrom ·))=true:=by kernel_rfl
theorem k29:(Rows.watchRestsRow.kinds == (if Rows.watchRestsRow.domain.isEmpty then [] else Tryz.f9.params.toList.map fun t=>match Tryz.prog.underlying t with | some (.int k)=>some k | _=>none))=true:=by kernel_rfl
theorem k30:(Rows.watchRestsRow.pinned == Rows.watchRestsRow.pinnedBy)=true:=by kernel_rfl
theorem k31:(Rows.watchRestsRow.veiled == (Tryz.f9.params.toList++Rows.watchRestsSpec.plain.varTypes Tryz.prog++Tryz.f9.resultTypes.toList).any (Tryz.prog.veiledRec ·))=true:=by kernel_rfl
theorem k32:Rows.watchRestsRow.veiledFits Tryz.prog Tryz.f9.params.toList (Tryz.f9.params.toList++Rows.watchRestsSpec.plain.varTypes Tryz.prog++Tryz.f9.resultTypes.toList)=true:=by kernel_rfl
theorem ahf:decide (Tryz.f9.isInstance Tryz.prog Rows.watchRestsRow.origin Rows.watchRestsRow.targs)=true:=by kernel_rfl
set_option maxRecDepth 100000 in
theorem closed:joinedFacts Tryz.prog 9 Tryz.f9 Rows.watchRestsSpec Rows.watchRestsRow=true:=gL (gL (gL (gL (gL (gL (gL (gL (gL (gL (gL (gL (gL (gL (gL (gL (gL (gL (gL (gL (gL (gL (gL (gL (gL (gL (gL (gL (gL (gL (gL k1 KQ) fk3) k4) k5) (by kernel_rfl)) fk7) (by kernel_rfl)) fk9) k10) k11) k12) k13) k14) k15) k16) k17) k18) k19) k20) k21) k22) aiH) (by kernel_rfl)) aiG) aiF) aiE) aiD) k29) k30) k31) k32
set_option maxRecDepth 100000 in
theorem lifted(os:Os)(started:os.Started)(H:Type)(enc:TypeId×Value→H):
  ReturnsInHanded {} Tryz.checked os 9 .any (Rows.watchRestsSpec.pre6 enc Tryz.prog Tryz.f9 Rows.watchRestsRow.domain false) (Rows.watchRestsSpec.post enc Tryz.prog Tryz.f9 false true false false):=by
 refine returnsInHanded_of_change (C:=Tryz.checked) aiB started (by kernel_rfl) Tryz.func9
  (ChangeSpec.witness6 (enc:=enc) (C:=Tryz.checked) false ⟨#[],#[.agg #[.int .i64 0,.int .i64 0,.int .i64 0,.slice none 0 0,.slice none 0 0,.slice none 0 0,.slice none 0 0],.int .i64 0,.slice none 0 0],[]⟩ 8 (by kernel_rfl) (by kernel_rfl) (by kernel_rfl) (by kernel_rfl)) ?_
 intro W base args ds gs before Wm hW hcnd _
 have BJ:∀(j:Nat) t v,Tryz.f9.params[j]?=some t→args[j]?=some v→Value.okWide Tryz.prog W .any base t v:=Wm
 have hW':=hW
 obtain⟨p,q,q9,hV,rfl,Cd,cf⟩:=hW
 have hA:DataW.TrodAll enc Tryz.prog W 0 (fun _=>true) true Tryz.f9.params.toList args.toList ds p:=q9
 rw[Tryz.params9]at hA BJ
 obtain⟨v0,um,d0,ds0,p0,q0,Nu,rfl,rfl,h0,r0⟩:=trodAll_cons hA
 obtain⟨v1,BS,d1,ds1,p1,q1,rfl,rfl,rfl,h1,r1⟩:=trodAll_cons r0
 obtain⟨v2,Jz,d2,ds2,p2,q2,rfl,rfl,rfl,h2,r2⟩:=trodAll_cons r1
 obtain⟨rfl,rfl,rfl⟩:=trodAll_nil r2
 obtain rfl:args = #[v0,v1,v2]:=by cases args;simp_all
 obtain⟨rfl,rfl⟩:=trodVars_none hV
 have lt0:∀x∈p0,x.block<W.heap.size:=by obtain⟨m,hm⟩:=h0;exact DataW.trod_lt m _ _ _ hm
 have t0:=h0
 have lt1:∀x∈p1,x.block<W.heap.size:=by obtain⟨m,hm⟩:=h1;exact DataW.trod_lt m _ _ _ hm
 have t1:=h1
 have lt2:∀x∈p2,x.block<W.heap.size:=by obtain⟨m,hm⟩:=h2;exact DataW.trod_lt m _ _ _ hm
 have t2:=h2
 obtain⟨x0,y0⟩:=RN (Wd) (by kernel_rfl) h0
 obtain⟨cs0,rfl,-⟩:=okWide_struct Tryz.underlying27 (BJ 0 27 v0 rfl rfl)
 obtain⟨a1,rfl,-,-,w1⟩:=open_int Tryz.underlying3 (BJ 1 3 v1 rfl rfl) h1
 obtain⟨x2,y2⟩:=RN ((.slice (.field (.int .i64) (.field (.int .i64) .nil)))) (by kernel_rfl) h2
 obtain⟨sa2,sn2,sc2,rfl⟩:=okWide_slice Tryz.underlying28 (BJ 2 28 v2 rfl rfl)
 clear q9 Wm
 refine (ag4 (XA (ahV x0) a1 x2 (RM y0).1 (RM y0).2) (va (vg rfl y0) (va vi (va (vl rfl y2) vn)))).mono fun e W' ⟨he,KW⟩=>?_
 subst he
 exact⟨_,rfl,_,_,_,[],_,[],hW',trodAll_mk1 (shut_bool Tryz.underlying4 _),(trodAll_cons_mk (Below.trod KQ (by kernel_rfl) (fk (by kernel_rfl)) t0 KW lt0) (trodAll_cons_mk (Below.trod KQ (by kernel_rfl) (fk (by kernel_rfl)) t1 KW lt1) (trodAll_cons_mk (Below.trod KQ (by kernel_rfl) (fk (by kernel_rfl)) t2 KW lt2) trodAll_mk0))),rfl,KW.frame _,fun h=>by cases h⟩
theorem over:Rows.watchRestsRow.holds Tryz.pinned (OpenSpec.ofChange Rows.watchRestsSpec):=
 OpenClaim.holds_of_wide 9 Tryz.f9 rfl rfl rfl rfl rfl rfl rfl ⟨rfl,rfl,rfl,rfl,rfl⟩ rfl rfl rfl rfl rfl (by kernel_rfl) Tryz.func9 closed
  (fk ahf) (by unfold Func.isWrapper;first | (rw[ah (by decide +kernel)];kernel_rfl) | (rw[ag (by decide +kernel)];exact⟨rfl,rfl⟩))
  (fun os started H enc _=>lifted os started H enc)
theorem proved:Rows.WatchRestsSaid:=over
#print axioms proved
end Go.Proofs.YtnikdflhefijbaaGreat.watchRests
