import Derived.Test.YtnikdflhefijbaaGreatBq21
namespace Go.Proofs.YtnikdflhefijbaaGreat.boundEnds
open Go.ChangeShapes Go.WideShapes Go.ChangeAt Go.RowKit
theorem k1:Rows.boundEndsRow.wf (OpenSpec.ofChange Rows.boundEndsSpec)=true:=by kernel_rfl
theorem k4:Tryz.f7.params.all (Tryz.prog.readableRec ·)=true:=by kernel_rfl
theorem k5:namedTie Tryz.prog Rows.boundEndsRow.named Rows.boundEndsSpec.vars=true:=by kernel_rfl
theorem k10:(Rows.boundEndsRow.inPlace == Tryz.prog.inPlace 7)=true:=by kernel_rfl
theorem k11:(Rows.boundEndsRow.unfollowed == Tryz.prog.unfollowed 7)=true:=by kernel_rfl
theorem k12:(Rows.boundEndsRow.recurses == Tryz.prog.recurses 7)=true:=by kernel_rfl
theorem k13:(Rows.boundEndsRow.named == Tryz.prog.varsNamed 7)=true:=by kernel_rfl
theorem k14:(Rows.boundEndsRow.maps == (Tryz.f7.params.toList++Rows.boundEndsSpec.plain.varTypes Tryz.prog).any (Tryz.prog.mapsRec ·))=true:=by kernel_rfl
theorem k15:(Rows.boundEndsRow.ifaces == (Tryz.f7.params.toList++Rows.boundEndsSpec.plain.varTypes Tryz.prog).any (Tryz.prog.ifacesRec ·))=true:=by kernel_rfl
theorem k16:(Rows.boundEndsRow.mapsOut == Tryz.prog.mapsAmong Tryz.f7.resultTypes.toList)=true:=by kernel_rfl
theorem k17:(Rows.boundEndsRow.loops == (Tryz.f7.params.toList++Rows.boundEndsSpec.plain.varTypes Tryz.prog).any (Tryz.prog.loopsFrom ·))=true:=by kernel_rfl
theorem k18:(Rows.boundEndsRow.wideKeys == (Tryz.f7.params.toList++Rows.boundEndsSpec.plain.varTypes Tryz.prog++Tryz.f7.resultTypes.toList).any (Tryz.prog.wideKeysFrom ·))=true:=by kernel_rfl
theorem k19:Rows.boundEndsSpec.vars.all (Tryz.prog.varReadable ·)=true:=by kernel_rfl
theorem k20:Tryz.f7.resultTypes.all (fun t=>Tryz.prog.readableRec t&&decide (t<Tryz.prog.types.size))=true:=by kernel_rfl
theorem k21:(Rows.boundEndsRow.ifacesOut == Tryz.f7.resultTypes.toList.any (Tryz.prog.ifacesRec ·))=true:=by kernel_rfl
theorem k22:(Rows.boundEndsRow.loopsOut == Tryz.f7.resultTypes.toList.any (Tryz.prog.loopsFrom ·))=true:=by kernel_rfl
theorem k29:(Rows.boundEndsRow.kinds == (if Rows.boundEndsRow.domain.isEmpty then [] else Tryz.f7.params.toList.map fun t=>match Tryz.prog.underlying t with | some (.int k)=>some k | _=>none))=true:=by kernel_rfl
theorem k30:(Rows.boundEndsRow.pinned == Rows.boundEndsRow.pinnedBy)=true:=by kernel_rfl
theorem k31:(Rows.boundEndsRow.veiled == (Tryz.f7.params.toList++Rows.boundEndsSpec.plain.varTypes Tryz.prog++Tryz.f7.resultTypes.toList).any (Tryz.prog.veiledRec ·))=true:=by kernel_rfl
theorem k32:Rows.boundEndsRow.veiledFits Tryz.prog Tryz.f7.params.toList (Tryz.f7.params.toList++Rows.boundEndsSpec.plain.varTypes Tryz.prog++Tryz.f7.resultTypes.toList)=true:=by kernel_rfl
theorem aim:decide (Tryz.f7.isInstance Tryz.prog Rows.boundEndsRow.origin Rows.boundEndsRow.targs)=true:=by kernel_rfl
set_option maxRecDepth 100000 in
theorem closed:joinedFacts Tryz.prog 7 Tryz.f7 Rows.boundEndsSpec Rows.boundEndsRow=true:=gN (gN (gN (gN (gN (gN (gN (gN (gN (gN (gN (gN (gN (gN (gN (gN (gN (gN (gN (gN (gN (gN (gN (gN (gN (gN (gN (gN (gN (gN (gN k1 Lj) fk3) k4) k5) (by kernel_rfl)) fk7) (by kernel_rfl)) fk9) k10) k11) k12) k13) k14) k15) k16) k17) k18) k19) k20) k21) k22) ajH) (by kernel_rfl)) ajG) ajF) ajE) ajD) k29) k30) k31) k32
set_option maxRecDepth 100000 in
theorem lifted(os:Os)(started:os.Started)(H:Type)(enc:TypeId×Value→H):
  ReturnsInHanded {} Tryz.checked os 7 .any (Rows.boundEndsSpec.pre6 enc Tryz.prog Tryz.f7 Rows.boundEndsRow.domain false) (Rows.boundEndsSpec.post enc Tryz.prog Tryz.f7 false true false false):=by
 refine returnsInHanded_of_change (C:=Tryz.checked) ajB started (by kernel_rfl) Tryz.func7
  (ChangeSpec.witness6 (enc:=enc) (C:=Tryz.checked) false ⟨#[],#[.agg #[.int .i64 0,.int .i64 0,.int .i64 0,.slice none 0 0,.slice none 0 0,.slice none 0 0,.slice none 0 0],.int .i64 0,.slice none 0 0],[]⟩ 8 (by kernel_rfl) (by kernel_rfl) (by kernel_rfl) (by kernel_rfl)) ?_
 intro W base args ds gs before Xk hW hcnd _;have Cg:∀(j:Nat) t v,Tryz.f7.params[j]?=some t→args[j]?=some v→Value.okWide Tryz.prog W .any base t v:=Xk;have hW':=hW;obtain⟨p,q,mu,hV,rfl,CI,cg⟩:=hW;have hA:DataW.TrodAll enc Tryz.prog W 0 (fun _=>true) true Tryz.f7.params.toList args.toList ds p:=mu;rw[Tryz.params7]at hA Cg;obtain⟨v0,uX,d0,ds0,p0,q0,Ob,rfl,rfl,h0,r0⟩:=trodAll_cons hA;obtain⟨v1,Cn,d1,ds1,p1,q1,rfl,rfl,rfl,h1,r1⟩:=trodAll_cons r0;obtain⟨v2,J8,d2,ds2,p2,q2,rfl,rfl,rfl,h2,r2⟩:=trodAll_cons r1;obtain⟨rfl,rfl,rfl⟩:=trodAll_nil r2;obtain rfl:args = #[v0,v1,v2]:=by cases args;simp_all
 obtain⟨rfl,rfl⟩:=trodVars_none hV;have lt0:∀x∈p0,x.block<W.heap.size:=by obtain⟨m,hm⟩:=h0;exact DataW.trod_lt m _ _ _ hm
 have t0:=h0;have lt1:∀x∈p1,x.block<W.heap.size:=by obtain⟨m,hm⟩:=h1;exact DataW.trod_lt m _ _ _ hm
 have t1:=h1;have lt2:∀x∈p2,x.block<W.heap.size:=by obtain⟨m,hm⟩:=h2;exact DataW.trod_lt m _ _ _ hm
 have t2:=h2;obtain⟨x0,y0⟩:=SH (Xc) (by kernel_rfl) h0;obtain⟨cs0,rfl,-⟩:=okWide_struct Tryz.underlying27 (Cg 0 27 v0 rfl rfl);obtain⟨a1,rfl,-,-,w1⟩:=open_int Tryz.underlying3 (Cg 1 3 v1 rfl rfl) h1;obtain⟨x2,y2⟩:=SH ((.slice (.int .i64))) (by kernel_rfl) h2;obtain⟨sa2,sn2,sc2,rfl⟩:=okWide_slice Tryz.underlying23 (Cg 2 23 v2 rfl rfl);clear mu Xk;refine (aha (Yt (aiZ x0) a1 x2 (SG y0).1 (SG y0).2) (va (vg rfl y0) (va vi (va (vl rfl y2) vn)))).mono fun e W' ⟨he,Lm⟩=>?_;subst he;exact⟨_,rfl,_,_,_,[],_,[],hW',trodAll_mk1 (shut_bool Tryz.underlying4 _),(trodAll_cons_mk (Below.trod Lj (by kernel_rfl) (fP (by kernel_rfl)) t0 Lm lt0) (trodAll_cons_mk (Below.trod Lj (by kernel_rfl) (fP (by kernel_rfl)) t1 Lm lt1) (trodAll_cons_mk (Below.trod Lj (by kernel_rfl) (fP (by kernel_rfl)) t2 Lm lt2) trodAll_mk0))),rfl,Lm.frame _,fun h=>by cases h⟩
theorem over:Rows.boundEndsRow.holds Tryz.pinned (OpenSpec.ofChange Rows.boundEndsSpec):=
 OpenClaim.holds_of_wide 7 Tryz.f7 rfl rfl rfl rfl rfl rfl rfl ⟨rfl,rfl,rfl,rfl,rfl⟩ rfl rfl rfl rfl rfl (by kernel_rfl) Tryz.func7 closed
  (fP aim) (by unfold Func.isWrapper;first | (rw[af (by decide +kernel)];kernel_rfl) | (rw[ag (by decide +kernel)];exact⟨rfl,rfl⟩))
  (fun os started H enc _=>lifted os started H enc)
theorem proved:Rows.BoundEndsSaid:=over
#print axioms proved
end Go.Proofs.YtnikdflhefijbaaGreat.boundEnds
