import Derived.Test.YtnikdflhefijbaaGreatBp21
namespace Go.Proofs.YtnikdflhefijbaaGreat.boundFair
open Go.ChangeShapes Go.WideShapes Go.ChangeAt Go.RowKit
theorem k1:Rows.boundFairRow.wf (OpenSpec.ofChange Rows.boundFairSpec)=true:=by kernel_rfl
theorem k4:Tryz.f6.params.all (Tryz.prog.readableRec ·)=true:=by kernel_rfl
theorem k5:namedTie Tryz.prog Rows.boundFairRow.named Rows.boundFairSpec.vars=true:=by kernel_rfl
theorem k10:(Rows.boundFairRow.inPlace == Tryz.prog.inPlace 6)=true:=by kernel_rfl
theorem k11:(Rows.boundFairRow.unfollowed == Tryz.prog.unfollowed 6)=true:=by kernel_rfl
theorem k12:(Rows.boundFairRow.recurses == Tryz.prog.recurses 6)=true:=by kernel_rfl
theorem k13:(Rows.boundFairRow.named == Tryz.prog.varsNamed 6)=true:=by kernel_rfl
theorem k14:(Rows.boundFairRow.maps == (Tryz.f6.params.toList++Rows.boundFairSpec.plain.varTypes Tryz.prog).any (Tryz.prog.mapsRec ·))=true:=by kernel_rfl
theorem k15:(Rows.boundFairRow.ifaces == (Tryz.f6.params.toList++Rows.boundFairSpec.plain.varTypes Tryz.prog).any (Tryz.prog.ifacesRec ·))=true:=by kernel_rfl
theorem k16:(Rows.boundFairRow.mapsOut == Tryz.prog.mapsAmong Tryz.f6.resultTypes.toList)=true:=by kernel_rfl
theorem k17:(Rows.boundFairRow.loops == (Tryz.f6.params.toList++Rows.boundFairSpec.plain.varTypes Tryz.prog).any (Tryz.prog.loopsFrom ·))=true:=by kernel_rfl
theorem k18:(Rows.boundFairRow.wideKeys == (Tryz.f6.params.toList++Rows.boundFairSpec.plain.varTypes Tryz.prog++Tryz.f6.resultTypes.toList).any (Tryz.prog.wideKeysFrom ·))=true:=by kernel_rfl
theorem k19:Rows.boundFairSpec.vars.all (Tryz.prog.varReadable ·)=true:=by kernel_rfl
theorem k20:Tryz.f6.resultTypes.all (fun t=>Tryz.prog.readableRec t&&decide (t<Tryz.prog.types.size))=true:=by kernel_rfl
theorem k21:(Rows.boundFairRow.ifacesOut == Tryz.f6.resultTypes.toList.any (Tryz.prog.ifacesRec ·))=true:=by kernel_rfl
theorem k22:(Rows.boundFairRow.loopsOut == Tryz.f6.resultTypes.toList.any (Tryz.prog.loopsFrom ·))=true:=by kernel_rfl
theorem k29:(Rows.boundFairRow.kinds == (if Rows.boundFairRow.domain.isEmpty then [] else Tryz.f6.params.toList.map fun t=>match Tryz.prog.underlying t with | some (.int k)=>some k | _=>none))=true:=by kernel_rfl
theorem k30:(Rows.boundFairRow.pinned == Rows.boundFairRow.pinnedBy)=true:=by kernel_rfl
theorem k31:(Rows.boundFairRow.veiled == (Tryz.f6.params.toList++Rows.boundFairSpec.plain.varTypes Tryz.prog++Tryz.f6.resultTypes.toList).any (Tryz.prog.veiledRec ·))=true:=by kernel_rfl
theorem k32:Rows.boundFairRow.veiledFits Tryz.prog Tryz.f6.params.toList (Tryz.f6.params.toList++Rows.boundFairSpec.plain.varTypes Tryz.prog++Tryz.f6.resultTypes.toList)=true:=by kernel_rfl
theorem agR:decide (Tryz.f6.isInstance Tryz.prog Rows.boundFairRow.origin Rows.boundFairRow.targs)=true:=by kernel_rfl
set_option maxRecDepth 100000 in
theorem closed:joinedFacts Tryz.prog 6 Tryz.f6 Rows.boundFairSpec Rows.boundFairRow=true:=gv (gv (gv (gv (gv (gv (gv (gv (gv (gv (gv (gv (gv (gv (gv (gv (gv (gv (gv (gv (gv (gv (gv (gv (gv (gv (gv (gv (gv (gv (gv k1 Kn) fk3) k4) k5) (by kernel_rfl)) fk7) (by kernel_rfl)) fk9) k10) k11) k12) k13) k14) k15) k16) k17) k18) k19) k20) k21) k22) aic) (by kernel_rfl)) aib) aia) ai9) ai8) k29) k30) k31) k32
set_option maxRecDepth 100000 in
theorem lifted(os:Os)(started:os.Started)(H:Type)(enc:TypeId×Value→H):
  ReturnsInHanded {} Tryz.checked os 6 .any (Rows.boundFairSpec.pre6 enc Tryz.prog Tryz.f6 Rows.boundFairRow.domain false) (Rows.boundFairSpec.post enc Tryz.prog Tryz.f6 false true false false):=by
 refine returnsInHanded_of_change (C:=Tryz.checked) ai6 started (by kernel_rfl) Tryz.func6
  (ChangeSpec.witness6 (enc:=enc) (C:=Tryz.checked) false ⟨#[],#[.agg #[.int .i64 0,.int .i64 0,.int .i64 0,.slice none 0 0,.slice none 0 0,.slice none 0 0,.slice none 0 0],.int .i64 0,.slice none 0 0],[]⟩ 8 (by kernel_rfl) (by kernel_rfl) (by kernel_rfl) (by kernel_rfl)) ?_
 intro W base args ds gs before VZ hW hcnd _
 have By:∀(j:Nat) t v,Tryz.f6.params[j]?=some t→args[j]?=some v→Value.okWide Tryz.prog W .any base t v:=VZ
 have hW':=hW
 obtain⟨p,q,qQ,hV,rfl,BZ,bZ⟩:=hW
 have hA:DataW.TrodAll enc Tryz.prog W 0 (fun _=>true) true Tryz.f6.params.toList args.toList ds p:=qQ
 rw[Tryz.params6]at hA By
 obtain⟨v0,uq,d0,ds0,p0,q0,Ni,rfl,rfl,h0,r0⟩:=trodAll_cons hA
 obtain⟨v1,BF,d1,ds1,p1,q1,rfl,rfl,rfl,h1,r1⟩:=trodAll_cons r0
 obtain⟨v2,I6,d2,ds2,p2,q2,rfl,rfl,rfl,h2,r2⟩:=trodAll_cons r1
 obtain⟨rfl,rfl,rfl⟩:=trodAll_nil r2
 obtain rfl:args = #[v0,v1,v2]:=by cases args;simp_all
 obtain⟨rfl,rfl⟩:=trodVars_none hV
 have lt0:∀x∈p0,x.block<W.heap.size:=by obtain⟨m,hm⟩:=h0;exact DataW.trod_lt m _ _ _ hm
 have t0:=h0
 have lt1:∀x∈p1,x.block<W.heap.size:=by obtain⟨m,hm⟩:=h1;exact DataW.trod_lt m _ _ _ hm
 have t1:=h1
 have lt2:∀x∈p2,x.block<W.heap.size:=by obtain⟨m,hm⟩:=h2;exact DataW.trod_lt m _ _ _ hm
 have t2:=h2
 obtain⟨x0,y0⟩:=Ru (VS) (by kernel_rfl) h0
 obtain⟨cs0,rfl,-⟩:=okWide_struct Tryz.underlying27 (By 0 27 v0 rfl rfl)
 obtain⟨a1,rfl,-,-,w1⟩:=open_int Tryz.underlying3 (By 1 3 v1 rfl rfl) h1
 obtain⟨x2,y2⟩:=Ru ((.slice (.field (.int .i64) (.field (.int .i64) .nil)))) (by kernel_rfl) h2
 obtain⟨sa2,sn2,sc2,rfl⟩:=okWide_slice Tryz.underlying28 (By 2 28 v2 rfl rfl)
 clear qQ VZ
 refine (afG (Xj (ahu x0) a1 x2 (Rt y0).1 (Rt y0).2) (va (vg rfl y0) (va vi (va (vl rfl y2) vn)))).mono fun e W' ⟨he,Kq⟩=>?_
 subst he
 exact⟨_,rfl,_,_,_,[],_,[],hW',trodAll_mk1 (shut_bool Tryz.underlying4 _),(trodAll_cons_mk (Below.trod Kn (by kernel_rfl) (fP (by kernel_rfl)) t0 Kq lt0) (trodAll_cons_mk (Below.trod Kn (by kernel_rfl) (fP (by kernel_rfl)) t1 Kq lt1) (trodAll_cons_mk (Below.trod Kn (by kernel_rfl) (fP (by kernel_rfl)) t2 Kq lt2) trodAll_mk0))),rfl,Kq.frame _,fun h=>by cases h⟩
theorem over:Rows.boundFairRow.holds Tryz.pinned (OpenSpec.ofChange Rows.boundFairSpec):=
 OpenClaim.holds_of_wide 6 Tryz.f6 rfl rfl rfl rfl rfl rfl rfl ⟨rfl,rfl,rfl,rfl,rfl⟩ rfl rfl rfl rfl rfl (by kernel_rfl) Tryz.func6 closed
  (fP agR) (by unfold Func.isWrapper;first | (rw[ag (by decide +kernel)];kernel_rfl) | (rw[ah (by decide +kernel)];exact⟨rfl,rfl⟩))
  (fun os started H enc _=>lifted os started H enc)
theorem proved:Rows.BoundFairSaid:=over
#print axioms proved
end Go.Proofs.YtnikdflhefijbaaGreat.boundFair
