import Derived.Test.YtnikdflhefijbaaGreatBn21
namespace Go.Proofs.YtnikdflhefijbaaGreat.watchFirst
open Go.ChangeShapes Go.WideShapes Go.ChangeAt Go.RowKit
theorem k1:Rows.watchFirstRow.wf (OpenSpec.ofChange Rows.watchFirstSpec)=true:=by kernel_rfl
theorem k4:Tryz.f8.params.all (Tryz.prog.readableRec ·)=true:=by kernel_rfl
theorem k5:namedTie Tryz.prog Rows.watchFirstRow.named Rows.watchFirstSpec.vars=true:=by kernel_rfl
theorem k10:(Rows.watchFirstRow.inPlace == Tryz.prog.inPlace 8)=true:=by kernel_rfl
theorem k11:(Rows.watchFirstRow.unfollowed == Tryz.prog.unfollowed 8)=true:=by kernel_rfl
theorem k12:(Rows.watchFirstRow.recurses == Tryz.prog.recurses 8)=true:=by kernel_rfl
theorem k13:(Rows.watchFirstRow.named == Tryz.prog.varsNamed 8)=true:=by kernel_rfl
theorem k14:(Rows.watchFirstRow.maps == (Tryz.f8.params.toList++Rows.watchFirstSpec.plain.varTypes Tryz.prog).any (Tryz.prog.mapsRec ·))=true:=by kernel_rfl
theorem k15:(Rows.watchFirstRow.ifaces == (Tryz.f8.params.toList++Rows.watchFirstSpec.plain.varTypes Tryz.prog).any (Tryz.prog.ifacesRec ·))=true:=by kernel_rfl
theorem k16:(Rows.watchFirstRow.mapsOut == Tryz.prog.mapsAmong Tryz.f8.resultTypes.toList)=true:=by kernel_rfl
theorem k17:(Rows.watchFirstRow.loops == (Tryz.f8.params.toList++Rows.watchFirstSpec.plain.varTypes Tryz.prog).any (Tryz.prog.loopsFrom ·))=true:=by kernel_rfl
theorem k18:(Rows.watchFirstRow.wideKeys == (Tryz.f8.params.toList++Rows.watchFirstSpec.plain.varTypes Tryz.prog++Tryz.f8.resultTypes.toList).any (Tryz.prog.wideKeysFrom ·))=true:=by kernel_rfl
theorem k19:Rows.watchFirstSpec.vars.all (Tryz.prog.varReadable ·)=true:=by kernel_rfl
theorem k20:Tryz.f8.resultTypes.all (fun t=>Tryz.prog.readableRec t&&decide (t<Tryz.prog.types.size))=true:=by kernel_rfl
theorem k21:(Rows.watchFirstRow.ifacesOut == Tryz.f8.resultTypes.toList.any (Tryz.prog.ifacesRec ·))=true:=by kernel_rfl
theorem k22:(Rows.watchFirstRow.loopsOut == Tryz.f8.resultTypes.toList.any (Tryz.prog.loopsFrom ·))=true:=by kernel_rfl
theorem k29:(Rows.watchFirstRow.kinds == (if Rows.watchFirstRow.domain.isEmpty then [] else Tryz.f8.params.toList.map fun t=>match Tryz.prog.underlying t with | some (.int k)=>some k | _=>none))=true:=by kernel_rfl
theorem k30:(Rows.watchFirstRow.pinned == Rows.watchFirstRow.pinnedBy)=true:=by kernel_rfl
theorem k31:(Rows.watchFirstRow.veiled == (Tryz.f8.params.toList++Rows.watchFirstSpec.plain.varTypes Tryz.prog++Tryz.f8.resultTypes.toList).any (Tryz.prog.veiledRec ·))=true:=by kernel_rfl
theorem k32:Rows.watchFirstRow.veiledFits Tryz.prog Tryz.f8.params.toList (Tryz.f8.params.toList++Rows.watchFirstSpec.plain.varTypes Tryz.prog++Tryz.f8.resultTypes.toList)=true:=by kernel_rfl
theorem ah0:decide (Tryz.f8.isInstance Tryz.prog Rows.watchFirstRow.origin Rows.watchFirstRow.targs)=true:=by kernel_rfl
set_option maxRecDepth 100000 in
theorem closed:joinedFacts Tryz.prog 8 Tryz.f8 Rows.watchFirstSpec Rows.watchFirstRow=true:=gC (gC (gC (gC (gC (gC (gC (gC (gC (gC (gC (gC (gC (gC (gC (gC (gC (gC (gC (gC (gC (gC (gC (gC (gC (gC (gC (gC (gC (gC (gC k1 Kp) fk3) k4) k5) (by kernel_rfl)) fk7) (by kernel_rfl)) fk9) k10) k11) k12) k13) k14) k15) k16) k17) k18) k19) k20) k21) k22) air) (by kernel_rfl)) aiq) aip) aio) ain) k29) k30) k31) k32
set_option maxRecDepth 100000 in
theorem lifted(os:Os)(started:os.Started)(H:Type)(enc:TypeId×Value→H):
  ReturnsInHanded {} Tryz.checked os 8 .any (Rows.watchFirstSpec.pre6 enc Tryz.prog Tryz.f8 Rows.watchFirstRow.domain false) (Rows.watchFirstSpec.post enc Tryz.prog Tryz.f8 false true false false):=by
 refine returnsInHanded_of_change (C:=Tryz.checked) ail started (by kernel_rfl) Tryz.func8
  (ChangeSpec.witness6 (enc:=enc) (C:=Tryz.checked) false ⟨#[],#[.agg #[.int .i64 0,.int .i64 0,.int .i64 0,.slice none 0 0,.slice none 0 0,.slice none 0 0,.slice none 0 0],.int .i64 0,.slice none 0 0],[]⟩ 8 (by kernel_rfl) (by kernel_rfl) (by kernel_rfl) (by kernel_rfl)) ?_
 intro W base args ds gs before Wa hW hcnd _
 have By:∀(j:Nat) t v,Tryz.f8.params[j]?=some t→args[j]?=some v→Value.okWide Tryz.prog W .any base t v:=Wa
 have hW':=hW
 obtain⟨p,q,qX,hV,rfl,BZ,cf⟩:=hW
 have hA:DataW.TrodAll enc Tryz.prog W 0 (fun _=>true) true Tryz.f8.params.toList args.toList ds p:=qX
 rw[Tryz.params8]at hA By
 obtain⟨v0,ue,d0,ds0,p0,q0,Nn,rfl,rfl,h0,r0⟩:=trodAll_cons hA
 obtain⟨v1,BH,d1,ds1,p1,q1,rfl,rfl,rfl,h1,r1⟩:=trodAll_cons r0
 obtain⟨v2,I6,d2,ds2,p2,q2,rfl,rfl,rfl,h2,r2⟩:=trodAll_cons r1
 obtain⟨rfl,rfl,rfl⟩:=trodAll_nil r2
 obtain rfl:args = #[v0,v1,v2]:=by cases args;simp_all
 obtain⟨rfl,rfl⟩:=trodVars_none hV
 have lt0:∀x∈p0,x.block<W.heap.size:=by obtain⟨m,hm⟩:=h0;exact DataW.trod_lt m _ _ _ hm
 have t0:=h0
 have lt1:∀x∈p1,x.block<W.heap.size:=by obtain⟨m,hm⟩:=h1;exact DataW.trod_lt m _ _ _ hm
 have t1:=h1
 have lt2:∀x∈p2,x.block<W.heap.size:=by obtain⟨m,hm⟩:=h2;exact DataW.trod_lt m _ _ _ hm
 have t2:=h2
 obtain⟨x0,y0⟩:=Ru (V1) (by kernel_rfl) h0
 obtain⟨cs0,rfl,-⟩:=okWide_struct Tryz.underlying27 (By 0 27 v0 rfl rfl)
 obtain⟨a1,rfl,-,-,w1⟩:=open_int Tryz.underlying3 (By 1 3 v1 rfl rfl) h1
 obtain⟨x2,y2⟩:=Ru ((.slice (.field (.int .i64) (.field (.int .i64) .nil)))) (by kernel_rfl) h2
 obtain⟨sa2,sn2,sc2,rfl⟩:=okWide_slice Tryz.underlying28 (By 2 28 v2 rfl rfl)
 clear qX Wa
 refine (afT (Xm (ahI x0) a1 x2 (Rt y0).1 (Rt y0).2) (va (vg rfl y0) (va vi (va (vl rfl y2) vn)))).mono fun e W' ⟨he,Kv⟩=>?_
 subst he
 exact⟨_,rfl,_,_,_,[],_,[],hW',trodAll_mk1 (shut_bool Tryz.underlying4 _),(trodAll_cons_mk (Below.trod Kp (by kernel_rfl) (fv (by kernel_rfl)) t0 Kv lt0) (trodAll_cons_mk (Below.trod Kp (by kernel_rfl) (fv (by kernel_rfl)) t1 Kv lt1) (trodAll_cons_mk (Below.trod Kp (by kernel_rfl) (fv (by kernel_rfl)) t2 Kv lt2) trodAll_mk0))),rfl,Kv.frame _,fun h=>by cases h⟩
theorem over:Rows.watchFirstRow.holds Tryz.pinned (OpenSpec.ofChange Rows.watchFirstSpec):=
 OpenClaim.holds_of_wide 8 Tryz.f8 rfl rfl rfl rfl rfl rfl rfl ⟨rfl,rfl,rfl,rfl,rfl⟩ rfl rfl rfl rfl rfl (by kernel_rfl) Tryz.func8 closed
  (fv ah0) (by unfold Func.isWrapper;first | (rw[ah (by decide +kernel)];kernel_rfl) | (rw[ag (by decide +kernel)];exact⟨rfl,rfl⟩))
  (fun os started H enc _=>lifted os started H enc)
theorem proved:Rows.WatchFirstSaid:=over
#print axioms proved
end Go.Proofs.YtnikdflhefijbaaGreat.watchFirst
