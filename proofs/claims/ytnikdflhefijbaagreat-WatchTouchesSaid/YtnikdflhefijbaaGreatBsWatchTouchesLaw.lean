import Derived.Test.YtnikdflhefijbaaGreatBs21
namespace Go.Proofs.YtnikdflhefijbaaGreat.watchTouches
open Go.ChangeShapes Go.WideShapes Go.ChangeAt Go.RowKit
theorem k1:Rows.watchTouchesRow.wf (OpenSpec.ofChange Rows.watchTouchesSpec)=true:=by kernel_rfl
theorem k4:Tryz.f10.params.all (Tryz.prog.readableRec ·)=true:=by kernel_rfl
theorem k5:namedTie Tryz.prog Rows.watchTouchesRow.named Rows.watchTouchesSpec.vars=true:=by kernel_rfl
theorem k10:(Rows.watchTouchesRow.inPlace == Tryz.prog.inPlace 10)=true:=by kernel_rfl
theorem k11:(Rows.watchTouchesRow.unfollowed == Tryz.prog.unfollowed 10)=true:=by kernel_rfl
theorem k12:(Rows.watchTouchesRow.recurses == Tryz.prog.recurses 10)=true:=by kernel_rfl
theorem k13:(Rows.watchTouchesRow.named == Tryz.prog.varsNamed 10)=true:=by kernel_rfl
theorem k14:(Rows.watchTouchesRow.maps == (Tryz.f10.params.toList++Rows.watchTouchesSpec.plain.varTypes Tryz.prog).any (Tryz.prog.mapsRec ·))=true:=by kernel_rfl
theorem k15:(Rows.watchTouchesRow.ifaces == (Tryz.f10.params.toList++Rows.watchTouchesSpec.plain.varTypes Tryz.prog).any (Tryz.prog.ifacesRec ·))=true:=by kernel_rfl
theorem k16:(Rows.watchTouchesRow.mapsOut == Tryz.prog.mapsAmong Tryz.f10.resultTypes.toList)=true:=by kernel_rfl
theorem k17:(Rows.watchTouchesRow.loops == (Tryz.f10.params.toList++Rows.watchTouchesSpec.plain.varTypes Tryz.prog).any (Tryz.prog.loopsFrom ·))=true:=by kernel_rfl
theorem k18:(Rows.watchTouchesRow.wideKeys == (Tryz.f10.params.toList++Rows.watchTouchesSpec.plain.varTypes Tryz.prog++Tryz.f10.resultTypes.toList).any (Tryz.prog.wideKeysFrom ·))=true:=by kernel_rfl
theorem k19:Rows.watchTouchesSpec.vars.all (Tryz.prog.varReadable ·)=true:=by kernel_rfl
theorem k20:Tryz.f10.resultTypes.all (fun t=>Tryz.prog.readableRec t&&decide (t<Tryz.prog.types.size))=true:=by kernel_rfl
theorem k21:(Rows.watchTouchesRow.ifacesOut == Tryz.f10.resultTypes.toList.any (Tryz.prog.ifacesRec ·))=true:=by kernel_rfl
theorem k22:(Rows.watchTouchesRow.loopsOut == Tryz.f10.resultTypes.toList.any (Tryz.prog.loopsFrom ·))=true:=by kernel_rfl
theorem k29:(Rows.watchTouchesRow.kinds == (if Rows.watchTouchesRow.domain.isEmpty then [] else Tryz.f10.params.toList.map fun t=>match Tryz.prog.underlying t with | some (.int k)=>some k | _=>none))=true:=by kernel_rfl
theorem k30:(Rows.watchTouchesRow.pinned == Rows.watchTouchesRow.pinnedBy)=true:=by kernel_rfl
theorem k31:(Rows.watchTouchesRow.veiled == (Tryz.f10.params.toList++Rows.watchTouchesSpec.plain.varTypes Tryz.prog++Tryz.f10.resultTypes.toList).any (Tryz.prog.veiledRec ·))=true:=by kernel_rfl
theorem k32:Rows.watchTouchesRow.veiledFits Tryz.prog Tryz.f10.params.toList (Tryz.f10.params.toList++Rows.watchTouchesSpec.plain.varTypes Tryz.prog++Tryz.f10.resultTypes.toList)=true:=by kernel_rfl
theorem afa:decide (Tryz.f10.isInstance Tryz.prog Rows.watchTouchesRow.origin Rows.watchTouchesRow.targs)=true:=by kernel_rfl
set_option maxRecDepth 100000 in
theorem closed:joinedFacts Tryz.prog 10 Tryz.f10 Rows.watchTouchesSpec Rows.watchTouchesRow=true:=gr (gr (gr (gr (gr (gr (gr (gr (gr (gr (gr (gr (gr (gr (gr (gr (gr (gr (gr (gr (gr (gr (gr (gr (gr (gr (gr (gr (gr (gr (gr k1 Il) fk3) k4) k5) (by kernel_rfl)) fk7) (by kernel_rfl)) fk9) k10) k11) k12) k13) k14) k15) k16) k17) k18) k19) k20) k21) k22) agP) (by kernel_rfl)) agO) agN) agM) agL) k29) k30) k31) k32
set_option maxRecDepth 100000 in
theorem lifted(os:Os)(started:os.Started)(H:Type)(enc:TypeId×Value→H):
  ReturnsInHanded {} Tryz.checked os 10 .any (Rows.watchTouchesSpec.pre6 enc Tryz.prog Tryz.f10 Rows.watchTouchesRow.domain false) (Rows.watchTouchesSpec.post enc Tryz.prog Tryz.f10 false true false false):=by
 refine returnsInHanded_of_change (C:=Tryz.checked) agJ started (by kernel_rfl) Tryz.func10
  (ChangeSpec.witness6 (enc:=enc) (C:=Tryz.checked) false ⟨#[],#[.agg #[.int .i64 0,.int .i64 0,.int .i64 0,.slice none 0 0,.slice none 0 0,.slice none 0 0,.slice none 0 0],.int .i64 0,.slice none 0 0],[]⟩ 8 (by kernel_rfl) (by kernel_rfl) (by kernel_rfl) (by kernel_rfl)) ?_
 intro W base args ds gs before TN hW hcnd _;have GQ:∀(j:Nat) t v,Tryz.f10.params[j]?=some t→args[j]?=some v→Value.okWide Tryz.prog W .any base t v:=TN;have hW':=hW;obtain⟨p,q,qt,hV,rfl,AI,cm⟩:=hW;have hA:DataW.TrodAll enc Tryz.prog W 0 (fun _=>true) true Tryz.f10.params.toList args.toList ds p:=qt;rw[Tryz.params10]at hA GQ;obtain⟨v0,tz,d0,ds0,p0,q0,KS,rfl,rfl,h0,r0⟩:=trodAll_cons hA;obtain⟨v1,Aq,d1,ds1,p1,q1,rfl,rfl,rfl,h1,r1⟩:=trodAll_cons r0;obtain⟨v2,G9,d2,ds2,p2,q2,rfl,rfl,rfl,h2,r2⟩:=trodAll_cons r1;obtain⟨rfl,rfl,rfl⟩:=trodAll_nil r2;obtain rfl:args = #[v0,v1,v2]:=by cases args;simp_all
 obtain⟨rfl,rfl⟩:=trodVars_none hV;have lt0:∀x∈p0,x.block<W.heap.size:=by obtain⟨m,hm⟩:=h0;exact DataW.trod_lt m _ _ _ hm
 have t0:=h0;have lt1:∀x∈p1,x.block<W.heap.size:=by obtain⟨m,hm⟩:=h1;exact DataW.trod_lt m _ _ _ hm
 have t1:=h1;have lt2:∀x∈p2,x.block<W.heap.size:=by obtain⟨m,hm⟩:=h2;exact DataW.trod_lt m _ _ _ hm
 have t2:=h2;obtain⟨x0,y0⟩:=Pv (TB) (by kernel_rfl) h0;obtain⟨cs0,rfl,-⟩:=okWide_struct Tryz.underlying27 (GQ 0 27 v0 rfl rfl);obtain⟨a1,rfl,-,-,w1⟩:=open_int Tryz.underlying3 (GQ 1 3 v1 rfl rfl) h1;obtain⟨x2,y2⟩:=Pv ((.slice (.field (.int .i64) (.field (.int .i64) .nil)))) (by kernel_rfl) h2;obtain⟨sa2,sn2,sc2,rfl⟩:=okWide_slice Tryz.underlying28 (GQ 2 28 v2 rfl rfl);clear qt TN;refine (adQ (U2 (afZ x0) a1 x2 (Pu y0).1 (Pu y0).2) (va (vg rfl y0) (va vi (va (vl rfl y2) vn)))).mono fun e W' ⟨he,Ir⟩=>?_;subst he;exact⟨_,rfl,_,_,_,[],_,[],hW',trodAll_mk1 (shut_bool Tryz.underlying4 _),(trodAll_cons_mk (Below.trod Il (by kernel_rfl) (eX (by kernel_rfl)) t0 Ir lt0) (trodAll_cons_mk (Below.trod Il (by kernel_rfl) (eX (by kernel_rfl)) t1 Ir lt1) (trodAll_cons_mk (Below.trod Il (by kernel_rfl) (eX (by kernel_rfl)) t2 Ir lt2) trodAll_mk0))),rfl,Ir.frame _,fun h=>by cases h⟩
theorem over:Rows.watchTouchesRow.holds Tryz.pinned (OpenSpec.ofChange Rows.watchTouchesSpec):=
 OpenClaim.holds_of_wide 10 Tryz.f10 rfl rfl rfl rfl rfl rfl rfl ⟨rfl,rfl,rfl,rfl,rfl⟩ rfl rfl rfl rfl rfl (by kernel_rfl) Tryz.func10 closed
  (eX afa) (by unfold Func.isWrapper;first | (rw[az (by decide +kernel)];kernel_rfl) | (rw[aB (by decide +kernel)];exact⟨rfl,rfl⟩))
  (fun os started H enc _=>lifted os started H enc)
theorem proved:Rows.WatchTouchesSaid:=over
#print axioms proved
end Go.Proofs.YtnikdflhefijbaaGreat.watchTouches
