import Derived.Test.YtnpidbjdilnhlaaGreatBn53
namespace Go.Proofs.YtnpidbjdilnhlaaGreat.boundCounts
open Go.ChangeShapes Go.WideShapes Go.ChangeAt Go.RowKit
theorem k1:Rows.boundCountsRow.wf (OpenSpec.ofChange Rows.boundCountsSpec)=true:=by kernel_rfl
theorem k4:Tryz.f7.params.all (Tryz.prog.readableRec ·)=true:=by kernel_rfl
theorem k5:namedTie Tryz.prog Rows.boundCountsRow.named Rows.boundCountsSpec.vars=true:=by kernel_rfl
theorem k10:(Rows.boundCountsRow.inPlace == Tryz.prog.inPlace 7)=true:=by kernel_rfl
theorem k11:(Rows.boundCountsRow.unfollowed == Tryz.prog.unfollowed 7)=true:=by kernel_rfl
theorem k12:(Rows.boundCountsRow.recurses == Tryz.prog.recurses 7)=true:=by kernel_rfl
theorem k13:(Rows.boundCountsRow.named == Tryz.prog.varsNamed 7)=true:=by kernel_rfl
theorem k14:(Rows.boundCountsRow.maps == (Tryz.f7.params.toList++Rows.boundCountsSpec.plain.varTypes Tryz.prog).any (Tryz.prog.mapsRec ·))=true:=by kernel_rfl
theorem k15:(Rows.boundCountsRow.ifaces == (Tryz.f7.params.toList++Rows.boundCountsSpec.plain.varTypes Tryz.prog).any (Tryz.prog.ifacesRec ·))=true:=by kernel_rfl
theorem k16:(Rows.boundCountsRow.mapsOut == Tryz.prog.mapsAmong Tryz.f7.resultTypes.toList)=true:=by kernel_rfl
theorem k17:(Rows.boundCountsRow.loops == (Tryz.f7.params.toList++Rows.boundCountsSpec.plain.varTypes Tryz.prog).any (Tryz.prog.loopsFrom ·))=true:=by kernel_rfl
theorem k18:(Rows.boundCountsRow.wideKeys == (Tryz.f7.params.toList++Rows.boundCountsSpec.plain.varTypes Tryz.prog++Tryz.f7.resultTypes.toList).any (Tryz.prog.wideKeysFrom ·))=true:=by kernel_rfl
theorem k19:Rows.boundCountsSpec.vars.all (Tryz.prog.varReadable ·)=true:=by kernel_rfl
theorem k20:Tryz.f7.resultTypes.all (fun t=>Tryz.prog.readableRec t && decide (t<Tryz.prog.types.size))=true:=by kernel_rfl
theorem k21:(Rows.boundCountsRow.ifacesOut == Tryz.f7.resultTypes.toList.any (Tryz.prog.ifacesRec ·))=true:=by kernel_rfl
theorem k22:(Rows.boundCountsRow.loopsOut == Tryz.f7.resultTypes.toList.any (Tryz.prog.loopsFrom ·))=true:=by kernel_rfl
theorem k29:(Rows.boundCountsRow.kinds == (if Rows.boundCountsRow.domain.isEmpty then [] else Tryz.f7.params.toList.map fun t=>match Tryz.prog.underlying t with | some (.int k)=>some k | _=>none))=true:=by kernel_rfl
theorem k30:(Rows.boundCountsRow.pinned == Rows.boundCountsRow.pinnedBy)=true:=by kernel_rfl
theorem k31:(Rows.boundCountsRow.veiled == (Tryz.f7.params.toList++Rows.boundCountsSpec.plain.varTypes Tryz.prog++Tryz.f7.resultTypes.toList).any (Tryz.prog.veiledRec ·))=true:=by kernel_rfl
theorem k32:Rows.boundCountsRow.veiledFits Tryz.prog Tryz.f7.params.toList (Tryz.f7.params.toList++Rows.boundCountsSpec.plain.varTypes Tryz.prog++Tryz.f7.resultTypes.toList)=true:=by kernel_rfl
theorem ab9:decide (Tryz.f7.isInstance Tryz.prog Rows.boundCountsRow.origin Rows.boundCountsRow.targs)=true:=by kernel_rfl
set_option maxRecDepth 100000 in
theorem closed:joinedFacts Tryz.prog 7 Tryz.f7 Rows.boundCountsSpec Rows.boundCountsRow=true:=fm (fm (fm (fm (fm (fm (fm (fm (fm (fm (fm (fm (fm (fm (fm (fm (fm (fm (fm (fm (fm (fm (fm (fm (fm (fm (fm (fm (fm (fm (fm k1 FG) fk3) k4) k5) (by kernel_rfl)) fk7) (by kernel_rfl)) fk9) k10) k11) k12) k13) k14) k15) k16) k17) k18) k19) k20) k21) k22) acy) (by kernel_rfl)) acx) acw) acv) acu) k29) k30) k31) k32
set_option maxRecDepth 100000 in
theorem lifted(os:Os)(started:os.Started)(H:Type)(enc:TypeId×Value→H):
  ReturnsInHanded {} Tryz.checked os 7 .any (Rows.boundCountsSpec.pre6 enc Tryz.prog Tryz.f7 Rows.boundCountsRow.domain false) (Rows.boundCountsSpec.post enc Tryz.prog Tryz.f7 false true false false):=by
 refine returnsInHanded_of_change (C:=Tryz.checked) acr started (by kernel_rfl) Tryz.func7
  (ChangeSpec.witness6 (enc:=enc) (C:=Tryz.checked) false ⟨#[],#[.agg #[.int .i64 0,.int .i64 0,.int .i64 0,.slice none 0 0,.slice none 0 0,.slice none 0 0,.slice none 0 0],.int .i64 0,.slice none 0 0],[]⟩ 8 (by kernel_rfl) (by kernel_rfl) (by kernel_rfl) (by kernel_rfl)) ?_
 intro W base args ds gs before Qg hW hcnd _
 have yi:∀(j:Nat) t v,Tryz.f7.params[j]?=some t→args[j]?=some v→Value.okWide Tryz.prog W .any base t v:=Qg
 have hW':=hW
 obtain⟨p,q,oy,hV,rfl,yL,bB⟩:=hW
 have hA:DataW.TrodAll enc Tryz.prog W 0 (fun _=>true) true Tryz.f7.params.toList args.toList ds p:=oy
 rw[Tryz.params7]at hA yi
 obtain⟨v0,rp,d0,ds0,p0,q0,IB,rfl,rfl,h0,r0⟩:=trodAll_cons hA
 obtain⟨v1,yq,d1,ds1,p1,q1,rfl,rfl,rfl,h1,r1⟩:=trodAll_cons r0
 obtain⟨v2,E2,d2,ds2,p2,q2,rfl,rfl,rfl,h2,r2⟩:=trodAll_cons r1
 obtain⟨rfl,rfl,rfl⟩:=trodAll_nil r2
 obtain rfl:args = #[v0,v1,v2]:=by cases args;simp_all
 obtain⟨rfl,rfl⟩:=trodVars_none hV
 have lt0:∀x∈p0,x.block<W.heap.size:=by obtain⟨m,hm⟩:=h0;exact DataW.trod_lt m _ _ _ hm
 have t0:=h0
 have lt1:∀x∈p1,x.block<W.heap.size:=by obtain⟨m,hm⟩:=h1;exact DataW.trod_lt m _ _ _ hm
 have t1:=h1
 have lt2:∀x∈p2,x.block<W.heap.size:=by obtain⟨m,hm⟩:=h2;exact DataW.trod_lt m _ _ _ hm
 have t2:=h2
 obtain⟨x0,y0⟩:=Ma (P9) (by kernel_rfl) h0
 obtain⟨cs0,rfl,-⟩:=okWide_struct Tryz.underlying27 (yi 0 27 v0 rfl rfl)
 obtain⟨a1,rfl,-,-,w1⟩:=open_int Tryz.underlying3 (yi 1 3 v1 rfl rfl) h1
 obtain⟨x2,y2⟩:=Ma ((.slice (.field (.int .i64) (.field (.int .i64) .nil)))) (by kernel_rfl) h2
 obtain⟨sa2,sn2,sc2,rfl⟩:=okWide_slice Tryz.underlying56 (yi 2 56 v2 rfl rfl)
 clear oy Qg
 refine (Z9 (Rh (abN x0) a1 x2 (L9 y0).1 (L9 y0).2) (va (vg rfl y0) (va vi (va (vl rfl y2) vn)))).mono fun e W' ⟨he,FK⟩ =>?_
 subst he
 exact⟨_,rfl,_,_,_,[],_,[],hW',trodAll_mk1 (shut_bool Tryz.underlying4 _),(trodAll_cons_mk (Below.trod FG (by kernel_rfl) (of_decide_eq_true (by kernel_rfl)) t0 FK lt0) (trodAll_cons_mk (Below.trod FG (by kernel_rfl) (of_decide_eq_true (by kernel_rfl)) t1 FK lt1) (trodAll_cons_mk (Below.trod FG (by kernel_rfl) (of_decide_eq_true (by kernel_rfl)) t2 FK lt2) trodAll_mk0))),rfl,FK.frame _,fun h=>by cases h⟩
theorem over:Rows.boundCountsRow.holds Tryz.pinned (OpenSpec.ofChange Rows.boundCountsSpec):=
 OpenClaim.holds_of_wide 7 Tryz.f7 rfl rfl rfl rfl rfl rfl rfl ⟨rfl,rfl,rfl,rfl,rfl⟩ rfl rfl rfl rfl rfl (by kernel_rfl) Tryz.func7 closed
  (of_decide_eq_true ab9) (by unfold Func.isWrapper;first | (rw[if_pos (by decide +kernel)];kernel_rfl) | (rw[if_neg (by decide +kernel)];exact⟨rfl,rfl⟩))
  (fun os started H enc _=>lifted os started H enc)
theorem proved:Rows.BoundCountsSaid:=over
#print axioms proved
end Go.Proofs.YtnpidbjdilnhlaaGreat.boundCounts
