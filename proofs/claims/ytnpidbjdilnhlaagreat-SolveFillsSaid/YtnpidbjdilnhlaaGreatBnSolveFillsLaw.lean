import Derived.Test.YtnpidbjdilnhlaaGreatBn53
namespace Go.Proofs.YtnpidbjdilnhlaaGreat.solveFills
open Go.ChangeShapes Go.WideShapes Go.ChangeAt Go.RowKit
theorem k1:Rows.solveFillsRow.wf (OpenSpec.ofChange Rows.solveFillsSpec)=true:=by kernel_rfl
theorem k4:Tryz.f3.params.all (Tryz.prog.readableRec ·)=true:=by kernel_rfl
theorem k5:namedTie Tryz.prog Rows.solveFillsRow.named Rows.solveFillsSpec.vars=true:=by kernel_rfl
theorem k10:(Rows.solveFillsRow.inPlace == Tryz.prog.inPlace 3)=true:=by kernel_rfl
theorem k11:(Rows.solveFillsRow.unfollowed == Tryz.prog.unfollowed 3)=true:=by kernel_rfl
theorem k12:(Rows.solveFillsRow.recurses == Tryz.prog.recurses 3)=true:=by kernel_rfl
theorem k13:(Rows.solveFillsRow.named == Tryz.prog.varsNamed 3)=true:=by kernel_rfl
theorem k14:(Rows.solveFillsRow.maps == (Tryz.f3.params.toList++Rows.solveFillsSpec.plain.varTypes Tryz.prog).any (Tryz.prog.mapsRec ·))=true:=by kernel_rfl
theorem k15:(Rows.solveFillsRow.ifaces == (Tryz.f3.params.toList++Rows.solveFillsSpec.plain.varTypes Tryz.prog).any (Tryz.prog.ifacesRec ·))=true:=by kernel_rfl
theorem k16:(Rows.solveFillsRow.mapsOut == Tryz.prog.mapsAmong Tryz.f3.resultTypes.toList)=true:=by kernel_rfl
theorem k17:(Rows.solveFillsRow.loops == (Tryz.f3.params.toList++Rows.solveFillsSpec.plain.varTypes Tryz.prog).any (Tryz.prog.loopsFrom ·))=true:=by kernel_rfl
theorem k18:(Rows.solveFillsRow.wideKeys == (Tryz.f3.params.toList++Rows.solveFillsSpec.plain.varTypes Tryz.prog++Tryz.f3.resultTypes.toList).any (Tryz.prog.wideKeysFrom ·))=true:=by kernel_rfl
theorem k19:Rows.solveFillsSpec.vars.all (Tryz.prog.varReadable ·)=true:=by kernel_rfl
theorem k20:Tryz.f3.resultTypes.all (fun t=>Tryz.prog.readableRec t && decide (t<Tryz.prog.types.size))=true:=by kernel_rfl
theorem k21:(Rows.solveFillsRow.ifacesOut == Tryz.f3.resultTypes.toList.any (Tryz.prog.ifacesRec ·))=true:=by kernel_rfl
theorem k22:(Rows.solveFillsRow.loopsOut == Tryz.f3.resultTypes.toList.any (Tryz.prog.loopsFrom ·))=true:=by kernel_rfl
theorem k29:(Rows.solveFillsRow.kinds == (if Rows.solveFillsRow.domain.isEmpty then [] else Tryz.f3.params.toList.map fun t=>match Tryz.prog.underlying t with | some (.int k)=>some k | _=>none))=true:=by kernel_rfl
theorem k30:(Rows.solveFillsRow.pinned == Rows.solveFillsRow.pinnedBy)=true:=by kernel_rfl
theorem k31:(Rows.solveFillsRow.veiled == (Tryz.f3.params.toList++Rows.solveFillsSpec.plain.varTypes Tryz.prog++Tryz.f3.resultTypes.toList).any (Tryz.prog.veiledRec ·))=true:=by kernel_rfl
theorem k32:Rows.solveFillsRow.veiledFits Tryz.prog Tryz.f3.params.toList (Tryz.f3.params.toList++Rows.solveFillsSpec.plain.varTypes Tryz.prog++Tryz.f3.resultTypes.toList)=true:=by kernel_rfl
theorem Wg:decide (Tryz.f3.isInstance Tryz.prog Rows.solveFillsRow.origin Rows.solveFillsRow.targs)=true:=by kernel_rfl
set_option maxRecDepth 100000 in
theorem closed:joinedFacts Tryz.prog 3 Tryz.f3 Rows.solveFillsSpec Rows.solveFillsRow=true:=eG (eG (eG (eG (eG (eG (eG (eG (eG (eG (eG (eG (eG (eG (eG (eG (eG (eG (eG (eG (eG (eG (eG (eG (eG (eG (eG (eG (eG (eG (eG k1 Cg) fk3) k4) k5) (by kernel_rfl)) fk7) (by kernel_rfl)) fk9) k10) k11) k12) k13) k14) k15) k16) k17) k18) k19) k20) k21) k22) XR) (by kernel_rfl)) XQ) XP) XO) XN) k29) k30) k31) k32
set_option maxRecDepth 100000 in
theorem lifted(os:Os)(started:os.Started)(H:Type)(enc:TypeId×Value→H):
  ReturnsInHanded {} Tryz.checked os 3 .any (Rows.solveFillsSpec.pre6 enc Tryz.prog Tryz.f3 Rows.solveFillsRow.domain false) (Rows.solveFillsSpec.post enc Tryz.prog Tryz.f3 false true false false):=by
 refine returnsInHanded_of_change (C:=Tryz.checked) XL started (by kernel_rfl) Tryz.func3
  (ChangeSpec.witness6 (enc:=enc) (C:=Tryz.checked) false ⟨#[],#[.agg #[.int .i64 0,.int .i64 0,.int .i64 0,.slice none 0 0,.slice none 0 0,.slice none 0 0,.slice none 0 0],.int .i64 0,.int .i64 0],[]⟩ 8 (by kernel_rfl) (by kernel_rfl) (by kernel_rfl) (by kernel_rfl)) ?_
 intro W base args ds gs before LJ hW hcnd _
 have Bu:∀(j:Nat) t v,Tryz.f3.params[j]?=some t→args[j]?=some v→Value.okWide Tryz.prog W .any base t v:=LJ
 have hW':=hW
 obtain⟨p,q,mL,hV,rfl,vU,bC⟩:=hW
 have hA:DataW.TrodAll enc Tryz.prog W 0 (fun _=>true) true Tryz.f3.params.toList args.toList ds p:=mL
 rw[Tryz.params3]at hA Bu
 obtain⟨v0,pH,d0,ds0,p0,q0,EI,rfl,rfl,h0,r0⟩:=trodAll_cons hA
 obtain⟨v1,vF,d1,ds1,p1,q1,rfl,rfl,rfl,h1,r1⟩:=trodAll_cons r0
 obtain⟨v2,BN,d2,ds2,p2,q2,rfl,rfl,rfl,h2,r2⟩:=trodAll_cons r1
 obtain⟨rfl,rfl,rfl⟩:=trodAll_nil r2
 obtain rfl:args = #[v0,v1,v2]:=by cases args;simp_all
 obtain⟨rfl,rfl⟩:=trodVars_none hV
 have lt0:∀x∈p0,x.block<W.heap.size:=by obtain⟨m,hm⟩:=h0;exact DataW.trod_lt m _ _ _ hm
 have t0:=h0
 have lt1:∀x∈p1,x.block<W.heap.size:=by obtain⟨m,hm⟩:=h1;exact DataW.trod_lt m _ _ _ hm
 have t1:=h1
 have lt2:∀x∈p2,x.block<W.heap.size:=by obtain⟨m,hm⟩:=h2;exact DataW.trod_lt m _ _ _ hm
 have t2:=h2
 obtain⟨x0,y0⟩:=Pz (LA) (by kernel_rfl) h0
 obtain⟨cs0,rfl,-⟩:=okWide_struct Tryz.underlying27 (Bu 0 27 v0 rfl rfl)
 obtain⟨a1,rfl,-,-,w1⟩:=open_int Tryz.underlying3 (Bu 1 3 v1 rfl rfl) h1
 obtain⟨a2,rfl,-,-,w2⟩:=open_int Tryz.underlying3 (Bu 2 3 v2 rfl rfl) h2
 clear mL LJ
 refine (U4 (MY (W2 x0) a1 a2 (H8 y0).1 (H8 y0).2) (va (vg rfl y0) (va vi (va vi vn)))).mono fun e W' ⟨he,Cl⟩ =>?_
 subst he
 exact⟨_,rfl,_,_,_,[],_,[],hW',trodAll_mk1 (shut_bool Tryz.underlying4 _),(trodAll_cons_mk (Below.trod Cg (by kernel_rfl) (of_decide_eq_true (by kernel_rfl)) t0 Cl lt0) (trodAll_cons_mk (Below.trod Cg (by kernel_rfl) (of_decide_eq_true (by kernel_rfl)) t1 Cl lt1) (trodAll_cons_mk (Below.trod Cg (by kernel_rfl) (of_decide_eq_true (by kernel_rfl)) t2 Cl lt2) trodAll_mk0))),rfl,Cl.frame _,fun h=>by cases h⟩
theorem over:Rows.solveFillsRow.holds Tryz.pinned (OpenSpec.ofChange Rows.solveFillsSpec):=
 OpenClaim.holds_of_wide 3 Tryz.f3 rfl rfl rfl rfl rfl rfl rfl ⟨rfl,rfl,rfl,rfl,rfl⟩ rfl rfl rfl rfl rfl (by kernel_rfl) Tryz.func3 closed
  (of_decide_eq_true Wg) (by unfold Func.isWrapper;first | (rw[if_pos (by decide +kernel)];kernel_rfl) | (rw[if_neg (by decide +kernel)];exact⟨rfl,rfl⟩))
  (fun os started H enc _=>lifted os started H enc)
theorem proved:Rows.SolveFillsSaid:=over
#print axioms proved
end Go.Proofs.YtnpidbjdilnhlaaGreat.solveFills
