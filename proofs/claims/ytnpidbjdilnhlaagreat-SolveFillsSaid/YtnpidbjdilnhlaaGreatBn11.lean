import Derived.Test.YtnpidbjdilnhlaaGreatBn10
namespace Go.Proofs.YtnpidbjdilnhlaaGreat
theorem okF{f:FuncId}{fn:Func}{xs:List AV}{σ:Hp}{R:AV→Hp→Prop}(hf:Tryz.prog.funcs[f]?=some fn)(bR:funcOk fn=true)(h:qw Tryz.prog tt fn xs σ R):ACalls Tryz.prog f xs σ R:=
 QA VX (by kernel_rfl) hf bR h
theorem aU{S:Type}(L:S→List (Nat×AV))(H:S→Hp)(p:S→Prop)(μ:S→Nat)(s0:S){body:Tm→Hp→(Ex→Tm→Hp→Prop)→Prop}{t:Tm}{σ:Hp}{Q:Ex→Tm→Hp→Prop}(h0:p s0∧agree t (L s0)∧σ=H s0)
  (round:∀s g,p s→body (jZ g (L s)) (H s) (fun e t' σ'=>match e with | .normal=>lH L H p μ s t' σ' | e=>Q e t' σ')):jX body Q t σ:=.mk L H p μ s0 h0 round
theorem aH{S:Type}{L:S→List (Nat×AV)}{H:S→Hp}{p:S→Prop}{μ:S→Nat}{s:S}{t':Tm}{σ':Hp}(s':S)(h1:μ s'<μ s)(h2:p s')(h3:agree t' (L s'))(h4:fT σ' (H s')):lH L H p μ s t' σ':=.mk s' h1 h2 h3 h4
theorem next{S:Type}{L:S→List (Nat×AV)}{H:S→Hp}{p:S→Prop}{μ:S→Nat}{s:S}{t':Tm}{σ':Hp}(s':S)(h1:μ s'<μ s)(h2:p s')(h3:agree t' (L s'))(h4:σ'=H s'):lH L H p μ s t' σ':=.mk s' h1 h2 h3 (h4▸.refl _)
def upto(Q:List Nat)(n:Nat):Nat→mP:=Nat.rec (motive:=fun _=>Nat→mP) (fun _=>.stop) (fun _ ih i=>.one i (dB i Q) (ih (i+1))) n
theorem aF{σ σ2:Hp}(h:σ=σ2):fT σ σ2:=h▸.refl _
theorem zP{P:Program}{f:FuncId}{e:Sh}{l:List e.T}{σ:Hp}{R:AV→Hp→Prop}(h0:l=[]→ACalls P f [.aj] σ R∧ACalls P f [.eX] σ R)(h1:l≠[]→ACalls P f [.af e l] σ R):ACalls P f [.af e l] σ R:=by
 by_cases hl:l=[]
 ·obtain⟨k0,k1⟩:=h0 hl
  refine⟨k0.1,fun F w vs bD aD =>?_⟩
  have hv:=bD.2 0 _ rfl
  have nm:∀y,aA F w y (vs.getD 0 undef)→fO F w [y] vs:=fun y hy=>⟨bD.1,fun i x hx=>by cases i <;> simp at hx;subst hx;exact hy⟩
  subst hl
  generalize hu:vs.getD 0 undef=u at hv nm
  cases hv with
  | af _ _ _ hr =>
   obtain⟨a,c,e1,_,e3,e0,_⟩:=hr
   obtain rfl:=List.singleton_inj.1 e1
   cases a with
   | none =>
    obtain rfl:=e0 rfl
    exact k0.2 F w vs (nm _ .aj) aD
   | some a=>exact k1.2 F w vs (nm _ (.eX a c e3)) aD
 ·exact h1 hl
theorem aI{k:Nat}(h:k<1000000000):AV.int .i64 (IntKind.i64.wrap ((k:Int)+1))=AV.int .i64 ((k+1:Nat):Int):=by
 rw[show IntKind.i64.wrap ((k:Int)+1)=((k+1:Nat):Int) by rw[IntKind.wrap_i64];omega]
theorem get_some{α:Type}{l:List α}{k:Nat}(h:k<l.length):l[((k:Int)).toNat]?=some l[k]:=List.getElem?_eq_getElem h
def aB(x:AV)(σ:Hp):AV→Hp→Prop:=fun r σ'=>r=x∧σ'=σ
theorem az{P:Program}{f:FuncId}{xs:List AV}{σ:Hp}{K:AV→Hp→Prop}(js:List Nat){x:AV}{σ2:Hp}(h:ACalls P f xs (kK js σ) (aB x σ2))(k:K x σ2):CallAt P f K xs σ:=
 CallAt.mk js _ h fun _ _ ⟨h1,h2⟩=>h1▸h2▸k
theorem aJ{P:Program}{f:FuncId}{xs:List AV}{σ:Hp}{K:AV→Prop}(js:List Nat){x:AV}(h:ACalls P f xs (kK js σ) (aB x (kK js σ)))(k:K x):pv P f xs σ K:=pv.mk js x h k
theorem cm{P:Program}{f:FuncId}{xs:List AV}{σ:Hp}{K:AV→Hp→Prop}(js:List Nat){x:Bool}{σ2:Hp}(h:ACalls P f xs (kK js σ) (aB (.bool x) σ2))(k1:x=true→K (.bool true) σ2)(k2:x=false→K (.bool false) σ2):CallAt P f K xs σ:=
 az js h (by cases x;exact k2 rfl;exact k1 rfl)
theorem Li{P:Program}{f:FuncId}{xs:List AV}{σ:Hp}{K:AV→Prop}(js:List Nat){x:Bool}(h:ACalls P f xs (kK js σ) (aB (.bool x) (kK js σ)))(k1:x=true→K (.bool true))(k2:x=false→K (.bool false)):pv P f xs σ K:=
 aJ js h (by cases x;exact k2 rfl;exact k1 rfl)
theorem aa.gy{i:TI}{σ:Hp}{b o:Nat}{K:AV→Prop}(j:Nat)(cs:List AV)(x:Bool)(h1:σ[j]?=some (b,cs))(h2:dy i cs o=some (.bool x))(k1:x=true→K (.bool true))(k2:x=false→K (.bool false)):aa i σ b o K:=
 .mk j cs _ h1 h2 (by cases x;exact k2 rfl;exact k1 rfl)
theorem nP{b off len es:Nat}{e:Sh}{l:List e.T}:dp b off len es e l (.tup []) (.tup []):=.refl _
theorem bL{b off len es:Nat}{e:Sh}{l:List e.T}{x y:AV}{xs ys:List AV}(h:dp b off len es e l x y)(t:dp b off len es e l (.tup xs) (.tup ys)):dp b off len es e l (.tup (x::xs)) (.tup (y::ys)):=by
 have hl:xs.length=ys.length∧∀(i:Nat) (x y:AV),xs[i]?=some x→ys[i]?=some y→dp b off len es e l x y:=by
  cases t with
  | refl=>exact⟨rfl,fun i x y hx hy=>by rw[hx]at hy;cases hy;exact .refl _⟩
  | tup _ _ h hi=>exact⟨h,hi⟩
 refine .tup _ _ (by simp[hl.1]) fun i x' y' hx hy =>?_
 cases i with
 | zero=>simp at hx hy;subst hx;subst hy;exact h
 | succ i=>exact hl.2 i x' y' (by simpa using hx) (by simpa using hy)
theorem bz{a b:Bool}(h:a=b):AV.bool a=AV.bool b:=by rw[h]
theorem aN{k:IntKind}{a b:Int}(h:a=b):AV.int k a=AV.int k b:=by rw[h]
theorem dJ(fr b σ:Hp):(b++(fr++σ)).Perm (fr++(b++σ)):=by
 rw[← List.append_assoc,← List.append_assoc]
 exact List.Perm.append_right _ List.perm_append_comm
theorem gd.mem{σ:Hp}{b off len es:Nat}{cs:List AV}(h:(b,cs)∈σ)(h2:off+len*es≤cs.length):gd σ es (.ae b off len es) len ((cs.drop off).take (len*es)):=by
 obtain⟨j,hj⟩:=List.mem_iff_getElem?.1 h
 exact .ae j b off len cs hj h2
theorem gd.perm{σ σ2:Hp}{es n:Nat}{x:AV}{new:List AV}(h:gd σ es x n new)(hp:σ2.Perm σ):gd σ2 es x n new:=by
 cases h with
 | aj=>exact .aj
 | ib=>exact .ib
 | eX=>exact .eX
 | af s l h=>exact .af s l h
 | ae j b off len cs h1 h2 =>
  obtain⟨j',hj⟩:=List.mem_iff_getElem?.1 (hp.mem_iff.2 (List.mem_of_getElem? h1))
  exact .ae j' b off _ cs hj h2
inductive Acc(e:Nat):Nat→AV→Hp→List AV→Prop where
 | nil:Acc e 0 .aj [] []
 | ae (b k:Nat) (cs:List AV) (h:cs.length=k*e):Acc e k (.ae b 0 k e) [(b,cs)] cs
theorem Acc.length{e k:Nat}{v:AV}{acc:Hp}{cs:List AV}(h:Acc e k v acc cs):cs.length=k*e:=by
 cases h with
 | nil=>simp
 | ae b k cs h=>exact h
theorem rL(fr acc σ:Hp):(acc++(fr++σ)).Perm (fr++(acc++σ)):=dJ fr acc σ
theorem dX{i:TI}{K:AV→Hp→Prop}(fr:Hp){acc σ:Hp}{k n:Nat}{v x:AV}{cs new:List AV}(h:Acc i.size k v acc cs)(hx:gd (fr++(acc++σ)) i.size x n new)(ei:new.length=n*i.size)(hn:k+n≤1048576)(hb:i.bytes≤1024)(h0:0<i.size)
  (go:∀v' aP,Acc i.size (k+n) v' aP (cs++new)→K (.via v') (fr++(aP++σ))):AppendAt i (fr++(acc++σ)) v x K:=by
 have hl:=h.length
 cases h with
 | nil =>
  refine .perm _ (dJ fr [] σ) (.fresh n new (.inl rfl) (hx.perm (dJ fr [] σ)) (by omega) hb h0 (K:=fun v cR=>(n=0∧v=.aj∧cR=[]++(fr++σ))∨(n≠0∧∃b,v=.ae b 0 n i.size∧cR=(b,new)::([]++(fr++σ)))) (fun aS b=>.inr ⟨aS,b,rfl,rfl⟩) (fun h0=>.inl ⟨h0,rfl,rfl⟩)) ?_
  rintro v cR (⟨hz,rfl,rfl⟩ | ⟨hz,b,rfl,rfl⟩)
  ·subst hz
   obtain rfl:new=[]:=List.length_eq_zero_iff.1 (by simpa using ei)
   exact⟨_,(dJ fr [] σ).symm,.inr ⟨rfl,go _ _ .nil⟩⟩
  ·refine⟨_,(dJ fr [(b,new)] σ).symm,.inr ⟨rfl,go _ _ ?_⟩⟩
   have:=Acc.ae (e:=i.size) b (0+n) new (by rw[ei,Nat.zero_add])
   rw[Nat.zero_add]at this ⊢
   exact this
 | ae b k cs h =>
  refine .perm _ (dJ fr [(b,cs)] σ) (.more 0 b k n cs new rfl rfl (by rw[h];exact Nat.le_refl _) (hx.perm (dJ fr [(b,cs)] σ)) hn hb h0 (K:=fun v cR=>∃b',v=.ae b' 0 (k+n) i.size∧cR=(b',cs.take (k*i.size)++new)::(fr++σ)) (fun b'=>⟨b',rfl,rfl⟩)) ?_
  rintro v cR ⟨b',rfl,rfl⟩
  rw[List.take_of_length_le (by omega)]
  exact⟨_,(dJ fr [(b',cs++new)] σ).symm,.inr ⟨rfl,go _ _ (.ae _ _ _ (by rw[List.length_append,h,ei,Nat.add_mul]))⟩⟩
theorem jR{R:AV→Hp→Prop}(fr:Hp){acc σ:Hp}{s:Sh}{k:Nat}{v:AV}{cs:List AV}{l:List s.T}(h:Acc s.size k v acc cs)(hl:k=l.length)(hc:cs=l.flatMap s.cells)(hp:0<s.size)(go:Fin R (.af s l) (fr++σ)):Fin R v (fr++(acc++σ)):=by
 subst hl
 have hlen:=h.length
 refine .perm (dJ fr acc σ) ?_
 generalize hk:l.length=k at h
 cases h with
 | nil =>
  obtain rfl:=List.length_eq_zero_iff.1 hk
  exact .nil (.nil _) go
 | ae b k cs h =>
  subst hk
  exact .bO 0 b 0 l.length s.size cs s l rfl (by rw[List.drop_zero,List.take_of_length_le (by omega)];exact hc) ⟨rfl,rfl,hp⟩ .here go
def ak(l:List Int):List AV:=l.map (.int .i64)
theorem fi:∀l:List Int,ak l=l.flatMap (Sh.cells (.int .i64))
 | []=>rfl
 | x::l=>congrArg (AV.int .i64 x :: ·) (fi l)
theorem s4{f:FuncId}{xs:List AV}{σ σ':Hp}{x y:AV}(h:ACalls Tryz.prog f xs σ (aB x σ'))(e:x=y):ACalls Tryz.prog f xs σ (aB y σ'):=e▸h
theorem kF{α:Type}{l:List α}{k:Nat}(h:k<l.length)(p:α→Bool):(l.take (k+1)).any p=((l.take k).any p || p l[k]):=by
 rw[List.take_succ_eq_append_getElem h,List.any_append];simp
end Go.Proofs.YtnpidbjdilnhlaaGreat
namespace Go.Proofs.YtnpidbjdilnhlaaGreat
open Go.RowKit
set_option maxRecDepth 100000
theorem uw{i:TI}{K:AV→Hp→Prop}(fr:Hp){acc σ:Hp}{k n:Nat}{v x:AV}{cs new:List AV}(h:Acc i.size k v acc cs)(hx:gd (fr++(acc++σ)) i.size x n new)(ei:new.length=n*i.size)(hn:k+n≤1048576)(hb:i.bytes≤1024)(h0:0<i.size)
  (go:∀v' aP,Acc i.size (k+n) v' aP (cs++new)→K v' (fr++(aP++σ))):AppendAt i (fr++(acc++σ)) v x K:=by
 have hl:=h.length
 cases h with
 | nil =>
  refine .perm _ (dJ fr [] σ) (.fresh n new (.inl rfl) (hx.perm (dJ fr [] σ)) (by omega) hb h0 (K:=fun v cR=>(n=0∧v=.aj∧cR=[]++(fr++σ))∨(n≠0∧∃b,v=.ae b 0 n i.size∧cR=(b,new)::([]++(fr++σ)))) (fun aS b=>.inr ⟨aS,b,rfl,rfl⟩) (fun h0=>.inl ⟨h0,rfl,rfl⟩)) ?_
  rintro v cR (⟨hz,rfl,rfl⟩ | ⟨hz,b,rfl,rfl⟩)
  ·subst hz
   obtain rfl:new=[]:=List.length_eq_zero_iff.1 (by simpa using ei)
   exact⟨_,(dJ fr [] σ).symm,.inl (go _ _ .nil)⟩
  ·refine⟨_,(dJ fr [(b,new)] σ).symm,.inl (go _ _ ?_)⟩
   have:=Acc.ae (e:=i.size) b (0+n) new (by rw[ei,Nat.zero_add])
   rw[Nat.zero_add]at this ⊢
   exact this
 | ae b k cs h =>
  refine .perm _ (dJ fr [(b,cs)] σ) (.more 0 b k n cs new rfl rfl (by rw[h];exact Nat.le_refl _) (hx.perm (dJ fr [(b,cs)] σ)) hn hb h0 (K:=fun v cR=>∃b',v=.ae b' 0 (k+n) i.size∧cR=(b',cs.take (k*i.size)++new)::(fr++σ)) (fun b'=>⟨b',rfl,rfl⟩)) ?_
  rintro v cR ⟨b',rfl,rfl⟩
  rw[List.take_of_length_le (by omega)]
  exact⟨_,(dJ fr [(b',cs++new)] σ).symm,.inl (go _ _ (.ae _ _ _ (by rw[List.length_append,h,ei,Nat.add_mul])))⟩
theorem kb(f:List Hp)(σ:Hp){a b:List Nat}(h:a.Perm b):(a.foldr (fun i t=>f.getD i []++t) σ).Perm (b.foldr (fun i t=>f.getD i []++t) σ):=by
 induction h with
 | nil=>exact .refl _
 | cons x _ ih=>exact ih.append_left _
 | swap x y l=>exact dJ _ _ _
 | trans _ _ yr yq=>exact yr.trans yq
end Go.Proofs.YtnpidbjdilnhlaaGreat
namespace Go.Proofs.YtnpidbjdilnhlaaGreat
open Go.RowKit
set_option maxRecDepth 100000
def aL(ws:List Int):List AV:=ws.map (.int .u64)
theorem uK(n:Nat):bN [.int .u64 0] n=aL (List.replicate n 0):=by
 unfold aL
 induction n with
 | zero=>rfl
 | succ n ih=>simp[bN,ih,List.replicate_succ]
theorem ka:∀(ws:List Int),aL ws=ws.flatMap (Sh.cells (.int .u64))
 | []=>rfl
 | z::ws=>congrArg (AV.int .u64 z :: ·) (ka ws)
theorem Lq(n:Int)(σ:Hp):ACalls Tryz.prog 318 [.int .i64 n] σ (fun r σ'=>∃m,r=.int .i64 m∧σ'=σ):=by
 refine okF Tryz.func318 (by kernel_rfl) ?_
 refine ah.mk (by omega) ?_
 refine an (fun h1 =>?_) (fun h1 =>?_)
 ·have h1:32767<n.tmod 65536:=h1
  exact .done ⟨_,rfl,rfl⟩
 ·have h1:¬(32767<n.tmod 65536):=h1
  refine an (fun h2 =>?_) (fun h2 =>?_)
  ·have h2:n.tmod 65536 < -32768:=h2
   exact .done ⟨_,rfl,rfl⟩
  ·have h2:¬(n.tmod 65536 < -32768):=h2
   exact .done ⟨_,rfl,rfl⟩
theorem X0(a b:Int)(σ:Hp):ACalls Tryz.prog 295 [.int .i64 a,.int .i64 b] σ (fun r σ'=>∃x y,r=.agg [.int .i64 x,.int .i64 y]∧σ'=σ):=by
 refine okF Tryz.func295 (by kernel_rfl) ?_
 intro b1
 (refine .mk [] _ (Lq _ _) ?_;rintro _ _ ⟨x,rfl,rfl⟩)
 (refine .mk [] _ (Lq _ _) ?_;rintro _ _ ⟨x,rfl,rfl⟩)
 refine ai.mk 0 _ _ rfl rfl ?_
 refine aa.mk 0 _ _ rfl rfl ?_
 exact .drop 0 1 (.done ⟨_,_,rfl,rfl⟩)
theorem w6{w:Int}{k m:Nat}(hk:min (Int.toNat (k:Int)) IntKind.u64.bits=m):w.fdiv (2 ^ min (Int.toNat (k:Int)) IntKind.u64.bits)=w / 2 ^ m:=by
 rw[hk];exact Int.fdiv_eq_ediv_of_nonneg _ (Int.le_of_lt (Int.pow_pos (by decide)))
theorem Be(w:Int):bits .and .u64 w 3=w % 4:=by
 show IntKind.u64.wrap ((BitVec.ofInt 64 w &&& BitVec.ofInt 64 3).toNat:Int)=_
 have h3:(BitVec.ofInt 64 3:BitVec 64).toNat=2 ^ 2-1:=by decide
 rw[BitVec.toNat_and,h3,Nat.and_two_pow_sub_one_eq_mod,BitVec.toNat_ofInt,IntKind.wrap_u64]
 omega
def dY(w:Int):Bool:=decide (w % 4=2) && decide (0≤w∧w<17179869184)
theorem Ud(w:Int)(σ:Hp):ACalls Tryz.prog 265 [.int .u64 w] σ (fun r σ'=>∃x y,r=.tup [.agg [.int .i64 x,.int .i64 y],.bool (decide (0≤w∧w<4294967296))]∧σ'=σ):=by
 have e:=w6 (k:=32) (m:=32) (w:=w) (by decide)
 refine okF Tryz.func265 (by kernel_rfl) ?_
 intro b1
 refine ah.mk (by omega) ?_
 refine bS (fun h2 =>?_) (fun h2 =>?_)
 ·have h2:¬(w.fdiv (2 ^ min (Int.toNat 32) IntKind.u64.bits)=0):=by simpa using h2
  have hw:¬(0≤w∧w<4294967296):=fun h=>h2 (by rw[show w.fdiv (2 ^ min (Int.toNat 32) IntKind.u64.bits)=w / 2 ^ 32 from e];omega)
  refine ai.mk 0 _ _ rfl rfl ?_
  refine aa.mk 0 _ _ rfl rfl ?_
  exact .drop 0 1 (.done ⟨_,_,by rw[decide_eq_false hw];rfl,rfl⟩)
 ·have h2:w.fdiv (2 ^ min (Int.toNat 32) IntKind.u64.bits)=0:=by simpa using h2
  have hw:0≤w∧w<4294967296:=by rw[show w.fdiv (2 ^ min (Int.toNat 32) IntKind.u64.bits)=w / 2 ^ 32 from e]at h2;omega
  refine ah.mk (by omega) ?_
  (refine .mk [] _ (X0 _ _ _) ?_;rintro _ _ ⟨x,y,rfl,rfl⟩)
  refine ai.mk 0 _ _ rfl rfl ?_
  refine aa.mk 0 _ _ rfl rfl ?_
  exact .drop 0 1 (.done ⟨_,_,by rw[decide_eq_true hw];rfl,rfl⟩)
theorem XX(w:Int)(σ:Hp):ACalls Tryz.prog 215 [.int .u64 w] σ (fun r σ'=>∃x y,r=.tup [.agg [.int .i64 x,.int .i64 y],.bool (dY w)]∧σ'=σ):=by
 have e:=w6 (k:=2) (m:=2) (w:=w) (by decide)
 refine okF Tryz.func215 (by kernel_rfl) ?_
 intro b1
 refine bS (fun h2 =>?_) (fun h2 =>?_)
 ·have h2:¬(bits BinOp.and IntKind.u64 w 3=2):=by simpa using h2
  rw[Be]at h2
  refine ai.mk 0 _ _ rfl rfl ?_
  refine aa.mk 0 _ _ rfl rfl ?_
  exact .drop 0 1 (.done ⟨_,_,by rw[show dY w=false by simp[dY,h2]];rfl,rfl⟩)
 ·have h2:bits BinOp.and IntKind.u64 w 3=2:=by simpa using h2
  rw[Be]at h2
  refine ah.mk (by omega) ?_
  have e':w.fdiv (2 ^ min (Int.toNat 2) IntKind.u64.bits)=w / 4:=e
  refine .mk [] _ (Ud _ _) ?_
  rintro _ _ ⟨x,y,rfl,rfl⟩
  have hk:decide (0≤w.fdiv (2 ^ min (Int.toNat 2) IntKind.u64.bits)∧w.fdiv (2 ^ min (Int.toNat 2) IntKind.u64.bits)<4294967296)=dY w:=by
   rw[e',show dY w=decide (0≤w∧w<17179869184) by simp[dY,h2]];exact decide_eq_decide.2 (by omega)
  refine ai.mk 0 _ _ rfl rfl ?_
  refine aa.mk 0 _ _ rfl rfl ?_
  exact .drop 0 1 (.done ⟨_,_,by rw[hk];rfl,rfl⟩)
def bf(w:Int):Int:=if w=0 then 0 else if w=1 then 1 else if dY w then w else 1
theorem Dn{w:Int}(h:dY w=true):w≠0∧w≠1:=by
 unfold dY at h;simp at h;omega
theorem aIs(w:Int)(σ:Hp):ACalls Tryz.prog 162 [.int .u64 w] σ (aB (.bool (dY w || decide (w=0) || decide (w=1))) σ):=by
 refine okF Tryz.func162 (by kernel_rfl) ?_
 refine .mk [] _ (XX w _) ?_
 rintro _ _ ⟨x,y,rfl,rfl⟩
 cases hn:dY w
 ·intro aC
  refine ai.mk 0 _ _ rfl rfl ?_
  refine an (fun c2 =>?_) (fun c2 =>?_)
  ·have c2:w=0:=c2
   exact .drop 0 1 (.done ⟨bz (by simp[*]),rfl⟩)
  ·have c2:¬(w=0):=c2
   refine an (fun c3 =>?_) (fun c3 =>?_)
   ·have c3:w=1:=c3
    exact .drop 0 1 (.done ⟨bz (by simp[*]),rfl⟩)
   ·have c3:¬(w=1):=c3
    exact .drop 0 1 (.done ⟨bz (by simp[*]),rfl⟩)
 ·intro aC
  refine ai.mk 0 _ _ rfl rfl ?_
  exact .drop 0 1 (.done ⟨bz (by simp[*]),rfl⟩)
theorem EP(w:Int)(σ:Hp):ACalls Tryz.prog 326 [.int .u64 w] σ (aB (.int .u64 (bf w)) σ):=by
 refine okF Tryz.func326 (by kernel_rfl) ?_
 refine cm [] (aIs w σ) (fun h =>?_) (fun h =>?_)
 ·refine .done ⟨aN ?_,rfl⟩
  unfold bf
  simp at h
  rcases h with (h | h) | h
  ·simp[h,Dn h]
  ·simp[h]
  ·simp[h]
 ·exact .done ⟨aN (by unfold bf;simp at h;simp[h]),rfl⟩
def pq(a b:Int):Int:=if bf a=bf b∨bf b=0 then bf a else if bf a=0 then bf b else 1
theorem VR(a b:Int)(σ:Hp):ACalls Tryz.prog 305 [.int .u64 a,.int .u64 b] σ (aB (.int .u64 (pq a b)) σ):=by
 refine okF Tryz.func305 (by kernel_rfl) ?_
 refine az [] (EP _ _) ?_
 refine az [] (EP _ _) ?_
 refine an (fun c1 =>?_) (fun c1 =>?_)
 ·have c1:bf a=bf b:=c1
  exact .done ⟨aN (by unfold pq;split <;> (try split) <;> omega),rfl⟩
 ·have c1:¬(bf a=bf b):=c1
  refine an (fun c2 =>?_) (fun c2 =>?_)
  ·have c2:bf b=0:=c2
   exact .done ⟨aN (by unfold pq;split <;> (try split) <;> omega),rfl⟩
  ·have c2:¬(bf b=0):=c2
   refine an (fun c3 =>?_) (fun c3 =>?_)
   ·have c3:bf a=0:=c3
    exact .done ⟨aN (by unfold pq;split <;> (try split) <;> omega),rfl⟩
   ·have c3:¬(bf a=0):=c3
    exact .done ⟨aN (by unfold pq;split <;> (try split) <;> omega),rfl⟩
def jT(ag a b:Int):Int:=if ag=1 then bits .or .u64 a b else if ag=2 then bits .and .u64 a b else if ag=3 then pq a b else 0
theorem LZ(ag a b:Int)(σ:Hp):ACalls Tryz.prog 282 [.int .i64 ag,.int .u64 a,.int .u64 b] σ (aB (.int .u64 (jT ag a b)) σ):=by
 refine okF Tryz.func282 (by kernel_rfl) ?_
 refine an (fun c1 =>?_) (fun c1 =>?_)
 ·have c1:ag=1:=c1
  exact .done ⟨aN (by simp[jT, *]),rfl⟩
 ·have c1:¬(ag=1):=c1
  refine an (fun c2 =>?_) (fun c2 =>?_)
  ·have c2:ag=2:=c2
   exact .done ⟨aN (by simp[jT, *]),rfl⟩
  ·have c2:¬(ag=2):=c2
   refine an (fun c3 =>?_) (fun c3 =>?_)
   ·have c3:ag=3:=c3
    refine az [] (VR _ _ _) ?_
    exact .done ⟨aN (by simp[jT, *]),rfl⟩
   ·have c3:¬(ag=3):=c3
    exact .done ⟨aN (by simp[jT, *]),rfl⟩
theorem KD(n:Int)(σ:Hp):ACalls Tryz.prog 241 [.int .i64 n] σ (fun r σ'=>∃m,r=.int .i64 m∧σ'=σ):=by
 refine okF Tryz.func241 (by kernel_rfl) ?_
 refine ah.mk (by omega) ?_
 refine ah.mk (by omega) ?_
 exact .done ⟨_,rfl,rfl⟩
theorem WG(a b:Int)(σ:Hp):ACalls Tryz.prog 201 [.int .i64 a,.int .i64 b] σ (fun r σ'=>∃x y,r=.agg [.int .i64 x,.int .i64 y]∧σ'=σ):=by
 refine okF Tryz.func201 (by kernel_rfl) ?_
 intro aC
 (refine .mk [] _ (KD _ _) ?_;rintro _ _ ⟨x,rfl,rfl⟩)
 (refine .mk [] _ (KD _ _) ?_;rintro _ _ ⟨x,rfl,rfl⟩)
 refine ai.mk 0 _ _ rfl rfl ?_
 refine aa.mk 0 _ _ rfl rfl ?_
 exact .drop 0 1 (.done ⟨_,_,rfl,rfl⟩)
theorem WC(w:Int)(σ:Hp)(h0:0≤w)(h2:w<18446744073709551616):ACalls Tryz.prog 186 [.int .u64 w] σ (fun r σ'=>∃x y,r=.tup [.agg [.int .i64 x,.int .i64 y],.bool (dY w)]∧σ'=σ):=by
 have e1:w.tmod 4=w % 4:=Int.tmod_eq_emod_of_nonneg h0
 have e2:IntKind.u64.wrap (w.tdiv 4)=w / 4:=by rw[Int.tdiv_eq_ediv_of_nonneg h0,IntKind.wrap_u64];omega
 refine okF Tryz.func186 (by kernel_rfl) ?_
 intro aC
 refine ah.mk (by omega) ?_
 refine bS (fun c2 =>?_) (fun c2 =>?_)
 ·have c2:¬(w.tmod 4=2):=by simpa using c2
  refine ai.mk 0 _ _ rfl rfl ?_
  refine aa.mk 0 _ _ rfl rfl ?_
  exact .drop 0 1 (.done ⟨_,_,by rw[show dY w=false by unfold dY;simp;omega];rfl,rfl⟩)
 ·have c2:w.tmod 4=2:=by simpa using c2
  refine ah.mk (by omega) ?_
  refine an (fun c3 =>?_) (fun c3 =>?_)
  ·have c3:4294967296≤IntKind.u64.wrap (w.tdiv 4):=c3
   refine ai.mk 0 _ _ rfl rfl ?_
   refine aa.mk 0 _ _ rfl rfl ?_
   exact .drop 0 1 (.done ⟨_,_,by rw[show dY w=false by unfold dY;simp;omega];rfl,rfl⟩)
  ·have c3:¬(4294967296≤IntKind.u64.wrap (w.tdiv 4)):=c3
   refine ah.mk (by omega) ?_
   refine ah.mk (by omega) ?_
   refine ah.mk (by omega) ?_
   (refine .mk [] _ (WG _ _ _) ?_;rintro _ _ ⟨x,y,rfl,rfl⟩)
   refine ai.mk 0 _ _ rfl rfl ?_
   refine aa.mk 0 _ _ rfl rfl ?_
   exact .drop 0 1 (.done ⟨_,_,by rw[show dY w=true by unfold dY;simp;omega];rfl,rfl⟩)
theorem VC(w:Int)(σ:Hp)(h0:0≤w)(h2:w<18446744073709551616):ACalls Tryz.prog 141 [.int .u64 w] σ (aB (.int .u64 (bf w)) σ):=by
 refine okF Tryz.func141 (by kernel_rfl) ?_
 refine .mk [] _ (WC w _ h0 h2) ?_
 rintro _ _ ⟨x,y,rfl,rfl⟩
 cases hn:dY w
 ·intro aC
  refine ai.mk 0 _ _ rfl rfl ?_
  refine bS (fun c2 =>?_) (fun c2 =>?_)
  ·have c2:¬(w=0):=by simpa using c2
   exact .drop 0 1 (.done ⟨aN (by simp[bf, *]),rfl⟩)
  ·have c2:w=0:=by simpa using c2
   exact .drop 0 1 (.done ⟨aN (by simp[bf, *]),rfl⟩)
 ·have aS:=Dn hn
  intro aC
  refine ai.mk 0 _ _ rfl rfl ?_
  refine bS (fun c2 =>?_) (fun c2 =>?_)
  ·have c2:¬(w=0):=by simpa using c2
   exact .drop 0 1 (.done ⟨aN (by simp[bf, *]),rfl⟩)
  ·have c2:w=0:=by simpa using c2
   exact .drop 0 1 (.done ⟨aN (by simp[bf, *]),rfl⟩)
def wd(a:List Int)(i:Nat):Int:=(a[i]?).getD 0
def bh(z:Int):Prop:=0≤z∧z<18446744073709551616
def bJ(l:List Int):Prop:=∀z∈l,bh z
theorem wY(n:Int):bh (IntKind.u64.wrap n):=by rw[IntKind.wrap_u64];unfold bh;omega
theorem Kf{w:Int}(h:bh w):bh (bf w):=by
 unfold bf
 split
 ·exact⟨by decide,by decide⟩
 ·split
  ·exact⟨by decide,by decide⟩
  ·split
   ·exact h
   ·exact⟨by decide,by decide⟩
theorem SH{ag a b:Int}(ha:bh a)(hb:bh b):bh (jT ag a b):=by
 unfold jT
 split
 ·exact wY _
 ·split
  ·exact wY _
  ·split
   ·unfold pq
    split
    ·exact Kf ha
    ·split
     ·exact Kf hb
     ·exact⟨by decide,by decide⟩
   ·exact⟨by decide,by decide⟩
theorem qn{l:List Int}(h:bJ l)(i:Nat):bh (wd l i):=by
 unfold wd
 cases hq:l[i]? with
 | none=>exact⟨by decide,by decide⟩
 | some x=>exact h x (List.mem_of_getElem? hq)
end Go.Proofs.YtnpidbjdilnhlaaGreat
