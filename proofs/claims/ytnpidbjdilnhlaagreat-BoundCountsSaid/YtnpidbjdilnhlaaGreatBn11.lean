import Derived.Test.YtnpidbjdilnhlaaGreatBn10
namespace Go.Proofs.YtnpidbjdilnhlaaGreat
theorem okF{f:FuncId}{fn:Func}{xs:List AV}{σ:Hp}{R:AV→Hp→Prop}(hf:Tryz.prog.funcs[f]?=some fn)(bL:funcOk fn=true)(h:ub Tryz.prog tt fn xs σ R):ACalls Tryz.prog f xs σ R:=
 Vo aaN (by kernel_rfl) hf bL h
theorem bO{S:Type}(L:S→List (Nat×AV))(H:S→Hp)(p:S→Prop)(μ:S→Nat)(s0:S){body:Tm→Hp→(Ex→Tm→Hp→Prop)→Prop}{t:Tm}{σ:Hp}{Q:Ex→Tm→Hp→Prop}(h0:p s0∧agree t (L s0)∧σ=H s0)
  (round:∀s g,p s→body (dF g (L s)) (H s) (fun e t' σ'=>match e with | .normal=>nR L H p μ s t' σ' | e=>Q e t' σ')):kF body Q t σ:=.mk L H p μ s0 h0 round
theorem bg{S:Type}{L:S→List (Nat×AV)}{H:S→Hp}{p:S→Prop}{μ:S→Nat}{s:S}{t':Tm}{σ':Hp}(s':S)(h1:μ s'<μ s)(h2:p s')(h3:agree t' (L s'))(h4:gF σ' (H s')):nR L H p μ s t' σ':=.mk s' h1 h2 h3 h4
def upto(Q:List Nat)(n:Nat):Nat→oE:=Nat.rec (motive:=fun _=>Nat→oE) (fun _=>.stop) (fun _ ih i=>.one i (dQ i Q) (ih (i+1))) n
theorem aF{σ σ2:Hp}(h:σ=σ2):gF σ σ2:=h▸.refl _
theorem ze{P:Program}{f:FuncId}{e:Sh}{l:List e.T}{σ:Hp}{R:AV→Hp→Prop}(h0:l=[]→ACalls P f [.af] σ R∧ACalls P f [.ft] σ R)(h1:l≠[]→ACalls P f [.ah e l] σ R):ACalls P f [.ah e l] σ R:=by
 by_cases hl:l=[]
 ·obtain⟨k0,k1⟩:=h0 hl
  refine⟨k0.1,fun F w vs bz ay =>?_⟩
  have hv:=bz.2 0 _ rfl
  have mb:∀y,ar F w y (vs.getD 0 undef)→gz F w [y] vs:=fun y hy=>⟨bz.1,fun i x hx=>by cases i <;> simp at hx;subst hx;exact hy⟩
  subst hl
  generalize hu:vs.getD 0 undef=u at hv mb
  cases hv with
  | ah _ _ _ hr =>
   obtain⟨a,c,e1,_,e3,e0,_⟩:=hr
   obtain rfl:=List.singleton_inj.1 e1
   cases a with
   | none =>
    obtain rfl:=e0 rfl
    exact k0.2 F w vs (mb _ .af) ay
   | some a=>exact k1.2 F w vs (mb _ (.ft a c e3)) ay
 ·exact h1 hl
theorem a8{k:Nat}(h:k<1000000000):AV.int .i64 (IntKind.i64.wrap ((k:Int)+1))=AV.int .i64 ((k+1:Nat):Int):=by
 rw[show IntKind.i64.wrap ((k:Int)+1)=((k+1:Nat):Int) by rw[IntKind.wrap_i64];omega]
theorem get_some{α:Type}{l:List α}{k:Nat}(h:k<l.length):l[((k:Int)).toNat]?=some l[k]:=List.getElem?_eq_getElem h
def az(x:AV)(σ:Hp):AV→Hp→Prop:=fun r σ'=>r=x∧σ'=σ
theorem ax{P:Program}{f:FuncId}{xs:List AV}{σ:Hp}{K:AV→Hp→Prop}(js:List Nat){x:AV}{σ2:Hp}(h:ACalls P f xs (lZ js σ) (az x σ2))(k:K x σ2):CallAt P f K xs σ:=
 CallAt.mk js _ h fun _ _ ⟨h1,h2⟩=>h1▸h2▸k
theorem aD{P:Program}{f:FuncId}{xs:List AV}{σ:Hp}{K:AV→Prop}(js:List Nat){x:AV}(h:ACalls P f xs (lZ js σ) (az x (lZ js σ)))(k:K x):qX P f xs σ K:=qX.mk js x h k
theorem eH{P:Program}{f:FuncId}{xs:List AV}{σ:Hp}{K:AV→Hp→Prop}(js:List Nat){x:Bool}{σ2:Hp}(h:ACalls P f xs (lZ js σ) (az (.bool x) σ2))(k1:x=true→K (.bool true) σ2)(k2:x=false→K (.bool false) σ2):CallAt P f K xs σ:=
 ax js h (by cases x;exact k2 rfl;exact k1 rfl)
theorem H5{P:Program}{f:FuncId}{xs:List AV}{σ:Hp}{K:AV→Prop}(js:List Nat){x:Bool}(h:ACalls P f xs (lZ js σ) (az (.bool x) (lZ js σ)))(k1:x=true→K (.bool true))(k2:x=false→K (.bool false)):qX P f xs σ K:=
 aD js h (by cases x;exact k2 rfl;exact k1 rfl)
theorem dJ.iZ{i:TI}{σ:Hp}{b o:Nat}{K:AV→Prop}(j:Nat)(cs:List AV)(x:Bool)(h1:σ[j]?=some (b,cs))(h2:cY i cs o=some (.bool x))(k1:x=true→K (.bool true))(k2:x=false→K (.bool false)):dJ i σ b o K:=
 .mk j cs _ h1 h2 (by cases x;exact k2 rfl;exact k1 rfl)
theorem z7{b off len es:Nat}{e:Sh}{l:List e.T}:dP b off len es e l (.tup []) (.tup []):=.refl _
theorem dK{b off len es:Nat}{e:Sh}{l:List e.T}{x y:AV}{xs ys:List AV}(h:dP b off len es e l x y)(t:dP b off len es e l (.tup xs) (.tup ys)):dP b off len es e l (.tup (x::xs)) (.tup (y::ys)):=by
 have hl:xs.length=ys.length∧∀(i:Nat) (x y:AV),xs[i]?=some x→ys[i]?=some y→dP b off len es e l x y:=by
  cases t with
  | refl=>exact⟨rfl,fun i x y hx hy=>by rw[hx]at hy;cases hy;exact .refl _⟩
  | tup _ _ h hi=>exact⟨h,hi⟩
 refine .tup _ _ (by simp[hl.1]) fun i x' y' hx hy =>?_
 cases i with
 | zero=>simp at hx hy;subst hx;subst hy;exact h
 | succ i=>exact hl.2 i x' y' (by simpa using hx) (by simpa using hy)
theorem cM{a b:Bool}(h:a=b):AV.bool a=AV.bool b:=by rw[h]
theorem aN{k:IntKind}{a b:Int}(h:a=b):AV.int k a=AV.int k b:=by rw[h]
theorem dO(fr b σ:Hp):(b++(fr++σ)).Perm (fr++(b++σ)):=by
 rw[← List.append_assoc,← List.append_assoc]
 exact List.Perm.append_right _ List.perm_append_comm
theorem iA.mem{σ:Hp}{b off len es:Nat}{cs:List AV}(h:(b,cs)∈σ)(h2:off+len*es≤cs.length):iA σ es (.ae b off len es) len ((cs.drop off).take (len*es)):=by
 obtain⟨j,hj⟩:=List.mem_iff_getElem?.1 h
 exact .ae j b off len cs hj h2
theorem iA.perm{σ σ2:Hp}{es n:Nat}{x:AV}{new:List AV}(h:iA σ es x n new)(hp:σ2.Perm σ):iA σ2 es x n new:=by
 cases h with
 | af=>exact .af
 | iV=>exact .iV
 | ft=>exact .ft
 | ah s l h=>exact .ah s l h
 | ae j b off len cs h1 h2 =>
  obtain⟨j',hj⟩:=List.mem_iff_getElem?.1 (hp.mem_iff.2 (List.mem_of_getElem? h1))
  exact .ae j' b off _ cs hj h2
inductive Acc(e:Nat):Nat→AV→Hp→List AV→Prop where
 | nil:Acc e 0 .af [] []
 | ae (b k:Nat) (cs:List AV) (h:cs.length=k*e):Acc e k (.ae b 0 k e) [(b,cs)] cs
theorem Acc.length{e k:Nat}{v:AV}{acc:Hp}{cs:List AV}(h:Acc e k v acc cs):cs.length=k*e:=by
 cases h with
 | nil=>simp
 | ae b k cs h=>exact h
theorem xm(fr acc σ:Hp):(acc++(fr++σ)).Perm (fr++(acc++σ)):=dO fr acc σ
theorem kr{i:TI}{K:AV→Hp→Prop}(fr:Hp){acc σ:Hp}{k n:Nat}{v x:AV}{cs new:List AV}(h:Acc i.size k v acc cs)(hx:iA (fr++(acc++σ)) i.size x n new)(fP:new.length=n*i.size)(hn:k+n≤1048576)(hb:i.bytes≤1024)(h0:0<i.size)
  (go:∀v' bh,Acc i.size (k+n) v' bh (cs++new)→K (.via v') (fr++(bh++σ))):AppendAt i (fr++(acc++σ)) v x K:=by
 have hl:=h.length
 cases h with
 | nil =>
  refine .perm _ (dO fr [] σ) (.fresh n new (.inl rfl) (hx.perm (dO fr [] σ)) (by omega) hb h0 (K:=fun v dh=>(n=0∧v=.af∧dh=[]++(fr++σ))∨(n≠0∧∃b,v=.ae b 0 n i.size∧dh=(b,new)::([]++(fr++σ)))) (fun aI b=>.inr ⟨aI,b,rfl,rfl⟩) (fun h0=>.inl ⟨h0,rfl,rfl⟩)) ?_
  rintro v dh (⟨hz,rfl,rfl⟩ | ⟨hz,b,rfl,rfl⟩)
  ·subst hz
   obtain rfl:new=[]:=List.length_eq_zero_iff.1 (by simpa using fP)
   exact⟨_,(dO fr [] σ).symm,.inr ⟨rfl,go _ _ .nil⟩⟩
  ·refine⟨_,(dO fr [(b,new)] σ).symm,.inr ⟨rfl,go _ _ ?_⟩⟩
   have:=Acc.ae (e:=i.size) b (0+n) new (by rw[fP,Nat.zero_add])
   rw[Nat.zero_add]at this ⊢
   exact this
 | ae b k cs h =>
  refine .perm _ (dO fr [(b,cs)] σ) (.more 0 b k n cs new rfl rfl (by rw[h];exact Nat.le_refl _) (hx.perm (dO fr [(b,cs)] σ)) hn hb h0 (K:=fun v dh=>∃b',v=.ae b' 0 (k+n) i.size∧dh=(b',cs.take (k*i.size)++new)::(fr++σ)) (fun b'=>⟨b',rfl,rfl⟩)) ?_
  rintro v dh ⟨b',rfl,rfl⟩
  rw[List.take_of_length_le (by omega)]
  exact⟨_,(dO fr [(b',cs++new)] σ).symm,.inr ⟨rfl,go _ _ (.ae _ _ _ (by rw[List.length_append,h,fP,Nat.add_mul]))⟩⟩
theorem qG{R:AV→Hp→Prop}(fr:Hp){acc σ:Hp}{s:Sh}{k:Nat}{v:AV}{cs:List AV}{l:List s.T}(h:Acc s.size k v acc cs)(hl:k=l.length)(hc:cs=l.flatMap s.cells)(hp:0<s.size)(go:Fin R (.ah s l) (fr++σ)):Fin R v (fr++(acc++σ)):=by
 subst hl
 have hlen:=h.length
 refine .perm (dO fr acc σ) ?_
 generalize hk:l.length=k at h
 cases h with
 | nil =>
  obtain rfl:=List.length_eq_zero_iff.1 hk
  exact .nil (.nil _) go
 | ae b k cs h =>
  subst hk
  exact .cb 0 b 0 l.length s.size cs s l rfl (by rw[List.drop_zero,List.take_of_length_le (by omega)];exact hc) ⟨rfl,rfl,hp⟩ .here go
def aj(l:List Int):List AV:=l.map (.int .i64)
theorem tD:∀l:List Int,aj l=l.flatMap (Sh.cells (.int .i64))
 | []=>rfl
 | x::l=>congrArg (AV.int .i64 x :: ·) (tD l)
theorem xf{f:FuncId}{xs:List AV}{σ σ':Hp}{x y:AV}(h:ACalls Tryz.prog f xs σ (az x σ'))(e:x=y):ACalls Tryz.prog f xs σ (az y σ'):=e▸h
theorem rV{α:Type}{l:List α}{k:Nat}(h:k<l.length)(p:α→Bool):(l.take (k+1)).any p=((l.take k).any p || p l[k]):=by
 rw[List.take_succ_eq_append_getElem h,List.any_append];simp
set_option maxRecDepth 100000
theorem w8{i:TI}{K:AV→Hp→Prop}(fr:Hp){acc σ:Hp}{k n:Nat}{v x:AV}{cs new:List AV}(h:Acc i.size k v acc cs)(hx:iA (fr++(acc++σ)) i.size x n new)(fP:new.length=n*i.size)(hn:k+n≤1048576)(hb:i.bytes≤1024)(h0:0<i.size)
  (go:∀v' bh,Acc i.size (k+n) v' bh (cs++new)→K v' (fr++(bh++σ))):AppendAt i (fr++(acc++σ)) v x K:=by
 have hl:=h.length
 cases h with
 | nil =>
  refine .perm _ (dO fr [] σ) (.fresh n new (.inl rfl) (hx.perm (dO fr [] σ)) (by omega) hb h0 (K:=fun v dh=>(n=0∧v=.af∧dh=[]++(fr++σ))∨(n≠0∧∃b,v=.ae b 0 n i.size∧dh=(b,new)::([]++(fr++σ)))) (fun aI b=>.inr ⟨aI,b,rfl,rfl⟩) (fun h0=>.inl ⟨h0,rfl,rfl⟩)) ?_
  rintro v dh (⟨hz,rfl,rfl⟩ | ⟨hz,b,rfl,rfl⟩)
  ·subst hz
   obtain rfl:new=[]:=List.length_eq_zero_iff.1 (by simpa using fP)
   exact⟨_,(dO fr [] σ).symm,.inl (go _ _ .nil)⟩
  ·refine⟨_,(dO fr [(b,new)] σ).symm,.inl (go _ _ ?_)⟩
   have:=Acc.ae (e:=i.size) b (0+n) new (by rw[fP,Nat.zero_add])
   rw[Nat.zero_add]at this ⊢
   exact this
 | ae b k cs h =>
  refine .perm _ (dO fr [(b,cs)] σ) (.more 0 b k n cs new rfl rfl (by rw[h];exact Nat.le_refl _) (hx.perm (dO fr [(b,cs)] σ)) hn hb h0 (K:=fun v dh=>∃b',v=.ae b' 0 (k+n) i.size∧dh=(b',cs.take (k*i.size)++new)::(fr++σ)) (fun b'=>⟨b',rfl,rfl⟩)) ?_
  rintro v dh ⟨b',rfl,rfl⟩
  rw[List.take_of_length_le (by omega)]
  exact⟨_,(dO fr [(b',cs++new)] σ).symm,.inl (go _ _ (.ae _ _ _ (by rw[List.length_append,h,fP,Nat.add_mul])))⟩
theorem lT(f:List Hp)(σ:Hp){a b:List Nat}(h:a.Perm b):(a.foldr (fun i t=>f.getD i []++t) σ).Perm (b.foldr (fun i t=>f.getD i []++t) σ):=by
 induction h with
 | nil=>exact .refl _
 | cons x _ ih=>exact ih.append_left _
 | swap x y l=>exact dO _ _ _
 | trans _ _ Bz By=>exact Bz.trans By
set_option maxRecDepth 100000
def aU(ws:List Int):List AV:=ws.map (.int .u64)
theorem Hn(n:Nat):bU [.int .u64 0] n=aU (List.replicate n 0):=by
 unfold aU
 induction n with
 | zero=>rfl
 | succ n ih=>simp[bU,ih,List.replicate_succ]
theorem oL:∀(ws:List Int),aU ws=ws.flatMap (Sh.cells (.int .u64))
 | []=>rfl
 | z::ws=>congrArg (AV.int .u64 z :: ·) (oL ws)
theorem PT(n:Int)(σ:Hp):ACalls Tryz.prog 318 [.int .i64 n] σ (fun r σ'=>∃m,r=.int .i64 m∧σ'=σ):=by
 refine okF Tryz.func318 (by kernel_rfl) ?_
 refine ag.mk (by omega) ?_
 refine ao (fun h1 =>?_) (fun h1 =>?_)
 ·have h1:32767<n.tmod 65536:=h1
  exact .done ⟨_,rfl,rfl⟩
 ·have h1:¬(32767<n.tmod 65536):=h1
  refine ao (fun h2 =>?_) (fun h2 =>?_)
  ·have h2:n.tmod 65536 < -32768:=h2
   exact .done ⟨_,rfl,rfl⟩
  ·have h2:¬(n.tmod 65536 < -32768):=h2
   exact .done ⟨_,rfl,rfl⟩
theorem acL(a b:Int)(σ:Hp):ACalls Tryz.prog 295 [.int .i64 a,.int .i64 b] σ (fun r σ'=>∃x y,r=.agg [.int .i64 x,.int .i64 y]∧σ'=σ):=by
 refine okF Tryz.func295 (by kernel_rfl) ?_
 intro b1
 (refine .mk [] _ (PT _ _) ?_;rintro _ _ ⟨x,rfl,rfl⟩)
 (refine .mk [] _ (PT _ _) ?_;rintro _ _ ⟨x,rfl,rfl⟩)
 refine ai 0 ?_
 refine aa 0 ?_
 exact .drop 0 1 (.done ⟨_,_,rfl,rfl⟩)
theorem zS{w:Int}{k m:Nat}(hk:min (Int.toNat (k:Int)) IntKind.u64.bits=m):w.fdiv (2 ^ min (Int.toNat (k:Int)) IntKind.u64.bits)=w / 2 ^ m:=by
 rw[hk];exact Int.fdiv_eq_ediv_of_nonneg _ (Int.le_of_lt (Int.pow_pos (by decide)))
theorem Ef(w:Int):bits .and .u64 w 3=w % 4:=by
 show IntKind.u64.wrap ((BitVec.ofInt 64 w &&& BitVec.ofInt 64 3).toNat:Int)=_
 have h3:(BitVec.ofInt 64 3:BitVec 64).toNat=2 ^ 2-1:=by decide
 rw[BitVec.toNat_and,h3,Nat.and_two_pow_sub_one_eq_mod,BitVec.toNat_ofInt,IntKind.wrap_u64]
 omega
def gj(w:Int):Bool:=decide (w % 4=2) && decide (0≤w∧w<17179869184)
theorem Zc(w:Int)(σ:Hp):ACalls Tryz.prog 265 [.int .u64 w] σ (fun r σ'=>∃x y,r=.tup [.agg [.int .i64 x,.int .i64 y],.bool (decide (0≤w∧w<4294967296))]∧σ'=σ):=by
 have e:=zS (k:=32) (m:=32) (w:=w) (by decide)
 refine okF Tryz.func265 (by kernel_rfl) ?_
 intro b1
 refine ag.mk (by omega) ?_
 refine dx (fun h2 =>?_) (fun h2 =>?_)
 ·have h2:¬(w.fdiv (2 ^ min (Int.toNat 32) IntKind.u64.bits)=0):=by simpa using h2
  have hw:¬(0≤w∧w<4294967296):=fun h=>h2 (by rw[show w.fdiv (2 ^ min (Int.toNat 32) IntKind.u64.bits)=w / 2 ^ 32 from e];omega)
  refine ai 0 ?_
  refine aa 0 ?_
  exact .drop 0 1 (.done ⟨_,_,by rw[decide_eq_false hw];rfl,rfl⟩)
 ·have h2:w.fdiv (2 ^ min (Int.toNat 32) IntKind.u64.bits)=0:=by simpa using h2
  have hw:0≤w∧w<4294967296:=by rw[show w.fdiv (2 ^ min (Int.toNat 32) IntKind.u64.bits)=w / 2 ^ 32 from e]at h2;omega
  refine ag.mk (by omega) ?_
  (refine .mk [] _ (acL _ _ _) ?_;rintro _ _ ⟨x,y,rfl,rfl⟩)
  refine ai 0 ?_
  refine aa 0 ?_
  exact .drop 0 1 (.done ⟨_,_,by rw[decide_eq_true hw];rfl,rfl⟩)
theorem acH(w:Int)(σ:Hp):ACalls Tryz.prog 215 [.int .u64 w] σ (fun r σ'=>∃x y,r=.tup [.agg [.int .i64 x,.int .i64 y],.bool (gj w)]∧σ'=σ):=by
 have e:=zS (k:=2) (m:=2) (w:=w) (by decide)
 refine okF Tryz.func215 (by kernel_rfl) ?_
 intro b1
 refine dx (fun h2 =>?_) (fun h2 =>?_)
 ·have h2:¬(bits BinOp.and IntKind.u64 w 3=2):=by simpa using h2
  rw[Ef]at h2
  refine ai 0 ?_
  refine aa 0 ?_
  exact .drop 0 1 (.done ⟨_,_,by rw[show gj w=false by simp[gj,h2]];rfl,rfl⟩)
 ·have h2:bits BinOp.and IntKind.u64 w 3=2:=by simpa using h2
  rw[Ef]at h2
  refine ag.mk (by omega) ?_
  have e':w.fdiv (2 ^ min (Int.toNat 2) IntKind.u64.bits)=w / 4:=e
  refine .mk [] _ (Zc _ _) ?_
  rintro _ _ ⟨x,y,rfl,rfl⟩
  have hk:decide (0≤w.fdiv (2 ^ min (Int.toNat 2) IntKind.u64.bits)∧w.fdiv (2 ^ min (Int.toNat 2) IntKind.u64.bits)<4294967296)=gj w:=by
   rw[e',show gj w=decide (0≤w∧w<17179869184) by simp[gj,h2]];exact decide_eq_decide.2 (by omega)
  refine ai 0 ?_
  refine aa 0 ?_
  exact .drop 0 1 (.done ⟨_,_,by rw[hk];rfl,rfl⟩)
def bj(w:Int):Int:=if w=0 then 0 else if w=1 then 1 else if gj w then w else 1
theorem Nl{w:Int}(h:gj w=true):w≠0∧w≠1:=by
 unfold gj at h;simp at h;omega
theorem aIs(w:Int)(σ:Hp):ACalls Tryz.prog 162 [.int .u64 w] σ (az (.bool (gj w || decide (w=0) || decide (w=1))) σ):=by
 refine okF Tryz.func162 (by kernel_rfl) ?_
 refine .mk [] _ (acH w _) ?_
 rintro _ _ ⟨x,y,rfl,rfl⟩
 cases hn:gj w
 ·intro aC
  refine ai 0 ?_
  refine ao (fun c2 =>?_) (fun c2 =>?_)
  ·have c2:w=0:=c2
   exact .drop 0 1 (.done ⟨cM (by simp[*]),rfl⟩)
  ·have c2:¬(w=0):=c2
   refine ao (fun c3 =>?_) (fun c3 =>?_)
   ·have c3:w=1:=c3
    exact .drop 0 1 (.done ⟨cM (by simp[*]),rfl⟩)
   ·have c3:¬(w=1):=c3
    exact .drop 0 1 (.done ⟨cM (by simp[*]),rfl⟩)
 ·intro aC
  refine ai 0 ?_
  exact .drop 0 1 (.done ⟨cM (by simp[*]),rfl⟩)
theorem II(w:Int)(σ:Hp):ACalls Tryz.prog 326 [.int .u64 w] σ (az (.int .u64 (bj w)) σ):=by
 refine okF Tryz.func326 (by kernel_rfl) ?_
 refine eH [] (aIs w σ) (fun h =>?_) (fun h =>?_)
 ·refine .done ⟨aN ?_,rfl⟩
  unfold bj
  simp at h
  rcases h with (h | h) | h
  ·simp[h,Nl h]
  ·simp[h]
  ·simp[h]
 ·exact .done ⟨aN (by unfold bj;simp at h;simp[h]),rfl⟩
def k9(a b:Int):Int:=if bj a=bj b∨bj b=0 then bj a else if bj a=0 then bj b else 1
theorem aaG(a b:Int)(σ:Hp):ACalls Tryz.prog 305 [.int .u64 a,.int .u64 b] σ (az (.int .u64 (k9 a b)) σ):=by
 refine okF Tryz.func305 (by kernel_rfl) ?_
 refine ax [] (II _ _) ?_
 refine ax [] (II _ _) ?_
 refine ao (fun c1 =>?_) (fun c1 =>?_)
 ·have c1:bj a=bj b:=c1
  exact .done ⟨aN (by unfold k9;split <;> (try split) <;> omega),rfl⟩
 ·have c1:¬(bj a=bj b):=c1
  refine ao (fun c2 =>?_) (fun c2 =>?_)
  ·have c2:bj b=0:=c2
   exact .done ⟨aN (by unfold k9;split <;> (try split) <;> omega),rfl⟩
  ·have c2:¬(bj b=0):=c2
   refine ao (fun c3 =>?_) (fun c3 =>?_)
   ·have c3:bj a=0:=c3
    exact .done ⟨aN (by unfold k9;split <;> (try split) <;> omega),rfl⟩
   ·have c3:¬(bj a=0):=c3
    exact .done ⟨aN (by unfold k9;split <;> (try split) <;> omega),rfl⟩
def cu(what a b:Int):Int:=if what=1 then bits .or .u64 a b else if what=2 then bits .and .u64 a b else if what=3 then k9 a b else 0
theorem Qx(what a b:Int)(σ:Hp):ACalls Tryz.prog 282 [.int .i64 what,.int .u64 a,.int .u64 b] σ (az (.int .u64 (cu what a b)) σ):=by
 refine okF Tryz.func282 (by kernel_rfl) ?_
 refine ao (fun c1 =>?_) (fun c1 =>?_)
 ·have c1:what=1:=c1
  exact .done ⟨aN (by simp[cu, *]),rfl⟩
 ·have c1:¬(what=1):=c1
  refine ao (fun c2 =>?_) (fun c2 =>?_)
  ·have c2:what=2:=c2
   exact .done ⟨aN (by simp[cu, *]),rfl⟩
  ·have c2:¬(what=2):=c2
   refine ao (fun c3 =>?_) (fun c3 =>?_)
   ·have c3:what=3:=c3
    refine ax [] (aaG _ _ _) ?_
    exact .done ⟨aN (by simp[cu, *]),rfl⟩
   ·have c3:¬(what=3):=c3
    exact .done ⟨aN (by simp[cu, *]),rfl⟩
def wd(a:List Int)(i:Nat):Int:=(a[i]?).getD 0
def bf(z:Int):Prop:=0≤z∧z<18446744073709551616
def aS(l:List Int):Prop:=∀z∈l,bf z
theorem zM(n:Int):bf (IntKind.u64.wrap n):=by rw[IntKind.wrap_u64];unfold bf;omega
theorem OE{w:Int}(h:bf w):bf (bj w):=by
 unfold bj
 split
 ·exact⟨by decide,by decide⟩
 ·split
  ·exact⟨by decide,by decide⟩
  ·split
   ·exact h
   ·exact⟨by decide,by decide⟩
theorem N6{what a b:Int}(ha:bf a)(hb:bf b):bf (cu what a b):=by
 unfold cu
 split
 ·exact zM _
 ·split
  ·exact zM _
  ·split
   ·unfold k9
    split
    ·exact OE ha
    ·split
     ·exact OE hb
     ·exact⟨by decide,by decide⟩
   ·exact⟨by decide,by decide⟩
theorem lX{l:List Int}(h:aS l)(i:Nat):bf (wd l i):=by
 unfold wd
 cases hq:l[i]? with
 | none=>exact⟨by decide,by decide⟩
 | some x=>exact h x (List.mem_of_getElem? hq)
def ue(ws:List Int)(a:Int):Bool:=decide (0≤a) && decide (a<ws.length)
def cC(ws:List Int)(a:Int):Int:=if a<0 then 0 else ws.getD a.toNat 0
def fN(ws:List Int)(a x:Int):List Int:=if a<0 then ws else ws.set a.toNat x
def pc(n:Int):Nat:=(min (max n 0) 1048576).toNat
theorem YX(n:Int):pc n≤1048576:=by unfold pc;omega
theorem zn{ws:List Int}{a:Int}(h:0≤a)(h1:a<ws.length):ue ws a=true:=by simp[ue,h,h1]
theorem C1(a n:Int)(h:0≤a)(h1:a<n):(decide (0≤a) && decide (a<n))=true:=by simp[h,h1]
theorem CJ(a n:Int)(h:¬(0≤a∧a<n)):(decide (0≤a) && decide (a<n))=false:=by simp;omega
theorem mD{ws:List Int}{a:Nat}:cC ws (a:Int)=ws.getD a 0:=by
 unfold cC;rw[if_neg (by omega)];rfl
theorem UH{ws:List Int}{a:Int}(h:¬(0≤a∧a<(ws.length:Int))):cC ws a=0:=by
 unfold cC
 split
 ·rfl
 ·rw[List.getD,List.getElem?_eq_none (by omega)];rfl
theorem jJ{ws:List Int}{a:Nat}(x:Int):fN ws (a:Int) x=ws.set a x:=by
 unfold fN;rw[if_neg (by omega)];rfl
theorem SM{ws:List Int}{a x:Int}(h:¬(0≤a∧a<(ws.length:Int))):fN ws a x=ws:=by
 unfold fN
 split
 ·rfl
 ·exact List.set_eq_of_length_le (by omega)
theorem wX(ws:List Int)(a x:Int):(fN ws a x).length=ws.length:=by unfold fN;split <;> simp
def lB(ws:List Int)(a old:Int):Bool:=ue ws a && (cC ws a == old)
def gw(ws:List Int)(a old to:Int):List Int:=if lB ws a old then fN ws a to else ws
theorem s9(ws:List Int)(a o t:Int):(gw ws a o t).length=ws.length:=by unfold gw;split <;> simp[wX]
def A3(ws:List Int)(a d:Int):Int:=if ue ws a then (cC ws a+d) % 18446744073709551616 else 0
def kX(ws:List Int)(a d:Int):List Int:=if ue ws a then fN ws a ((cC ws a+d) % 18446744073709551616) else ws
theorem KF(ws:List Int)(a d:Int):(kX ws a d).length=ws.length:=by unfold kX;split <;> simp[wX]
def rq(q n:Nat):List AV:=[.int .i64 n,.ae q 0 n 1]
theorem C7{ws:List Int}{k:Nat}(h:k<ws.length):(aU ws)[0+((k:Int)).toNat*1]?=some (.int .u64 (ws.getD k 0)):=by
 simp[aU,h,List.getD]
theorem XL{ws:List Int}{k:Nat}(x:Int):(aU ws).set k (.int .u64 x)=aU (ws.set k x):=by simp[aU,List.map_set]
theorem Hg{ws:List Int}{k:Nat}(x:Int)(h:k<ws.length):jq ⟨.int .u64,1,8,[.int .u64 0]⟩ (aU ws) (0+((k:Int)).toNat*1) (.int .u64 x)=some (aU (ws.set k x)):=by
 have e:0+((k:Int)).toNat*1=k:=by omega
 have h2:Nat.ble (k+1) (aU ws).length=true:=Nat.ble_eq_true_of_le (by simp[aU];omega)
 rw[e]
 show (match Nat.beq 1 1,Nat.ble (k+1) (aU ws).length with | true,true=>some (eF (aU ws) k [.int .u64 x]) | _,_=>none)=_
 rw[h2]
 show some ((aU ws).set k (.int .u64 x))=_
 rw[XL]
set_option maxRecDepth 100000
theorem EX(n a:Int)(σ:Hp):ACalls Tryz.prog 44 [.agg [.int .i64 n],.int .i64 a] σ (az (.bool (decide (0≤a) && decide (a<n))) σ):=by
 refine okF Tryz.func44 (by kernel_rfl) ?_
 intro b
 refine ao (fun h =>?_) (fun h =>?_)
 ·refine aa 0 ?_
  refine ao (fun h2 =>?_) (fun h2 =>?_)
  ·exact .drop 0 1 (.done ⟨cM (by simp[h,h2]),rfl⟩)
  ·exact .drop 0 1 (.done ⟨cM (by simp[h2]),rfl⟩)
 ·exact .drop 0 1 (.done ⟨cM (by simp[h]),rfl⟩)
theorem Ra(n:Int)(σ:Hp):ACalls Tryz.prog 43 [.int .i64 n] σ (az (.agg [.int .i64 (pc n)]) σ):=by
 refine okF Tryz.func43 (by kernel_rfl) ?_
 intro b
 refine ai 0 ?_
 refine aa 0 ?_
 refine .drop 0 1 (.done ⟨?_,rfl⟩)
 show AV.agg [.int .i64 (if (1048576:Int)<(if n<0 then 0 else n) then 1048576 else (if n<0 then 0 else n))]=_
 have e:(if (1048576:Int)<(if n<0 then 0 else n) then 1048576 else (if n<0 then 0 else n))=((pc n:Nat):Int):=by
  unfold pc
  by_cases h:n<0
  ·simp only[if_pos h];omega
  ·simp only[if_neg h];split <;> omega
 rw[e]
theorem acI(n:Int)(σ:Hp):ACalls Tryz.prog 12 [.int .i64 n] σ (fun r σ'=>∃p q,r=.ptr p 0∧σ'=(p,rq q (pc n))::(q,aU (List.replicate (pc n) 0))::σ):=by
 have hc:=YX n
 refine okF Tryz.func12 (by kernel_rfl) ?_
 refine ax [] (Ra n σ) ?_
 refine ax [] (Ra n σ) ?_
 refine ag.mk ⟨by omega,Int.le_refl _,by omega,by decide⟩ ?_
 intro q p
 refine .done ⟨p,q,rfl,?_⟩
 show (p,_)::(q,_)::σ=_
 rw[show ((pc n:Int)).toNat=pc n by omega,show (bU [AV.int .u64 0] (pc n))=_ from Hn _]
 rfl
theorem aLoad(p q:Nat)(ws:List Int)(a:Int)(σ:Hp):ACalls Tryz.prog 16 [.ptr p 0,.int .i64 a] ((p,rq q ws.length)::(q,aU ws)::σ) (az (.int .u64 (cC ws a)) ((p,rq q ws.length)::(q,aU ws)::σ)):=by
 refine okF Tryz.func16 (by kernel_rfl) ?_
 refine aa 0 ?_
 refine ax [] (EX ws.length a _) ?_
 by_cases hh:0≤a∧a<(ws.length:Int)
 ·rw[C1 a ws.length hh.1 hh.2]
  obtain⟨k,rfl⟩:=Int.eq_ofNat_of_zero_le hh.1
  have hk:k<ws.length:=by omega
  refine aa 0 ?_
  refine ag.mk ⟨rfl,hh.1,hh.2⟩ ?_
  refine aL 1 rfl (C7 hk) ?_
  exact .done ⟨aN mD.symm,rfl⟩
 ·rw[CJ a ws.length hh]
  exact .done ⟨aN (UH hh).symm,rfl⟩
abbrev aX(p q:Nat)(ws:List Int)(σ:Hp):Hp:=(p,rq q ws.length)::(q,aU ws)::σ
theorem aStore(p q:Nat)(ws:List Int)(a x:Int)(σ:Hp):ACalls Tryz.prog 14 [.ptr p 0,.int .i64 a,.int .u64 x] (aX p q ws σ) (az (.tup []) (aX p q (fN ws a x) σ)):=by
 refine okF Tryz.func14 (by kernel_rfl) ?_
 refine aa 0 ?_
 refine ax [] (EX ws.length a _) ?_
 by_cases hh:0≤a∧a<(ws.length:Int)
 ·rw[C1 a ws.length hh.1 hh.2]
  obtain⟨k,rfl⟩:=Int.eq_ofNat_of_zero_le hh.1
  have hk:k<ws.length:=by omega
  refine aa 0 ?_
  refine ag.mk ⟨rfl,hh.1,hh.2⟩ ?_
  refine cd 1 rfl (Hg x hk) ?_
  refine .done ⟨rfl,?_⟩
  show (p,rq q ws.length)::(q,aU (ws.set k x))::σ=_
  rw[jJ];unfold aX;rw[List.length_set]
 ·rw[CJ a ws.length hh]
  refine .done ⟨rfl,?_⟩
  rw[SM hh];rfl
theorem aCas(p q:Nat)(ws:List Int)(a x y:Int)(σ:Hp):ACalls Tryz.prog 379 [.ptr p 0,.int .i64 a,.int .u64 x,.int .u64 y] (aX p q ws σ) (az (.bool (lB ws a x)) (aX p q (gw ws a x y) σ)):=by
 refine okF Tryz.func379 (by kernel_rfl) ?_
 refine aa 0 ?_
 refine ax [] (EX ws.length a _) ?_
 by_cases hh:0≤a∧a<(ws.length:Int)
 ·rw[C1 a ws.length hh.1 hh.2]
  have hH:=zn hh.1 hh.2
  obtain⟨k,rfl⟩:=Int.eq_ofNat_of_zero_le hh.1
  have hk:k<ws.length:=by omega
  refine aa 0 ?_
  refine ag.mk ⟨rfl,hh.1,hh.2⟩ ?_
  refine aL 1 rfl (C7 hk) ?_
  refine dx (fun he =>?_) (fun he =>?_)
  ·have he:¬ws.getD k 0=x:=by simpa using he
   have e1:lB ws k x=false:=by unfold lB;rw[hH,mD];simpa using he
   refine .done ⟨by rw[e1];rfl,?_⟩
   rw[show gw ws k x y=ws by simp[gw,e1]];rfl
  ·have he:ws.getD k 0=x:=by simpa using he
   have e1:lB ws k x=true:=by unfold lB;rw[hH,mD,he];simp
   refine aa 0 ?_
   refine ag.mk ⟨rfl,hh.1,hh.2⟩ ?_
   refine cd 1 rfl (Hg y hk) ?_
   refine .done ⟨by rw[e1];rfl,?_⟩
   show (p,rq q ws.length)::(q,aU (ws.set k y))::σ=_
   rw[show gw ws k x y=ws.set k y by simp[gw,e1,jJ]];unfold aX;rw[List.length_set]
 ·have hb:=CJ a ws.length hh
  rw[hb]
  have e1:lB ws a x=false:=by simp only[lB,ue,hb,Bool.false_and]
  refine .done ⟨by rw[e1];rfl,?_⟩
  rw[show gw ws a x y=ws by simp[gw,e1]];rfl
theorem aAdd(p q:Nat)(ws:List Int)(a d:Int)(σ:Hp):ACalls Tryz.prog 378 [.ptr p 0,.int .i64 a,.int .u64 d] (aX p q ws σ) (az (.int .u64 (A3 ws a d)) (aX p q (kX ws a d) σ)):=by
 refine okF Tryz.func378 (by kernel_rfl) ?_
 refine aa 0 ?_
 refine ax [] (EX ws.length a _) ?_
 by_cases hh:0≤a∧a<(ws.length:Int)
 ·rw[C1 a ws.length hh.1 hh.2]
  have hH:=zn hh.1 hh.2
  obtain⟨k,rfl⟩:=Int.eq_ofNat_of_zero_le hh.1
  have hk:k<ws.length:=by omega
  have e1:A3 ws k d=IntKind.u64.wrap (ws.getD k 0+d):=by rw[IntKind.wrap_u64];simp only[A3,hH,if_true,mD]
  have e2:kX ws k d=ws.set k (IntKind.u64.wrap (ws.getD k 0+d)):=by rw[IntKind.wrap_u64];simp only[kX,hH,if_true,mD,jJ]
  refine aa 0 ?_
  refine ag.mk ⟨rfl,hh.1,hh.2⟩ ?_
  refine aL 1 rfl (C7 hk) ?_
  refine ag.mk ⟨rfl,hh.1,hh.2⟩ ?_
  refine cd 1 rfl (Hg _ hk) ?_
  refine aa 0 ?_
  refine ag.mk ⟨rfl,hh.1,hh.2⟩ ?_
  refine aL 1 rfl (C7 (ws:=ws.set k (IntKind.u64.wrap (ws.getD k 0+d))) (by rw[List.length_set];exact hk)) ?_
  refine .done ⟨aN (by rw[e1];simp[List.getD,hk]),?_⟩
  rw[e2];unfold aX;rw[List.length_set];rfl
 ·have hb:=CJ a ws.length hh
  rw[hb]
  refine .done ⟨aN (by unfold A3;unfold ue;rw[hb];rfl),?_⟩
  rw[show kX ws a d=ws by unfold kX ue;rw[hb];rfl];rfl
theorem Q6(p q:Nat)(ws:List Int)(σ:Hp):ACalls Tryz.prog 13 [.ptr p 0] (aX p q ws σ) (az (.int .i64 ws.length) (aX p q ws σ)):=by
 refine okF Tryz.func13 (by kernel_rfl) ?_
 refine aa 0 ?_
 exact .done ⟨rfl,rfl⟩
theorem mLen_ : Meth Tryz.prog 34 "Len" 13 := fun a w => by kernel_rfl
theorem mLoad_ : Meth Tryz.prog 34 "Load" 16 := fun a w => by kernel_rfl
theorem mStore_ : Meth Tryz.prog 34 "Store" 14 := fun a w => by kernel_rfl
theorem mCAS_ : Meth Tryz.prog 34 "CAS" 379 := fun a w => by kernel_rfl
theorem mAdd_ : Meth Tryz.prog 34 "Add" 378 := fun a w => by kernel_rfl
theorem hStore_ : AheadOk Tryz.prog 34 "Store" := fun a w => by kernel_rfl
theorem hCAS_ : AheadOk Tryz.prog 34 "CAS" := fun a w => by kernel_rfl
theorem hAdd_ : AheadOk Tryz.prog 34 "Add" := fun a w => by kernel_rfl
theorem hLoad_ : AheadOk Tryz.prog 34 "Load" := fun a w => by kernel_rfl
abbrev iY(p:Nat):AV:=.iface 34 (.ptr p 0)
theorem cy(t:Nat)(x:AV)(σ:Hp):ACalls Tryz.prog 45 [.iface t x] σ (az (.iface t x) σ):=by
 refine okF Tryz.func45 (by kernel_rfl) ?_
 exact .done ⟨rfl,rfl⟩
end Go.Proofs.YtnpidbjdilnhlaaGreat
