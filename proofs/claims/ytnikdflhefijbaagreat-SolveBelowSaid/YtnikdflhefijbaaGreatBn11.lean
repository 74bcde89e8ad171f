import Derived.Test.YtnikdflhefijbaaGreatBn10
namespace Go.Proofs.YtnikdflhefijbaaGreat
theorem okF{f:FuncId}{fn:Func}{xs:List AV}{σ:Hp}{R:AV→Hp→Prop}(hf:Tryz.prog.funcs[f]?=some fn)(bH:funcOk fn=true)(h:uL Tryz.prog tt fn xs σ R):ACalls Tryz.prog f xs σ R:=
 Zo aeD (by kernel_rfl) hf bH h
theorem ay{f:FuncId}{fn:Func}{xs:List AV}{σ:Hp}{R:AV→Hp→Prop}(hf:Tryz.prog.funcs[f]?=some fn)(h:uL Tryz.prog tt fn xs σ R)(bH:funcOk fn=true:=by kernel_rfl):ACalls Tryz.prog f xs σ R:=okF hf bH h
theorem bV{S:Type}(L:S→List (Nat×AV))(H:S→Hp)(p:S→Prop)(μ:S→Nat)(s0:S){body:Tm→Hp→(Ex→Tm→Hp→Prop)→Prop}{t:Tm}{σ:Hp}{Q:Ex→Tm→Hp→Prop}(h0:p s0∧agree t (L s0)∧σ=H s0)
  (round:∀s g,p s→body (eC g (L s)) (H s) (fun e t' σ'=>match e with | .normal=>pg L H p μ s t' σ' | e=>Q e t' σ')):my body Q t σ:=.mk L H p μ s0 h0 round
theorem a8{S:Type}{L:S→List (Nat×AV)}{H:S→Hp}{p:S→Prop}{μ:S→Nat}{s:S}{t':Tm}{σ':Hp}(s':S)(h1:μ s'<μ s)(h2:p s')(h3:agree t' (L s'))(h4:iX σ' (H s')):pg L H p μ s t' σ':=.mk s' h1 h2 h3 h4
theorem next{S:Type}{L:S→List (Nat×AV)}{H:S→Hp}{p:S→Prop}{μ:S→Nat}{s:S}{t':Tm}{σ':Hp}(s':S)(h1:μ s'<μ s)(h2:p s')(h3:agree t' (L s'))(h4:σ'=H s'):pg L H p μ s t' σ':=.mk s' h1 h2 h3 (h4▸.refl _)
def upto(Q:List Nat)(n:Nat):Nat→qF:=Nat.rec (motive:=fun _=>Nat→qF) (fun _=>.stop) (fun _ ih i=>.one i (eQ i Q) (ih (i+1))) n
theorem aJ{σ σ2:Hp}(h:σ=σ2):iX σ σ2:=h▸.refl _
theorem Fs{P:Program}{f:FuncId}{e:Sh}{l:List e.T}{σ:Hp}{R:AV→Hp→Prop}(h0:l=[]→ACalls P f [.aj] σ R∧ACalls P f [.gU] σ R)(h1:l≠[]→ACalls P f [.af e l] σ R):ACalls P f [.af e l] σ R:=by
 by_cases hl:l=[]
 ·obtain⟨k0,k1⟩:=h0 hl
  refine⟨k0.1,fun F w vs bU aF =>?_⟩
  have hv:=bU.2 0 _ rfl
  have oa:∀y,aA F w y (vs.getD 0 undef)→iQ F w [y] vs:=fun y hy=>⟨bU.1,fun i x hx=>by cases i <;> simp at hx;subst hx;exact hy⟩
  subst hl
  generalize hu:vs.getD 0 undef=u at hv oa
  cases hv with
  |af _ _ _ hr=>
   obtain⟨a,c,e1,_,e3,e0,_⟩:=hr
   obtain rfl:=I7.1 e1
   cases a with
   |none=>
    obtain rfl:=e0 rfl
    exact k0.2 F w vs (oa _ .aj) aF
   |some a=>exact k1.2 F w vs (oa _ (.gU a c e3)) aF
 ·exact h1 hl
theorem aX{k:Nat}(h:k<1000000000):AV.int .i64 (IntKind.i64.wrap ((k:Int)+1))=AV.int .i64 ((k+1:Nat):Int):=by
 rw[show IntKind.i64.wrap ((k:Int)+1)=((k+1:Nat):Int) by rw[IntKind.wrap_i64];omega]
theorem get_some{α:Type}{l:List α}{k:Nat}(h:k<l.length):l[((k:Int)).toNat]?=some l[k]:=bJ h
def aE(x:AV)(σ:Hp):AV→Hp→Prop:=fun r σ'=>r=x∧σ'=σ
theorem az{P:Program}{f:FuncId}{xs:List AV}{σ:Hp}{K:AV→Hp→Prop}(js:List Nat){x:AV}{σ2:Hp}(h:ACalls P f xs (nR js σ) (aE x σ2))(k:K x σ2):CallAt P f K xs σ:=
 CallAt.mk js _ h fun _ _ ⟨h1,h2⟩=>h1▸h2▸k
theorem aH{P:Program}{f:FuncId}{xs:List AV}{σ:Hp}{K:AV→Prop}(js:List Nat){x:AV}(h:ACalls P f xs (nR js σ) (aE x (nR js σ)))(k:K x):s9 P f xs σ K:=s9.mk js x h k
theorem eb{P:Program}{f:FuncId}{xs:List AV}{σ:Hp}{K:AV→Hp→Prop}(js:List Nat){x:Bool}{σ2:Hp}(h:ACalls P f xs (nR js σ) (aE (.bool x) σ2))(k1:x=true→K (.bool true) σ2)(k2:x=false→K (.bool false) σ2):CallAt P f K xs σ:=
 az js h (by cases x;exact k2 rfl;exact k1 rfl)
theorem LD{P:Program}{f:FuncId}{xs:List AV}{σ:Hp}{K:AV→Prop}(js:List Nat){x:Bool}(h:ACalls P f xs (nR js σ) (aE (.bool x) (nR js σ)))(k1:x=true→K (.bool true))(k2:x=false→K (.bool false)):s9 P f xs σ K:=
 aH js h (by cases x;exact k2 rfl;exact k1 rfl)
theorem fu.kv{i:TI}{σ:Hp}{b o:Nat}{K:AV→Prop}(j:Nat)(cs:List AV)(x:Bool)(h1:σ[j]?=some (b,cs))(h2:eu i cs o=some (.bool x))(k1:x=true→K (.bool true))(k2:x=false→K (.bool false)):fu i σ b o K:=
 .mk j cs _ h1 h2 (by cases x;exact k2 rfl;exact k1 rfl)
theorem uu{b off len es:Nat}{e:Sh}{l:List e.T}:ew b off len es e l (.tup []) (.tup []):=.refl _
theorem cJ{b off len es:Nat}{e:Sh}{l:List e.T}{x y:AV}{xs ys:List AV}(h:ew b off len es e l x y)(t:ew b off len es e l (.tup xs) (.tup ys)):ew b off len es e l (.tup (x::xs)) (.tup (y::ys)):=by
 have hl:xs.length=ys.length∧∀(i:Nat) (x y:AV),xs[i]?=some x→ys[i]?=some y→ew b off len es e l x y:=by
  cases t with
  |refl=>exact⟨rfl,fun i x y hx hy=>by rw[hx]at hy;cases hy;exact .refl _⟩
  |tup _ _ h hi=>exact⟨h,hi⟩
 refine .tup _ _ (by simp[hl.1]) fun i x' y' hx hy=>?_
 cases i with
 |zero=>simp at hx hy;subst hx;subst hy;exact h
 |succ i=>exact hl.2 i x' y' (by simpa using hx) (by simpa using hy)
theorem cz{a b:Bool}(h:a=b):AV.bool a=AV.bool b:=by rw[h]
theorem aQ{k:IntKind}{a b:Int}(h:a=b):AV.int k a=AV.int k b:=by rw[h]
theorem eO(fr b σ:Hp):(b++(fr++σ)).Perm (fr++(b++σ)):=by
 rw[← dM,← dM]
 exact List.Perm.append_right _ Oh
theorem j0.mem{σ:Hp}{b off len es:Nat}{cs:List AV}(h:(b,cs)∈σ)(h2:off+len*es≤cs.length):j0 σ es (.ae b off len es) len ((cs.drop off).take (len*es)):=by
 obtain⟨j,hj⟩:=rF.1 h
 exact .ae j b off len cs hj h2
theorem j0.perm{σ σ2:Hp}{es n:Nat}{x:AV}{new:List AV}(h:j0 σ es x n new)(hp:σ2.Perm σ):j0 σ2 es x n new:=by
 cases h with
 |aj=>exact .aj
 |kq=>exact .kq
 |gU=>exact .gU
 |af s l h=>exact .af s l h
 |ae j b off len cs h1 h2=>
  obtain⟨j',hj⟩:=rF.1 (hp.mem_iff.2 (cq h1))
  exact .ae j' b off _ cs hj h2
inductive Acc(e:Nat):Nat→AV→Hp→List AV→Prop where
 |nil:Acc e 0 .aj [] []
 |ae (b k:Nat) (cs:List AV) (h:cs.length=k*e):Acc e k (.ae b 0 k e) [(b,cs)] cs
theorem Acc.length{e k:Nat}{v:AV}{acc:Hp}{cs:List AV}(h:Acc e k v acc cs):cs.length=k*e:=by
 cases h with
 |nil=>simp
 |ae b k cs h=>exact h
theorem zN(fr acc σ:Hp):(acc++(fr++σ)).Perm (fr++(acc++σ)):=eO fr acc σ
theorem jU{i:TI}{K:AV→Hp→Prop}(fr:Hp){acc σ:Hp}{k n:Nat}{v x:AV}{cs new:List AV}(h:Acc i.size k v acc cs)(hx:j0 (fr++(acc++σ)) i.size x n new)(gZ:new.length=n*i.size)(hn:k+n≤1048576)(hb:i.bytes≤1024)(h0:0<i.size)
  (go:∀v' bu,Acc i.size (k+n) v' bu (cs++new)→K (.via v') (fr++(bu++σ))):AppendAt i (fr++(acc++σ)) v x K:=by
 have hl:=h.length
 cases h with
 |nil=>
  refine .perm _ (eO fr [] σ) (.fresh n new (.inl rfl) (hx.perm (eO fr [] σ)) (by omega) hb h0 (K:=fun v ec=>(n=0∧v=.aj∧ec=[]++(fr++σ))∨(n≠0∧∃b,v=.ae b 0 n i.size∧ec=(b,new)::([]++(fr++σ)))) (fun aP b=>.inr ⟨aP,b,rfl,rfl⟩) (fun h0=>.inl ⟨h0,rfl,rfl⟩)) ?_
  rintro v ec (⟨hz,rfl,rfl⟩ | ⟨hz,b,rfl,rfl⟩)
  ·subst hz
   obtain rfl:new=[]:=List.length_eq_zero_iff.1 (by simpa using gZ)
   exact⟨_,(eO fr [] σ).symm,.inr ⟨rfl,go _ _ .nil⟩⟩
  ·refine⟨_,(eO fr [(b,new)] σ).symm,.inr ⟨rfl,go _ _ ?_⟩⟩
   have:=Acc.ae (e:=i.size) b (0+n) new (by rw[gZ,eF])
   rw[eF]at this ⊢
   exact this
 |ae b k cs h=>
  refine .perm _ (eO fr [(b,cs)] σ) (.more 0 b k n cs new rfl rfl (by rw[h];exact aU _) (hx.perm (eO fr [(b,cs)] σ)) hn hb h0 (K:=fun v ec=>∃b',v=.ae b' 0 (k+n) i.size∧ec=(b',cs.take (k*i.size)++new)::(fr++σ)) (fun b'=>⟨b',rfl,rfl⟩)) ?_
  rintro v ec ⟨b',rfl,rfl⟩
  rw[eI (by omega)]
  exact⟨_,(eO fr [(b',cs++new)] σ).symm,.inr ⟨rfl,go _ _ (.ae _ _ _ (by rw[bQ,h,gZ,qy]))⟩⟩
theorem pO{R:AV→Hp→Prop}(fr:Hp){acc σ:Hp}{s:Sh}{k:Nat}{v:AV}{cs:List AV}{l:List s.T}(h:Acc s.size k v acc cs)(hl:k=l.length)(hc:cs=l.flatMap s.cells)(hp:0<s.size)(go:Fin R (.af s l) (fr++σ)):Fin R v (fr++(acc++σ)):=by
 subst hl
 have hlen:=h.length
 refine .perm (eO fr acc σ) ?_
 generalize hk:l.length=k at h
 cases h with
 |nil=>
  obtain rfl:=jP.1 hk
  exact .nil (.nil _) go
 |ae b k cs h=>
  subst hk
  exact .cI 0 b 0 l.length s.size cs s l rfl (by rw[gR,eI (by omega)];exact hc) ⟨rfl,rfl,hp⟩ .here go
def ao(l:List Int):List AV:=l.map (.int .i64)
theorem ug:∀l:List Int,ao l=l.flatMap (Sh.cells (.int .i64))
 | []=>rfl
 |x::l=>congrArg (AV.int .i64 x :: ·) (ug l)
theorem oT{f:FuncId}{xs:List AV}{σ σ':Hp}{x y:AV}(h:ACalls Tryz.prog f xs σ (aE x σ'))(e:x=y):ACalls Tryz.prog f xs σ (aE y σ'):=e▸h
theorem qP{α:Type}{l:List α}{k:Nat}(h:k<l.length)(p:α→Bool):(l.take (k+1)).any p=((l.take k).any p||p l[k]):=by
 rw[List.take_succ_eq_append_getElem h,List.any_append];simp
set_option maxRecDepth 100000
theorem zy{i:TI}{K:AV→Hp→Prop}(fr:Hp){acc σ:Hp}{k n:Nat}{v x:AV}{cs new:List AV}(h:Acc i.size k v acc cs)(hx:j0 (fr++(acc++σ)) i.size x n new)(gZ:new.length=n*i.size)(hn:k+n≤1048576)(hb:i.bytes≤1024)(h0:0<i.size)
  (go:∀v' bu,Acc i.size (k+n) v' bu (cs++new)→K v' (fr++(bu++σ))):AppendAt i (fr++(acc++σ)) v x K:=by
 have hl:=h.length
 cases h with
 |nil=>
  refine .perm _ (eO fr [] σ) (.fresh n new (.inl rfl) (hx.perm (eO fr [] σ)) (by omega) hb h0 (K:=fun v ec=>(n=0∧v=.aj∧ec=[]++(fr++σ))∨(n≠0∧∃b,v=.ae b 0 n i.size∧ec=(b,new)::([]++(fr++σ)))) (fun aP b=>.inr ⟨aP,b,rfl,rfl⟩) (fun h0=>.inl ⟨h0,rfl,rfl⟩)) ?_
  rintro v ec (⟨hz,rfl,rfl⟩ | ⟨hz,b,rfl,rfl⟩)
  ·subst hz
   obtain rfl:new=[]:=List.length_eq_zero_iff.1 (by simpa using gZ)
   exact⟨_,(eO fr [] σ).symm,.inl (go _ _ .nil)⟩
  ·refine⟨_,(eO fr [(b,new)] σ).symm,.inl (go _ _ ?_)⟩
   have:=Acc.ae (e:=i.size) b (0+n) new (by rw[gZ,eF])
   rw[eF]at this ⊢
   exact this
 |ae b k cs h=>
  refine .perm _ (eO fr [(b,cs)] σ) (.more 0 b k n cs new rfl rfl (by rw[h];exact aU _) (hx.perm (eO fr [(b,cs)] σ)) hn hb h0 (K:=fun v ec=>∃b',v=.ae b' 0 (k+n) i.size∧ec=(b',cs.take (k*i.size)++new)::(fr++σ)) (fun b'=>⟨b',rfl,rfl⟩)) ?_
  rintro v ec ⟨b',rfl,rfl⟩
  rw[eI (by omega)]
  exact⟨_,(eO fr [(b',cs++new)] σ).symm,.inl (go _ _ (.ae _ _ _ (by rw[bQ,h,gZ,qy])))⟩
theorem ki(f:List Hp)(σ:Hp){a b:List Nat}(h:a.Perm b):(a.foldr (fun i t=>f.getD i []++t) σ).Perm (b.foldr (fun i t=>f.getD i []++t) σ):=by
 induction h with
 |nil=>exact .refl _
 |cons x _ ih=>exact ih.append_left _
 |swap x y l=>exact eO _ _ _
 |trans _ _ DZ DY=>exact DZ.trans DY
def aM(ws:List Int):List AV:=ws.map (.int .u64)
theorem wD(n:Nat):cE [.int .u64 0] n=aM (List.replicate n 0):=by
 unfold aM
 induction n with
 |zero=>rfl
 |succ n ih=>simp[cE,ih,List.replicate_succ]
theorem kH:∀(ws:List Int),aM ws=ws.flatMap (Sh.cells (.int .u64))
 | []=>rfl
 |z::ws=>congrArg (AV.int .u64 z :: ·) (kH ws)
theorem Uo(n:Int)(σ:Hp):ACalls Tryz.prog 335 [.int .i64 n] σ (fun r σ'=>∃m,r=.int .i64 m∧σ'=σ):=by
 refine ay Tryz.func335 ?_
 refine ag.mk (by omega) ?_
 refine an (fun h1=>?_) (fun h1=>?_)
 ·have h1:32767<n.tmod 65536:=h1
  exact .done ⟨_,rfl,rfl⟩
 ·have h1:¬(32767<n.tmod 65536):=h1
  refine an (fun h2=>?_) (fun h2=>?_)
  ·have h2:n.tmod 65536 < -32768:=h2
   exact .done ⟨_,rfl,rfl⟩
  ·have h2:¬(n.tmod 65536 < -32768):=h2
   exact .done ⟨_,rfl,rfl⟩
theorem agr(a b:Int)(σ:Hp):ACalls Tryz.prog 309 [.int .i64 a,.int .i64 b] σ (fun r σ'=>∃x y,r=.agg [.int .i64 x,.int .i64 y]∧σ'=σ):=by
 refine ay Tryz.func309 ?_
 intro b1
 (refine .mk [] _ (Uo _ _) ?_;rintro _ _ ⟨x,rfl,rfl⟩)
 (refine .mk [] _ (Uo _ _) ?_;rintro _ _ ⟨x,rfl,rfl⟩)
 refine ak 0 ?_
 refine aa 0 ?_
 exact .drop 0 1 (.done ⟨_,_,rfl,rfl⟩)
theorem Cm{w:Int}{k m:Nat}(hk:min (Int.toNat (k:Int)) IntKind.u64.bits=m):w.fdiv (2 ^ min (Int.toNat (k:Int)) IntKind.u64.bits)=w / 2 ^ m:=by
 rw[hk];exact Int.fdiv_eq_ediv_of_nonneg _ (Int.le_of_lt (Int.pow_pos (by decide)))
theorem Hr(w:Int):bits .and .u64 w 3=w % 4:=by
 show IntKind.u64.wrap ((BitVec.ofInt 64 w &&& BitVec.ofInt 64 3).toNat:Int)=_
 have h3:(BitVec.ofInt 64 3:BitVec 64).toNat=2 ^ 2-1:=by decide
 rw[BitVec.toNat_and,h3,Ot,BitVec.toNat_ofInt,IntKind.wrap_u64]
 omega
def ek(w:Int):Bool:=decide (w % 4=2)&&decide (0≤w∧w<17179869184)
theorem acS(w:Int)(σ:Hp):ACalls Tryz.prog 285 [.int .u64 w] σ (fun r σ'=>∃x y,r=.tup [.agg [.int .i64 x,.int .i64 y],.bool (decide (0≤w∧w<4294967296))]∧σ'=σ):=by
 have e:=Cm (k:=32) (m:=32) (w:=w) (by decide)
 refine ay Tryz.func285 ?_
 intro b1
 refine ag.mk (by omega) ?_
 refine dB (fun h2=>?_) (fun h2=>?_)
 ·have h2:¬(w.fdiv (2 ^ min (Int.toNat 32) IntKind.u64.bits)=0):=by simpa using h2
  have hw:¬(0≤w∧w<4294967296):=fun h=>h2 (by rw[show w.fdiv (2 ^ min (Int.toNat 32) IntKind.u64.bits)=w / 2 ^ 32 from e];omega)
  refine ak 0 ?_
  refine aa 0 ?_
  exact .drop 0 1 (.done ⟨_,_,by rw[bR hw];rfl,rfl⟩)
 ·have h2:w.fdiv (2 ^ min (Int.toNat 32) IntKind.u64.bits)=0:=by simpa using h2
  have hw:0≤w∧w<4294967296:=by rw[show w.fdiv (2 ^ min (Int.toNat 32) IntKind.u64.bits)=w / 2 ^ 32 from e]at h2;omega
  refine ag.mk (by omega) ?_
  (refine .mk [] _ (agr _ _ _) ?_;rintro _ _ ⟨x,y,rfl,rfl⟩)
  refine ak 0 ?_
  refine aa 0 ?_
  exact .drop 0 1 (.done ⟨_,_,by rw[aV hw];rfl,rfl⟩)
theorem agn(w:Int)(σ:Hp):ACalls Tryz.prog 251 [.int .u64 w] σ (fun r σ'=>∃x y,r=.tup [.agg [.int .i64 x,.int .i64 y],.bool (ek w)]∧σ'=σ):=by
 have e:=Cm (k:=2) (m:=2) (w:=w) (by decide)
 refine ay Tryz.func251 ?_
 intro b1
 refine dB (fun h2=>?_) (fun h2=>?_)
 ·have h2:¬(bits BinOp.and IntKind.u64 w 3=2):=by simpa using h2
  rw[Hr]at h2
  refine ak 0 ?_
  refine aa 0 ?_
  exact .drop 0 1 (.done ⟨_,_,by rw[show ek w=false by simp[ek,h2]];rfl,rfl⟩)
 ·have h2:bits BinOp.and IntKind.u64 w 3=2:=by simpa using h2
  rw[Hr]at h2
  refine ag.mk (by omega) ?_
  have e':w.fdiv (2 ^ min (Int.toNat 2) IntKind.u64.bits)=w / 4:=e
  refine .mk [] _ (acS _ _) ?_
  rintro _ _ ⟨x,y,rfl,rfl⟩
  have hk:decide (0≤w.fdiv (2 ^ min (Int.toNat 2) IntKind.u64.bits)∧w.fdiv (2 ^ min (Int.toNat 2) IntKind.u64.bits)<4294967296)=ek w:=by
   rw[e',show ek w=decide (0≤w∧w<17179869184) by simp[ek,h2]];exact decide_eq_decide.2 (by omega)
  refine ak 0 ?_
  refine aa 0 ?_
  exact .drop 0 1 (.done ⟨_,_,by rw[hk];rfl,rfl⟩)
def aI(w:Int):Int:=if w=0 then 0 else if w=1 then 1 else if ek w then w else 1
theorem Kw{w:Int}(h:ek w=true):w≠0∧w≠1:=by
 unfold ek at h;simp at h;omega
theorem aIs(w:Int)(σ:Hp):ACalls Tryz.prog 202 [.int .u64 w] σ (aE (.bool (ek w||decide (w=0)||decide (w=1))) σ):=by
 refine ay Tryz.func202 ?_
 refine .mk [] _ (agn w _) ?_
 rintro _ _ ⟨x,y,rfl,rfl⟩
 cases hn:ek w
 ·intro aD
  refine ak 0 ?_
  refine an (fun c2=>?_) (fun c2=>?_)
  ·have c2:w=0:=c2
   exact .drop 0 1 (.done ⟨cz (by simp[*]),rfl⟩)
  ·have c2:¬(w=0):=c2
   refine an (fun c3=>?_) (fun c3=>?_)
   ·have c3:w=1:=c3
    exact .drop 0 1 (.done ⟨cz (by simp[*]),rfl⟩)
   ·have c3:¬(w=1):=c3
    exact .drop 0 1 (.done ⟨cz (by simp[*]),rfl⟩)
 ·intro aD
  refine ak 0 ?_
  exact .drop 0 1 (.done ⟨cz (by simp[*]),rfl⟩)
theorem Mk(w:Int)(σ:Hp):ACalls Tryz.prog 333 [.int .u64 w] σ (aE (.int .u64 (aI w)) σ):=by
 refine ay Tryz.func333 ?_
 refine eb [] (aIs w σ) (fun h=>?_) (fun h=>?_)
 ·refine .done ⟨aQ ?_,rfl⟩
  unfold aI
  simp at h
  rcases h with (h | h) | h
  ·simp[h,Kw h]
  ·simp[h]
  ·simp[h]
 ·exact .done ⟨aQ (by unfold aI;simp at h;simp[h]),rfl⟩
def kn(a b:Int):Int:=if aI a=aI b∨aI b=0 then aI a else if aI a=0 then aI b else 1
theorem aez(a b:Int)(σ:Hp):ACalls Tryz.prog 304 [.int .u64 a,.int .u64 b] σ (aE (.int .u64 (kn a b)) σ):=by
 refine ay Tryz.func304 ?_
 refine az [] (Mk _ _) ?_
 refine az [] (Mk _ _) ?_
 refine an (fun c1=>?_) (fun c1=>?_)
 ·have c1:aI a=aI b:=c1
  exact .done ⟨aQ (by unfold kn;split <;> (try split) <;> omega),rfl⟩
 ·have c1:¬(aI a=aI b):=c1
  refine an (fun c2=>?_) (fun c2=>?_)
  ·have c2:aI b=0:=c2
   exact .done ⟨aQ (by unfold kn;split <;> (try split) <;> omega),rfl⟩
  ·have c2:¬(aI b=0):=c2
   refine an (fun c3=>?_) (fun c3=>?_)
   ·have c3:aI a=0:=c3
    exact .done ⟨aQ (by unfold kn;split <;> (try split) <;> omega),rfl⟩
   ·have c3:¬(aI a=0):=c3
    exact .done ⟨aQ (by unfold kn;split <;> (try split) <;> omega),rfl⟩
def cT(what a b:Int):Int:=if what=1 then bits .or .u64 a b else if what=2 then bits .and .u64 a b else if what=3 then kn a b else 0
theorem U5(what a b:Int)(σ:Hp):ACalls Tryz.prog 279 [.int .i64 what,.int .u64 a,.int .u64 b] σ (aE (.int .u64 (cT what a b)) σ):=by
 refine ay Tryz.func279 ?_
 refine an (fun c1=>?_) (fun c1=>?_)
 ·have c1:what=1:=c1
  exact .done ⟨aQ (by simp[cT, *]),rfl⟩
 ·have c1:¬(what=1):=c1
  refine an (fun c2=>?_) (fun c2=>?_)
  ·have c2:what=2:=c2
   exact .done ⟨aQ (by simp[cT, *]),rfl⟩
  ·have c2:¬(what=2):=c2
   refine an (fun c3=>?_) (fun c3=>?_)
   ·have c3:what=3:=c3
    refine az [] (aez _ _ _) ?_
    exact .done ⟨aQ (by simp[cT, *]),rfl⟩
   ·have c3:¬(what=3):=c3
    exact .done ⟨aQ (by simp[cT, *]),rfl⟩
theorem Tq(n:Int)(σ:Hp):ACalls Tryz.prog 261 [.int .i64 n] σ (fun r σ'=>∃m,r=.int .i64 m∧σ'=σ):=by
 refine ay Tryz.func261 ?_
 refine ag.mk (by omega) ?_
 refine ag.mk (by omega) ?_
 exact .done ⟨_,rfl,rfl⟩
theorem afe(a b:Int)(σ:Hp):ACalls Tryz.prog 223 [.int .i64 a,.int .i64 b] σ (fun r σ'=>∃x y,r=.agg [.int .i64 x,.int .i64 y]∧σ'=σ):=by
 refine ay Tryz.func223 ?_
 intro aD
 (refine .mk [] _ (Tq _ _) ?_;rintro _ _ ⟨x,rfl,rfl⟩)
 (refine .mk [] _ (Tq _ _) ?_;rintro _ _ ⟨x,rfl,rfl⟩)
 refine ak 0 ?_
 refine aa 0 ?_
 exact .drop 0 1 (.done ⟨_,_,rfl,rfl⟩)
theorem afd(w:Int)(σ:Hp)(h0:0≤w)(h2:w<18446744073709551616):ACalls Tryz.prog 179 [.int .u64 w] σ (fun r σ'=>∃x y,r=.tup [.agg [.int .i64 x,.int .i64 y],.bool (ek w)]∧σ'=σ):=by
 have e1:w.tmod 4=w % 4:=sG h0
 have e2:IntKind.u64.wrap (w.tdiv 4)=w / 4:=by rw[Bs h0,IntKind.wrap_u64];omega
 refine ay Tryz.func179 ?_
 intro aD
 refine ag.mk (by omega) ?_
 refine dB (fun c2=>?_) (fun c2=>?_)
 ·have c2:¬(w.tmod 4=2):=by simpa using c2
  refine ak 0 ?_
  refine aa 0 ?_
  exact .drop 0 1 (.done ⟨_,_,by rw[show ek w=false by unfold ek;simp;omega];rfl,rfl⟩)
 ·have c2:w.tmod 4=2:=by simpa using c2
  refine ag.mk (by omega) ?_
  refine an (fun c3=>?_) (fun c3=>?_)
  ·have c3:4294967296≤IntKind.u64.wrap (w.tdiv 4):=c3
   refine ak 0 ?_
   refine aa 0 ?_
   exact .drop 0 1 (.done ⟨_,_,by rw[show ek w=false by unfold ek;simp;omega];rfl,rfl⟩)
  ·have c3:¬(4294967296≤IntKind.u64.wrap (w.tdiv 4)):=c3
   refine ag.mk (by omega) ?_
   refine ag.mk (by omega) ?_
   refine ag.mk (by omega) ?_
   (refine .mk [] _ (afe _ _ _) ?_;rintro _ _ ⟨x,y,rfl,rfl⟩)
   refine ak 0 ?_
   refine aa 0 ?_
   exact .drop 0 1 (.done ⟨_,_,by rw[show ek w=true by unfold ek;simp;omega];rfl,rfl⟩)
theorem CO(w:Int)(σ:Hp)(h0:0≤w)(h2:w<18446744073709551616):ACalls Tryz.prog 129 [.int .u64 w] σ (aE (.int .u64 (aI w)) σ):=by
 refine ay Tryz.func129 ?_
 refine .mk [] _ (afd w _ h0 h2) ?_
 rintro _ _ ⟨x,y,rfl,rfl⟩
 cases hn:ek w
 ·intro aD
  refine ak 0 ?_
  refine dB (fun c2=>?_) (fun c2=>?_)
  ·have c2:¬(w=0):=by simpa using c2
   exact .drop 0 1 (.done ⟨aQ (by simp[aI, *]),rfl⟩)
  ·have c2:w=0:=by simpa using c2
   exact .drop 0 1 (.done ⟨aQ (by simp[aI, *]),rfl⟩)
 ·have aP:=Kw hn
  intro aD
  refine ak 0 ?_
  refine dB (fun c2=>?_) (fun c2=>?_)
  ·have c2:¬(w=0):=by simpa using c2
   exact .drop 0 1 (.done ⟨aQ (by simp[aI, *]),rfl⟩)
  ·have c2:w=0:=by simpa using c2
   exact .drop 0 1 (.done ⟨aQ (by simp[aI, *]),rfl⟩)
theorem ael(a b:Int)(σ:Hp)(h0:0≤a)(h1:0≤b)(h2:a<18446744073709551616)(h3:b<18446744073709551616):ACalls Tryz.prog 231 [.int .u64 a,.int .u64 b] σ (aE (.int .u64 (kn a b)) σ):=by
 refine ay Tryz.func231 ?_
 refine az [] (CO _ _ h0 h2) ?_
 refine az [] (CO _ _ h1 h3) ?_
 refine an (fun c1=>?_) (fun c1=>?_)
 ·have c1:aI a=0:=c1
  exact .done ⟨aQ (by unfold kn;split <;> (try split) <;> omega),rfl⟩
 ·have c1:¬(aI a=0):=c1
  refine an (fun c2=>?_) (fun c2=>?_)
  ·have c2:aI a=aI b:=c2
   exact .done ⟨aQ (by unfold kn;split <;> (try split) <;> omega),rfl⟩
  ·have c2:¬(aI a=aI b):=c2
   refine an (fun c3=>?_) (fun c3=>?_)
   ·have c3:aI b=0:=c3
    exact .done ⟨aQ (by unfold kn;split <;> (try split) <;> omega),rfl⟩
   ·have c3:¬(aI b=0):=c3
    exact .done ⟨aQ (by unfold kn;split <;> (try split) <;> omega),rfl⟩
theorem aei(what a b:Int)(σ:Hp)(h0:0≤a)(h1:0≤b)(h2:a<18446744073709551616)(h3:b<18446744073709551616):ACalls Tryz.prog 177 [.int .i64 what,.int .u64 a,.int .u64 b] σ (aE (.int .u64 (cT what a b)) σ):=by
 refine ay Tryz.func177 ?_
 refine an (fun c1=>?_) (fun c1=>?_)
 ·have c1:what=1:=c1
  exact .done ⟨aQ (by simp[cT, *]),rfl⟩
 ·have c1:¬(what=1):=c1
  refine an (fun c2=>?_) (fun c2=>?_)
  ·have c2:what=2:=c2
   exact .done ⟨aQ (by simp[cT, *]),rfl⟩
  ·have c2:¬(what=2):=c2
   refine an (fun c3=>?_) (fun c3=>?_)
   ·have c3:what=3:=c3
    refine az [] (ael _ _ _ h0 h1 h2 h3) ?_
    exact .done ⟨aQ (by simp[cT, *]),rfl⟩
   ·have c3:¬(what=3):=c3
    exact .done ⟨aQ (by simp[cT, *]),rfl⟩
def wd(a:List Int)(i:Nat):Int:=(a[i]?).getD 0
def bD(z:Int):Prop:=0≤z∧z<18446744073709551616
def aR(l:List Int):Prop:=∀z∈l,bD z
theorem Cg(n:Int):bD (IntKind.u64.wrap n):=by rw[IntKind.wrap_u64];unfold bD;omega
theorem Gu{w:Int}(h:bD w):bD (aI w):=by
 unfold aI
 split
 ·exact⟨by decide,by decide⟩
 ·split
  ·exact⟨by decide,by decide⟩
  ·split
   ·exact h
   ·exact⟨by decide,by decide⟩
theorem Sv{what a b:Int}(ha:bD a)(hb:bD b):bD (cT what a b):=by
 unfold cT
 split
 ·exact Cg _
 ·split
  ·exact Cg _
  ·split
   ·unfold kn
    split
    ·exact Gu ha
    ·split
     ·exact Gu hb
     ·exact⟨by decide,by decide⟩
   ·exact⟨by decide,by decide⟩
theorem kP{l:List Int}(h:aR l)(i:Nat):bD (wd l i):=by
 unfold wd
 cases hq:l[i]? with
 |none=>exact⟨by decide,by decide⟩
 |some x=>exact h x (cq hq)
end Go.Proofs.YtnikdflhefijbaaGreat
