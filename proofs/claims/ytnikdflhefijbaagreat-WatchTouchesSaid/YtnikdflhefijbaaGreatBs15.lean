import Derived.Test.YtnikdflhefijbaaGreatBs14
import Derived.Test.YtnikdflhefijbaaGreatBs6
import Derived.Test.YtnikdflhefijbaaGreatBs13
import Derived.Test.YtnikdflhefijbaaGreatBs12
import Derived.Test.YtnikdflhefijbaaGreatBs11
namespace Go.Proofs.YtnikdflhefijbaaGreat
open Go.RowKit
set_option maxRecDepth 100000
theorem aeZ{l:Lay}(h:2≤l.k∧l.k≤64):nK l≠0∧l.k≠0:=by
 unfold nK;show IntKind.i64.wrap (l.k-1)≠0∧_;rw[IntKind.wrap_i64];omega
theorem W8(l:Lay)(n:Int):sT l n=8∨sT l n=3:=by unfold sT;split;exact .inl rfl;exact .inr rfl
theorem W9(nx:List Int):qH nx=8∨(qH nx=5∧0<nx.tail.length):=by
 unfold qH;split
 ·exact .inl rfl
 ·exact .inr ⟨rfl,by omega⟩
theorem XT(s:Sy)(node:Int):zF s node=8∨(zF s node=5∧0<(au s.n s.cd node).length):=by
 unfold zF;split
 ·exact .inl rfl
 ·exact .inr ⟨rfl,by omega⟩
theorem VS(l:Lay):xV l=2∨(xV l=1∧2≤l.k):=by
 unfold xV;split
 ·exact .inl rfl
 ·exact .inr ⟨rfl,by omega⟩
theorem WK(l:Lay):BM l=0∨(BM l=1∧2≤l.k):=by
 unfold BM;split
 ·exact .inl rfl
 ·exact .inr ⟨rfl,by omega⟩
theorem Om{f:FuncId}{xs:List AV}{σ:Hp}{R R':AV→Hp→Prop}(h:ACalls Tryz.prog f xs σ R)(hR:∀r σ',R r σ'→∃(i k b:Nat) (cs:List AV) (e:Sh),σ'[i]?=some (b,cs)∧cs[k]?=some .ag∧R' r (σ'.set i (b,cs.set k (.ae e [])))):ACalls Tryz.prog f xs σ R':=
 ⟨h.1,fun F w vs bY aG=>(h.2 F w vs bY aG).mono fun _ _ ⟨r,v,σ',F',h1,h2,h3,h4,h5⟩=>by
  obtain⟨i,k,b,cs,e,q1,q2,q3⟩:=hR r σ' h5
  exact⟨r,v,_,F',h1,h2,R3 h3 e q1 q2,h4,q3⟩⟩
def q8:WS:=⟨0,0,false,0,.none,0,false,[],[]⟩
theorem adP{s:Sy}{L:Lay}(h:fN s L.k=L)(he:cI s L.k=0):AV.tup [.agg (dp (fN s L.k)),.int .i64 (cI s L.k)]=.tup [.agg (dp L),.int .i64 0]:=by rw[h,he]
theorem Z0(A:Lay):¬(!eP (oP (List.take 4 (List.drop 0 (fG [AV.int .i64 0,AV.int .i64 0,AV.int .i64 0,AV.int .i64 0] 0 (dp A)))) (List.take 4 (List.drop 0 (dp A)))))=true:=by
 show ¬(!eP [decide (A.what=A.what),decide (A.words=A.words),decide (A.n=A.n),decide (A.k=A.k)])=true;simp[eP]
theorem Tj(s:Sy)(L:Lay)(who:Int)(σ:Hp)(hf:Fit s)(he:cI s L.k=0)(hL:fN s L.k=L)(h0:0≤who)(h1:who<L.k):ACalls Tryz.prog 100 [.agg (aP s),.agg (dp L),.int .i64 who] σ (fun r σ'=>∃w,r=.tup [.ptr w 0,.int .i64 0]∧σ'=WB s L who w 0 .ag [] q8++σ):=by
 have hg:ACalls Tryz.prog 100 [.agg (aP s),.agg (dp L),.int .i64 who] σ (fun r σ'=>∃w,r=.tup [.ptr w 0,.int .i64 0]∧σ'=(w,[.int .i64 0,.int .i64 0,.bool false,.int .i64 s.what,.int .i64 s.w,.int .i64 s.n,.ae cg s.cd,.ae (.int .i64) s.entry,.ae (.int .u64) s.init,.ae j9 s.T,.int .i64 L.what,.int .i64 L.words,.int .i64 L.n,.int .i64 L.k,.int .i64 who,.int .i64 0,.nilif,.int .i64 0,.bool false,.ag,.ag,.bool true])::σ):=by
  refine ao Tryz.func100 ?_;intro ax;intro bX;refine aa 1 ?_;refine aa 0 ?_;refine aw [] (mf (zP s L.k _ hf) (adP hL he)) ?_;intro kX;refine ah 0 ?_;refine aa 0 ?_;refine aa 1 ?_;refine .mk (by kernel_rfl) (by kernel_rfl) ?_;refine cO (fun c4=>?_) (fun c4=>?_)
  ·have c4:(!eP (oP (List.take 4 (List.drop 0 (fG [AV.int IntKind.i64 0,AV.int IntKind.i64 0,AV.int IntKind.i64 0,AV.int IntKind.i64 0] 0 (dp L)))) (List.take 4 (List.drop 0 (dp L)))))=true:=c4;exact absurd c4 (Z0 L)
  ·have c4:(!eP (oP (List.take 4 (List.drop 0 (fG [AV.int IntKind.i64 0,AV.int IntKind.i64 0,AV.int IntKind.i64 0,AV.int IntKind.i64 0] 0 (dp L)))) (List.take 4 (List.drop 0 (dp L)))))=false:=c4;refine ai (fun c5=>?_) (fun c5=>?_)
   ·have c5:who<0:=c5;exact absurd c5 (by omega)
   ·have c5:¬(who<0):=c5;refine aa 1 ?_;refine ai (fun c6=>?_) (fun c6=>?_)
    ·have c6:L.k≤who:=c6;exact absurd c6 (by omega)
    ·refine .sched [1] (upto [1] 8 0) (by kernel_rfl) ?_;refine aa 2 ?_;refine aN [] (Y4 s _ hf) ?_;refine aa 1 ?_;intro bl7;exact .drop 1 3 (.done ⟨_,rfl,rfl⟩)
 refine Om (Om hg (R':=fun r σ'=>∃w,r=.tup [.ptr w 0,.int .i64 0]∧σ'=(w,[.int .i64 0,.int .i64 0,.bool false,.int .i64 s.what,.int .i64 s.w,.int .i64 s.n,.ae cg s.cd,.ae (.int .i64) s.entry,.ae (.int .u64) s.init,.ae j9 s.T,.int .i64 L.what,.int .i64 L.words,.int .i64 L.n,.int .i64 L.k,.int .i64 who,.int .i64 0,.nilif,.int .i64 0,.bool false,.ae (.int .i64) ([]:List Int),.ag,.bool true])::σ) ?_) ?_
 ·rintro r σ' ⟨w,rfl,rfl⟩;exact⟨0,19,w,_,.int .i64,rfl,rfl,w,rfl,rfl⟩
 ·rintro r σ' ⟨w,rfl,rfl⟩;exact⟨0,20,w,_,.int .u64,rfl,rfl,w,rfl,rfl⟩
def ml:Lay:=⟨1,1,1,1⟩
theorem agS(p q w r:Nat)(c:AV)(acc:Hp)(s:Sy)(l:Lay)(who:Int)(x:WS)(d:Int)(ws:List Int)(σ:Hp)(hf:Fit s)(hv:bC ws)(ok:Ld l x)(rd:yj c acc x.now){x':WS}{ws':List Int}{b:Bool}(aq:de bR s l who x d ws=(x',ws',b)):
  ACalls Tryz.prog 390 [.ptr w 0,km p,.int .i64 d] (WB s l who w r c acc x++bN p q ws σ) (fun z σ'=>∃r c acc,yj c acc x'.now∧z=.bool b∧σ'=WB s l who w r c acc x'++bN p q ws' σ):=by
 refine (Tc (cT p q) w r c acc s l who x d ws σ hf trivial (fun a=>BR hv a) ok rd).mono ?_;rintro z σ' ⟨m',r,c,acc,h1,h2,rfl,rfl⟩;have h2:m'=(de bR s l who x d ws).2.1:=h2;refine⟨r,c,acc,?_,?_,?_⟩
 ·have:=h1;rw[show de (cT p q).O s l who x d ((cT p q).abs ws)=de bR s l who x d ws from rfl,aq]at this;exact this
 ·rw[show de (cT p q).O s l who x d ((cT p q).abs ws)=de bR s l who x d ws from rfl,aq]
 ·rw[show de (cT p q).O s l who x d ((cT p q).abs ws)=de bR s l who x d ws from rfl,h2,aq];rfl
theorem JF{f:FuncId}{xs ys:List AV}{σ:Hp}{K:AV→Hp→Prop}(j b off len es:Nat)(cs:List AV)(e:Sh)(l:List e.T)(h1:σ[j]?=some (b,cs))(h2:(cs.drop off).take (len*es)=l.flatMap e.cells)(h3:l.length=len∧e.size=es∧0<es)(i k b':Nat)(cs':List AV)(hi:(σ.eraseIdx j)[i]?=some (b',cs'))(hk:cs'[k]?=some (.af b off len es))(h4:eB b off len es e l (.tup xs) (.tup ys))(h:CallAt Tryz.prog f K ys ((σ.eraseIdx j).set i (b',cs'.set k (.ae e l)))):CallAt Tryz.prog f K xs σ:=
 .mk [] K ⟨(tY h).1,fun F w vs bY aG=>by
  obtain⟨aq,nQ,hh⟩:=uw aG h1 h2 h3;have hv:=xI aq hh h4 (.tuple vs) (.tup _ _ bY.1 bY.2);cases hv with
  |tup _ _ hs hr=>
   refine ((tY h).2 _ w vs ⟨hs,hr⟩ (BF nQ hh hi hk)).mono ?_;rintro e w' ⟨r,v,σ',F',rfl,q1,q2,q3,q4⟩
   exact⟨r,v,σ',F',rfl,aq.trans q1,q2,q3,q4⟩⟩ fun _ _ h=>h
theorem JG{f:FuncId}{xs ys:List AV}{σ:Hp}{K:AV→Hp→Prop}(hr:eB 0 0 0 0 .bool [] (.tup xs) (.tup ys))(h:CallAt Tryz.prog f K ys σ):CallAt Tryz.prog f K xs σ:=.mk [] K (EL hr (tY h)) fun _ _ h=>h
theorem Yv{R:AV→Hp→Prop}{r:AV}(a:Hp){σ:Hp}(h:Fin R r σ):Fin R r (a++σ):=.drop 0 a.length (by rw[DY,dD,List.drop_left];exact h)
set_option maxHeartbeats 4000000
theorem Qo{ws:List Int}(h:bC ws)(a:Int){x:Int}(hx:bO x):bC (gJ ws a x):=by
 unfold gJ;split
 ·exact h
 ·intro z hz
  rcases A7 hz with hz | rfl
  ·exact h z hz
  ·exact hx
def jT(what w:Int)(i:Nat)(z:Int):Prop:=bO z∧(if what=3 then cc z=z else z.toNat<2 ^ min 64 (eF w-64*i))
theorem Wp(what w:Int)(i:Nat):jT what w i 0:=by
 refine⟨⟨by decide,by decide⟩,?_⟩;split
 ·rfl
 ·exact AU _
theorem Wq{what w:Int}(h:what=1∨what=2∨what=3){i:Nat}{x y:Int}(hx:jT what w i x)(hy:jT what w i y):jT what w i (kc what x y):=by
 refine⟨RB hx.1 hy.1,?_⟩;have ux:=hx.1;have uy:=hy.1;obtain⟨a,rfl⟩:=qx ux.1;obtain⟨b,rfl⟩:=qx uy.1;have ha:a<18446744073709551616:=by have:=ux.2;omega
 have hb:b<18446744073709551616:=by have:=uy.2;omega
 rcases h with rfl | rfl | rfl
 ·have h1:=hx.2;have h2:=hy.2;rw[aB (by decide)]at h1 h2 ⊢;rw[show kc 1 (a:Int) b=bits .or .u64 (a:Int) b from rfl,IB ha hb,bD];exact Nat.or_lt_two_pow h1 h2
 ·have h1:=hx.2;rw[aB (by decide)]at h1 ⊢;rw[show kc 2 (a:Int) b=bits .and .u64 (a:Int) b from rfl,Bd ha hb,bD];exact HY Nat.and_le_left h1
 ·rw[az rfl];exact OO _ _
theorem Bs{what w:Int}{a:List Int}(hi:df what w=true):rI what w a↔((a.length:Int)=ez what w∧∀i,i<a.length→jT what w i (wd a i)):=by
 constructor
 ·intro ⟨hv,jd⟩;refine⟨zp hv,fun i h=>⟨pO jd i,?_⟩⟩
  by_cases h3:what=3
  ·rw[az h3];exact abU ((v7 hi h3).1 hv).2 h
  ·rw[aB h3];have:=(ug hi h3).1 hv;unfold fw at this;rw[bS,fq]at this;simpa using this.2 i (List.mem_range.2 h)
 ·intro ⟨hl,hk⟩
  have jd:bC a:=fun z hz=>by
   obtain⟨i,hi,rfl⟩:=vK.1 hz;rw[← mg a hi];exact (hk i hi).1
  refine⟨?_,jd⟩
  by_cases h3:what=3
  ·subst h3;refine (v7 hi rfl).2 ⟨?_,zx.2 fun z hz=>?_⟩
   ·rw[hl];unfold ez;rw[az hi,az rfl]
   ·obtain⟨i,hi,rfl⟩:=vK.1 hz;have:=(hk i hi).2;rw[az rfl,mg a hi]at this;exact this
  ·refine (ug hi h3).2 ?_
   have Mk:a.length=dS w:=by
    have:ez what w=(dS w:Int):=by unfold ez;rw[az hi,aB h3]
    omega
   unfold fw;rw[bS,fq];refine⟨by simpa using Mk,fun i hi=>?_⟩;have:=(hk i (gP.1 hi)).2;rw[aB h3]at this;simpa using this
structure LS(s:Sy)(l:Lay):Prop where
 fit:Fit s
 nf:Good s
 what:l.what=s.what
 words:l.words=ez s.what s.w
 n:l.n=s.n
 k1:1≤l.k
 k2:l.k≤64
abbrev nN(s:Sy):Nat:=s.n.toNat
abbrev nW(l:Lay):Nat:=cw l.words
theorem LS.nn{s:Sy}{l:Lay}(h:LS s l):s.n=(nN s:Int)∧1≤nN s∧nN s≤256:=by have:=h.nf.n1;have:=h.nf.n2;unfold nN;omega
theorem LS.ww{s:Sy}{l:Lay}(h:LS s l):l.words=(nW l:Int)∧nW l≤1024:=by
 have:=xQ s.what s.w;have:=h.words;unfold nW cw;omega
theorem FH{N W v i:Nat}(hv:v<N)(hi:i<W):v*W+i<N*W:=by
 have:(v+1)*W≤N*W:=nt _ hv;rw[qv]at this;omega
theorem aap{W u v i j:Nat}(hi:i<W)(hj:j<W)(h:u*W+i=v*W+j):u=v∧i=j:=by
 have h1:(u*W+i) / W=u:=by rw[AS,Nat.mul_add_div (by omega),Nat.div_eq_of_lt hi,vF]
 have h2:(v*W+j) / W=v:=by rw[AS,Nat.mul_add_div (by omega),Nat.div_eq_of_lt hj,vF]
 have h3:u=v:=by rw[← h1,← h2,h]
 subst h3;exact⟨rfl,by omega⟩
theorem rV{N W:Nat}(hN:N≤256)(hW:W≤1024):N*W≤262144:=oe hN hW
theorem gT{z:Int}(h0:0≤z)(h1:z<9223372036854775808):wr z=z:=by
 show IntKind.i64.wrap z=z;rw[IntKind.wrap_i64];omega
section
variable {s:Sy} {l:Lay} (hs:LS s l)
include hs
theorem LS.flags:gK l=((nN s*nW l:Nat):Int):=by
 have h1:=hs.nn;have h2:=hs.ww;have:=rV h1.2.2 h2.2;unfold gK;rw[hs.n,h1.1,h2.1,← HM];exact gT (by omega) (by omega)
theorem LS.count:fL l=((nN s*nW l+nN s:Nat):Int):=by
 have h1:=hs.nn;have h2:=hs.ww;have:=rV h1.2.2 h2.2;unfold fL;rw[hs.flags,hs.n,h1.1,tM];exact gT (by omega) (by omega)
theorem LS.room:fH l=((nN s+1:Nat):Int)∧rm (fH l)=nN s+1:=by
 have h1:=hs.nn
 have e:fH l=((nN s+1:Nat):Int):=by
  unfold fH;rw[hs.n,h1.1,tM];exact gT (by omega) (by omega)
 refine⟨e,?_⟩;rw[e];unfold rm;omega
theorem LS.uF{k:Nat}(hk:k≤64):fF l k=((nN s*nW l+nN s+1+k*(nN s+3):Nat):Int):=by
 have h1:=hs.nn;have h2:=hs.ww;have h3:=rV h1.2.2 h2.2;have h4:k*(nN s+3)≤64*259:=oe hk (by omega);unfold fF;rw[hs.count,hs.room.2,show ((k:Int)*((2+(nN s+1):Nat):Int))=((k*(nN s+3):Nat):Int) by rw[HM];congr 1;omega];rw[gT (z:=((k*(nN s+3):Nat):Int)) (by omega) (by omega),gT (z:=((nN s*nW l+nN s:Nat):Int)+1) (by omega) (by omega)];rw[show ((nN s*nW l+nN s:Nat):Int)+1+((k*(nN s+3):Nat):Int)=((nN s*nW l+nN s+1+k*(nN s+3):Nat):Int) by omega];exact gT (by omega) (by omega)
theorem LS.TZ{v:Nat}(hv:v<nN s):dX l v=((v*nW l:Nat):Int):=by
 have h1:=hs.nn;have h2:=hs.ww;have h3:=rV h1.2.2 h2.2;have h4:v*nW l≤nN s*nW l:=nt _ (by omega);unfold dX;rw[h2.1,← HM];exact gT (by omega) (by omega)
theorem LS.Gz{v i:Nat}(hv:v<nN s)(hi:i<nW l):wr (dX l v+(i:Nat))=((v*nW l+i:Nat):Int):=by
 have h1:=hs.nn;have h2:=hs.ww;have h3:=rV h1.2.2 h2.2;have h4:=FH hv hi;rw[hs.TZ hv,← tM];exact gT (by omega) (by omega)
theorem LS.Cs{v:Nat}(hv:v<nN s):wr (gK l+(v:Nat))=((nN s*nW l+v:Nat):Int):=by
 have h1:=hs.nn;have h2:=hs.ww;have h3:=rV h1.2.2 h2.2;rw[hs.flags,← tM];exact gT (by omega) (by omega)
theorem LS.aeQ:s.what=1∨s.what=2∨s.what=3:=by
 have:=hs.nf.tA;unfold df at this;simp at this;omega
end
structure MV(s:Sy)(l:Lay)(ws:List Int):Prop where
 a64:bC ws
 cells:∀v i,v<nN s→i<nW l→jT s.what s.w i (ws.getD (v*nW l+i) 0)
theorem Q3{ws:List Int}{a b:Nat}{x:Int}:(ws.set a x).getD b 0=if a=b∧b<ws.length then x else ws.getD b 0:=by
 simp only[bK,gQ]
 by_cases h:a=b
 ·subst h
  by_cases h2:a<ws.length
  ·simp[h2]
  ·simp[h2]
 ·simp[h]
theorem MV.zn{s:Sy}{l:Lay}{ws:List Int}(h:MV s l ws){a x:Int}(ha:((nN s*nW l:Nat):Int)≤a)(hx:bO x):MV s l (gJ ws a x):=by
 refine⟨Qo h.a64 a hx,fun v i hv hi=>?_⟩;have:=FH hv hi;obtain⟨k,rfl⟩:=qx (show 0≤a by omega);rw[ou,Q3,aB (by omega)];exact h.cells v i hv hi
theorem MV.F7{s:Sy}{l:Lay}{ws:List Int}(h:MV s l ws){a o x:Int}(ha:((nN s*nW l:Nat):Int)≤a)(hx:bO x):MV s l (mP ws a o x):=by
 unfold mP;split
 ·exact h.zn ha hx
 ·exact h
theorem MV.Tb{s:Sy}{l:Lay}{ws:List Int}(h:MV s l ws){a x:Int}(ha:((nN s*nW l:Nat):Int)≤a):MV s l (rQ ws a x):=by
 unfold rQ;split
 ·exact h.zn ha (by unfold bO;omega)
 ·exact h
theorem MV.Oz{s:Sy}{l:Lay}{ws:List Int}(h:MV s l ws){u j:Nat}{x:Int}(hj:j<nW l)(hx:jT s.what s.w j x):MV s l (gJ ws ((u*nW l+j:Nat):Int) x):=by
 refine⟨Qo h.a64 _ hx.1,fun v i hv hi=>?_⟩;rw[ou,Q3];split
 ·rename_i he
  obtain⟨-,rfl⟩:=aap hj hi he.1;exact hx
 ·exact h.cells v i hv hi
theorem MV.aaq{s:Sy}{l:Lay}{ws:List Int}(h:MV s l ws){u j:Nat}{o x:Int}(hj:j<nW l)(hx:jT s.what s.w j x):MV s l (mP ws ((u*nW l+j:Nat):Int) o x):=by
 unfold mP;split
 ·exact h.Oz hj hx
 ·exact h
theorem MV.load{s:Sy}{l:Lay}{ws:List Int}(h:MV s l ws){v i:Nat}(hv:v<nN s)(hi:i<nW l):jT s.what s.w i (eT ws ((v*nW l+i:Nat):Int)):=by
 rw[zo];exact h.cells v i hv hi
structure DQ.w4(q:DQ)(m:Nat):Prop where
 at_:q.at_≤m
 b:bO q.b
 t:bO q.t
 n:bO q.n
 x:bO q.x
 en:q.ended=false
def Ai(s:Sy)(l:Lay)(who an node:Int)(nx out:List Int):Nw→Prop
 |.none=>False
 |.pop q=>an=0∧q.w4 5∧q.base=fF l who∧q.cap=fH l
 |.ft q=>an=1∧q.w4 3∧(∃v:Nat,(v:Int)<l.k∧q.base=fF l v)∧q.cap=fH l∧q.ok=false
 |.quiet t=>an=2∧t=⟨gK l,fL l,false,false⟩
 |.clear t=>an=3∧t=⟨gK l,fL l,node,false⟩
 |.read y=>an=4∧(y.length<nW l∨(nW l=0∧y=[]))∧∀i,i<y.length→jT s.what s.w i (wd y i)
 |.join j=>an=5∧(j.base=dX l (nx.headD 0)∧j.what=l.what∧j.words=l.words∧j.a=out)∧j.ended=false∧j.at_≤nW l∧bO j.x∧(j.jR=true→j.at_<nW l∧jT s.what s.w j.at_ j.x)
 |.take t=>an=6∧∃kv:Bool,t=⟨gK l,fL l,nx.headD 0,kv,false,kv⟩
 |.push q=>an=7∧q.w4 3∧q.base=fF l who∧q.cap=fH l∧q.ok=false
 |.ib t=>an=8∧t=⟨gK l,fL l,0,false⟩
def kept(l:Lay):Nw→Prop
 |.none | .quiet _ | .clear _ | .ib _=>False
 |.read y=>y.length<nW l
 |.join j=>j.at_<nW l
 |.take t=>t.kv=true
 |_=>True
structure WV(s:Sy)(l:Lay)(who:Int)(x:WS):Prop where
 an:0≤x.an∧x.an≤8
 node:0≤x.node∧x.node<s.n
 nx:∀u∈x.nx,0≤u∧u<s.n
 head:x.an=5∨x.an=6∨x.an=7→0<x.nx.length
 out:x.an=5∨x.an=6∨x.an=7→rI s.what s.w x.out
 LL:x.an=1→2≤l.k
 now:x.now=.none∨(Ai s l who x.an x.node x.nx x.out x.now∧kept l x.now)
theorem wv0{s:Sy}{l:Lay}(hs:LS s l)(who:Int):WV s l who q8:=
 ⟨by decide,⟨kU _,hs.nf.n1⟩,fun u hu=>(sC hu).elim,fun h=>absurd h (by decide),fun h=>absurd h (by decide),fun h=>absurd h (by decide),.inl rfl⟩
theorem WV.ok{s:Sy}{l:Lay}(hs:LS s l){who:Int}{x:WS}(h:WV s l who x):Ld l x:=by
 refine⟨h.head,fun h1=>aeZ ⟨h.LL h1,hs.k2⟩,?_⟩;have hh:=h.head
 rcases h.now with h0 | ⟨h1,h2⟩
 ·rw[h0];trivial
 ·cases hn:x.now with
  |none=>trivial
  |pop q=>rw[hn]at h1;exact⟨h1.2.1.at_,h1.2.1.b.1⟩
  |ft q=>rw[hn]at h1;exact⟨h1.2.1.at_,h1.2.1.t.1⟩
  |quiet q=>trivial
  |clear q=>trivial
  |read y=>
   rw[hn]at h1;refine⟨h1.2.1,fun z hz=>?_⟩;obtain⟨i,hi,rfl⟩:=vK.1 hz;rw[← mg y hi];exact (h1.2.2 i hi).1
  |join j=>rw[hn]at h1;have:=hs.ww.2;exact⟨by have:=h1.2.2.2.1;omega,hh (.inl h1.1)⟩
  |take t=>rw[hn]at h1;exact hh (.inr (.inl h1.1))
  |push q=>rw[hn]at h1;exact⟨⟨h1.2.1.at_,h1.2.1.b.1⟩,hh (.inr (.inr h1.1))⟩
  |ib t=>trivial
theorem LS.afk{s:Sy}{l:Lay}(hs:LS s l){k:Nat}(hk:k≤64):((nN s*nW l:Nat):Int)≤fF l k∧((nN s*nW l:Nat):Int)≤ff (fF l k)∧∀i,((nN s*nW l:Nat):Int)≤jy (fF l k) (fH l) i:=by
 have h1:=hs.nn;have h2:=hs.ww;have h3:=rV h1.2.2 h2.2;have h4:k*(nN s+3)≤64*259:=oe hk (by omega);have hd:=hs.uF hk;refine⟨by omega,?_,fun i=>?_⟩
 ·unfold ff;rw[hd,gT (by omega) (by omega)];omega
 ·unfold jy;rw[hs.room.2];have hm:=HK i (show ((nN s+1:Nat):Int)≠0 by omega);have rf:=HU i (show (0:Int)<((nN s+1:Nat):Int) by omega);rw[hd,gT (z:=((nN s*nW l+nN s+1+k*(nN s+3):Nat):Int)+2) (by omega) (by omega),gT (z:=i % _) hm (by omega),gT (by omega) (by omega)];omega
theorem zS(n:Int):bO (wu n):=BI n
section
variable {s:Sy} {l:Lay} {ws ws':List Int} {q q':DQ} {b:Bool}
theorem XY(hw:MV s l ws)(hq:q.w4 5)(hb:((nN s*nW l:Nat):Int)≤ff q.base)(h0:((nN s*nW l:Nat):Int)≤q.base)(h:jf bR q ws=(q',ws',b)):MV s l ws'∧ws'.length=ws.length∧q'.base=q.base∧q'.cap=q.cap∧bO q'.n∧(b=false→q'.w4 5):=by
 obtain⟨base,cap,n,ok,ended,at_,bb,t,x⟩:=q;obtain⟨h1,h2,h3,h4,h5,h6⟩:=hq;have l1:=fun a=>BR hw.a64 a;have s1:=fun {a} {x} (ha:((nN s*nW l:Nat):Int)≤a) (hx:bO x)=>hw.zn ha hx;have c1:=fun {a} {o} {x} (ha:((nN s*nW l:Nat):Int)≤a) (hx:bO x)=>hw.F7 (o:=o) ha hx;dsimp only at *;subst h6;unfold jf at h;dsimp only at h
 repeat' split at h
 all_goals
  cases h;refine⟨?_,?_,rfl,rfl,?_,fun hb=>?_⟩
 all_goals first
  |contradiction
  |assumption
  |rfl
  |exact zb _ _ _
  |exact vO _ _ _ _
  |exact s1 hb h2
  |exact s1 hb (zS _)
  |exact c1 h0 (zS _)
  |exact l1 _
  |(dsimp only;split <;> assumption)
  |exact⟨by dsimp only;omega,by first | assumption | exact l1 _ | exact zS _,by first | assumption | exact l1 _,by first | assumption | exact l1 _,by first | assumption | exact l1 _,rfl⟩
theorem VD(hw:MV s l ws)(hq:q.w4 3)(h0:((nN s*nW l:Nat):Int)≤q.base)(hk:q.ok=false)(h:j8 bR q ws=(q',ws',b)):MV s l ws'∧ws'.length=ws.length∧q'.base=q.base∧q'.cap=q.cap∧bO q'.n∧(b=false→q'.w4 3∧q'.ok=false):=by
 obtain⟨base,cap,n,ok,ended,at_,bb,t,x⟩:=q;obtain⟨h1,h2,h3,h4,h5,h6⟩:=hq;have l1:=fun a=>BR hw.a64 a;have c1:=fun {a} {o} {x} (ha:((nN s*nW l:Nat):Int)≤a) (hx:bO x)=>hw.F7 (o:=o) ha hx;dsimp only at *;subst h6;subst hk;unfold j8 at h;dsimp only at h
 repeat' split at h
 all_goals
  cases h;refine⟨?_,?_,rfl,rfl,?_,fun hb=>?_⟩
 all_goals first
  |contradiction
  |assumption
  |rfl
  |exact zb _ _ _
  |exact vO _ _ _ _
  |exact c1 h0 (zS _)
  |exact l1 _
  |exact⟨⟨by dsimp only;omega,by first | assumption | exact l1 _,by first | assumption | exact l1 _,by first | assumption | exact l1 _,by first | assumption | exact l1 _,rfl⟩,rfl⟩
theorem WM(hw:MV s l ws)(hq:q.w4 3)(hb:((nN s*nW l:Nat):Int)≤ff q.base)(hp:∀i,((nN s*nW l:Nat):Int)≤jy q.base q.cap i)(hk:q.ok=false)(h:kz bR q ws=(q',ws',b)):MV s l ws'∧ws'.length=ws.length∧q'.base=q.base∧q'.cap=q.cap∧bO q'.n∧(b=false→q'.w4 3∧q'.ok=false):=by
 obtain⟨base,cap,n,ok,ended,at_,bb,t,x⟩:=q;obtain⟨h1,h2,h3,h4,h5,h6⟩:=hq;have l1:=fun a=>BR hw.a64 a;have s1:=fun {a} {x} (ha:((nN s*nW l:Nat):Int)≤a) (hx:bO x)=>hw.zn ha hx;dsimp only at *;subst h6;subst hk;unfold kz at h;dsimp only at h
 repeat' split at h
 all_goals
  cases h;refine⟨?_,?_,rfl,rfl,?_,fun hb=>?_⟩
 all_goals first
  |contradiction
  |assumption
  |rfl
  |exact zb _ _ _
  |exact vO _ _ _ _
  |exact s1 hb (zS _)
  |exact s1 (hp _) h4
  |exact l1 _
  |exact⟨⟨by dsimp only;omega,by first | assumption | exact l1 _,by first | assumption | exact l1 _,by first | assumption | exact l1 _,by first | assumption | exact l1 _,rfl⟩,rfl⟩
end
theorem adm{y:List Int}{z:Int}{i:Nat}:wd (y++[z]) i=if i<y.length then wd y i else if i=y.length then z else 0:=by
 unfold wd;rw[List.getElem?_append]
 by_cases h:i<y.length
 ·rw[az h,az h]
 ·rw[aB h,aB h]
  by_cases h2:i=y.length
  ·subst h2;simp
  ·rw[aB h2,sE (by show 1≤_;omega)];rfl
theorem WI{s:Sy}{l:Lay}{ws ws':List Int}{y y':List Int}{b:Bool}(hs:LS s l)(hw:MV s l ws){v:Nat}(hv:v<nN s)(hy:y.length<nW l∨(nW l=0∧y=[]))(hk:∀i,i<y.length→jT s.what s.w i (wd y i))(h:nA bR l (dX l v) y ws=(y',ws',b)):ws'=ws∧(∀i,i<y'.length→jT s.what s.w i (wd y' i))∧(b=false→y'.length<nW l)∧(b=true→rI s.what s.w y'):=by
 have Hj:=hs.ww;unfold nA at h;split at h
 ·rename_i ab
  have ab:y.length<nW l:=ab;cases h
  have e:∀i,i<(y++[(bR.ld ws (wr (dX l v+(y.length:Nat)))).1]).length→jT s.what s.w i (wd (y++[(bR.ld ws (wr (dX l v+(y.length:Nat)))).1]) i):=fun i hi=>by
   rw[bB]at hi;have hi:i<y.length+1:=hi;rw[adm]
   by_cases h1:i<y.length
   ·rw[az h1];exact hk i h1
   ·obtain rfl:i=y.length:=by omega
    rw[aB h1,az rfl];show jT _ _ _ (eT ws _);rw[hs.Gz hv ab];exact hw.load hv ab
  refine⟨rfl,e,fun hb=>?_,fun hb=>?_⟩
  ·have hb:¬y.length+1=nW l:=py hb;rw[bB];show y.length+1<_;omega
  ·have hb:y.length+1=nW l:=eX hb;refine (Bs hs.nf.tA).2 ⟨?_,e⟩;rw[← hs.words,Hj.1,bB];show ((y.length+1:Nat):Int)=_;omega
 ·rename_i ab
  obtain⟨h1,h2⟩:=Prod.mk.inj h;obtain⟨h2,h3⟩:=Prod.mk.inj h2;subst h1;subst h2;subst h3
  have h0:nW l=0∧y=[]:=by
   rcases hy with h | h
   ·exact absurd h ab
   ·exact h
  refine⟨rfl,hk,fun hb=>(by cases hb),fun _=>?_⟩;refine (Bs hs.nf.tA).2 ⟨?_,hk⟩;rw[← hs.words,Hj.1,h0.1,h0.2];rfl
theorem W3{s:Sy}{l:Lay}{ws ws':List Int}{j j':Jn}{b:Bool}(hs:LS s l)(hw:MV s l ws){u:Nat}(hu:u<nN s)(Gs:j.base=dX l u)(af1:j.what=l.what)(adV:j.words=l.words)(ha:rI s.what s.w j.a)(na:j.ended=false)(eQ:j.at_≤nW l)(hx:bO j.x)(hl:j.jR=true→j.at_<nW l∧jT s.what s.w j.at_ j.x)(h:jS bR j ws=(j',ws',b)):
  MV s l ws'∧ws'.length=ws.length∧(j'.base=j.base∧j'.what=j.what∧j'.words=j.words∧j'.a=j.a)∧(b=false→j'.ended=false∧j'.at_<nW l∧bO j'.x∧(j'.jR=true→jT s.what s.w j'.at_ j'.x)):=by
 obtain⟨base,what,words,a,changed,ended,tries,at_,jR,x⟩:=j;dsimp only at *;subst Gs;subst na;subst af1;subst adV;have Hj:=hs.ww
 have tC:∀i,i<nW l→jT s.what s.w i (wd a i):=fun i hi=>by
  have:=(Bs hs.nf.tA).1 ha;refine this.2 i ?_;have h2:=this.1;rw[← hs.words,Hj.1]at h2;omega
 unfold jS at h;dsimp only at h;split at h
 ·contradiction
 split at h
 ·cases h;exact⟨hw,rfl,⟨rfl,rfl,rfl,rfl⟩,fun hb=>by cases hb⟩
 rename_i Lp
 have ab:at_<nW l:=by have:¬at_=nW l:=Lp;omega
 have hA:=hs.Gz hu ab;have Mj:jT s.what s.w at_ (eT ws (wr (dX l u+(at_:Nat)))):=by rw[hA];exact hw.load hu ab
 rw[hs.what]at h;split at h
 ·rename_i agr
  have qg:=(hl agr).2;have w7:=Wq hs.aeQ qg (tC at_ ab);have hM:∀o,MV s l (mP ws (wr (dX l u+(at_:Nat))) o (kc s.what x (wd a at_))):=fun o=>by rw[hA];exact hw.aaq ab w7
  split at h
  ·unfold sW at h;dsimp only at h;split at h
   ·rename_i hn
    cases h;exact⟨hM _,vO _ _ _ _,⟨rfl,hs.what.symm,rfl,rfl⟩,fun _=>⟨rfl,hn,hx,fun hc=>by cases hc⟩⟩
   ·cases h;exact⟨hM _,vO _ _ _ _,⟨rfl,hs.what.symm,rfl,rfl⟩,fun hb=>by cases hb⟩
  ·cases h;exact⟨hM _,vO _ _ _ _,⟨rfl,hs.what.symm,rfl,rfl⟩,fun _=>⟨rfl,ab,hx,fun hc=>by cases hc⟩⟩
 ·split at h
  ·unfold sW at h;dsimp only at h;split at h
   ·rename_i hn
    cases h;exact⟨hw,rfl,⟨rfl,hs.what.symm,rfl,rfl⟩,fun _=>⟨rfl,hn,Mj.1,fun hc=>absurd hc (by assumption)⟩⟩
   ·cases h;exact⟨hw,rfl,⟨rfl,hs.what.symm,rfl,rfl⟩,fun hb=>by cases hb⟩
  ·cases h;exact⟨hw,rfl,⟨rfl,hs.what.symm,rfl,rfl⟩,fun _=>⟨rfl,ab,Mj.1,fun _=>Mj⟩⟩
def UG(s:Sy)(an:Int):Nw→Prop
 |.none=>False
 |.pop q=>bO q.n
 |.ft q=>bO q.n
 |.read y=>rI s.what s.w y
 |.join _=>an=5
 |.take _=>an=6
 |.push _=>an=7
 |_=>True
theorem FA{nx:List Int}{n:Int}(h:∀u∈nx,0≤u∧u<n)(h0:0<nx.length):∃u:Nat,nx.headD 0=u∧(u:Int)<n:=by
 cases nx with
 |nil=>cases h0
 |cons u r=>
  have:=h u (cF ..);exact⟨u.toNat,by show u=_;omega,by omega⟩
theorem X9{s:Sy}{l:Lay}{ws ws':List Int}{who an node:Int}{nx out:List Int}{n n':Nw}{b:Bool}(hs:LS s l)(hw:MV s l ws)(mY:0≤who∧who<l.k)(rW:0≤node∧node<s.n)(cz:∀u∈nx,0≤u∧u<s.n)(hh:an=5∨an=6∨an=7→0<nx.length)(ho:an=5∨an=6∨an=7→rI s.what s.w out)
  (hb:Ai s l who an node nx out n) (h:ka bR l node n ws=(n',ws',b)):MV s l ws'∧ws'.length=ws.length∧(b=false→Ai s l who an node nx out n'∧kept l n')∧(b=true→UG s an n'):=by
 have dR:=hs.k2;have hd:∀k:Nat,(k:Int)<l.k→((nN s*nW l:Nat):Int)≤fF l k∧((nN s*nW l:Nat):Int)≤ff (fF l k)∧∀i,((nN s*nW l:Nat):Int)≤jy (fF l k) (fH l) i:=fun k hk=>hs.afk (by omega);obtain⟨me,rfl⟩:=qx mY.1;obtain⟨v,rfl⟩:=qx rW.1;have hv:v<nN s:=by have:=hs.nn;omega
 have Hw:=hd me mY.2;cases n with
 |none=>exact hb.elim
 |pop q=>
  obtain⟨q',a',b',aq⟩:∃q' a' b',jf bR q ws=(q',a',b'):=⟨_,_,_,rfl⟩
  rw[uv aq]at h;cases h;obtain⟨h1,h2,h3,h4⟩:=hb;obtain⟨k1,k2,k3,k4,k5,k6⟩:=XY hw h2 (by rw[h3];exact Hw.2.1) (by rw[h3];exact Hw.1) aq;exact⟨k1,k2,fun hb=>⟨⟨h1,k6 hb,k3.trans h3,k4.trans h4⟩,trivial⟩,fun _=>k5⟩
 |ft q=>
  obtain⟨q',a',b',aq⟩:∃q' a' b',j8 bR q ws=(q',a',b'):=⟨_,_,_,rfl⟩
  rw[uc aq]at h;cases h;obtain⟨h1,h2,⟨k,hk,h3⟩,h4,h5⟩:=hb;obtain⟨k1,k2,k3,k4,k5,k6⟩:=VD hw h2 (by rw[h3];exact (hd k hk).1) h5 aq;exact⟨k1,k2,fun hb=>⟨⟨h1,(k6 hb).1,⟨k,hk,k3.trans h3⟩,k4.trans h4,(k6 hb).2⟩,trivial⟩,fun _=>k5⟩
 |quiet t=>
  obtain⟨h1,rfl⟩:=hb;cases h;exact⟨hw,rfl,fun hb=>(by cases hb),fun _=>trivial⟩
 |clear t=>
  obtain⟨h1,rfl⟩:=hb;cases h;refine⟨?_,?_,fun hb=>(by cases hb),fun _=>trivial⟩
  ·show MV s l (if 0≤(v:Int) then gJ ws (wr (gK l+(v:Nat))) 0 else ws);rw[az (by omega),hs.Cs hv];exact hw.zn (by omega) (by unfold bO;omega)
  ·show (if 0≤(v:Int) then gJ ws (wr (gK l+(v:Nat))) 0 else ws).length=_;rw[az (by omega)];exact zb _ _ _
 |read y=>
  obtain⟨y',a',b',aq⟩:∃y' a' b',nA bR l (dX l v) y ws=(y',a',b'):=⟨_,_,_,rfl⟩
  rw[xZ aq]at h;cases h;obtain⟨h1,h2,h3⟩:=hb;obtain⟨rfl,k2,k3,k4⟩:=WI hs hw hv h2 h3 aq;exact⟨hw,rfl,fun hb=>⟨⟨h1,.inl (k3 hb),k2⟩,k3 hb⟩,fun hb=>k4 hb⟩
 |join j=>
  obtain⟨j',a',b',aq⟩:∃j' a' b',jS bR j ws=(j',a',b'):=⟨_,_,_,rfl⟩
  rw[uk aq]at h;cases h;obtain⟨h1,⟨h2,h3,h4,h5⟩,h6,h7,h8,h9⟩:=hb;obtain⟨u,hu,fJ⟩:=FA cz (hh (.inl h1));obtain⟨k1,k2,⟨k3,k4,k5,k6⟩,k7⟩:=W3 hs hw (u:=u) (by have:=hs.nn;omega) (by rw[h2,hu]) h3 h4 (by rw[h5];exact ho (.inl h1)) h6 h7 h8 h9 aq;refine⟨k1,k2,fun hb=>?_,fun _=>h1⟩;obtain⟨m1,m2,m3,m4⟩:=k7 hb;exact⟨⟨h1,⟨k3.trans h2,k4.trans h3,k5.trans h4,k6.trans h5⟩,m1,Nat.le_of_lt m2,m3,fun hc=>⟨m2,m4 hc⟩⟩,m2⟩
 |take t=>
  obtain⟨h1,kv,rfl⟩:=hb;obtain⟨u,hu,fJ⟩:=FA cz (hh (.inr (.inl h1)));have L9:u<nN s:=by have:=hs.nn;omega
  rw[hu]at h;have jc:((nN s*nW l:Nat):Int)≤wr (gK l+(u:Nat)):=by rw[hs.Cs L9];omega
  have yQ:((nN s*nW l:Nat):Int)≤fL l:=by rw[hs.count];omega
  cases kv with
  |true=>
   cases h;exact⟨hw.Tb yQ,NK _ _ _,fun hb=>(by cases hb),fun _=>h1⟩
  |false=>
   obtain⟨t',a',b',aq⟩:∃t' a' b',lJ bR ⟨gK l,fL l,(u:Nat),false,false,false⟩ ws=(t',a',b'):=⟨_,_,_,rfl⟩
   rw[uj aq]at h;cases h;unfold lJ at aq;dsimp only at aq;rw[aB (by decide),aB (by decide),az (by omega)]at aq;split at aq
   ·cases aq;exact⟨hw.F7 jc (by unfold bO;omega),vO _ _ _ _,fun _=>⟨⟨h1,true,by rw[hu]⟩,rfl⟩,fun hb=>(by cases hb)⟩
   ·cases aq;exact⟨hw.F7 jc (by unfold bO;omega),vO _ _ _ _,fun hb=>(by cases hb),fun _=>h1⟩
 |push q=>
  obtain⟨q',a',b',aq⟩:∃q' a' b',kz bR q ws=(q',a',b'):=⟨_,_,_,rfl⟩
  rw[BP aq]at h;cases h;obtain⟨h1,h2,h3,h4,h5⟩:=hb;obtain⟨k1,k2,k3,k4,k5,k6⟩:=WM hw h2 (by rw[h3];exact Hw.2.1) (by rw[h3,h4];exact Hw.2.2) h5 aq;exact⟨k1,k2,fun hb=>⟨⟨h1,(k6 hb).1,k3.trans h3,k4.trans h4,(k6 hb).2⟩,trivial⟩,fun _=>h1⟩
 |ib t=>
  obtain⟨h1,rfl⟩:=hb;cases h;have yQ:((nN s*nW l:Nat):Int)≤fL l:=by rw[hs.count];omega
  exact⟨hw.Tb yQ,NK _ _ _,fun hb=>(by cases hb),fun _=>trivial⟩
theorem zk:bO 0:=by unfold bO;omega
theorem Kp(base cap n:Int)(m:Nat)(h:bO n):(y8 base cap n).w4 m:=⟨aV _,zk,zk,h,zk,rfl⟩
theorem abr{d n:Int}(hn:0<n): -n<d.tmod n∧d.tmod n<n:=⟨by have:=HW (-d) hn;rw[Int.neg_tmod]at this;omega,HW _ hn⟩
theorem XG{s:Sy}{l:Lay}(hs:LS s l){who:Int}(mY:0≤who∧who<l.k)(h2:2≤l.k)(d:Int):∃v:Nat,BJ l who d=v∧(v:Int)<l.k:=by
 have dR:=hs.k2;have hnk:nK l=l.k-1:=gT (by omega) (by omega);have h1:=abr (d:=d) (n:=l.k-1) (by omega);unfold BJ;rw[hnk];generalize d.tmod (l.k-1)=a at h1;rw[gT (z:=a+(l.k-1)) (by omega) (by omega),gT (z:=who+1) (by omega) (by omega)];have h3:0≤(a+(l.k-1)).tmod (l.k-1):=Int.tmod_nonneg _ (by omega);have h4:=HW (a+(l.k-1)) (show 0<l.k-1 by omega);generalize (a+(l.k-1)).tmod (l.k-1)=c at h3 h4;rw[gT (by omega) (by omega)];have h5:0≤(who+1+c).tmod l.k:=Int.tmod_nonneg _ (by omega);have h6:=HW (who+1+c) (show 0<l.k by omega);exact⟨_,(mE h5).symm,by omega⟩
theorem R0{s:Sy}{l:Lay}{who:Int}{x:WS}{d:Int}(hs:LS s l)(mY:0≤who∧who<l.k)(h:WV s l who x):Ai s l who x.an x.node x.nx x.out (rG l who x d):=by
 have hd:=h.an;have hw:=hs.ww
 rcases h.now with h0 | h0
 ·unfold rG;rw[h0];show Ai s l who x.an x.node x.nx x.out (jE l who x.an x.node x.nx x.out d);unfold jE
  repeat' split
  ·exact⟨by assumption,Kp _ _ _ _ (by unfold bO;omega),rfl,rfl⟩
  ·rename_i h1
   obtain⟨v,hv,hvk⟩:=XG hs mY (h.LL h1) d;exact⟨h1,Kp _ _ _ _ (by unfold bO;omega),⟨v,hvk,by rw[← hv];rfl⟩,rfl,rfl⟩
  ·exact⟨by assumption,rfl⟩
  ·exact⟨by assumption,rfl⟩
  ·refine⟨by assumption,?_,fun i hi=>absurd hi (vH _)⟩
   rcases px (nW l) with h | h
   ·exact .inr ⟨h,rfl⟩
   ·exact .inl h
  ·exact⟨by assumption,⟨rfl,rfl,rfl,rfl⟩,rfl,aV _,zk,fun hc=>by cases hc⟩
  ·exact⟨by assumption,false,rfl⟩
  ·exact⟨by assumption,Kp _ _ _ _ (zS _),rfl,rfl,rfl⟩
  ·exact⟨by omega,rfl⟩
 ·unfold rG;split
  ·rename_i hn;rw[hn]at h0;exact h0.1.elim
  ·exact h0.1
theorem SY{s:Sy}{l:Lay}(hs:LS s l){n:Int}(h:bO n):0≤qG l n∧qG l n<s.n:=by
 have hn:=hs.nn
 have e:wu l.n=s.n:=by
  show IntKind.u64.wrap l.n=_;rw[IntKind.wrap_u64,hs.n];omega
 unfold qG;rw[e];split
 ·omega
 ·rw[gT h.1 (by omega)];exact⟨h.1,by omega⟩
theorem pN{s:Sy}{l:Lay}{who:Int}{x:WS}(h0:x.now=.none)(h1:0≤x.an∧x.an≤8)(h2:0≤x.node∧x.node<s.n)(h3:∀u∈x.nx,0≤u∧u<s.n)(h4:x.an=5∨x.an=6∨x.an=7→0<x.nx.length∧rI s.what s.w x.out)(h5:x.an=1→2≤l.k):WV s l who x:=
 ⟨h1,h2,h3,fun h=>(h4 h).1,fun h=>(h4 h).2,h5,.inl h0⟩
theorem aeb{s:Sy}{l:Lay}{who:Int}{x:WS}{n:Nw}(hs:LS s l)(h:WV s l who x)(he:UG s x.an n):WV s l who (ir s l x n):=by
 have g:=fun n=>W8 l n;have f:=W9 x.nx;have r:=XT s x.node;have no:=VS l;have qu:=WK l;have yI:∀u∈x.nx.tail,0≤u∧u<s.n:=fun u hu=>h.nx u (List.mem_of_mem_tail hu);cases n with
 |none=>exact he.elim
 |pop q=>
  have g:=g q.n
  by_cases hq:q.ok=true
  ·rw[show ir s l x (.pop q)=⟨x.ev,x.jo,x.en,sT l q.n,.none,qG l q.n,true,x.nx,x.out⟩ from az hq];exact pN rfl (by dsimp only;omega) (SY hs he) h.nx (fun h=>by dsimp only at h;omega) (fun h=>by dsimp only at h;omega)
  ·rw[show ir s l x (.pop q)=⟨x.ev,x.jo,x.en,xV l,.none,x.node,x.has,x.nx,x.out⟩ from aB hq];exact pN rfl (by dsimp only;omega) h.node h.nx (fun h=>by dsimp only at h;omega) (fun h=>by dsimp only at h;omega)
 |ft q=>
  have g:=g q.n
  by_cases hq:q.ok=true
  ·rw[show ir s l x (.ft q)=⟨x.ev,x.jo,x.en,sT l q.n,.none,qG l q.n,true,x.nx,x.out⟩ from az hq];exact pN rfl (by dsimp only;omega) (SY hs he) h.nx (fun h=>by dsimp only at h;omega) (fun h=>by dsimp only at h;omega)
  ·rw[show ir s l x (.ft q)=⟨x.ev,x.jo,x.en,2,.none,x.node,x.has,x.nx,x.out⟩ from aB hq];exact pN rfl (by dsimp only;omega) h.node h.nx (fun h=>by dsimp only at h;omega) (fun h=>by dsimp only at h;omega)
 |quiet q=>exact pN rfl (by dsimp only[ir];omega) h.node h.nx (fun h=>by dsimp only[ir]at h;omega) (fun h=>by dsimp only[ir]at h;omega)
 |clear q=>exact pN rfl (by dsimp only[ir];omega) h.node h.nx (fun h=>by dsimp only[ir]at h;omega) (fun h=>by dsimp only[ir]at h;omega)
 |read y=>
  obtain⟨v,hv⟩:=qx h.node.1;have eC:=h.node.2;have hE:qW s x.node y=0:=ZK ((I1 (I9 hs.nf) h.node).symm) he.v
  have hV:rI s.what s.w (sj (qW s x.node y) (lf s y x.node.toNat)):=by
   rw[hE,show sj 0 (lf s y x.node.toNat)=lf s y x.node.toNat from rfl];have:=JS hs.fit hs.nf he.jF he.v (v:=x.node.toNat) (by omega);exact⟨this.1,this.2⟩
  exact pN rfl (by dsimp only[ir];omega) h.node (fun u hu=>(kD.1 hu).1) (fun h=>⟨by dsimp only[ir]at h ⊢;omega,hV⟩) (fun h=>by dsimp only[ir]at h;omega)
 |join q=>
  have hh:=h.head (.inl he);have ho:=h.out (.inl he)
  by_cases hq:q.changed=true
  ·rw[show ir s l x (.join q)=⟨x.ev,wr (x.jo+1),x.en,6,.none,x.node,x.has,x.nx,x.out⟩ from az hq];exact pN rfl (by dsimp only;omega) h.node h.nx (fun _=>⟨hh,ho⟩) (fun h=>by dsimp only at h;omega)
  ·rw[show ir s l x (.join q)=⟨x.ev,x.jo,x.en,qH x.nx,.none,x.node,x.has,x.nx.tail,x.out⟩ from aB hq];exact pN rfl (by dsimp only;omega) h.node yI (fun h=>⟨by dsimp only at h ⊢;omega,ho⟩) (fun h=>by dsimp only at h;omega)
 |take q=>
  have hh:=h.head (.inr (.inl he));have ho:=h.out (.inr (.inl he))
  by_cases hq:q.new=true
  ·rw[show ir s l x (.take q)=⟨x.ev,x.jo,x.en,7,.none,x.node,x.has,x.nx,x.out⟩ from az hq];exact pN rfl (by dsimp only;omega) h.node h.nx (fun _=>⟨hh,ho⟩) (fun h=>by dsimp only at h;omega)
  ·rw[show ir s l x (.take q)=⟨x.ev,x.jo,x.en,qH x.nx,.none,x.node,x.has,x.nx.tail,x.out⟩ from aB hq];exact pN rfl (by dsimp only;omega) h.node yI (fun h=>⟨by dsimp only at h ⊢;omega,ho⟩) (fun h=>by dsimp only at h;omega)
 |push q=>
  have ho:=h.out (.inr (.inr he));exact pN rfl (by dsimp only[ir];omega) h.node yI (fun h=>⟨by dsimp only[ir]at h ⊢;omega,ho⟩) (fun h=>by dsimp only[ir]at h;omega)
 |ib q=>exact pN rfl (by dsimp only[ir];omega) h.node h.nx (fun h=>by dsimp only[ir]at h;omega) (fun h=>by dsimp only[ir]at h;omega)
theorem abg{s:Sy}{l:Lay}{who:Int}{x:WS}{d:Int}{ws:List Int}(hs:LS s l)(mY:0≤who∧who<l.k)(hw:MV s l ws)(h:WV s l who x):MV s l (de bR s l who x d ws).2.1∧(de bR s l who x d ws).2.1.length=ws.length∧WV s l who (de bR s l who x d ws).1:=by
 obtain⟨n',ws',b,aq⟩:∃n' ws' b,ka bR l x.node (rG l who x d) ws=(n',ws',b):=⟨_,_,_,rfl⟩
 obtain⟨k1,k2,k3,k4⟩:=X9 hs hw mY h.node h.nx h.head h.out (R0 hs mY h (d:=d)) aq;unfold de;rw[aq];dsimp only;split
 ·exact⟨hw,rfl,h⟩
 ·split
  ·rename_i hb
   exact⟨k1,k2,aeb hs h (k4 hb)⟩
  ·rename_i hb
   exact⟨k1,k2,h.an,h.node,h.nx,h.head,h.out,h.LL,.inr (k3 (by simpa using hb))⟩
set_option maxHeartbeats 4000000
theorem aet(n:Int)(σ:Hp):ACalls Tryz.prog 122 [.int .i64 n] σ (ay (.int .i64 (rm n)) σ):=by
 refine ao Tryz.func122 ?_;exact .done ⟨aQ (SI n),rfl⟩
set_option maxHeartbeats 4000000
theorem Rs(l:Lay)(w:Int)(σ:Hp):ACalls Tryz.prog 62 [.agg (dp l),.int .i64 w] σ (ay (.int .i64 (fF l w)) σ):=by
 refine ao Tryz.func62 ?_;intro ax;refine .quiet (by kernel_rfl) ?_;refine aa 0 ?_;refine aa 0 ?_;refine aa 0 ?_;refine aa 0 ?_;refine aN [] (aet _ _) ?_;exact .drop 0 1 (.done ⟨aQ (by rw[show IntKind.i64.wrap (2+((rm (IntKind.i64.wrap (l.n+1)):Nat):Int))=((2+rm (fH l):Nat):Int) from (gT (z:=2+((rm (fH l):Nat):Int)) (by omega) (by have:=Gj (fH l);omega)).trans (by omega)];rfl),rfl⟩)
set_option maxHeartbeats 4000000
theorem Zh{s:Sy}{l:Lay}{who:Int}{x:WS}{d:Int}{ws:List Int}(he:x.en=false):(de bR s l who x d ws).2.2=(de bR s l who x d ws).1.en:=by
 unfold de;rw[aB (by rw[he];decide)];split
 ·rfl
 ·exact he.symm
theorem Sl(l:Lay)(σ:Hp):ACalls Tryz.prog 40 [.agg (dp l)] σ (ay (.int .i64 (fF l l.k)) σ):=by
 refine ao Tryz.func40 ?_;intro ax;refine aa 0 ?_;refine aa 0 ?_;refine aw [] (Rs l _ _) ?_;exact .drop 0 1 (.done ⟨rfl,rfl⟩)
theorem E5{s:Sy}{k:Int}(h:cI s k=0):cx s=0∧1≤k∧k≤64:=by
 unfold cI at h;split at h
 ·split at h
  ·exact⟨by assumption,by assumption⟩
  ·cases h
 ·exact absurd h (by assumption)
theorem ye{s:Sy}{k:Int}(hf:Fit s)(h:cI s k=0):LS s (fN s k)∧(fN s k).k=k:=by
 obtain⟨h1,h2⟩:=E5 h;have e:∀z,qe (cI s k) z=z:=fun z=>az h;exact⟨⟨hf,wi h1,e _,e _,e _,by rw[show (fN s k).k=k from e _];exact h2.1,by rw[show (fN s k).k=k from e _];exact h2.2⟩,e _⟩
def cJ(l:Lay):Nat:=(fF l l.k).toNat
section
variable {s:Sy} {l:Lay} (hs:LS s l)
include hs
theorem LS.kk:∃k:Nat,l.k=k∧1≤k∧k≤64:=⟨l.k.toNat,by have:=hs.k1;have:=hs.k2;omega⟩
theorem LS.size:fF l l.k=(cJ l:Int)∧cJ l≤1000000∧kO (fF l l.k)=cJ l:=by
 obtain⟨k,hk,jr,dR⟩:=hs.kk;have hd:=hs.uF dR;have h1:=hs.nn;have h2:=hs.ww;have h3:=rV h1.2.2 h2.2;have h4:k*(nN s+3)≤64*259:=oe dR (by omega);unfold cJ kO;rw[hk,hd];omega
theorem LS.afj{k:Nat}(hk:(k:Int)<l.k):∃a:Nat,fF l k=(a:Int)∧nN s*nW l+nN s<a∧a+nN s+3≤cJ l:=by
 obtain⟨m,hm,Dq,rf⟩:=hs.kk;have hd:=hs.uF (k:=k) (by omega);have qo:=hs.uF rf;have h5:(k+1)*(nN s+3)≤m*(nN s+3):=nt _ (by omega);rw[rD]at h5;refine⟨_,hd,by omega,?_⟩;unfold cJ;rw[hm,qo];omega
theorem LS.low:nN s*nW l+nN s<cJ l:=by
 obtain⟨m,hm,Dq,rf⟩:=hs.kk;have qo:=hs.uF rf;unfold cJ;rw[hm,qo];omega
end
theorem MV.adq{s:Sy}{l:Lay}{ws:List Int}(h:MV s l ws){a:Nat}{x:Int}(ha:nN s*nW l≤a)(hx:bO x):MV s l (ws.set a x):=by
 rw[← ou];exact h.zn (by omega) hx
theorem MV.Zu{s:Sy}{l:Lay}{ws:List Int}(h:MV s l ws){u j:Nat}{x:Int}(hj:j<nW l)(hx:jT s.what s.w j x):MV s l (ws.set (u*nW l+j) x):=by
 rw[← ou];exact h.Oz hj hx
theorem abX(s:Sy)(l:Lay)(n:Nat):MV s l (List.replicate n 0):=⟨fun z hz=>by rw[Ic hz];exact zk,fun v i _ _=>by
 have:(List.replicate n (0:Int)).getD (v*nW l+i) 0=0:=by
  rw[bK,xA];split <;> rfl
 rw[this];exact Wp _ _ _⟩
def oZ(s:Sy)(l:Lay)(ws:List Int):Prop:=ws.length=cJ l∧MV s l ws
theorem oZ.hi{s:Sy}{l:Lay}{ws:List Int}(h:oZ s l ws){a:Nat}{x:Int}(ha:nN s*nW l≤a)(hx:bO x):oZ s l (ws.set a x):=⟨by rw[dY];exact h.1,h.2.adq ha hx⟩
theorem Jp:∀{l m:List Int},l.Nodup→(∀x∈l,x∈m)→l.length≤m.length
 | [],_,_,_=>aV _
 |a::l,m,hd,h=>by
  have hd:=mD.1 hd;have ha:=h a (cF ..);have h1:=Jp (l:=l) (m:=m.erase a) hd.2 fun x hx=>(M4 (fun e:x=a=>hd.1 (by rw[← e];exact hx))).2 (h x (dq _ hx));rw[List.length_erase_of_mem ha]at h1;have:=Ba ha;rw[gH];omega
inductive Rx(nx:Int→List Int):Int→Int→Prop where
 |refl (a:Int):Rx nx a a
 |step {a b c:Int} (h:Rx nx a b) (hc:c∈nx b):Rx nx a c
theorem Rx.trans{nx:Int→List Int}{a b c:Int}(h1:Rx nx a b)(h2:Rx nx b c):Rx nx a c:=by
 induction h2 with
 |refl=>exact h1
 |step _ hc ih=>exact .step ih hc
theorem Rx.one{nx:Int→List Int}{a b:Int}(h:b∈nx a):Rx nx a b:=.step (.refl a) h
def oT(f:Int→Int)(a v:Int):Int→Int:=fun y=>if y=a then v else f y
theorem pE{f:Int→Int}{a v y:Int}(h:y≠a):oT f a v y=f y:=aB h
theorem pF{f:Int→Int}{a v:Int}:oT f a v a=v:=az rfl
structure qB(n:Nat)(nx:Int→List Int)(P:List (List Int)):Prop where
 ne:∀p∈P,p≠[]
 node:∀p∈P,∀x∈p,0≤x∧x<(n:Int)
 nd:P.flatten.Nodup
 Ar:∀p∈P,p.Pairwise (· < ·)
 Nl:∀p∈P,∀x∈p,∀y∈p,Rx nx x y
 Ip:∀(i:Nat) (p:List Int),P[i]?=some p→∀x∈p,∀y∈nx x,∃(j:Nat) (q:List Int),j≤i∧P[j]?=some q∧y∈q
theorem qB.nil(n:Nat)(nx:Int→List Int):qB n nx []:=⟨fun _ h=>(by cases h),fun _ h=>(by cases h),List.nodup_nil,fun _ h=>(by cases h),fun _ h=>(by cases h),fun i p h=>by simp at h⟩
theorem qB.reach{n:Nat}{nx:Int→List Int}{P:List (List Int)}(h:qB n nx P){x y:Int}(hr:Rx nx x y)(hx:∃p∈P,x∈p):∃p∈P,y∈p:=by
 induction hr with
 |refl=>exact hx
 |step _ hc ih=>
  obtain⟨p,hp,hb⟩:=ih;obtain⟨i,hi⟩:=A2 hp;obtain⟨j,q,_,hq,hy⟩:=h.Ip i p hi _ hb _ hc;exact⟨q,dz hq,hy⟩
structure TJ(n:Nat)(nx:Int→List Int)(f L:Int→Int)(st:List Int)(aR:Nat)(P:List (List Int))(W:List Int):Prop where
 node:∀x∈st,0≤x∧x<(n:Int)
 inc:st.Pairwise fun x y=>f x<f y
 si:∀x∈st,1≤f x∧f x≤aR
 wV:∀x:Int,0≤x→x<n→(f x≠0↔x∈st∨∃p∈P,x∈p)
 y9:∀p∈P,∀x∈p,x ∉ st
 len:aR=st.length+P.flatten.length
 sub:W.Sublist st
 top:∀x∈st,∃v∈W,f v≤f x
 yB:∀v∈W,∀x∈st,f v≤f x→Rx nx v x
 fin:∀x∈st,x ∉ W→(∀y∈nx x,f y≠0)∧∃y∈st,f y<f x∧Rx nx x y
 low:∀v∈W,L v≤f v∧∃y∈st,f y=L v∧Rx nx v y
 As:∀v∈W,∀x∈st,x ∉ W→f v<f x→(∀u∈W,f u≤f x→f u≤f v)→∀y∈nx x,y∈st→L v≤f y
 prt:qB n nx P
def Prc(nx:Int→List Int)(f L:Int→Int)(st:List Int)(gL:List (Int×Nat)):Prop:=∀t∈gL,∀y∈(nx t.1).take t.2,f y≠0∧(y∈st→L t.1≤f y)
theorem IL{f:Int→Int}:∀{st:List Int},st.Pairwise (fun x y=>f x<f y)→∀{x y:Int},x∈st→y∈st→f x=f y→x=y
 | [],_,_,_,hx,_,_=>by cases hx
 |a::st,h,x,y,hx,hy,e=>by
  obtain⟨h1,h2⟩:=xw.1 h
  rcases dW.1 hx with e1 | L4
  ·rcases dW.1 hy with e2 | Hh
   ·rw[e1,e2]
   ·have:=h1 y Hh;rw[e1]at e;omega
  ·rcases dW.1 hy with e2 | Hh
   ·have:=h1 x L4;rw[e2]at e;omega
   ·exact IL h2 L4 Hh e
theorem tV{f:Int→Int}{st:List Int}(h:st.Pairwise (fun x y=>f x<f y)):st.Nodup:=h.imp fun aZ e=>by subst e;omega
theorem BE{f:Int→Int}{st w:List Int}{v:Int}(h:st.Pairwise (fun x y=>f x<f y))(hs:(w++[v]).Sublist st):∀u∈w,f u<f v:=by
 have:=h.sublist hs;intro u hu;exact (H2.1 this).2.2 u hu v (bj.2 rfl)
variable {n:Nat} {nx:Int→List Int} {f L:Int→Int} {st:List Int} {aR:Nat} {P:List (List Int)}
theorem TJ.start(h:∀x,f x=0):TJ n nx f L [] 0 [] []:=
 ⟨fun _ h=>(by cases h),.nil,fun _ h=>(by cases h),fun x _ _=>by simp[h],fun _ h=>(by cases h),rfl,.slnil,fun _ h=>(by cases h),fun _ h=>(by cases h),fun _ h=>(by cases h),fun _ h=>(by cases h),fun _ h=>(by cases h),.nil n nx⟩
theorem TJ.enter{W:List Int}{b:Int}(h:TJ n nx f L st aR P W)(hb:0≤b∧b<n)(hf:f b=0)(hW:∀v∈W,Rx nx v b):TJ n nx (oT f b (aR+1)) (oT L b (aR+1)) (st++[b]) (aR+1) P (W++[b]):=by
 have gZ:b ∉ st:=fun hm=>by have:=h.si b hm;omega
 have hbW:b ∉ W:=fun hm=>gZ (h.sub.subset hm);have iJ:∀x∈st,oT f b (aR+1) x=f x:=fun x hx=>pE fun e=>gZ (e▸hx);have hL1:∀x∈W,oT L b (aR+1) x=L x:=fun x hx=>pE fun e=>hbW (e▸hx);have AJ:oT f b (aR+1) b=(aR+1:Nat):=by rw[pF];rfl
 have AO:=h.sub.subset;refine⟨fun x hx=>?_,?_,fun x hx=>?_,fun x h0 h1=>?_,fun p hp x hx=>?_,by have:=h.len;rw[bB,A5];omega,h.sub.append (.refl _),fun x hx=>?_,fun v hv x hx hle=>?_,fun x hx lq=>?_,fun v hv=>?_,fun v hv x hx lq ab jI y hy kp=>?_,h.prt⟩
 ·rcases bQ.1 hx with hx | hx
  ·exact h.node x hx
  ·rw[bj.1 hx];exact hb
 ·refine H2.2 ⟨h.inc.imp_of_mem fun {x y} hx hy aZ=>?_,List.pairwise_singleton ..,fun x hx y hy=>?_⟩
  ·rw[iJ x hx,iJ y hy];exact aZ
  ·rw[bj.1 hy,iJ x hx,AJ];have:=(h.si x hx).2;omega
 ·rcases bQ.1 hx with hx | hx
  ·rw[iJ x hx];have:=h.si x hx;omega
  ·rw[bj.1 hx,AJ];omega
 ·by_cases e:x=b
  ·subst e;exact⟨fun _=>.inl (iK _ (bj.2 rfl)),fun _=>by rw[AJ];omega⟩
  ·rw[pE e,h.wV x h0 h1,bQ,bj];exact or_congr_left ⟨.inl,fun h=>h.resolve_right e⟩
 ·rw[bQ,bj];rintro (hm | rfl)
  ·exact h.y9 p hp x hx hm
  ·exact ((h.wV x hb.1 hb.2).2 (.inr ⟨p,hp,hx⟩)) hf
 ·rcases bQ.1 hx with hx | hx
  ·obtain⟨v,hv,hle⟩:=h.top x hx;exact⟨v,gg _ hv,by rw[iJ v (AO hv),iJ x hx];exact hle⟩
  ·rw[bj.1 hx];exact⟨b,iK _ (bj.2 rfl),kU _⟩
 ·rcases bQ.1 hv with hv | hv
  ·rcases bQ.1 hx with hx | hx
   ·rw[iJ v (AO hv),iJ x hx]at hle;exact h.yB v hv x hx hle
   ·rw[bj.1 hx];exact hW v hv
  ·rw[bj.1 hv]at hle ⊢
   rcases bQ.1 hx with hx | hx
   ·rw[AJ,iJ x hx]at hle;have:=(h.si x hx).2;omega
   ·rw[bj.1 hx];exact .refl _
 ·rw[bQ,bj]at lq
  have hx:x∈st:=by
   rcases bQ.1 hx with hx | hx
   ·exact hx
   ·exact absurd (.inr (bj.1 hx)) lq
  obtain⟨h1,y,hy,h2,h3⟩:=h.fin x hx fun hm=>lq (.inl hm);refine⟨fun y hy=>?_,y,gg _ hy,by rw[iJ y hy,iJ x hx];exact h2,h3⟩
  by_cases e:y=b
  ·subst e;rw[AJ];omega
  ·rw[pE e];exact h1 y hy
 ·rcases bQ.1 hv with hv | hv
  ·obtain⟨h1,y,hy,h2,h3⟩:=h.low v hv;rw[hL1 v hv,iJ v (AO hv)];exact⟨h1,y,gg _ hy,by rw[iJ y hy];exact h2,h3⟩
  ·rw[bj.1 hv,pF,pF];exact⟨kU _,b,iK _ (bj.2 rfl),pF,.refl _⟩
 ·rw[bQ,bj]at lq
  have hx:x∈st:=by
   rcases bQ.1 hx with hx | hx
   ·exact hx
   ·exact absurd (.inr (bj.1 hx)) lq
  rcases bQ.1 hv with hv | hv
  ·rw[hL1 v hv];rw[iJ v (AO hv),iJ x hx]at ab;have hyb:y≠b:=fun e=>(h.fin x hx fun hm=>lq (.inl hm)).1 y hy (e▸hf)
   have kp:y∈st:=by
    rcases bQ.1 kp with kp | kp
    ·exact kp
    ·exact absurd (bj.1 kp) hyb
   rw[iJ y kp];refine h.As v hv x hx (fun hm=>lq (.inl hm)) ab (fun u hu hle=>?_) y hy kp;have:=jI u (gg _ hu);rw[iJ u (AO hu),iJ x hx,iJ v (AO hv)]at this;exact this hle
  ·rw[bj.1 hv,AJ,iJ x hx]at ab;have:=(h.si x hx).2;omega
theorem TJ.lower{w:List Int}{v z:Int}(h:TJ n nx f L st aR P (w++[v]))(hz:z∈st)(hr:Rx nx v z):TJ n nx f (oT L v (min (L v) (f z))) st aR P (w++[v]):=by
 have hd:(w++[v]).Nodup:=(tV h.inc).sublist h.sub;have hvw:v ∉ w:=fun hm=>(ma.1 hd).2.2 v hm v (bj.2 rfl) rfl;refine⟨h.node,h.inc,h.si,h.wV,h.y9,h.len,h.sub,h.top,h.yB,h.fin,fun u hu=>?_,fun u hu x hx lq ab jI y hy kp=>?_,h.prt⟩
 ·by_cases e:u=v
  ·subst e;rw[pF];obtain⟨h1,y,hy,h2,h3⟩:=h.low u hu;refine⟨by omega,?_⟩
   by_cases c:L u≤f z
   ·exact⟨y,hy,by rw[h2];omega,h3⟩
   ·exact⟨z,hz,by omega,hr⟩
  ·rw[pE e];exact h.low u hu
 ·have:=h.As u hu x hx lq ab jI y hy kp
  by_cases e:u=v
  ·subst e;rw[pF];omega
  ·rw[pE e];exact this
theorem TJ.up{w:List Int}{u v:Int}(h:TJ n nx f L st aR P (w++[u]++[v]))(ab:L v<f v)(bh:∀y∈nx v,f y≠0∧(y∈st→L v≤f y)):TJ n nx f (oT L u (min (L u) (L v))) st aR P (w++[u]):=by
 have hd:(w++[u]++[v]).Nodup:=(tV h.inc).sublist h.sub;have hvw:v ∉ w++[u]:=fun hm=>(ma.1 hd).2.2 v hm v (bj.2 rfl) rfl;have fJ:u ∉ w:=fun hm=>(ma.1 (ma.1 hd).1).2.2 u hm u (bj.2 rfl) rfl;have huv:u≠v:=fun e=>hvw (e▸iK _ (bj.2 rfl));have sa:=BE h.inc h.sub;have af8:=BE h.inc ((List.sublist_append_left _ _).trans h.sub);have Ho:u∈w++[u]:=iK _ (bj.2 rfl);have AB:v∈w++[u]++[v]:=iK _ (bj.2 rfl);have bY:v∈st:=h.sub.subset AB;have hfuv:f u<f v:=sa u Ho;obtain⟨xb,z,hz,n9,hzr⟩:=h.low v AB;refine⟨h.node,h.inc,h.si,h.wV,h.y9,h.len,(List.sublist_append_left _ _).trans h.sub,fun x hx=>?_,fun a ha=>h.yB a (gg _ ha),fun x hx lq=>?_,fun a ha=>?_,fun a ha x hx lq da jI y hy kp=>?_,h.prt⟩
 ·obtain⟨a,ha,hle⟩:=h.top x hx
  rcases bQ.1 ha with ha | ha
  ·exact⟨a,ha,hle⟩
  ·rw[bj.1 ha]at hle;exact⟨u,Ho,by omega⟩
 ·by_cases e:x=v
  ·subst e;exact⟨fun y hy=>(bh y hy).1,z,hz,by omega,hzr⟩
  ·exact h.fin x hx fun hm=>by
    rcases bQ.1 hm with hm | hm
    ·exact lq hm
    ·exact e (bj.1 hm)
 ·obtain⟨h1,y,hy,h2,h3⟩:=h.low a (gg _ ha)
  by_cases e:a=u
  ·subst e;rw[pF];refine⟨by omega,?_⟩
   by_cases c:L a≤L v
   ·exact⟨y,hy,by omega,h3⟩
   ·exact⟨z,hz,by omega,(h.yB a (gg _ Ho) v bY (by omega)).trans hzr⟩
  ·rw[pE e];exact⟨h1,y,hy,h2,h3⟩
 ·have tD:∀c,f a≤c→f u≤f a→oT L u (min (L u) (L v)) a≤L a:=fun c _ _=>by
   by_cases e:a=u
   ·subst e;rw[pF];omega
   ·rw[pE e];exact kU _
  have hle:oT L u (min (L u) (L v)) a≤L a:=by
   by_cases e:a=u
   ·subst e;rw[pF];omega
   ·rw[pE e];exact kU _
  by_cases Az:f v≤f x
  ·have hau:a=u:=by
    have h1:=jI u Ho (by omega)
    by_cases e:a=u
    ·exact e
    ·have:a∈w:=by
      rcases bQ.1 ha with ha | ha
      ·exact ha
      ·exact absurd (bj.1 ha) e
     have:=af8 a this;omega
   subst hau;rw[pF]
   by_cases e:x=v
   ·subst e;have:=(bh y hy).2 kp;omega
   ·have bf:f v≠f x:=fun e2=>e (IL h.inc hx bY e2.symm)
    have:=h.As v AB x hx (fun hm=>by
     rcases bQ.1 hm with hm | hm
     ·exact lq hm
     ·exact e (bj.1 hm)) (by omega) (fun c hc _=>by
      rcases bQ.1 hc with hc | hc
      ·have:=sa c hc;omega
      ·rw[bj.1 hc];exact kU _) y hy kp
    omega
  ·have ag2:x≠v:=fun e=>by subst e;omega
   have:=h.As a (gg _ ha) x hx (fun hm=>by
    rcases bQ.1 hm with hm | hm
    ·exact lq hm
    ·exact ag2 (bj.1 hm)) da (fun c hc hcx=>by
     rcases bQ.1 hc with hc | hc
     ·exact jI c hc hcx
     ·rw[bj.1 hc]at hcx;omega) y hy kp
   omega
theorem PN{v:Int}:∀{st:List Int},st.Pairwise (fun x y=>f x<f y)→v∈st→∃A B,st=A++v::B∧(∀x∈A,f x<f v)∧∀x∈B,f v<f x:=by
 intro st h hv;obtain⟨A,B,rfl⟩:=List.append_of_mem hv;obtain⟨h1,h2,h3⟩:=H2.1 h;exact⟨A,B,rfl,fun x hx=>h3 x hx v (cF ..),fun x hx=>(xw.1 h2).1 x hx⟩
theorem TJ.tell{w A B part:List Int}{v:Int}(h:TJ n nx f L st aR P (w++[v]))(aq:st=A++v::B)(heq:L v=f v)(bh:∀y∈nx v,f y≠0∧(y∈st→L v≤f y))(cz:∀x y,y∈nx x→0≤y∧y<n)(hp:part.Perm (v::B))(hs:part.Pairwise (· < ·)):TJ n nx f L A aR (P++[part]) w:=by
 have cm:=tV h.inc;have sa:=BE h.inc h.sub;have AB:v∈w++[v]:=iK _ (bj.2 rfl);have eu:=h.inc;rw[aq]at eu;obtain⟨i1,i2,i3⟩:=H2.1 eu;have wO:∀x∈A,f x<f v:=fun x hx=>i3 x hx v (cF ..);have GY:∀x∈B,f v<f x:=(xw.1 i2).1;have tK:∀x∈A,x∈st:=fun x hx=>by rw[aq];exact gg _ hx
 have xi:∀x∈v::B,x∈st:=fun x hx=>by rw[aq];exact iK _ hx
 have Am:∀x∈v::B,f v≤f x:=fun x hx=>by
  rcases dW.1 hx with rfl | hx
  ·exact kU _
  ·have:=GY x hx;omega
 have ak:∀x∈st,f v≤f x→x∈v::B:=fun x hx hle=>by
  rw[aq]at hx
  rcases bQ.1 hx with hx | hx
  ·have:=wO x hx;omega
  ·exact hx
 have KP:∀x∈B,x ∉ w++[v]:=fun x hx hm=>by
  have:=GY x hx
  rcases bQ.1 hm with hm | hm
  ·have:=sa x hm;omega
  ·rw[bj.1 hm]at this;omega
 have GS:∀x∈v::B,∀y∈nx x,y∈v::B∨∃p∈P,y∈p:=fun x hx y hy=>by
  have hv2:f y≠0∧(y∈st→f v≤f y):=by
   rcases dW.1 hx with rfl | AA
   ·rw[← heq];exact bh y hy
   ·refine⟨(h.fin x (xi x hx) (KP x AA)).1 y hy,fun kp=>?_⟩;rw[← heq];refine h.As v AB x (xi x hx) (KP x AA) (GY x AA) (fun u hu _=>?_) y hy kp
    rcases bQ.1 hu with hu | hu
    ·have:=sa u hu;omega
    ·rw[bj.1 hu];exact kU _
  obtain⟨q1,q2⟩:=cz x y hy
  rcases (h.wV y q1 q2).1 hv2.1 with kp | hyp
  ·exact .inl (ak y kp (hv2.2 kp))
  ·exact .inr hyp
 have adW:∀{x y:Int},Rx nx x y→x∈v::B→y∈v::B∨∃p∈P,y∈p:=by
  intro x y hr hx
  induction hr with
  |refl=>exact .inl hx
  |step _ hc ih=>
   rcases ih with ih | ih
   ·exact GS _ ih _ hc
   ·exact .inr (h.prt.reach (.one hc) ih)
 have afd:∀(k:Nat) (x:Int),x∈v::B→(f x-f v).toNat≤k→Rx nx x v:=by
  intro k
  induction k with
  |zero=>
   intro x hx hk;have:=Am x hx;rw[IL h.inc (xi x hx) (xi v (cF ..)) (by omega)];exact .refl _
  |succ k ih=>
   intro x hx hk
   rcases dW.1 hx with rfl | AA
   ·exact .refl _
   ·obtain⟨_,y,hy,ab,hr⟩:=h.fin x (xi x hx) (KP x AA)
    rcases adW hr hx with L0 | ⟨p,hp,hyp⟩
    ·have:=GY x AA;exact hr.trans (ih y L0 (by omega))
    ·exact absurd hy (h.y9 p hp y hyp)
 have agy:∀x∈v::B,∀y∈v::B,Rx nx x y:=fun x hx y hy=>(afd _ x hx (bg _)).trans (h.yB v AB y (xi y hy) (Am y hy));have gb:∀x,x∈part↔x∈v::B:=fun x=>hp.mem_iff
 have hwA:w.Sublist A:=by
  have h1:(w++[v]).Sublist (A++v::B):=aq▸h.sub;have h2:=h1.filter (fun x=>decide (f x<f v))
  have e1:(w++[v]).filter (fun x=>decide (f x<f v))=w:=by
   rw[List.filter_append,List.filter_eq_self.2 fun x hx=>decide_eq_true (sa x hx),List.filter_cons_of_neg (by simp)];simp
  have e2:(A++v::B).filter (fun x=>decide (f x<f v))=A:=by
   rw[tP,gv3.2 fun x hx=>aX (wO x hx),List.filter_eq_nil_iff.2 fun x hx=>by
    have:=Am x hx
    rw[decide_eq_true_eq];omega]
   simp
  rw[e1,e2]at h2;exact h2
 have TU:(P++[part]).flatten=P.flatten++part:=by rw[List.flatten_append];simp
 refine⟨fun x hx=>h.node x (tK x hx),i1,fun x hx=>h.si x (tK x hx),fun x h0 h1=>?_,fun p dJ x hx hxA=>?_,?_,hwA,fun x hx=>?_,fun a ha x hx=>h.yB a (gg _ ha) x (tK x hx),fun x hx lq=>?_,fun a ha=>?_,fun a ha x hx lq ab jI y hy kp=>?_,⟨fun p dJ=>?_,fun p dJ x hx=>?_,?_,fun p dJ=>?_,fun p dJ x hx y hy=>?_,fun i p hi x hx y hy=>?_⟩⟩
 ·rw[h.wV x h0 h1,aq,bQ];constructor
  ·rintro ((hx | hx) | ⟨p,dJ,hx⟩)
   ·exact .inl hx
   ·exact .inr ⟨part,iK _ (bj.2 rfl),(gb x).2 hx⟩
   ·exact .inr ⟨p,gg _ dJ,hx⟩
  ·rintro (hx | ⟨p,dJ,hx⟩)
   ·exact .inl (.inl hx)
   ·rcases bQ.1 dJ with dJ | dJ
    ·exact .inr ⟨p,dJ,hx⟩
    ·rw[bj.1 dJ]at hx;exact .inl (.inr ((gb x).1 hx))
 ·rcases bQ.1 dJ with dJ | dJ
  ·exact h.y9 p dJ x hx (tK x hxA)
  ·rw[bj.1 dJ]at hx;have:=Am x ((gb x).1 hx);have:=wO x hxA;omega
 ·have h1:=h.len;have h2:=hp.length_eq;have h3:=congrArg List.length aq;rw[bB]at h3;rw[TU,bB];omega
 ·obtain⟨a,ha,hle⟩:=h.top x (tK x hx)
  rcases bQ.1 ha with ha | ha
  ·exact⟨a,ha,hle⟩
  ·rw[bj.1 ha]at hle;have:=wO x hx;omega
 ·have Az:x ∉ w++[v]:=fun hm=>by
   rcases bQ.1 hm with hm | hm
   ·exact lq hm
   ·have:=wO x hx;rw[bj.1 hm]at this;omega
  obtain⟨h1,y,hy,h2,h3⟩:=h.fin x (tK x hx) Az;refine⟨h1,y,?_,h2,h3⟩;have:=wO x hx;rw[aq]at hy
  rcases bQ.1 hy with hy | hy
  ·exact hy
  ·have:=Am y hy;omega
 ·obtain⟨h1,y,hy,h2,h3⟩:=h.low a (gg _ ha);refine⟨h1,y,?_,h2,h3⟩;have:=sa a ha;rw[aq]at hy
  rcases bQ.1 hy with hy | hy
  ·exact hy
  ·have:=Am y hy;omega
 ·have Az:x ∉ w++[v]:=fun hm=>by
   rcases bQ.1 hm with hm | hm
   ·exact lq hm
   ·have:=wO x hx;rw[bj.1 hm]at this;omega
  refine h.As a (gg _ ha) x (tK x hx) Az ab (fun u hu hle=>?_) y hy (tK y kp)
  rcases bQ.1 hu with hu | hu
  ·exact jI u hu hle
  ·rw[bj.1 hu]at hle;have:=wO x hx;omega
 ·rcases bQ.1 dJ with dJ | dJ
  ·exact h.prt.ne p dJ
  ·rw[bj.1 dJ];exact List.ne_nil_of_mem ((gb v).2 (cF ..))
 ·rcases bQ.1 dJ with dJ | dJ
  ·exact h.prt.node p dJ x hx
  ·rw[bj.1 dJ]at hx;exact h.node x (xi x ((gb x).1 hx))
 ·rw[TU];refine ma.2 ⟨h.prt.nd,hs.imp fun h=>by omega,fun x hx y hy e=>?_⟩;subst e;obtain⟨p,dJ,ra⟩:=nr.1 hx;exact h.y9 p dJ x ra (xi x ((gb x).1 hy))
 ·rcases bQ.1 dJ with dJ | dJ
  ·exact h.prt.Ar p dJ
  ·rw[bj.1 dJ];exact hs
 ·rcases bQ.1 dJ with dJ | dJ
  ·exact h.prt.Nl p dJ x hx y hy
  ·rw[bj.1 dJ]at hx hy;exact agy x ((gb x).1 hx) y ((gb y).1 hy)
 ·by_cases ab:i<P.length
  ·rw[ku ab]at hi;obtain⟨j,q,h1,h2,h3⟩:=h.prt.Ip i p hi x hx y hy;exact⟨j,q,h1,by rw[ku (by omega)];exact h2,h3⟩
  ·have hip:i=P.length∧p=part:=by
    rw[iL (by omega)]at hi
    by_cases e:i-P.length=0
    ·rw[e]at hi;exact⟨by omega,(Option.some.inj hi).symm⟩
    ·rw[sE (by rw[A5];omega)]at hi;cases hi
   obtain⟨rfl,rfl⟩:=hip
   rcases GS x ((gb x).1 hx) y hy with L0 | ⟨q,hq,hyq⟩
   ·exact⟨P.length,p,bg _,by rw[iL (bg _),l7];rfl,(gb y).2 L0⟩
   ·obtain⟨j,hj⟩:=A2 hq;have rj:j<P.length:=(cW.1 hj).1;exact⟨j,q,by omega,by rw[ku rj];exact hj,hyq⟩
theorem TJ.empty(h:TJ n nx f L st aR P []):st=[]:=by
 cases st with
 |nil=>rfl
 |cons x st=>
  obtain⟨v,hv,_⟩:=h.top x (cF ..);cases hv
theorem TJ.first{v:Int}(h:TJ n nx f L st aR P [v]):L v=f v:=by
 obtain⟨h1,y,hy,h2,_⟩:=h.low v (bj.2 rfl);obtain⟨u,hu,h3⟩:=h.top y hy;rw[bj.1 hu]at h3;omega
mutual
def fe(nx:Int→List Int):Nat→Int→List Int→List Int
 | 0,_,_=>[]
 |f+1,a,met=>if a∈met then [] else dB nx f (nx a) (met++[a])++[a]
def dB(nx:Int→List Int):Nat→List Int→List Int→List Int
 |_,[],_=>[]
 |f,b::bs,met=>fe nx f b met++dB nx f bs (met++fe nx f b met)
end
def kQ(met:List Int)(n:Nat):Nat:=((List.range n).filter fun a:Nat=>decide ((a:Int) ∉ met)).length
theorem Jo{met met2:List Int}{n:Nat}(h:∀x∈met,x∈met2):kQ met2 n≤kQ met n:=by
 unfold kQ
 induction n with
 |zero=>exact bg _
 |succ n ih=>
  rw[pz,tP,tP,bB,bB];refine Nat.add_le_add ih ?_;rw[Ie,Ie,gp4]
  by_cases c:(n:Int)∈met
  ·rw[if_neg (by simp[h _ c]),if_neg (by simp[c])];exact Nat.le_refl _
  ·rw[if_pos (show decide ((n:Int) ∉ met)=true by simp[c])];split <;> simp
theorem RH{met met2:List Int}{n:Nat}{a:Nat}(h:∀x∈met,x∈met2)(ha:a<n)(h1:(a:Int) ∉ met)(h2:(a:Int)∈met2):kQ met2 n<kQ met n:=by
 induction n with
 |zero=>omega
 |succ n ih=>
  have e:∀m:List Int,kQ m (n+1)=kQ m n+if (n:Int)∈m then 0 else 1:=fun m=>by
   unfold kQ;rw[pz,tP,bB,Ie,gp4]
   by_cases c:(n:Int)∈m <;> simp[c]
  rw[e,e]
  by_cases c:a=n
  ·subst c;rw[az h2,aB h1];have:=Jo (n:=a) h;omega
  ·have:=ih (by omega)
   by_cases c2:(n:Int)∈met
   ·rw[az c2,az (h _ c2)];exact this
   ·rw[aB c2];split <;> omega
theorem abn{met:List Int}{n:Nat}{a:Int}(ha:0≤a∧a<n)(h:a ∉ met):0<kQ met n:=by
 unfold kQ;refine Ba (a:=a.toNat) (jK.2 ⟨gP.2 (by omega),?_⟩);rw[Int.toNat_of_nonneg ha.1];simp[h]
theorem Qm{n:Nat}{nx:Int→List Int}(cz:∀x,∀y∈nx x,0≤y∧y<(n:Int)):∀u,
  (∀(f f2:Nat) (a:Int) (met met2:List Int),0≤a∧a<(n:Int)→kQ met n≤u→u≤f→u≤f2→(∀x,x∈met↔x∈met2)→fe nx f a met=fe nx f2 a met2)∧
  (∀(f f2:Nat) (bs:List Int) (met met2:List Int),(∀b∈bs,0≤b∧b<(n:Int))→kQ met n≤u→u≤f→u≤f2→(∀x,x∈met↔x∈met2)→dB nx f bs met=dB nx f2 bs met2):=by
 intro u
 induction u with
 |zero=>
  have h0:∀(f:Nat) (a:Int) (met:List Int),0≤a∧a<(n:Int)→kQ met n≤0→fe nx f a met=[]:=fun f a met ha hu=>by
   have hm:a∈met:=by
    by_cases c:a∈met
    ·exact c
    ·have:=abn ha c;omega
   cases f with
   |zero=>unfold fe;rfl
   |succ f=>unfold fe;rw[az hm]
  have h1:∀(f:Nat) (bs:List Int) (met:List Int),(∀b∈bs,0≤b∧b<(n:Int))→kQ met n≤0→dB nx f bs met=[]:=by
   intro f bs
   induction bs with
   |nil=>intro met _ _;unfold dB;rfl
   |cons b bs ih=>
    intro met hb hu;unfold dB;rw[h0 f b met (hb b (cF ..)) hu,fC,ih met (fun c hc=>hb c (dq _ hc)) hu];rfl
  have hs:∀{met met2:List Int},kQ met n≤0→(∀x,x∈met↔x∈met2)→kQ met2 n≤0:=fun hu hm=>dE (Jo fun x hx=>(hm x).1 hx) hu;exact⟨fun f f2 a met met2 ha hu _ _ hm=>by rw[h0 f a met ha hu,h0 f2 a met2 ha (hs hu hm)],fun f f2 bs met met2 hb hu _ _ hm=>by rw[h1 f bs met hb hu,h1 f2 bs met2 hb (hs hu hm)]⟩
 |succ u ih=>
  have hv:∀(f f2:Nat) (a:Int) (met met2:List Int),0≤a∧a<(n:Int)→kQ met n≤u+1→u+1≤f→u+1≤f2→(∀x,x∈met↔x∈met2)→fe nx f a met=fe nx f2 a met2:=fun f f2 a met met2 ha hu hf vr hm=>by
   obtain⟨f,rfl⟩:∃k,f=k+1:=⟨f-1,by omega⟩
   obtain⟨f2,rfl⟩:∃k,f2=k+1:=⟨f2-1,by omega⟩
   unfold fe
   by_cases c:a∈met
   ·rw[az c,az ((hm a).1 c)]
   ·rw[aB c,aB fun h=>c ((hm a).2 h)]
    congr 1
    refine ih.2 f f2 (nx a) _ _ (cz a) ?_ (by omega) (by omega) (fun x=>by rw[bQ,bQ,hm]);have:=RH (met:=met) (met2:=met++[a]) (n:=n) (a:=a.toNat) (fun x hx=>List.mem_append_left _ hx) (by omega) (by rw[Int.toNat_of_nonneg ha.1];exact c) (by rw[Int.toNat_of_nonneg ha.1];simp);omega
  refine⟨hv,fun f f2 bs=>?_⟩
  induction bs with
  |nil=>intro met met2 _ _ _ _ _;unfold dB;rfl
  |cons b bs LW=>
   intro met met2 hb hu hf vr hm;unfold dB;have e:=hv f f2 b met met2 (hb b (cF ..)) hu hf vr hm;rw[e]
   congr 1
   exact LW _ _ (fun c hc=>hb c (dq _ hc)) (dE (Jo fun x hx=>gg _ hx) hu) hf vr (fun x=>by rw[bQ,bQ,hm])
theorem SC(met:List Int)(n:Nat):kQ met n≤n:=by
 unfold kQ;exact dE (Ee _ _) (by rw[og];exact bg _)
def k9(n:Nat)(nx:Int→List Int):List (Int×Nat)→List Int→List Int
 | [],_=>[]
 |(v,k)::w,seen=>dB nx n ((nx v).drop k) seen++([v]++k9 n nx w (seen++dB nx n ((nx v).drop k) seen))
theorem QX{n:Nat}{nx:Int→List Int}(cz:∀x,∀y∈nx x,0≤y∧y<(n:Int)){bs met met2:List Int}(hb:∀b∈bs,0≤b∧b<(n:Int))(hm:∀x,x∈met↔x∈met2):dB nx n bs met=dB nx n bs met2:=
 (Qm cz n).2 n n bs met met2 hb (SC _ _) (bg _) (bg _) hm
theorem QB{n:Nat}{nx:Int→List Int}(cz:∀x,∀y∈nx x,0≤y∧y<(n:Int)):∀(w:List (Int×Nat)) {seen seen2:List Int},(∀x,x∈seen↔x∈seen2)→k9 n nx w seen=k9 n nx w seen2
 | [],_,_,_=>rfl
 |(v,k)::w,seen,seen2,h=>by
  have e:=QX cz (bs:=(nx v).drop k) (fun b hb=>cz v b (List.mem_of_mem_drop hb)) h;unfold k9;rw[e,QB cz w (seen:=seen++dB nx n ((nx v).drop k) seen2) (seen2:=seen2++dB nx n ((nx v).drop k) seen2) fun x=>by rw[bQ,bQ,h]]
theorem Sb{L:List Int}{k:Nat}(h:k<L.length):L.drop k=L[k]::L.drop (k+1):=tQ h
theorem Zz{n:Nat}{nx:Int→List Int}{v:Int}{k:Nat}{w:List (Int×Nat)}{seen:List Int}(hk:k<(nx v).length)(hb:(nx v)[k]∈seen):k9 n nx ((v,k)::w) seen=k9 n nx ((v,k+1)::w) seen:=by
 have e:fe nx n (nx v)[k] seen=[]:=by
  cases n with
  |zero=>unfold fe;rfl
  |succ n=>unfold fe;rw[az hb]
 have e2:dB nx n ((nx v).drop k) seen=dB nx n ((nx v).drop (k+1)) seen:=by
  rw[Sb hk]
  conv=>lhs;unfold dB
  rw[e,fC,sA]
 unfold k9;rw[e2]
theorem ZA{n:Nat}{nx:Int→List Int}(cz:∀x,∀y∈nx x,0≤y∧y<(n:Int)){v:Int}{k:Nat}{w:List (Int×Nat)}{seen:List Int}(hk:k<(nx v).length)(hb:(nx v)[k] ∉ seen):k9 n nx ((v,k)::w) seen=k9 n nx (((nx v)[k],0)::(v,k+1)::w) (seen++[(nx v)[k]]):=by
 obtain⟨b,sr⟩:∃b,(nx v)[k]=b:=⟨_,rfl⟩
 have dV:=cz v b (sr▸bU hk);rw[sr]at hb ⊢;obtain⟨m,rfl⟩:∃m,n=m+1:=⟨n-1,by omega⟩
 have hu:kQ (seen++[b]) (m+1)≤m:=by
  have:=RH (met:=seen) (met2:=seen++[b]) (n:=m+1) (a:=b.toNat) (fun x hx=>List.mem_append_left _ hx) (by omega) (by rw[Int.toNat_of_nonneg dV.1];exact hb) (by rw[Int.toNat_of_nonneg dV.1];simp);have:=SC seen (m+1);omega
 have e:fe nx (m+1) b seen=dB nx (m+1) (nx b) (seen++[b])++[b]:=by
  conv=>lhs;unfold fe
  rw[aB hb,(Qm cz m).2 m (m+1) (nx b) (seen++[b]) (seen++[b]) (cz b) hu (bg _) (by omega) fun _=>Iff.rfl]
 have e2:dB nx (m+1) ((nx v).drop k) seen=(dB nx (m+1) (nx b) (seen++[b])++[b])++dB nx (m+1) ((nx v).drop (k+1)) (seen++(dB nx (m+1) (nx b) (seen++[b])++[b])):=by
  rw[Sb hk,sr]
  conv=>lhs;unfold dB
  rw[e]
 have e3:dB nx (m+1) ((nx v).drop (k+1)) (seen++(dB nx (m+1) (nx b) (seen++[b])++[b]))=dB nx (m+1) ((nx v).drop (k+1)) (seen++[b]++dB nx (m+1) (nx b) (seen++[b])):=
  QX cz (fun c hc=>cz v c (List.mem_of_mem_drop hc)) fun x=>by simp only[List.mem_append];exact⟨fun h=>by rcases h with h | h | h <;> simp[h],fun h=>by rcases h with (h | h) | h <;> simp[h]⟩
 have hd:(nx b).drop 0=nx b:=fy;show dB nx (m+1) ((nx v).drop k) seen++([v]++k9 (m+1) nx w (seen++dB nx (m+1) ((nx v).drop k) seen))=dB nx (m+1) ((nx b).drop 0) (seen++[b])++([b]++(dB nx (m+1) ((nx v).drop (k+1)) (seen++[b]++dB nx (m+1) ((nx b).drop 0) (seen++[b]))++([v]++k9 (m+1) nx w (seen++[b]++dB nx (m+1) ((nx b).drop 0) (seen++[b])++dB nx (m+1) ((nx v).drop (k+1)) (seen++[b]++dB nx (m+1) ((nx b).drop 0) (seen++[b]))))));rw[hd,e2,e3];generalize dB nx (m+1) (nx b) (seen++[b])=K;generalize dB nx (m+1) ((nx v).drop (k+1)) (seen++[b]++K)=K2;rw[QB cz w (seen:=seen++(K++[b]++K2)) (seen2:=seen++[b]++K++K2) fun x=>by simp only[List.mem_append];exact⟨fun h=>by rcases h with h | (h | h) | h <;> simp[h],fun h=>by rcases h with ((h | h) | h) | h <;> simp[h]⟩];simp only[cU]
theorem abC{n:Nat}{nx:Int→List Int}{v:Int}{k:Nat}{w:List (Int×Nat)}{seen:List Int}(hk:(nx v).length≤k):k9 n nx ((v,k)::w) seen=v::k9 n nx w seen:=by
 have e:dB nx n ((nx v).drop k) seen=[]:=by rw[xz hk];unfold dB;rfl
 show dB nx n ((nx v).drop k) seen++([v]++k9 n nx w (seen++dB nx n ((nx v).drop k) seen))=_;rw[e,fC,sA];rfl
theorem abB{n:Nat}{nx:Int→List Int}{a:Int}{met:List Int}(ha:a ∉ met):fe nx (n+1) a met=k9 n nx [(a,0)] (met++[a]):=by
 unfold fe k9 k9;rw[aB ha,fy,fC]
def lN(n:Nat)(nx:Int→List Int)(l:List Int):List Int:=l.foldl (fun out a=>out++fe nx (n+1) a out) []
inductive iv(e:Nat):Nat→AV→Hp→List AV→Prop
 |nil:iv e 0 .ag [] []
 |af (b k:Nat) (cs J:List AV) (h:cs.length=k*e):iv e k (.af b 0 k e) [(b,cs++J)] cs
theorem iv.wX{e k:Nat}{v:AV}{acc:Hp}{cs:List AV}(h:iv e k v acc cs):iv e k (bV v) acc cs:=by
 cases h with
 |nil=>exact .nil
 |af b k cs J h=>exact .af b k cs J h
theorem iv.pos{e k:Nat}{v:AV}{acc:Hp}{cs:List AV}(h:iv e k v acc cs)(h0:0<k):∃b J,v=.af b 0 k e∧acc=[(b,cs++J)]∧cs.length=k*e:=by
 cases h with
 |nil=>omega
 |af b k cs J h=>exact⟨b,J,rfl,rfl,h⟩
theorem xK{i:TI}{K:AV→Hp→Prop}(fr:Hp){acc σ:Hp}{k n:Nat}{v x:AV}{cs new:List AV}(h:iv i.size k v acc cs)(hx:ji (fr++(acc++σ)) i.size x n new)(fP:new.length=n*i.size)(hn:k+n≤1048576)(hb:i.bytes≤1024)(h0:0<i.size)
  (go:∀v' aJ,iv i.size (k+n) v' aJ (cs++new)→K v' (fr++(aJ++σ))):AppendAt i (fr++(acc++σ)) v x K:=by
 cases h with
 |nil=>
  refine .perm _ (ew fr [] σ) (.fresh n new (.inl rfl) (hx.perm (ew fr [] σ)) (by omega) hb h0 (K:=fun v ee=>(n=0∧v=.ag∧ee=[]++(fr++σ))∨(n≠0∧∃b,v=.af b 0 n i.size∧ee=(b,new)::([]++(fr++σ)))) (fun bf b=>.inr ⟨bf,b,rfl,rfl⟩) (fun h0=>.inl ⟨h0,rfl,rfl⟩)) ?_;rintro v ee (⟨hz,rfl,rfl⟩ | ⟨hz,b,rfl,rfl⟩)
  ·subst hz;obtain rfl:new=[]:=List.length_eq_zero_iff.1 (by simpa using fP);exact⟨_,(ew fr [] σ).symm,.inl (go _ _ .nil)⟩
  ·refine⟨_,(ew fr [(b,new)] σ).symm,.inl (go _ _ ?_)⟩;have:=iv.af (e:=i.size) b (0+n) new [] (by rw[dD];exact fP);rw[fC,dD]at this;rw[dD];exact this
 |af b k cs J hl=>
  refine .perm _ (ew fr [(b,cs++J)] σ) (.more 0 b k n (cs++J) new rfl rfl (by rw[bB];omega) (hx.perm (ew fr [(b,cs++J)] σ)) hn hb h0 (K:=fun v ee=>∃b',v=.af b' 0 (k+n) i.size∧ee=(b',cs++new)::(fr++σ)) (fun b'=>⟨b',rfl,by rw[H8 (by omega),dZ (by omega)];rfl⟩)) ?_;rintro v ee ⟨b',rfl,rfl⟩;refine⟨_,(ew fr [(b',cs++new)] σ).symm,.inl (go _ _ ?_)⟩;have:=iv.af (e:=i.size) b' (k+n) (cs++new) [] (by rw[bB,hl,fP,qv]);rw[fC]at this;exact this
theorem lL{i:TI}(hs:i.size=1){l:List Int}(x:Int){a:Int}(h1:0≤a)(h2:a<l.length):kC i (aj l) (0+a.toNat*1) (.int .i64 x)=some (aj (l.set a.toNat x)):=by
 rw[mO hs rfl (by rw[rM];omega),dD,dH];unfold aj;rw[sB]
theorem eZ{i:TI}(hw:i.wide=false){l:List Int}{a:Int}(h1:0≤a)(h2:a<l.length):ef i (aj l) (0+a.toNat*1)=some (.int .i64 (l.getD a.toNat 0)):=by
 refine gD hw ?_;unfold aj;rw[dD,dH,fD,bK,bu (by omega)];rfl
def dA(N:List (List Int))(bi bl bo n:Nat)(vs:AV)(aR:Nat)(vp:AV):List AV:=[.ae (.slice (.int .i64)) N,.af bi 0 n 1,.af bl 0 n 1,.af bo 0 n 1,vs,.int .i64 aR,vp]
theorem zQ(w bi bl bo n:Nat)(N:List (List Int))(ix lo st:List Int)(on:List Bool)(aR:Nat)(vs vp:AV)(acc:Hp)(a:Int)(σ:Hp)(h0:0≤a)(hn:a<n)(hi:ix.length=n)(hl:lo.length=n)(ho:on.length=n)(hs:iv 1 st.length vs acc (aj st))(bP:st.length≤10000)(hc:aR≤10000):
  ACalls Tryz.prog 314 [.ptr w 0,.int .i64 a] ((w,dA N bi bl bo n vs aR vp)::(bi,aj ix)::(bl,aj lo)::(bo,bG on)::(acc++σ))
   (fun r σ'=>r=.agg [.int .i64 a,.int .i64 0]∧∃eG aJ,iv 1 (st++[a]).length eG aJ (aj (st++[a]))∧σ'=(w,dA N bi bl bo n eG (aR+1) vp)::(bi,aj (ix.set a.toNat ((aR+1:Nat):Int)))::(bl,aj (lo.set a.toNat ((aR+1:Nat):Int)))::(bo,bG (on.set a.toNat true))::(aJ++σ)):=by
 have hwr:IntKind.i64.wrap ((aR:Int)+1)=((aR+1:Nat):Int):=by rw[jF (by omega)];omega
 refine ao Tryz.func314 ?_;intro ax;refine aa 1 ?_;refine ah 1 ?_;refine .sched [] (upto [] 29 0) (by kernel_rfl) ?_;refine aa 1 ?_;refine aa 1 ?_;refine aa 1 ?_;refine aa 1 ?_;refine aa 1 ?_;refine aH ?_;refine bM 2 rfl (lL rfl _ h0 (by omega)) ?_;refine aH ?_;refine bM 3 rfl (lL rfl _ h0 (by omega)) ?_;refine aH ?_;refine bM 4 rfl (tZ rfl true h0 (by omega)) ?_;refine aa 1 ?_;intro ax;refine xK [_,_,_,_,_,_] hs.wX (.af 0 ax 0 1 _ rfl (cj rfl)) rfl (by omega) (by decide) (by decide) (fun v' aJ h'=>?_);obtain⟨bq,J,rfl,rfl,hq⟩:=h'.pos (by omega);refine ah 2 ?_;refine ah 1 ?_;refine aa 1 ?_;refine .drop 0 2 (.done ⟨rfl,.af bq 0 (st.length+1) 1,[(bq,(aj st++[.int .i64 a])++J)],?_,?_⟩)
 ·rw[bB,show aj (st++[a])=aj st++[.int .i64 a] from cE];exact h'
 ·rw[hwr];rfl
end Go.Proofs.YtnikdflhefijbaaGreat
