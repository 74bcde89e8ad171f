import Derived.Test.YtnikdflhefijbaaGreatBn29
import Derived.Test.YtnikdflhefijbaaGreatBn12
import Derived.Test.YtnikdflhefijbaaGreatBn27
import Derived.Test.YtnikdflhefijbaaGreatBn24
import Derived.Test.YtnikdflhefijbaaGreatBn25
namespace Go.Proofs.YtnikdflhefijbaaGreat
open Go.RowKit
set_option maxRecDepth 100000
theorem aeJ{l:Lay}(h:2≤l.k∧l.k≤64):nK l≠0∧l.k≠0:=by
 unfold nK
 show IntKind.i64.wrap (l.k-1)≠0∧_
 rw[IntKind.wrap_i64]
 omega
theorem XH(l:Lay)(n:Int):qQ l n=8∨qQ l n=3:=by unfold qQ;split;exact .inl rfl;exact .inr rfl
theorem XJ(nx:List Int):kj nx=8∨(kj nx=5∧0<nx.tail.length):=by
 unfold kj;split
 ·exact .inl rfl
 ·exact .inr ⟨rfl,by omega⟩
theorem Yq(s:Sy)(node:Int):uz s node=8∨(uz s node=5∧0<(au s.n s.bf node).length):=by
 unfold uz;split
 ·exact .inl rfl
 ·exact .inr ⟨rfl,by omega⟩
theorem WE(l:Lay):qM l=2∨(qM l=1∧2≤l.k):=by
 unfold qM;split
 ·exact .inl rfl
 ·exact .inr ⟨rfl,by omega⟩
theorem Xt(l:Lay):uj l=0∨(uj l=1∧2≤l.k):=by
 unfold uj;split
 ·exact .inl rfl
 ·exact .inr ⟨rfl,by omega⟩
theorem Po{f:FuncId}{xs:List AV}{σ:Hp}{R R':AV→Hp→Prop}(h:ACalls Tryz.prog f xs σ R)(hR:∀r σ',R r σ'→∃(i k b:Nat) (cs:List AV) (e:Sh),σ'[i]?=some (b,cs)∧cs[k]?=some .aj∧R' r (σ'.set i (b,cs.set k (.af e [])))):ACalls Tryz.prog f xs σ R':=
 ⟨h.1,fun F w vs bU aF=>(h.2 F w vs bU aF).mono fun _ _ ⟨r,v,σ',F',h1,h2,h3,h4,h5⟩=>by
  obtain⟨i,k,b,cs,e,q1,q2,q3⟩:=hR r σ' h5
  exact⟨r,v,_,F',h1,h2,SY h3 e q1 q2,h4,q3⟩⟩
def ot:WS:=⟨0,0,false,0,.none,0,false,[],[]⟩
theorem adM{s:Sy}{L:Lay}(h:gk s L.k=L)(he:ck s L.k=0):AV.tup [.agg (gM (gk s L.k)),.int .i64 (ck s L.k)]=.tup [.agg (gM L),.int .i64 0]:=by rw[h,he]
theorem aan(A:Lay):¬(!gq (s7 (List.take 4 (List.drop 0 (fS [AV.int .i64 0,AV.int .i64 0,AV.int .i64 0,AV.int .i64 0] 0 (gM A)))) (List.take 4 (List.drop 0 (gM A)))))=true:=by
 show ¬(!gq [decide (A.what=A.what),decide (A.words=A.words),decide (A.n=A.n),decide (A.k=A.k)])=true
 simp[gq]
theorem aeo(s:Sy)(L:Lay)(who:Int)(σ:Hp)(hf:Fit s)(he:ck s L.k=0)(hL:gk s L.k=L)(h0:0≤who)(h1:who<L.k):ACalls Tryz.prog 100 [.agg (bc s),.agg (gM L),.int .i64 who] σ (fun r σ'=>∃w,r=.tup [.ptr w 0,.int .i64 0]∧σ'=WB s L who w 0 .aj [] ot++σ):=by
 have hg:ACalls Tryz.prog 100 [.agg (bc s),.agg (gM L),.int .i64 who] σ (fun r σ'=>∃w,r=.tup [.ptr w 0,.int .i64 0]∧σ'=(w,[.int .i64 0,.int .i64 0,.bool false,.int .i64 s.what,.int .i64 s.w,.int .i64 s.n,.af dv s.bf,.af (.int .i64) s.entry,.af (.int .u64) s.init,.af kK s.T,.int .i64 L.what,.int .i64 L.words,.int .i64 L.n,.int .i64 L.k,.int .i64 who,.int .i64 0,.nilif,.int .i64 0,.bool false,.aj,.aj,.bool true])::σ):=by
  refine ay Tryz.func100 ?_
  intro aD
  intro dH
  refine aa 1 ?_
  refine aa 0 ?_
  refine az [] (oT (G6 s L.k _ hf) (adM hL he)) ?_
  intro sJ
  refine ak 0 ?_
  refine aa 0 ?_
  refine aa 1 ?_
  refine .mk (by kernel_rfl) (by kernel_rfl) ?_
  refine dB (fun c4=>?_) (fun c4=>?_)
  ·have c4:(!gq (s7 (List.take 4 (List.drop 0 (fS [AV.int IntKind.i64 0,AV.int IntKind.i64 0,AV.int IntKind.i64 0,AV.int IntKind.i64 0] 0 (gM L)))) (List.take 4 (List.drop 0 (gM L)))))=true:=c4
   exact absurd c4 (aan L)
  ·have c4:(!gq (s7 (List.take 4 (List.drop 0 (fS [AV.int IntKind.i64 0,AV.int IntKind.i64 0,AV.int IntKind.i64 0,AV.int IntKind.i64 0] 0 (gM L)))) (List.take 4 (List.drop 0 (gM L)))))=false:=c4
   refine an (fun c5=>?_) (fun c5=>?_)
   ·have c5:who<0:=c5
    exact absurd c5 (by omega)
   ·have c5:¬(who<0):=c5
    refine aa 1 ?_
    refine an (fun c6=>?_) (fun c6=>?_)
    ·have c6:L.k≤who:=c6
     exact absurd c6 (by omega)
    ·refine .sched [1] (upto [1] 8 0) (by kernel_rfl) ?_
     refine aa 2 ?_
     refine aH [] (Zt s _ hf) ?_
     refine aa 1 ?_
     intro bl7
     exact .drop 1 3 (.done ⟨_,rfl,rfl⟩)
 refine Po (Po hg (R':=fun r σ'=>∃w,r=.tup [.ptr w 0,.int .i64 0]∧σ'=(w,[.int .i64 0,.int .i64 0,.bool false,.int .i64 s.what,.int .i64 s.w,.int .i64 s.n,.af dv s.bf,.af (.int .i64) s.entry,.af (.int .u64) s.init,.af kK s.T,.int .i64 L.what,.int .i64 L.words,.int .i64 L.n,.int .i64 L.k,.int .i64 who,.int .i64 0,.nilif,.int .i64 0,.bool false,.af (.int .i64) ([]:List Int),.aj,.bool true])::σ) ?_) ?_
 ·rintro r σ' ⟨w,rfl,rfl⟩
  exact⟨0,19,w,_,.int .i64,rfl,rfl,w,rfl,rfl⟩
 ·rintro r σ' ⟨w,rfl,rfl⟩
  exact⟨0,20,w,_,.int .u64,rfl,rfl,w,rfl,rfl⟩
def pv:Lay:=⟨1,1,1,1⟩
theorem agj(p q w r:Nat)(c:AV)(acc:Hp)(s:Sy)(l:Lay)(who:Int)(x:WS)(d:Int)(ws:List Int)(σ:Hp)(hf:Fit s)(hv:aR ws)(ok:Mu l x)(rd:yH c acc x.now){x':WS}{ws':List Int}{b:Bool}(aq:dw bB s l who x d ws=(x',ws',b)):
  ACalls Tryz.prog 390 [.ptr w 0,ku p,.int .i64 d] (WB s l who w r c acc x++aZ p q ws σ) (fun z σ'=>∃r c acc,yH c acc x'.now∧z=.bool b∧σ'=WB s l who w r c acc x'++aZ p q ws' σ):=by
 refine (ae7 (uA p q) w r c acc s l who x d ws σ hf trivial (fun a=>Gv hv a) ok rd).mono ?_
 rintro z σ' ⟨m',r,c,acc,h1,h2,rfl,rfl⟩
 have h2:m'=(dw bB s l who x d ws).2.1:=h2
 refine⟨r,c,acc,?_,?_,?_⟩
 ·have:=h1
  rw[show dw (uA p q).O s l who x d ((uA p q).abs ws)=dw bB s l who x d ws from rfl,aq]at this
  exact this
 ·rw[show dw (uA p q).O s l who x d ((uA p q).abs ws)=dw bB s l who x d ws from rfl,aq]
 ·rw[show dw (uA p q).O s l who x d ((uA p q).abs ws)=dw bB s l who x d ws from rfl,h2,aq]
  rfl
theorem KI{f:FuncId}{xs ys:List AV}{σ:Hp}{K:AV→Hp→Prop}(j b off len es:Nat)(cs:List AV)(e:Sh)(l:List e.T)(h1:σ[j]?=some (b,cs))(h2:(cs.drop off).take (len*es)=l.flatMap e.cells)(h3:l.length=len∧e.size=es∧0<es)(i k b':Nat)(cs':List AV)(hi:(σ.eraseIdx j)[i]?=some (b',cs'))(hk:cs'[k]?=some (.ae b off len es))(h4:ew b off len es e l (.tup xs) (.tup ys))(h:CallAt Tryz.prog f K ys ((σ.eraseIdx j).set i (b',cs'.set k (.af e l)))):CallAt Tryz.prog f K xs σ:=
 .mk [] K ⟨(xU h).1,fun F w vs bU aF=>by
  obtain⟨aq,n5,hh⟩:=uD aF h1 h2 h3
  have hv:=xM aq hh h4 (.tuple vs) (.tup _ _ bU.1 bU.2)
  cases hv with
  |tup _ _ hs hr=>
   refine ((xU h).2 _ w vs ⟨hs,hr⟩ (Cc n5 hh hi hk)).mono ?_
   rintro e w' ⟨r,v,σ',F',rfl,q1,q2,q3,q4⟩
   exact⟨r,v,σ',F',rfl,aq.trans q1,q2,q3,q4⟩⟩ fun _ _ h=>h
theorem aaQ{f:FuncId}{xs ys:List AV}{σ:Hp}{K:AV→Hp→Prop}(hr:ew 0 0 0 0 .bool [] (.tup xs) (.tup ys))(h:CallAt Tryz.prog f K ys σ):CallAt Tryz.prog f K xs σ:=.mk [] K (P6 hr (xU h)) fun _ _ h=>h
theorem Ke{R:AV→Hp→Prop}{r:AV}(a:Hp){σ:Hp}(h:Fin R r σ):Fin R r (a++σ):=.drop 0 a.length (by rw[List.take_zero,eF,List.drop_left];exact h)
set_option maxHeartbeats 4000000
theorem Rj{ws:List Int}(h:aR ws)(a:Int){x:Int}(hx:bD x):aR (gX ws a x):=by
 unfold gX
 split
 ·exact h
 ·intro z hz
  rcases qD hz with hz | rfl
  ·exact h z hz
  ·exact hx
def fG(what w:Int)(i:Nat)(z:Int):Prop:=bD z∧(if what=3 then aI z=z else z.toNat<2 ^ min 64 (dK w-64*i))
theorem Xj(what w:Int)(i:Nat):fG what w i 0:=by
 refine⟨⟨by decide,by decide⟩,?_⟩
 split
 ·rfl
 ·exact Bd _
theorem BC{what w:Int}(h:what=1∨what=2∨what=3){i:Nat}{x y:Int}(hx:fG what w i x)(hy:fG what w i y):fG what w i (cT what x y):=by
 refine⟨Sv hx.1 hy.1,?_⟩
 have ux:=hx.1
 have uy:=hy.1
 obtain⟨a,rfl⟩:=mg ux.1
 obtain⟨b,rfl⟩:=mg uy.1
 have ha:a<18446744073709551616:=by have:=ux.2;omega
 have hb:b<18446744073709551616:=by have:=uy.2;omega
 rcases h with rfl | rfl | rfl
 ·have h1:=hx.2
  have h2:=hy.2
  rw[ah (by decide)]at h1 h2 ⊢
  rw[show cT 1 (a:Int) b=bits .or .u64 (a:Int) b from rfl,sM ha hb,bM]
  exact I3 h1 h2
 ·have h1:=hx.2
  rw[ah (by decide)]at h1 ⊢
  rw[show cT 2 (a:Int) b=bits .and .u64 (a:Int) b from rfl,qH ha hb,bM]
  exact zh EB h1
 ·rw[ai rfl]
  exact PT _ _
theorem Fu{what w:Int}{a:List Int}(hi:cD what w=true):dY what w a↔((a.length:Int)=dS what w∧∀i,i<a.length→fG what w i (wd a i)):=by
 constructor
 ·intro ⟨hv,jO⟩
  refine⟨wx hv,fun i h=>⟨kP jO i,?_⟩⟩
  by_cases h3:what=3
  ·rw[ai h3]
   exact wE ((jB hi h3).1 hv).2 h
  ·rw[ah h3]
   have:=(pL hi h3).1 hv
   unfold fg at this
   rw[bL,fk]at this
   simpa using this.2 i (List.mem_range.2 h)
 ·intro ⟨hl,hk⟩
  have jO:aR a:=fun z hz=>by
   obtain⟨i,hi,rfl⟩:=tW.1 hz
   rw[← kL a hi];exact (hk i hi).1
  refine⟨?_,jO⟩
  by_cases h3:what=3
  ·subst h3
   refine (jB hi rfl).2 ⟨?_,x8.2 fun z hz=>?_⟩
   ·rw[hl];unfold dS;rw[ai hi,ai rfl]
   ·obtain⟨i,hi,rfl⟩:=tW.1 hz
    have:=(hk i hi).2
    rw[ai rfl,kL a hi]at this
    exact this
  ·refine (pL hi h3).2 ?_
   have Nu:a.length=dC w:=by
    have:dS what w=(dC w:Int):=by unfold dS;rw[ai hi,ah h3]
    omega
   unfold fg
   rw[bL,fk]
   refine⟨by simpa using Nu,fun i hi=>?_⟩
   have:=(hk i (gw.1 hi)).2
   rw[ah h3]at this
   simpa using this
structure LS(s:Sy)(l:Lay):Prop where
 fit:Fit s
 fW:Good s
 what:l.what=s.what
 words:l.words=dS s.what s.w
 n:l.n=s.n
 k1:1≤l.k
 k2:l.k≤64
abbrev nN(s:Sy):Nat:=s.n.toNat
abbrev nW(l:Lay):Nat:=cw l.words
theorem LS.nn{s:Sy}{l:Lay}(h:LS s l):s.n=(nN s:Int)∧1≤nN s∧nN s≤256:=by have:=h.fW.n1;have:=h.fW.n2;unfold nN;omega
theorem LS.ww{s:Sy}{l:Lay}(h:LS s l):l.words=(nW l:Int)∧nW l≤1024:=by
 have:=xV s.what s.w
 have:=h.words
 unfold nW cw;omega
theorem sT{N W v i:Nat}(hv:v<N)(hi:i<W):v*W+i<N*W:=by
 have:(v+1)*W≤N*W:=lO _ hv
 rw[qy]at this
 omega
theorem Sc{W u v i j:Nat}(hi:i<W)(hj:j<W)(h:u*W+i=v*W+j):u=v∧i=j:=by
 have h1:(u*W+i) / W=u:=by rw[Bb,Nat.mul_add_div (by omega),Nat.div_eq_of_lt hi,vK]
 have h2:(v*W+j) / W=v:=by rw[Bb,Nat.mul_add_div (by omega),Nat.div_eq_of_lt hj,vK]
 have h3:u=v:=by rw[← h1,← h2,h]
 subst h3
 exact⟨rfl,by omega⟩
theorem rV{N W:Nat}(hN:N≤256)(hW:W≤1024):N*W≤262144:=tP hN hW
theorem iz{z:Int}(h0:0≤z)(h1:z<9223372036854775808):wr z=z:=by
 show IntKind.i64.wrap z=z
 rw[IntKind.wrap_i64];omega
section
variable {s:Sy} {l:Lay} (hs:LS s l)
include hs
theorem LS.flags:cO l=((nN s*nW l:Nat):Int):=by
 have h1:=hs.nn
 have h2:=hs.ww
 have:=rV h1.2.2 h2.2
 unfold cO
 rw[hs.n,h1.1,h2.1,← EA]
 exact iz (by omega) (by omega)
theorem LS.count:cF l=((nN s*nW l+nN s:Nat):Int):=by
 have h1:=hs.nn
 have h2:=hs.ww
 have:=rV h1.2.2 h2.2
 unfold cF
 rw[hs.flags,hs.n,h1.1,tQ]
 exact iz (by omega) (by omega)
theorem LS.room:ef l=((nN s+1:Nat):Int)∧rm (ef l)=nN s+1:=by
 have h1:=hs.nn
 have e:ef l=((nN s+1:Nat):Int):=by
  unfold ef
  rw[hs.n,h1.1,tQ]
  exact iz (by omega) (by omega)
 refine⟨e,?_⟩
 rw[e];unfold rm;omega
theorem LS.wT{k:Nat}(hk:k≤64):gh l k=((nN s*nW l+nN s+1+k*(nN s+3):Nat):Int):=by
 have h1:=hs.nn
 have h2:=hs.ww
 have h3:=rV h1.2.2 h2.2
 have h4:k*(nN s+3)≤64*259:=tP hk (by omega)
 unfold gh
 rw[hs.count,hs.room.2,show ((k:Int)*((2+(nN s+1):Nat):Int))=((k*(nN s+3):Nat):Int) by rw[EA];congr 1;omega]
 rw[iz (z:=((k*(nN s+3):Nat):Int)) (by omega) (by omega),iz (z:=((nN s*nW l+nN s:Nat):Int)+1) (by omega) (by omega)]
 rw[show ((nN s*nW l+nN s:Nat):Int)+1+((k*(nN s+3):Nat):Int)=((nN s*nW l+nN s+1+k*(nN s+3):Nat):Int) by omega]
 exact iz (by omega) (by omega)
theorem LS.UZ{v:Nat}(hv:v<nN s):aS l v=((v*nW l:Nat):Int):=by
 have h1:=hs.nn
 have h2:=hs.ww
 have h3:=rV h1.2.2 h2.2
 have h4:v*nW l≤nN s*nW l:=lO _ (by omega)
 unfold aS
 rw[h2.1,← EA]
 exact iz (by omega) (by omega)
theorem LS.As{v i:Nat}(hv:v<nN s)(hi:i<nW l):wr (aS l v+(i:Nat))=((v*nW l+i:Nat):Int):=by
 have h1:=hs.nn
 have h2:=hs.ww
 have h3:=rV h1.2.2 h2.2
 have h4:=sT hv hi
 rw[hs.UZ hv,← tQ]
 exact iz (by omega) (by omega)
theorem LS.Ap{v:Nat}(hv:v<nN s):wr (cO l+(v:Nat))=((nN s*nW l+v:Nat):Int):=by
 have h1:=hs.nn
 have h2:=hs.ww
 have h3:=rV h1.2.2 h2.2
 rw[hs.flags,← tQ]
 exact iz (by omega) (by omega)
theorem LS.uF:s.what=1∨s.what=2∨s.what=3:=by
 have:=hs.fW.sj
 unfold cD at this
 simp at this
 omega
end
structure MV(s:Sy)(l:Lay)(ws:List Int):Prop where
 a64:aR ws
 cells:∀v i,v<nN s→i<nW l→fG s.what s.w i (ws.getD (v*nW l+i) 0)
theorem jV{ws:List Int}{a b:Nat}{x:Int}:(ws.set a x).getD b 0=if a=b∧b<ws.length then x else ws.getD b 0:=by
 simp only[aW,eR]
 by_cases h:a=b
 ·subst h
  by_cases h2:a<ws.length
  ·simp[h2]
  ·simp[h2]
 ·simp[h]
theorem MV.zL{s:Sy}{l:Lay}{ws:List Int}(h:MV s l ws){a x:Int}(ha:((nN s*nW l:Nat):Int)≤a)(hx:bD x):MV s l (gX ws a x):=by
 refine⟨Rj h.a64 a hx,fun v i hv hi=>?_⟩
 have:=sT hv hi
 obtain⟨k,rfl⟩:=mg (show 0≤a by omega)
 rw[lh,jV,ah (by omega)]
 exact h.cells v i hv hi
theorem MV.G0{s:Sy}{l:Lay}{ws:List Int}(h:MV s l ws){a o x:Int}(ha:((nN s*nW l:Nat):Int)≤a)(hx:bD x):MV s l (iM ws a o x):=by
 unfold iM;split
 ·exact h.zL ha hx
 ·exact h
theorem MV.Uj{s:Sy}{l:Lay}{ws:List Int}(h:MV s l ws){a x:Int}(ha:((nN s*nW l:Nat):Int)≤a):MV s l (mT ws a x):=by
 unfold mT;split
 ·exact h.zL ha (by unfold bD;omega)
 ·exact h
theorem MV.Py{s:Sy}{l:Lay}{ws:List Int}(h:MV s l ws){u j:Nat}{x:Int}(hj:j<nW l)(hx:fG s.what s.w j x):MV s l (gX ws ((u*nW l+j:Nat):Int) x):=by
 refine⟨Rj h.a64 _ hx.1,fun v i hv hi=>?_⟩
 rw[lh,jV]
 split
 ·rename_i he
  obtain⟨-,rfl⟩:=Sc hj hi he.1
  exact hx
 ·exact h.cells v i hv hi
theorem MV.aaP{s:Sy}{l:Lay}{ws:List Int}(h:MV s l ws){u j:Nat}{o x:Int}(hj:j<nW l)(hx:fG s.what s.w j x):MV s l (iM ws ((u*nW l+j:Nat):Int) o x):=by
 unfold iM;split
 ·exact h.Py hj hx
 ·exact h
theorem MV.load{s:Sy}{l:Lay}{ws:List Int}(h:MV s l ws){v i:Nat}(hv:v<nN s)(hi:i<nW l):fG s.what s.w i (dx ws ((v*nW l+i:Nat):Int)):=by
 rw[nJ];exact h.cells v i hv hi
structure DQ.w4(q:DQ)(m:Nat):Prop where
 at_:q.at_≤m
 b:bD q.b
 t:bD q.t
 n:bD q.n
 x:bD q.x
 en:q.ended=false
def yI(s:Sy)(l:Lay)(who does node:Int)(nx out:List Int):Nw→Prop
 |.none=>False
 |.pop q=>does=0∧q.w4 5∧q.base=gh l who∧q.cap=ef l
 |.cu q=>does=1∧q.w4 3∧(∃v:Nat,(v:Int)<l.k∧q.base=gh l v)∧q.cap=ef l∧q.ok=false
 |.quiet t=>does=2∧t=⟨cO l,cF l,false,false⟩
 |.clear t=>does=3∧t=⟨cO l,cF l,node,false⟩
 |.read y=>does=4∧(y.length<nW l∨(nW l=0∧y=[]))∧∀i,i<y.length→fG s.what s.w i (wd y i)
 |.join j=>does=5∧(j.base=aS l (nx.headD 0)∧j.what=l.what∧j.words=l.words∧j.a=out)∧j.ended=false∧j.at_≤nW l∧bD j.x∧(j.ff=true→j.at_<nW l∧fG s.what s.w j.at_ j.x)
 |.take t=>does=6∧∃jQ:Bool,t=⟨cO l,cF l,nx.headD 0,jQ,false,jQ⟩
 |.push q=>does=7∧q.w4 3∧q.base=gh l who∧q.cap=ef l∧q.ok=false
 |.dT t=>does=8∧t=⟨cO l,cF l,0,false⟩
def kept(l:Lay):Nw→Prop
 |.none | .quiet _ | .clear _ | .dT _=>False
 |.read y=>y.length<nW l
 |.join j=>j.at_<nW l
 |.take t=>t.jQ=true
 |_=>True
structure WV(s:Sy)(l:Lay)(who:Int)(x:WS):Prop where
 does:0≤x.does∧x.does≤8
 node:0≤x.node∧x.node<s.n
 nx:∀u∈x.nx,0≤u∧u<s.n
 head:x.does=5∨x.does=6∨x.does=7→0<x.nx.length
 out:x.does=5∨x.does=6∨x.does=7→dY s.what s.w x.out
 AR:x.does=1→2≤l.k
 now:x.now=.none∨(yI s l who x.does x.node x.nx x.out x.now∧kept l x.now)
theorem wv0{s:Sy}{l:Lay}(hs:LS s l)(who:Int):WV s l who ot:=
 ⟨by decide,⟨ke _,hs.fW.n1⟩,fun u hu=>(Be hu).elim,fun h=>absurd h (by decide),fun h=>absurd h (by decide),fun h=>absurd h (by decide),.inl rfl⟩
theorem WV.ok{s:Sy}{l:Lay}(hs:LS s l){who:Int}{x:WS}(h:WV s l who x):Mu l x:=by
 refine⟨h.head,fun h1=>aeJ ⟨h.AR h1,hs.k2⟩,?_⟩
 have hh:=h.head
 rcases h.now with h0 | ⟨h1,h2⟩
 ·rw[h0];trivial
 ·cases hn:x.now with
  |none=>trivial
  |pop q=>rw[hn]at h1;exact⟨h1.2.1.at_,h1.2.1.b.1⟩
  |cu q=>rw[hn]at h1;exact⟨h1.2.1.at_,h1.2.1.t.1⟩
  |quiet q=>trivial
  |clear q=>trivial
  |read y=>
   rw[hn]at h1
   refine⟨h1.2.1,fun z hz=>?_⟩
   obtain⟨i,hi,rfl⟩:=tW.1 hz
   rw[← kL y hi];exact (h1.2.2 i hi).1
  |join j=>rw[hn]at h1;have:=hs.ww.2;exact⟨by have:=h1.2.2.2.1;omega,hh (.inl h1.1)⟩
  |take t=>rw[hn]at h1;exact hh (.inr (.inl h1.1))
  |push q=>rw[hn]at h1;exact⟨⟨h1.2.1.at_,h1.2.1.b.1⟩,hh (.inr (.inr h1.1))⟩
  |dT t=>trivial
theorem LS.af3{s:Sy}{l:Lay}(hs:LS s l){k:Nat}(hk:k≤64):((nN s*nW l:Nat):Int)≤gh l k∧((nN s*nW l:Nat):Int)≤fI (gh l k)∧∀i,((nN s*nW l:Nat):Int)≤lp (gh l k) (ef l) i:=by
 have h1:=hs.nn
 have h2:=hs.ww
 have h3:=rV h1.2.2 h2.2
 have h4:k*(nN s+3)≤64*259:=tP hk (by omega)
 have hd:=hs.wT hk
 refine⟨by omega,?_,fun i=>?_⟩
 ·unfold fI;rw[hd,iz (by omega) (by omega)];omega
 ·unfold lp
  rw[hs.room.2]
  have hm:=Ez i (show ((nN s+1:Nat):Int)≠0 by omega)
  have rr:=EF i (show (0:Int)<((nN s+1:Nat):Int) by omega)
  rw[hd,iz (z:=((nN s*nW l+nN s+1+k*(nN s+3):Nat):Int)+2) (by omega) (by omega),iz (z:=i % _) hm (by omega),iz (by omega) (by omega)]
  omega
theorem Ae(n:Int):bD (wu n):=Cg n
section
variable {s:Sy} {l:Lay} {ws ws':List Int} {q q':DQ} {b:Bool}
theorem Yu(hw:MV s l ws)(hq:q.w4 5)(hb:((nN s*nW l:Nat):Int)≤fI q.base)(h0:((nN s*nW l:Nat):Int)≤q.base)(h:e9 bB q ws=(q',ws',b)):MV s l ws'∧ws'.length=ws.length∧q'.base=q.base∧q'.cap=q.cap∧bD q'.n∧(b=false→q'.w4 5):=by
 obtain⟨base,cap,n,ok,ended,at_,bb,t,x⟩:=q
 obtain⟨h1,h2,h3,h4,h5,h6⟩:=hq
 have l1:=fun a=>Gv hw.a64 a
 have s1:=fun {a} {x} (ha:((nN s*nW l:Nat):Int)≤a) (hx:bD x)=>hw.zL ha hx
 have c1:=fun {a} {o} {x} (ha:((nN s*nW l:Nat):Int)≤a) (hx:bD x)=>hw.G0 (o:=o) ha hx
 dsimp only at *
 subst h6
 unfold e9 at h
 dsimp only at h
 repeat' split at h
 all_goals
  cases h
  refine⟨?_,?_,rfl,rfl,?_,fun hb=>?_⟩
 all_goals first
  |contradiction
  |assumption
  |rfl
  |exact zq _ _ _
  |exact vQ _ _ _ _
  |exact s1 hb h2
  |exact s1 hb (Ae _)
  |exact c1 h0 (Ae _)
  |exact l1 _
  |(dsimp only;split <;> assumption)
  |exact⟨by dsimp only;omega,by first | assumption | exact l1 _ | exact Ae _,by first | assumption | exact l1 _,by first | assumption | exact l1 _,by first | assumption | exact l1 _,rfl⟩
theorem Wn(hw:MV s l ws)(hq:q.w4 3)(h0:((nN s*nW l:Nat):Int)≤q.base)(hk:q.ok=false)(h:gx bB q ws=(q',ws',b)):MV s l ws'∧ws'.length=ws.length∧q'.base=q.base∧q'.cap=q.cap∧bD q'.n∧(b=false→q'.w4 3∧q'.ok=false):=by
 obtain⟨base,cap,n,ok,ended,at_,bb,t,x⟩:=q
 obtain⟨h1,h2,h3,h4,h5,h6⟩:=hq
 have l1:=fun a=>Gv hw.a64 a
 have c1:=fun {a} {o} {x} (ha:((nN s*nW l:Nat):Int)≤a) (hx:bD x)=>hw.G0 (o:=o) ha hx
 dsimp only at *
 subst h6;subst hk
 unfold gx at h
 dsimp only at h
 repeat' split at h
 all_goals
  cases h
  refine⟨?_,?_,rfl,rfl,?_,fun hb=>?_⟩
 all_goals first
  |contradiction
  |assumption
  |rfl
  |exact zq _ _ _
  |exact vQ _ _ _ _
  |exact c1 h0 (Ae _)
  |exact l1 _
  |exact⟨⟨by dsimp only;omega,by first | assumption | exact l1 _,by first | assumption | exact l1 _,by first | assumption | exact l1 _,by first | assumption | exact l1 _,rfl⟩,rfl⟩
theorem Xu(hw:MV s l ws)(hq:q.w4 3)(hb:((nN s*nW l:Nat):Int)≤fI q.base)(hp:∀i,((nN s*nW l:Nat):Int)≤lp q.base q.cap i)(hk:q.ok=false)(h:gj bB q ws=(q',ws',b)):MV s l ws'∧ws'.length=ws.length∧q'.base=q.base∧q'.cap=q.cap∧bD q'.n∧(b=false→q'.w4 3∧q'.ok=false):=by
 obtain⟨base,cap,n,ok,ended,at_,bb,t,x⟩:=q
 obtain⟨h1,h2,h3,h4,h5,h6⟩:=hq
 have l1:=fun a=>Gv hw.a64 a
 have s1:=fun {a} {x} (ha:((nN s*nW l:Nat):Int)≤a) (hx:bD x)=>hw.zL ha hx
 dsimp only at *
 subst h6;subst hk
 unfold gj at h
 dsimp only at h
 repeat' split at h
 all_goals
  cases h
  refine⟨?_,?_,rfl,rfl,?_,fun hb=>?_⟩
 all_goals first
  |contradiction
  |assumption
  |rfl
  |exact zq _ _ _
  |exact vQ _ _ _ _
  |exact s1 hb (Ae _)
  |exact s1 (hp _) h4
  |exact l1 _
  |exact⟨⟨by dsimp only;omega,by first | assumption | exact l1 _,by first | assumption | exact l1 _,by first | assumption | exact l1 _,by first | assumption | exact l1 _,rfl⟩,rfl⟩
end
theorem TA{y:List Int}{z:Int}{i:Nat}:wd (y++[z]) i=if i<y.length then wd y i else if i=y.length then z else 0:=by
 unfold wd
 rw[List.getElem?_append]
 by_cases h:i<y.length
 ·rw[ai h,ai h]
 ·rw[ah h,ah h]
  by_cases h2:i=y.length
  ·subst h2;simp
  ·rw[ah h2,tY (by show 1≤_;omega)];rfl
theorem Xs{s:Sy}{l:Lay}{ws ws':List Int}{y y':List Int}{b:Bool}(hs:LS s l)(hw:MV s l ws){v:Nat}(hv:v<nN s)(hy:y.length<nW l∨(nW l=0∧y=[]))(hk:∀i,i<y.length→fG s.what s.w i (wd y i))(h:mm bB l (aS l v) y ws=(y',ws',b)):ws'=ws∧(∀i,i<y'.length→fG s.what s.w i (wd y' i))∧(b=false→y'.length<nW l)∧(b=true→dY s.what s.w y'):=by
 have Ij:=hs.ww
 unfold mm at h
 split at h
 ·rename_i ab
  have ab:y.length<nW l:=ab
  cases h
  have e:∀i,i<(y++[(bB.ld ws (wr (aS l v+(y.length:Nat)))).1]).length→fG s.what s.w i (wd (y++[(bB.ld ws (wr (aS l v+(y.length:Nat)))).1]) i):=fun i hi=>by
   rw[bQ]at hi
   have hi:i<y.length+1:=hi
   rw[TA]
   by_cases h1:i<y.length
   ·rw[ai h1];exact hk i h1
   ·obtain rfl:i=y.length:=by omega
    rw[ah h1,ai rfl]
    show fG _ _ _ (dx ws _)
    rw[hs.As hv ab]
    exact hw.load hv ab
  refine⟨rfl,e,fun hb=>?_,fun hb=>?_⟩
  ·have hb:¬y.length+1=nW l:=pH hb
   rw[bQ];show y.length+1<_;omega
  ·have hb:y.length+1=nW l:=fm hb
   refine (Fu hs.fW.sj).2 ⟨?_,e⟩
   rw[← hs.words,Ij.1,bQ];show ((y.length+1:Nat):Int)=_;omega
 ·rename_i ab
  obtain⟨h1,h2⟩:=Prod.mk.inj h
  obtain⟨h2,h3⟩:=Prod.mk.inj h2
  subst h1;subst h2;subst h3
  have h0:nW l=0∧y=[]:=by
   rcases hy with h | h
   ·exact absurd h ab
   ·exact h
  refine⟨rfl,hk,fun hb=>(by cases hb),fun _=>?_⟩
  refine (Fu hs.fW.sj).2 ⟨?_,hk⟩
  rw[← hs.words,Ij.1,h0.1,h0.2];rfl
theorem XC{s:Sy}{l:Lay}{ws ws':List Int}{j j':Jn}{b:Bool}(hs:LS s l)(hw:MV s l ws){u:Nat}(hu:u<nN s)(yx:j.base=aS l u)(aeL:j.what=l.what)(adP:j.words=l.words)(ha:dY s.what s.w j.a)(kV:j.ended=false)(dR:j.at_≤nW l)(hx:bD j.x)(hl:j.ff=true→j.at_<nW l∧fG s.what s.w j.at_ j.x)(h:ij bB j ws=(j',ws',b)):
  MV s l ws'∧ws'.length=ws.length∧(j'.base=j.base∧j'.what=j.what∧j'.words=j.words∧j'.a=j.a)∧(b=false→j'.ended=false∧j'.at_<nW l∧bD j'.x∧(j'.ff=true→fG s.what s.w j'.at_ j'.x)):=by
 obtain⟨base,what,words,a,changed,ended,tries,at_,ff,x⟩:=j
 dsimp only at *
 subst yx;subst kV;subst aeL;subst adP
 have Ij:=hs.ww
 have sl:∀i,i<nW l→fG s.what s.w i (wd a i):=fun i hi=>by
  have:=(Fu hs.fW.sj).1 ha
  refine this.2 i ?_
  have h2:=this.1
  rw[← hs.words,Ij.1]at h2
  omega
 unfold ij at h
 dsimp only at h
 split at h
 ·contradiction
 split at h
 ·cases h
  exact⟨hw,rfl,⟨rfl,rfl,rfl,rfl⟩,fun hb=>by cases hb⟩
 rename_i MI
 have ab:at_<nW l:=by have:¬at_=nW l:=MI;omega
 have hA:=hs.As hu ab
 have A1:fG s.what s.w at_ (dx ws (wr (aS l u+(at_:Nat)))):=by rw[hA];exact hw.load hu ab
 rw[hs.what]at h
 split at h
 ·rename_i afU
  have ia:=(hl afU).2
  have Iv:=BC hs.uF ia (sl at_ ab)
  have hM:∀o,MV s l (iM ws (wr (aS l u+(at_:Nat))) o (cT s.what x (wd a at_))):=fun o=>by rw[hA];exact hw.aaP ab Iv
  split at h
  ·unfold gH at h
   dsimp only at h
   split at h
   ·rename_i hn
    cases h
    exact⟨hM _,vQ _ _ _ _,⟨rfl,hs.what.symm,rfl,rfl⟩,fun _=>⟨rfl,hn,hx,fun hc=>by cases hc⟩⟩
   ·cases h
    exact⟨hM _,vQ _ _ _ _,⟨rfl,hs.what.symm,rfl,rfl⟩,fun hb=>by cases hb⟩
  ·cases h
   exact⟨hM _,vQ _ _ _ _,⟨rfl,hs.what.symm,rfl,rfl⟩,fun _=>⟨rfl,ab,hx,fun hc=>by cases hc⟩⟩
 ·split at h
  ·unfold gH at h
   dsimp only at h
   split at h
   ·rename_i hn
    cases h
    exact⟨hw,rfl,⟨rfl,hs.what.symm,rfl,rfl⟩,fun _=>⟨rfl,hn,A1.1,fun hc=>absurd hc (by assumption)⟩⟩
   ·cases h
    exact⟨hw,rfl,⟨rfl,hs.what.symm,rfl,rfl⟩,fun hb=>by cases hb⟩
  ·cases h
   exact⟨hw,rfl,⟨rfl,hs.what.symm,rfl,rfl⟩,fun _=>⟨rfl,ab,A1.1,fun _=>A1⟩⟩
def VC(s:Sy)(does:Int):Nw→Prop
 |.none=>False
 |.pop q=>bD q.n
 |.cu q=>bD q.n
 |.read y=>dY s.what s.w y
 |.join _=>does=5
 |.take _=>does=6
 |.push _=>does=7
 |_=>True
theorem Lc{nx:List Int}{n:Int}(h:∀u∈nx,0≤u∧u<n)(h0:0<nx.length):∃u:Nat,nx.headD 0=u∧(u:Int)<n:=by
 cases nx with
 |nil=>cases h0
 |cons u r=>
  have:=h u (cm ..)
  exact⟨u.toNat,by show u=_;omega,by omega⟩
theorem YE{s:Sy}{l:Lay}{ws ws':List Int}{who does node:Int}{nx out:List Int}{n n':Nw}{b:Bool}(hs:LS s l)(hw:MV s l ws)(r7:0≤who∧who<l.k)(p8:0≤node∧node<s.n)(cU:∀u∈nx,0≤u∧u<s.n)(hh:does=5∨does=6∨does=7→0<nx.length)(ho:does=5∨does=6∨does=7→dY s.what s.w out)
  (hb:yI s l who does node nx out n) (h:fT bB l node n ws=(n',ws',b)):MV s l ws'∧ws'.length=ws.length∧(b=false→yI s l who does node nx out n'∧kept l n')∧(b=true→VC s does n'):=by
 have dF:=hs.k2
 have hd:∀k:Nat,(k:Int)<l.k→((nN s*nW l:Nat):Int)≤gh l k∧((nN s*nW l:Nat):Int)≤fI (gh l k)∧∀i,((nN s*nW l:Nat):Int)≤lp (gh l k) (ef l) i:=fun k hk=>hs.af3 (by omega)
 obtain⟨me,rfl⟩:=mg r7.1
 obtain⟨v,rfl⟩:=mg p8.1
 have hv:v<nN s:=by have:=hs.nn;omega
 have Iz:=hd me r7.2
 cases n with
 |none=>exact hb.elim
 |pop q=>
  obtain⟨q',a',b',aq⟩:∃q' a' b',e9 bB q ws=(q',a',b'):=⟨_,_,_,rfl⟩
  rw[uB aq]at h
  cases h
  obtain⟨h1,h2,h3,h4⟩:=hb
  obtain⟨k1,k2,k3,k4,k5,k6⟩:=Yu hw h2 (by rw[h3];exact Iz.2.1) (by rw[h3];exact Iz.1) aq
  exact⟨k1,k2,fun hb=>⟨⟨h1,k6 hb,k3.trans h3,k4.trans h4⟩,trivial⟩,fun _=>k5⟩
 |cu q=>
  obtain⟨q',a',b',aq⟩:∃q' a' b',gx bB q ws=(q',a',b'):=⟨_,_,_,rfl⟩
  rw[uf aq]at h
  cases h
  obtain⟨h1,h2,⟨k,hk,h3⟩,h4,h5⟩:=hb
  obtain⟨k1,k2,k3,k4,k5,k6⟩:=Wn hw h2 (by rw[h3];exact (hd k hk).1) h5 aq
  exact⟨k1,k2,fun hb=>⟨⟨h1,(k6 hb).1,⟨k,hk,k3.trans h3⟩,k4.trans h4,(k6 hb).2⟩,trivial⟩,fun _=>k5⟩
 |quiet t=>
  obtain⟨h1,rfl⟩:=hb
  cases h
  exact⟨hw,rfl,fun hb=>(by cases hb),fun _=>trivial⟩
 |clear t=>
  obtain⟨h1,rfl⟩:=hb
  cases h
  refine⟨?_,?_,fun hb=>(by cases hb),fun _=>trivial⟩
  ·show MV s l (if 0≤(v:Int) then gX ws (wr (cO l+(v:Nat))) 0 else ws)
   rw[ai (by omega),hs.Ap hv]
   exact hw.zL (by omega) (by unfold bD;omega)
  ·show (if 0≤(v:Int) then gX ws (wr (cO l+(v:Nat))) 0 else ws).length=_
   rw[ai (by omega)];exact zq _ _ _
 |read y=>
  obtain⟨y',a',b',aq⟩:∃y' a' b',mm bB l (aS l v) y ws=(y',a',b'):=⟨_,_,_,rfl⟩
  rw[x9 aq]at h
  cases h
  obtain⟨h1,h2,h3⟩:=hb
  obtain⟨rfl,k2,k3,k4⟩:=Xs hs hw hv h2 h3 aq
  exact⟨hw,rfl,fun hb=>⟨⟨h1,.inl (k3 hb),k2⟩,k3 hb⟩,fun hb=>k4 hb⟩
 |join j=>
  obtain⟨j',a',b',aq⟩:∃j' a' b',ij bB j ws=(j',a',b'):=⟨_,_,_,rfl⟩
  rw[uo aq]at h
  cases h
  obtain⟨h1,⟨h2,h3,h4,h5⟩,h6,h7,h8,h9⟩:=hb
  obtain⟨u,hu,e8⟩:=Lc cU (hh (.inl h1))
  obtain⟨k1,k2,⟨k3,k4,k5,k6⟩,k7⟩:=XC hs hw (u:=u) (by have:=hs.nn;omega) (by rw[h2,hu]) h3 h4 (by rw[h5];exact ho (.inl h1)) h6 h7 h8 h9 aq
  refine⟨k1,k2,fun hb=>?_,fun _=>h1⟩
  obtain⟨m1,m2,m3,m4⟩:=k7 hb
  exact⟨⟨h1,⟨k3.trans h2,k4.trans h3,k5.trans h4,k6.trans h5⟩,m1,Nat.le_of_lt m2,m3,fun hc=>⟨m2,m4 hc⟩⟩,m2⟩
 |take t=>
  obtain⟨h1,jQ,rfl⟩:=hb
  obtain⟨u,hu,e8⟩:=Lc cU (hh (.inr (.inl h1)))
  have hu2:u<nN s:=by have:=hs.nn;omega
  rw[hu]at h
  have ga:((nN s*nW l:Nat):Int)≤wr (cO l+(u:Nat)):=by rw[hs.Ap hu2];omega
  have NF:((nN s*nW l:Nat):Int)≤cF l:=by rw[hs.count];omega
  cases jQ with
  |true=>
   cases h
   exact⟨hw.Uj NF,OU _ _ _,fun hb=>(by cases hb),fun _=>h1⟩
  |false=>
   obtain⟨t',a',b',aq⟩:∃t' a' b',kM bB ⟨cO l,cF l,(u:Nat),false,false,false⟩ ws=(t',a',b'):=⟨_,_,_,rfl⟩
   rw[um aq]at h
   cases h
   unfold kM at aq
   dsimp only at aq
   rw[ah (by decide),ah (by decide),ai (by omega)]at aq
   split at aq
   ·cases aq
    exact⟨hw.G0 ga (by unfold bD;omega),vQ _ _ _ _,fun _=>⟨⟨h1,true,by rw[hu]⟩,rfl⟩,fun hb=>(by cases hb)⟩
   ·cases aq
    exact⟨hw.G0 ga (by unfold bD;omega),vQ _ _ _ _,fun hb=>(by cases hb),fun _=>h1⟩
 |push q=>
  obtain⟨q',a',b',aq⟩:∃q' a' b',gj bB q ws=(q',a',b'):=⟨_,_,_,rfl⟩
  rw[Cr aq]at h
  cases h
  obtain⟨h1,h2,h3,h4,h5⟩:=hb
  obtain⟨k1,k2,k3,k4,k5,k6⟩:=Xu hw h2 (by rw[h3];exact Iz.2.1) (by rw[h3,h4];exact Iz.2.2) h5 aq
  exact⟨k1,k2,fun hb=>⟨⟨h1,(k6 hb).1,k3.trans h3,k4.trans h4,(k6 hb).2⟩,trivial⟩,fun _=>h1⟩
 |dT t=>
  obtain⟨h1,rfl⟩:=hb
  cases h
  have NF:((nN s*nW l:Nat):Int)≤cF l:=by rw[hs.count];omega
  exact⟨hw.Uj NF,OU _ _ _,fun hb=>(by cases hb),fun _=>trivial⟩
theorem zJ:bD 0:=by unfold bD;omega
theorem LB(base cap n:Int)(m:Nat)(h:bD n):(tZ base cap n).w4 m:=⟨bA _,zJ,zJ,h,zJ,rfl⟩
theorem abC{d n:Int}(hn:0<n): -n<d.tmod n∧d.tmod n<n:=⟨by have:=I6 (-d) hn;rw[Int.neg_tmod]at this;omega,I6 _ hn⟩
theorem Qi{s:Sy}{l:Lay}(hs:LS s l){who:Int}(r7:0≤who∧who<l.k)(h2:2≤l.k)(d:Int):∃v:Nat,Ci l who d=v∧(v:Int)<l.k:=by
 have dF:=hs.k2
 have hnk:nK l=l.k-1:=iz (by omega) (by omega)
 have h1:=abC (d:=d) (n:=l.k-1) (by omega)
 unfold Ci
 rw[hnk]
 generalize d.tmod (l.k-1)=a at h1
 rw[iz (z:=a+(l.k-1)) (by omega) (by omega),iz (z:=who+1) (by omega) (by omega)]
 have h3:0≤(a+(l.k-1)).tmod (l.k-1):=Int.tmod_nonneg _ (by omega)
 have h4:=I6 (a+(l.k-1)) (show 0<l.k-1 by omega)
 generalize (a+(l.k-1)).tmod (l.k-1)=c at h3 h4
 rw[iz (by omega) (by omega)]
 have h5:0≤(who+1+c).tmod l.k:=Int.tmod_nonneg _ (by omega)
 have h6:=I6 (who+1+c) (show 0<l.k by omega)
 exact⟨_,(lP h5).symm,by omega⟩
theorem SV{s:Sy}{l:Lay}{who:Int}{x:WS}{d:Int}(hs:LS s l)(r7:0≤who∧who<l.k)(h:WV s l who x):yI s l who x.does x.node x.nx x.out (kh l who x d):=by
 have hd:=h.does
 have hw:=hs.ww
 rcases h.now with h0 | h0
 ·unfold kh
  rw[h0]
  show yI s l who x.does x.node x.nx x.out (iF l who x.does x.node x.nx x.out d)
  unfold iF
  repeat' split
  ·exact⟨by assumption,LB _ _ _ _ (by unfold bD;omega),rfl,rfl⟩
  ·rename_i h1
   obtain⟨v,hv,hvk⟩:=Qi hs r7 (h.AR h1) d
   exact⟨h1,LB _ _ _ _ (by unfold bD;omega),⟨v,hvk,by rw[← hv];rfl⟩,rfl,rfl⟩
  ·exact⟨by assumption,rfl⟩
  ·exact⟨by assumption,rfl⟩
  ·refine⟨by assumption,?_,fun i hi=>absurd hi (nE _)⟩
   rcases tT (nW l) with h | h
   ·exact .inr ⟨h,rfl⟩
   ·exact .inl h
  ·exact⟨by assumption,⟨rfl,rfl,rfl,rfl⟩,rfl,bA _,zJ,fun hc=>by cases hc⟩
  ·exact⟨by assumption,false,rfl⟩
  ·exact⟨by assumption,LB _ _ _ _ (Ae _),rfl,rfl,rfl⟩
  ·exact⟨by omega,rfl⟩
 ·unfold kh
  split
  ·rename_i hn;rw[hn]at h0;exact h0.1.elim
  ·exact h0.1
theorem TY{s:Sy}{l:Lay}(hs:LS s l){n:Int}(h:bD n):0≤oY l n∧oY l n<s.n:=by
 have hn:=hs.nn
 have e:wu l.n=s.n:=by
  show IntKind.u64.wrap l.n=_
  rw[IntKind.wrap_u64,hs.n];omega
 unfold oY
 rw[e]
 split
 ·omega
 ·rw[iz h.1 (by omega)]
  exact⟨h.1,by omega⟩
theorem pU{s:Sy}{l:Lay}{who:Int}{x:WS}(h0:x.now=.none)(h1:0≤x.does∧x.does≤8)(h2:0≤x.node∧x.node<s.n)(h3:∀u∈x.nx,0≤u∧u<s.n)(h4:x.does=5∨x.does=6∨x.does=7→0<x.nx.length∧dY s.what s.w x.out)(h5:x.does=1→2≤l.k):WV s l who x:=
 ⟨h1,h2,h3,fun h=>(h4 h).1,fun h=>(h4 h).2,h5,.inl h0⟩
theorem ae0{s:Sy}{l:Lay}{who:Int}{x:WS}{n:Nw}(hs:LS s l)(h:WV s l who x)(he:VC s x.does n):WV s l who (eg s l x n):=by
 have g:=fun n=>XH l n
 have f:=XJ x.nx
 have r:=Yq s x.node
 have no:=WE l
 have qu:=Xt l
 have Iw:∀u∈x.nx.tail,0≤u∧u<s.n:=fun u hu=>h.nx u (List.mem_of_mem_tail hu)
 cases n with
 |none=>exact he.elim
 |pop q=>
  have g:=g q.n
  by_cases hq:q.ok=true
  ·rw[show eg s l x (.pop q)=⟨x.ev,x.jo,x.en,qQ l q.n,.none,oY l q.n,true,x.nx,x.out⟩ from ai hq]
   exact pU rfl (by dsimp only;omega) (TY hs he) h.nx (fun h=>by dsimp only at h;omega) (fun h=>by dsimp only at h;omega)
  ·rw[show eg s l x (.pop q)=⟨x.ev,x.jo,x.en,qM l,.none,x.node,x.has,x.nx,x.out⟩ from ah hq]
   exact pU rfl (by dsimp only;omega) h.node h.nx (fun h=>by dsimp only at h;omega) (fun h=>by dsimp only at h;omega)
 |cu q=>
  have g:=g q.n
  by_cases hq:q.ok=true
  ·rw[show eg s l x (.cu q)=⟨x.ev,x.jo,x.en,qQ l q.n,.none,oY l q.n,true,x.nx,x.out⟩ from ai hq]
   exact pU rfl (by dsimp only;omega) (TY hs he) h.nx (fun h=>by dsimp only at h;omega) (fun h=>by dsimp only at h;omega)
  ·rw[show eg s l x (.cu q)=⟨x.ev,x.jo,x.en,2,.none,x.node,x.has,x.nx,x.out⟩ from ah hq]
   exact pU rfl (by dsimp only;omega) h.node h.nx (fun h=>by dsimp only at h;omega) (fun h=>by dsimp only at h;omega)
 |quiet q=>exact pU rfl (by dsimp only[eg];omega) h.node h.nx (fun h=>by dsimp only[eg]at h;omega) (fun h=>by dsimp only[eg]at h;omega)
 |clear q=>exact pU rfl (by dsimp only[eg];omega) h.node h.nx (fun h=>by dsimp only[eg]at h;omega) (fun h=>by dsimp only[eg]at h;omega)
 |read y=>
  obtain⟨v,hv⟩:=mg h.node.1
  have dm:=h.node.2
  have hE:pr s x.node y=0:=RD ((FE (Kc hs.fW) h.node).symm) he.v
  have hV:dY s.what s.w (sh (pr s x.node y) (iD s y x.node.toNat)):=by
   rw[hE,show sh 0 (iD s y x.node.toNat)=iD s y x.node.toNat from rfl]
   have:=Gn hs.fit hs.fW he.ca he.v (v:=x.node.toNat) (by omega)
   exact⟨this.1,this.2⟩
  exact pU rfl (by dsimp only[eg];omega) h.node (fun u hu=>(lU.1 hu).1) (fun h=>⟨by dsimp only[eg]at h ⊢;omega,hV⟩) (fun h=>by dsimp only[eg]at h;omega)
 |join q=>
  have hh:=h.head (.inl he)
  have ho:=h.out (.inl he)
  by_cases hq:q.changed=true
  ·rw[show eg s l x (.join q)=⟨x.ev,wr (x.jo+1),x.en,6,.none,x.node,x.has,x.nx,x.out⟩ from ai hq]
   exact pU rfl (by dsimp only;omega) h.node h.nx (fun _=>⟨hh,ho⟩) (fun h=>by dsimp only at h;omega)
  ·rw[show eg s l x (.join q)=⟨x.ev,x.jo,x.en,kj x.nx,.none,x.node,x.has,x.nx.tail,x.out⟩ from ah hq]
   exact pU rfl (by dsimp only;omega) h.node Iw (fun h=>⟨by dsimp only at h ⊢;omega,ho⟩) (fun h=>by dsimp only at h;omega)
 |take q=>
  have hh:=h.head (.inr (.inl he))
  have ho:=h.out (.inr (.inl he))
  by_cases hq:q.new=true
  ·rw[show eg s l x (.take q)=⟨x.ev,x.jo,x.en,7,.none,x.node,x.has,x.nx,x.out⟩ from ai hq]
   exact pU rfl (by dsimp only;omega) h.node h.nx (fun _=>⟨hh,ho⟩) (fun h=>by dsimp only at h;omega)
  ·rw[show eg s l x (.take q)=⟨x.ev,x.jo,x.en,kj x.nx,.none,x.node,x.has,x.nx.tail,x.out⟩ from ah hq]
   exact pU rfl (by dsimp only;omega) h.node Iw (fun h=>⟨by dsimp only at h ⊢;omega,ho⟩) (fun h=>by dsimp only at h;omega)
 |push q=>
  have ho:=h.out (.inr (.inr he))
  exact pU rfl (by dsimp only[eg];omega) h.node Iw (fun h=>⟨by dsimp only[eg]at h ⊢;omega,ho⟩) (fun h=>by dsimp only[eg]at h;omega)
 |dT q=>exact pU rfl (by dsimp only[eg];omega) h.node h.nx (fun h=>by dsimp only[eg]at h;omega) (fun h=>by dsimp only[eg]at h;omega)
theorem abv{s:Sy}{l:Lay}{who:Int}{x:WS}{d:Int}{ws:List Int}(hs:LS s l)(r7:0≤who∧who<l.k)(hw:MV s l ws)(h:WV s l who x):MV s l (dw bB s l who x d ws).2.1∧(dw bB s l who x d ws).2.1.length=ws.length∧WV s l who (dw bB s l who x d ws).1:=by
 obtain⟨n',ws',b,aq⟩:∃n' ws' b,fT bB l x.node (kh l who x d) ws=(n',ws',b):=⟨_,_,_,rfl⟩
 obtain⟨k1,k2,k3,k4⟩:=YE hs hw r7 h.node h.nx h.head h.out (SV hs r7 h (d:=d)) aq
 unfold dw
 rw[aq]
 dsimp only
 split
 ·exact⟨hw,rfl,h⟩
 ·split
  ·rename_i hb
   exact⟨k1,k2,ae0 hs h (k4 hb)⟩
  ·rename_i hb
   exact⟨k1,k2,h.does,h.node,h.nx,h.head,h.out,h.AR,.inr (k3 (by simpa using hb))⟩
end Go.Proofs.YtnikdflhefijbaaGreat
