import Derived.Test.YtnikdflhefijbaaGreatBn12
import Derived.Test.YtnikdflhefijbaaGreatBn6
import Derived.Test.YtnikdflhefijbaaGreatBn11
import Derived.Test.YtnikdflhefijbaaGreatBn10
import Derived.Test.YtnikdflhefijbaaGreatBn5
import Derived.Test.YtnikdflhefijbaaGreatBn9
namespace Go.Proofs.YtnikdflhefijbaaGreat
open Go.RowKit
set_option maxRecDepth 100000
theorem ah4{l:Lay}(h:2≤l.k∧l.k≤64):nK l≠0∧l.k≠0:=by
 unfold nK
 show IntKind.i64.wrap (l.k-1)≠0∧_
 rw[IntKind.wrap_i64]
 omega
theorem Zl(l:Lay)(n:Int):rG l n=8∨rG l n=3:=by unfold rG;split;exact .inl rfl;exact .inr rfl
theorem Zm(nx:List Int):kD nx=8∨(kD nx=5∧0<nx.tail.length):=by
 unfold kD;split
 ·exact .inl rfl
 ·exact .inr ⟨rfl,by omega⟩
theorem Z5(s:Sy)(node:Int):vr s node=8∨(vr s node=5∧0<(au s.n s.aO node).length):=by
 unfold vr;split
 ·exact .inl rfl
 ·exact .inr ⟨rfl,by omega⟩
theorem Yn(l:Lay):rC l=2∨(rC l=1∧2≤l.k):=by
 unfold rC;split
 ·exact .inl rfl
 ·exact .inr ⟨rfl,by omega⟩
theorem Y6(l:Lay):vc l=0∨(vc l=1∧2≤l.k):=by
 unfold vc;split
 ·exact .inl rfl
 ·exact .inr ⟨rfl,by omega⟩
theorem QF{f:FuncId}{xs:List AV}{σ:Hp}{R R':AV→Hp→Prop}(h:ACalls Tryz.prog f xs σ R)(hR:∀r σ',R r σ'→∃(i k b:Nat) (cs:List AV) (e:Sh),σ'[i]?=some (b,cs)∧cs[k]?=some .ai∧R' r (σ'.set i (b,cs.set k (.ae e [])))):ACalls Tryz.prog f xs σ R':=
 ⟨h.1,fun F w vs bR aF=>(h.2 F w vs bR aF).mono fun _ _ ⟨r,v,σ',F',h1,h2,h3,h4,h5⟩=>by
  obtain⟨i,k,b,cs,e,q1,q2,q3⟩:=hR r σ' h5
  exact⟨r,v,_,F',h1,h2,UF h3 e q1 q2,h4,q3⟩⟩
def nP:WS:=⟨0,0,false,0,.none,0,false,[],[]⟩
theorem ag3{s:Sy}{L:Lay}(h:iJ s L.k=L)(he:du s L.k=0):AV.tup [.agg (ib (iJ s L.k)),.int .i64 (du s L.k)]=.tup [.agg (ib L),.int .i64 0]:=by rw[h,he]
theorem acd(A:Lay):¬(!fP (tU (List.take 4 (List.drop 0 (fV [AV.int .i64 0,AV.int .i64 0,AV.int .i64 0,AV.int .i64 0] 0 (ib A)))) (List.take 4 (List.drop 0 (ib A)))))=true:=by
 show ¬(!fP [decide (A.what=A.what),decide (A.words=A.words),decide (A.n=A.n),decide (A.k=A.k)])=true
 simp[fP]
theorem agK(s:Sy)(L:Lay)(who:Int)(σ:Hp)(hf:Fit s)(he:du s L.k=0)(hL:iJ s L.k=L)(h0:0≤who)(h1:who<L.k):ACalls Tryz.prog 100 [.agg (aW s),.agg (ib L),.int .i64 who] σ (fun r σ'=>∃w,r=.tup [.ptr w 0,.int .i64 0]∧σ'=WB s L who w 0 .ai [] nP++σ):=by
 have hg:ACalls Tryz.prog 100 [.agg (aW s),.agg (ib L),.int .i64 who] σ (fun r σ'=>∃w,r=.tup [.ptr w 0,.int .i64 0]∧σ'=(w,[.int .i64 0,.int .i64 0,.bool false,.int .i64 s.what,.int .i64 s.w,.int .i64 s.n,.ae dB s.aO,.ae (.int .i64) s.entry,.ae (.int .u64) s.init,.ae kY s.T,.int .i64 L.what,.int .i64 L.words,.int .i64 L.n,.int .i64 L.k,.int .i64 who,.int .i64 0,.nilif,.int .i64 0,.bool false,.ai,.ai,.bool true])::σ):=by
  refine ar Tryz.func100 ?_
  intro aB
  intro dc
  refine aa 1 ?_
  refine aa 0 ?_
  refine aw [] (ot (It s L.k _ hf) (ag3 hL he)) ?_
  intro qj
  refine aj 0 ?_
  refine aa 0 ?_
  refine aa 1 ?_
  refine .mk (by kernel_rfl) (by kernel_rfl) ?_
  refine cX (fun c4=>?_) (fun c4=>?_)
  ·have c4:(!fP (tU (List.take 4 (List.drop 0 (fV [AV.int IntKind.i64 0,AV.int IntKind.i64 0,AV.int IntKind.i64 0,AV.int IntKind.i64 0] 0 (ib L)))) (List.take 4 (List.drop 0 (ib L)))))=true:=c4
   exact absurd c4 (acd L)
  ·have c4:(!fP (tU (List.take 4 (List.drop 0 (fV [AV.int IntKind.i64 0,AV.int IntKind.i64 0,AV.int IntKind.i64 0,AV.int IntKind.i64 0] 0 (ib L)))) (List.take 4 (List.drop 0 (ib L)))))=false:=c4
   refine ak (fun c5=>?_) (fun c5=>?_)
   ·have c5:who<0:=c5
    exact absurd c5 (by omega)
   ·have c5:¬(who<0):=c5
    refine aa 1 ?_
    refine ak (fun c6=>?_) (fun c6=>?_)
    ·have c6:L.k≤who:=c6
     exact absurd c6 (by omega)
    ·refine .sched [1] (upto [1] 8 0) (by kernel_rfl) ?_
     refine aa 2 ?_
     refine aI [] (ab1 s _ hf) ?_
     refine aa 1 ?_
     intro bl7
     exact .drop 1 3 (.done ⟨_,rfl,rfl⟩)
 refine QF (QF hg (R':=fun r σ'=>∃w,r=.tup [.ptr w 0,.int .i64 0]∧σ'=(w,[.int .i64 0,.int .i64 0,.bool false,.int .i64 s.what,.int .i64 s.w,.int .i64 s.n,.ae dB s.aO,.ae (.int .i64) s.entry,.ae (.int .u64) s.init,.ae kY s.T,.int .i64 L.what,.int .i64 L.words,.int .i64 L.n,.int .i64 L.k,.int .i64 who,.int .i64 0,.nilif,.int .i64 0,.bool false,.ae (.int .i64) ([]:List Int),.ai,.bool true])::σ) ?_) ?_
 ·rintro r σ' ⟨w,rfl,rfl⟩
  exact⟨0,19,w,_,.int .i64,rfl,rfl,w,rfl,rfl⟩
 ·rintro r σ' ⟨w,rfl,rfl⟩
  exact⟨0,20,w,_,.int .u64,rfl,rfl,w,rfl,rfl⟩
def kH:Lay:=⟨1,1,1,1⟩
theorem aiL(p q w r:Nat)(c:AV)(acc:Hp)(s:Sy)(l:Lay)(who:Int)(x:WS)(d:Int)(ws:List Int)(σ:Hp)(hf:Fit s)(hv:aR ws)(ok:NP l x)(rd:zJ c acc x.now){x':WS}{ws':List Int}{b:Bool}(an:dw bJ s l who x d ws=(x',ws',b)):
  ACalls Tryz.prog 390 [.ptr w 0,kK p,.int .i64 d] (WB s l who w r c acc x++bM p q ws σ) (fun z σ'=>∃r c acc,zJ c acc x'.now∧z=.bool b∧σ'=WB s l who w r c acc x'++bM p q ws' σ):=by
 refine (agu (vt p q) w r c acc s l who x d ws σ hf trivial (fun a=>HL hv a) ok rd).mono ?_
 rintro z σ' ⟨m',r,c,acc,h1,h2,rfl,rfl⟩
 have h2:m'=(dw bJ s l who x d ws).2.1:=h2
 refine⟨r,c,acc,?_,?_,?_⟩
 ·have:=h1
  rw[show dw (vt p q).O s l who x d ((vt p q).abs ws)=dw bJ s l who x d ws from rfl,an]at this
  exact this
 ·rw[show dw (vt p q).O s l who x d ((vt p q).abs ws)=dw bJ s l who x d ws from rfl,an]
 ·rw[show dw (vt p q).O s l who x d ((vt p q).abs ws)=dw bJ s l who x d ws from rfl,h2,an]
  rfl
theorem Mb{f:FuncId}{xs ys:List AV}{σ:Hp}{K:AV→Hp→Prop}(j b off len es:Nat)(cs:List AV)(e:Sh)(l:List e.T)(h1:σ[j]?=some (b,cs))(h2:(cs.drop off).take (len*es)=l.flatMap e.cells)(h3:l.length=len∧e.size=es∧0<es)(i k b':Nat)(cs':List AV)(hi:(σ.eraseIdx j)[i]?=some (b',cs'))(hk:cs'[k]?=some (.af b off len es))(h4:eO b off len es e l (.tup xs) (.tup ys))(h:CallAt Tryz.prog f K ys ((σ.eraseIdx j).set i (b',cs'.set k (.ae e l)))):CallAt Tryz.prog f K xs σ:=
 .mk [] K ⟨(yR h).1,fun F w vs bR aF=>by
  obtain⟨an,oQ,hh⟩:=vv aF h1 h2 h3
  have hv:=yG an hh h4 (.tuple vs) (.tup _ _ bR.1 bR.2)
  cases hv with
  |tup _ _ hs hr=>
   refine ((yR h).2 _ w vs ⟨hs,hr⟩ (Dr oQ hh hi hk)).mono ?_
   rintro e w' ⟨r,v,σ',F',rfl,q1,q2,q3,q4⟩
   exact⟨r,v,σ',F',rfl,an.trans q1,q2,q3,q4⟩⟩ fun _ _ h=>h
theorem Mc{f:FuncId}{xs ys:List AV}{σ:Hp}{K:AV→Hp→Prop}(hr:eO 0 0 0 0 .bool [] (.tup xs) (.tup ys))(h:CallAt Tryz.prog f K ys σ):CallAt Tryz.prog f K xs σ:=.mk [] K (Rn hr (yR h)) fun _ _ h=>h
theorem aaw{R:AV→Hp→Prop}{r:AV}(a:Hp){σ:Hp}(h:Fin R r σ):Fin R r (a++σ):=.drop 0 a.length (by rw[List.take_zero,dR,List.drop_left];exact h)
set_option maxHeartbeats 4000000
theorem SJ{ws:List Int}(h:aR ws)(a:Int){x:Int}(hx:bG x):aR (iv ws a x):=by
 unfold iv
 split
 ·exact h
 ·intro z hz
  rcases qh hz with hz | rfl
  ·exact h z hz
  ·exact hx
def fX(what w:Int)(i:Nat)(z:Int):Prop:=bG z∧(if what=3 then aJ z=z else z.toNat<2 ^ min 64 (eE w-64*i))
theorem YV(what w:Int)(i:Nat):fX what w i 0:=by
 refine⟨⟨by decide,by decide⟩,?_⟩
 split
 ·rfl
 ·exact Cq _
theorem CL{what w:Int}(h:what=1∨what=2∨what=3){i:Nat}{x y:Int}(hx:fX what w i x)(hy:fX what w i y):fX what w i (de what x y):=by
 refine⟨Uc hx.1 hy.1,?_⟩
 have ux:=hx.1
 have uy:=hy.1
 obtain⟨a,rfl⟩:=mH ux.1
 obtain⟨b,rfl⟩:=mH uy.1
 have ha:a<18446744073709551616:=by have:=ux.2;omega
 have hb:b<18446744073709551616:=by have:=uy.2;omega
 rcases h with rfl | rfl | rfl
 ·have h1:=hx.2
  have h2:=hy.2
  rw[ag (by decide)]at h1 h2 ⊢
  rw[show de 1 (a:Int) b=bits .or .u64 (a:Int) b from rfl,tB ha hb,bC]
  exact Kr h1 h2
 ·have h1:=hx.2
  rw[ag (by decide)]at h1 ⊢
  rw[show de 2 (a:Int) b=bits .and .u64 (a:Int) b from rfl,rp ha hb,bC]
  exact yx FY h1
 ·rw[ah rfl]
  exact Q9 _ _
theorem GQ{what w:Int}{a:List Int}(hi:cP what w=true):eI what w a↔((a.length:Int)=eN what w∧∀i,i<a.length→fX what w i (wd a i)):=by
 constructor
 ·intro ⟨hv,l8⟩
  refine⟨tG hv,fun i h=>⟨lp l8 i,?_⟩⟩
  by_cases h3:what=3
  ·rw[ah h3]
   exact xw ((jR hi h3).1 hv).2 h
  ·rw[ag h3]
   have:=(qo hi h3).1 hv
   unfold gE at this
   rw[bO,fK]at this
   simpa using this.2 i (List.mem_range.2 h)
 ·intro ⟨hl,hk⟩
  have l8:aR a:=fun z hz=>by
   obtain⟨i,hi,rfl⟩:=uL.1 hz
   rw[← kZ a hi];exact (hk i hi).1
  refine⟨?_,l8⟩
  by_cases h3:what=3
  ·subst h3
   refine (jR hi rfl).2 ⟨?_,y6.2 fun z hz=>?_⟩
   ·rw[hl];unfold eN;rw[ah hi,ah rfl]
   ·obtain⟨i,hi,rfl⟩:=uL.1 hz
    have:=(hk i hi).2
    rw[ah rfl,kZ a hi]at this
    exact this
  ·refine (qo hi h3).2 ?_
   have OP:a.length=ef w:=by
    have:eN what w=(ef w:Int):=by unfold eN;rw[ah hi,ag h3]
    omega
   unfold gE
   rw[bO,fK]
   refine⟨by simpa using OP,fun i hi=>?_⟩
   have:=(hk i (gy.1 hi)).2
   rw[ag h3]at this
   simpa using this
structure LS(s:Sy)(l:Lay):Prop where
 fit:Fit s
 gK:Good s
 what:l.what=s.what
 words:l.words=eN s.what s.w
 n:l.n=s.n
 k1:1≤l.k
 k2:l.k≤64
abbrev nN(s:Sy):Nat:=s.n.toNat
abbrev nW(l:Lay):Nat:=cw l.words
theorem LS.nn{s:Sy}{l:Lay}(h:LS s l):s.n=(nN s:Int)∧1≤nN s∧nN s≤256:=by have:=h.gK.n1;have:=h.gK.n2;unfold nN;omega
theorem LS.ww{s:Sy}{l:Lay}(h:LS s l):l.words=(nW l:Int)∧nW l≤1024:=by
 have:=AI s.what s.w
 have:=h.words
 unfold nW cw;omega
theorem tI{N W v i:Nat}(hv:v<N)(hi:i<W):v*W+i<N*W:=by
 have:(v+1)*W≤N*W:=lI _ hv
 rw[qc]at this
 omega
theorem TN{W u v i j:Nat}(hi:i<W)(hj:j<W)(h:u*W+i=v*W+j):u=v∧i=j:=by
 have h1:(u*W+i) / W=u:=by rw[Co,Nat.mul_add_div (by omega),Nat.div_eq_of_lt hi,wO]
 have h2:(v*W+j) / W=v:=by rw[Co,Nat.mul_add_div (by omega),Nat.div_eq_of_lt hj,wO]
 have h3:u=v:=by rw[← h1,← h2,h]
 subst h3
 exact⟨rfl,by omega⟩
theorem sF{N W:Nat}(hN:N≤256)(hW:W≤1024):N*W≤262144:=uF hN hW
theorem iG{z:Int}(h0:0≤z)(h1:z<9223372036854775808):wr z=z:=by
 show IntKind.i64.wrap z=z
 rw[IntKind.wrap_i64];omega
section
variable {s:Sy} {l:Lay} (hs:LS s l)
include hs
theorem LS.flags:cO l=((nN s*nW l:Nat):Int):=by
 have h1:=hs.nn
 have h2:=hs.ww
 have:=sF h1.2.2 h2.2
 unfold cO
 rw[hs.n,h1.1,h2.1,← FV]
 exact iG (by omega) (by omega)
theorem LS.count:cq l=((nN s*nW l+nN s:Nat):Int):=by
 have h1:=hs.nn
 have h2:=hs.ww
 have:=sF h1.2.2 h2.2
 unfold cq
 rw[hs.flags,hs.n,h1.1,uG]
 exact iG (by omega) (by omega)
theorem LS.room:eC l=((nN s+1:Nat):Int)∧rm (eC l)=nN s+1:=by
 have h1:=hs.nn
 have e:eC l=((nN s+1:Nat):Int):=by
  unfold eC
  rw[hs.n,h1.1,uG]
  exact iG (by omega) (by omega)
 refine⟨e,?_⟩
 rw[e];unfold rm;omega
theorem LS.vI{k:Nat}(hk:k≤64):ec l k=((nN s*nW l+nN s+1+k*(nN s+3):Nat):Int):=by
 have h1:=hs.nn
 have h2:=hs.ww
 have h3:=sF h1.2.2 h2.2
 have h4:k*(nN s+3)≤64*259:=uF hk (by omega)
 unfold ec
 rw[hs.count,hs.room.2,show ((k:Int)*((2+(nN s+1):Nat):Int))=((k*(nN s+3):Nat):Int) by rw[FV];congr 1;omega]
 rw[iG (z:=((k*(nN s+3):Nat):Int)) (by omega) (by omega),iG (z:=((nN s*nW l+nN s:Nat):Int)+1) (by omega) (by omega)]
 rw[show ((nN s*nW l+nN s:Nat):Int)+1+((k*(nN s+3):Nat):Int)=((nN s*nW l+nN s+1+k*(nN s+3):Nat):Int) by omega]
 exact iG (by omega) (by omega)
theorem LS.Wy{v:Nat}(hv:v<nN s):bg l v=((v*nW l:Nat):Int):=by
 have h1:=hs.nn
 have h2:=hs.ww
 have h3:=sF h1.2.2 h2.2
 have h4:v*nW l≤nN s*nW l:=lI _ (by omega)
 unfold bg
 rw[h2.1,← FV]
 exact iG (by omega) (by omega)
theorem LS.By{v i:Nat}(hv:v<nN s)(hi:i<nW l):wr (bg l v+(i:Nat))=((v*nW l+i:Nat):Int):=by
 have h1:=hs.nn
 have h2:=hs.ww
 have h3:=sF h1.2.2 h2.2
 have h4:=tI hv hi
 rw[hs.Wy hv,← uG]
 exact iG (by omega) (by omega)
theorem LS.zy{v:Nat}(hv:v<nN s):wr (cO l+(v:Nat))=((nN s*nW l+v:Nat):Int):=by
 have h1:=hs.nn
 have h2:=hs.ww
 have h3:=sF h1.2.2 h2.2
 rw[hs.flags,← uG]
 exact iG (by omega) (by omega)
theorem LS.vA:s.what=1∨s.what=2∨s.what=3:=by
 have:=hs.gK.sW
 unfold cP at this
 simp at this
 omega
end
structure MV(s:Sy)(l:Lay)(ws:List Int):Prop where
 a64:aR ws
 cells:∀v i,v<nN s→i<nW l→fX s.what s.w i (ws.getD (v*nW l+i) 0)
theorem ka{ws:List Int}{a b:Nat}{x:Int}:(ws.set a x).getD b 0=if a=b∧b<ws.length then x else ws.getD b 0:=by
 simp only[aZ,fj]
 by_cases h:a=b
 ·subst h
  by_cases h2:a<ws.length
  ·simp[h2]
  ·simp[h2]
 ·simp[h]
theorem MV.AU{s:Sy}{l:Lay}{ws:List Int}(h:MV s l ws){a x:Int}(ha:((nN s*nW l:Nat):Int)≤a)(hx:bG x):MV s l (iv ws a x):=by
 refine⟨SJ h.a64 a hx,fun v i hv hi=>?_⟩
 have:=tI hv hi
 obtain⟨k,rfl⟩:=mH (show 0≤a by omega)
 rw[lJ,ka,ag (by omega)]
 exact h.cells v i hv hi
theorem MV.Ik{s:Sy}{l:Lay}{ws:List Int}(h:MV s l ws){a o x:Int}(ha:((nN s*nW l:Nat):Int)≤a)(hx:bG x):MV s l (je ws a o x):=by
 unfold je;split
 ·exact h.AU ha hx
 ·exact h
theorem MV.VM{s:Sy}{l:Lay}{ws:List Int}(h:MV s l ws){a x:Int}(ha:((nN s*nW l:Nat):Int)≤a):MV s l (ns ws a x):=by
 unfold ns;split
 ·exact h.AU ha (by unfold bG;omega)
 ·exact h
theorem MV.QQ{s:Sy}{l:Lay}{ws:List Int}(h:MV s l ws){u j:Nat}{x:Int}(hj:j<nW l)(hx:fX s.what s.w j x):MV s l (iv ws ((u*nW l+j:Nat):Int) x):=by
 refine⟨SJ h.a64 _ hx.1,fun v i hv hi=>?_⟩
 rw[lJ,ka]
 split
 ·rename_i he
  obtain⟨-,rfl⟩:=TN hj hi he.1
  exact hx
 ·exact h.cells v i hv hi
theorem MV.acL{s:Sy}{l:Lay}{ws:List Int}(h:MV s l ws){u j:Nat}{o x:Int}(hj:j<nW l)(hx:fX s.what s.w j x):MV s l (je ws ((u*nW l+j:Nat):Int) o x):=by
 unfold je;split
 ·exact h.QQ hj hx
 ·exact h
theorem MV.load{s:Sy}{l:Lay}{ws:List Int}(h:MV s l ws){v i:Nat}(hv:v<nN s)(hi:i<nW l):fX s.what s.w i (cc ws ((v*nW l+i:Nat):Int)):=by
 rw[lK];exact h.cells v i hv hi
structure DQ.w4(q:DQ)(m:Nat):Prop where
 at_:q.at_≤m
 b:bG q.b
 t:bG q.t
 n:bG q.n
 x:bG q.x
 en:q.ended=false
def zK(s:Sy)(l:Lay)(who does node:Int)(nx out:List Int):Nw→Prop
 |.none=>False
 |.pop q=>does=0∧q.w4 5∧q.base=ec l who∧q.cap=eC l
 |.cC q=>does=1∧q.w4 3∧(∃v:Nat,(v:Int)<l.k∧q.base=ec l v)∧q.cap=eC l∧q.ok=false
 |.quiet t=>does=2∧t=⟨cO l,cq l,false,false⟩
 |.clear t=>does=3∧t=⟨cO l,cq l,node,false⟩
 |.read y=>does=4∧(y.length<nW l∨(nW l=0∧y=[]))∧∀i,i<y.length→fX s.what s.w i (wd y i)
 |.join j=>does=5∧(j.base=bg l (nx.headD 0)∧j.what=l.what∧j.words=l.words∧j.a=out)∧j.ended=false∧j.at_≤nW l∧bG j.x∧(j.fG=true→j.at_<nW l∧fX s.what s.w j.at_ j.x)
 |.take t=>does=6∧∃j6:Bool,t=⟨cO l,cq l,nx.headD 0,j6,false,j6⟩
 |.push q=>does=7∧q.w4 3∧q.base=ec l who∧q.cap=eC l∧q.ok=false
 |.ee t=>does=8∧t=⟨cO l,cq l,0,false⟩
def kept(l:Lay):Nw→Prop
 |.none | .quiet _ | .clear _ | .ee _=>False
 |.read y=>y.length<nW l
 |.join j=>j.at_<nW l
 |.take t=>t.j6=true
 |_=>True
structure WV(s:Sy)(l:Lay)(who:Int)(x:WS):Prop where
 does:0≤x.does∧x.does≤8
 node:0≤x.node∧x.node<s.n
 nx:∀u∈x.nx,0≤u∧u<s.n
 head:x.does=5∨x.does=6∨x.does=7→0<x.nx.length
 out:x.does=5∨x.does=6∨x.does=7→eI s.what s.w x.out
 BX:x.does=1→2≤l.k
 now:x.now=.none∨(zK s l who x.does x.node x.nx x.out x.now∧kept l x.now)
theorem wv0{s:Sy}{l:Lay}(hs:LS s l)(who:Int):WV s l who nP:=
 ⟨by decide,⟨jL _,hs.gK.n1⟩,fun u hu=>(Al hu).elim,fun h=>absurd h (by decide),fun h=>absurd h (by decide),fun h=>absurd h (by decide),.inl rfl⟩
theorem WV.ok{s:Sy}{l:Lay}(hs:LS s l){who:Int}{x:WS}(h:WV s l who x):NP l x:=by
 refine⟨h.head,fun h1=>ah4 ⟨h.BX h1,hs.k2⟩,?_⟩
 have hh:=h.head
 rcases h.now with h0 | ⟨h1,h2⟩
 ·rw[h0];trivial
 ·cases hn:x.now with
  |none=>trivial
  |pop q=>rw[hn]at h1;exact⟨h1.2.1.at_,h1.2.1.b.1⟩
  |cC q=>rw[hn]at h1;exact⟨h1.2.1.at_,h1.2.1.t.1⟩
  |quiet q=>trivial
  |clear q=>trivial
  |read y=>
   rw[hn]at h1
   refine⟨h1.2.1,fun z hz=>?_⟩
   obtain⟨i,hi,rfl⟩:=uL.1 hz
   rw[← kZ y hi];exact (h1.2.2 i hi).1
  |join j=>rw[hn]at h1;have:=hs.ww.2;exact⟨by have:=h1.2.2.2.1;omega,hh (.inl h1.1)⟩
  |take t=>rw[hn]at h1;exact hh (.inr (.inl h1.1))
  |push q=>rw[hn]at h1;exact⟨⟨h1.2.1.at_,h1.2.1.b.1⟩,hh (.inr (.inr h1.1))⟩
  |ee t=>trivial
theorem LS.ahp{s:Sy}{l:Lay}(hs:LS s l){k:Nat}(hk:k≤64):((nN s*nW l:Nat):Int)≤ec l k∧((nN s*nW l:Nat):Int)≤eR (ec l k)∧∀i,((nN s*nW l:Nat):Int)≤lN (ec l k) (eC l) i:=by
 have h1:=hs.nn
 have h2:=hs.ww
 have h3:=sF h1.2.2 h2.2
 have h4:k*(nN s+3)≤64*259:=uF hk (by omega)
 have hd:=hs.vI hk
 refine⟨by omega,?_,fun i=>?_⟩
 ·unfold eR;rw[hd,iG (by omega) (by omega)];omega
 ·unfold lN
  rw[hs.room.2]
  have hm:=Kh i (show ((nN s+1:Nat):Int)≠0 by omega)
  have uw:=Kt i (show (0:Int)<((nN s+1:Nat):Int) by omega)
  rw[hd,iG (z:=((nN s*nW l+nN s+1+k*(nN s+3):Nat):Int)+2) (by omega) (by omega),iG (z:=i % _) hm (by omega),iG (by omega) (by omega)]
  omega
theorem Bm(n:Int):bG (wu n):=Dv n
section
variable {s:Sy} {l:Lay} {ws ws':List Int} {q q':DQ} {b:Bool}
theorem Z9(hw:MV s l ws)(hq:q.w4 5)(hb:((nN s*nW l:Nat):Int)≤eR q.base)(h0:((nN s*nW l:Nat):Int)≤q.base)(h:fE bJ q ws=(q',ws',b)):MV s l ws'∧ws'.length=ws.length∧q'.base=q.base∧q'.cap=q.cap∧bG q'.n∧(b=false→q'.w4 5):=by
 obtain⟨base,cap,n,ok,ended,at_,bb,t,x⟩:=q
 obtain⟨h1,h2,h3,h4,h5,h6⟩:=hq
 have l1:=fun a=>HL hw.a64 a
 have s1:=fun {a} {x} (ha:((nN s*nW l:Nat):Int)≤a) (hx:bG x)=>hw.AU ha hx
 have c1:=fun {a} {o} {x} (ha:((nN s*nW l:Nat):Int)≤a) (hx:bG x)=>hw.Ik (o:=o) ha hx
 dsimp only at *
 subst h6
 unfold fE at h
 dsimp only at h
 repeat' split at h
 all_goals
  cases h
  refine⟨?_,?_,rfl,rfl,?_,fun hb=>?_⟩
 all_goals first
  |contradiction
  |assumption
  |rfl
  |exact Ay _ _ _
  |exact wY _ _ _ _
  |exact s1 hb h2
  |exact s1 hb (Bm _)
  |exact c1 h0 (Bm _)
  |exact l1 _
  |(dsimp only;split <;> assumption)
  |exact⟨by dsimp only;omega,by first | assumption | exact l1 _ | exact Bm _,by first | assumption | exact l1 _,by first | assumption | exact l1 _,by first | assumption | exact l1 _,rfl⟩
theorem X8(hw:MV s l ws)(hq:q.w4 3)(h0:((nN s*nW l:Nat):Int)≤q.base)(hk:q.ok=false)(h:gR bJ q ws=(q',ws',b)):MV s l ws'∧ws'.length=ws.length∧q'.base=q.base∧q'.cap=q.cap∧bG q'.n∧(b=false→q'.w4 3∧q'.ok=false):=by
 obtain⟨base,cap,n,ok,ended,at_,bb,t,x⟩:=q
 obtain⟨h1,h2,h3,h4,h5,h6⟩:=hq
 have l1:=fun a=>HL hw.a64 a
 have c1:=fun {a} {o} {x} (ha:((nN s*nW l:Nat):Int)≤a) (hx:bG x)=>hw.Ik (o:=o) ha hx
 dsimp only at *
 subst h6;subst hk
 unfold gR at h
 dsimp only at h
 repeat' split at h
 all_goals
  cases h
  refine⟨?_,?_,rfl,rfl,?_,fun hb=>?_⟩
 all_goals first
  |contradiction
  |assumption
  |rfl
  |exact Ay _ _ _
  |exact wY _ _ _ _
  |exact c1 h0 (Bm _)
  |exact l1 _
  |exact⟨⟨by dsimp only;omega,by first | assumption | exact l1 _,by first | assumption | exact l1 _,by first | assumption | exact l1 _,by first | assumption | exact l1 _,rfl⟩,rfl⟩
theorem Y7(hw:MV s l ws)(hq:q.w4 3)(hb:((nN s*nW l:Nat):Int)≤eR q.base)(hp:∀i,((nN s*nW l:Nat):Int)≤lN q.base q.cap i)(hk:q.ok=false)(h:gD bJ q ws=(q',ws',b)):MV s l ws'∧ws'.length=ws.length∧q'.base=q.base∧q'.cap=q.cap∧bG q'.n∧(b=false→q'.w4 3∧q'.ok=false):=by
 obtain⟨base,cap,n,ok,ended,at_,bb,t,x⟩:=q
 obtain⟨h1,h2,h3,h4,h5,h6⟩:=hq
 have l1:=fun a=>HL hw.a64 a
 have s1:=fun {a} {x} (ha:((nN s*nW l:Nat):Int)≤a) (hx:bG x)=>hw.AU ha hx
 dsimp only at *
 subst h6;subst hk
 unfold gD at h
 dsimp only at h
 repeat' split at h
 all_goals
  cases h
  refine⟨?_,?_,rfl,rfl,?_,fun hb=>?_⟩
 all_goals first
  |contradiction
  |assumption
  |rfl
  |exact Ay _ _ _
  |exact wY _ _ _ _
  |exact s1 hb (Bm _)
  |exact s1 (hp _) h4
  |exact l1 _
  |exact⟨⟨by dsimp only;omega,by first | assumption | exact l1 _,by first | assumption | exact l1 _,by first | assumption | exact l1 _,by first | assumption | exact l1 _,rfl⟩,rfl⟩
end
theorem Vd{y:List Int}{z:Int}{i:Nat}:wd (y++[z]) i=if i<y.length then wd y i else if i=y.length then z else 0:=by
 unfold wd
 rw[List.getElem?_append]
 by_cases h:i<y.length
 ·rw[ah h,ah h]
 ·rw[ag h,ag h]
  by_cases h2:i=y.length
  ·subst h2;simp
  ·rw[ag h2,uN (by show 1≤_;omega)];rfl
theorem Y5{s:Sy}{l:Lay}{ws ws':List Int}{y y':List Int}{b:Bool}(hs:LS s l)(hw:MV s l ws){v:Nat}(hv:v<nN s)(hy:y.length<nW l∨(nW l=0∧y=[]))(hk:∀i,i<y.length→fX s.what s.w i (wd y i))(h:mM bJ l (bg l v) y ws=(y',ws',b)):ws'=ws∧(∀i,i<y'.length→fX s.what s.w i (wd y' i))∧(b=false→y'.length<nW l)∧(b=true→eI s.what s.w y'):=by
 have JH:=hs.ww
 unfold mM at h
 split at h
 ·rename_i ab
  have ab:y.length<nW l:=ab
  cases h
  have e:∀i,i<(y++[(bJ.ld ws (wr (bg l v+(y.length:Nat)))).1]).length→fX s.what s.w i (wd (y++[(bJ.ld ws (wr (bg l v+(y.length:Nat)))).1]) i):=fun i hi=>by
   rw[bZ]at hi
   have hi:i<y.length+1:=hi
   rw[Vd]
   by_cases h1:i<y.length
   ·rw[ah h1];exact hk i h1
   ·obtain rfl:i=y.length:=by omega
    rw[ag h1,ah rfl]
    show fX _ _ _ (cc ws _)
    rw[hs.By hv ab]
    exact hw.load hv ab
  refine⟨rfl,e,fun hb=>?_,fun hb=>?_⟩
  ·have hb:¬y.length+1=nW l:=nj hb
   rw[bZ];show y.length+1<_;omega
  ·have hb:y.length+1=nW l:=fk hb
   refine (GQ hs.gK.sW).2 ⟨?_,e⟩
   rw[← hs.words,JH.1,bZ];show ((y.length+1:Nat):Int)=_;omega
 ·rename_i ab
  obtain⟨h1,h2⟩:=Prod.mk.inj h
  obtain⟨h2,h3⟩:=Prod.mk.inj h2
  subst h1;subst h2;subst h3
  have h0:nW l=0∧y=[]:=by
   rcases hy with h | h
   ·exact absurd h ab
   ·exact h
  refine⟨rfl,hk,fun hb=>(by cases hb),fun _=>?_⟩
  refine (GQ hs.gK.sW).2 ⟨?_,hk⟩
  rw[← hs.words,JH.1,h0.1,h0.2];rfl
theorem Zg{s:Sy}{l:Lay}{ws ws':List Int}{j j':Jn}{b:Bool}(hs:LS s l)(hw:MV s l ws){u:Nat}(hu:u<nN s)(IF:j.base=bg l u)(ah6:j.what=l.what)(ag6:j.words=l.words)(ha:eI s.what s.w j.a)(lA:j.ended=false)(eb:j.at_≤nW l)(hx:bG j.x)(hl:j.fG=true→j.at_<nW l∧fX s.what s.w j.at_ j.x)(h:iI bJ j ws=(j',ws',b)):
  MV s l ws'∧ws'.length=ws.length∧(j'.base=j.base∧j'.what=j.what∧j'.words=j.words∧j'.a=j.a)∧(b=false→j'.ended=false∧j'.at_<nW l∧bG j'.x∧(j'.fG=true→fX s.what s.w j'.at_ j'.x)):=by
 obtain⟨base,what,words,a,changed,ended,tries,at_,fG,x⟩:=j
 dsimp only at *
 subst IF;subst lA;subst ah6;subst ag6
 have JH:=hs.ww
 have sY:∀i,i<nW l→fX s.what s.w i (wd a i):=fun i hi=>by
  have:=(GQ hs.gK.sW).1 ha
  refine this.2 i ?_
  have h2:=this.1
  rw[← hs.words,JH.1]at h2
  omega
 unfold iI at h
 dsimp only at h
 split at h
 ·contradiction
 split at h
 ·cases h
  exact⟨hw,rfl,⟨rfl,rfl,rfl,rfl⟩,fun hb=>by cases hb⟩
 rename_i N4
 have ab:at_<nW l:=by have:¬at_=nW l:=N4;omega
 have hA:=hs.By hu ab
 have Ca:fX s.what s.w at_ (cc ws (wr (bg l u+(at_:Nat)))):=by rw[hA];exact hw.load hu ab
 rw[hs.what]at h
 split at h
 ·rename_i ain
  have iC:=(hl ain).2
  have yd:=CL hs.vA iC (sY at_ ab)
  have hM:∀o,MV s l (je ws (wr (bg l u+(at_:Nat))) o (de s.what x (wd a at_))):=fun o=>by rw[hA];exact hw.acL ab yd
  split at h
  ·unfold gZ at h
   dsimp only at h
   split at h
   ·rename_i hn
    cases h
    exact⟨hM _,wY _ _ _ _,⟨rfl,hs.what.symm,rfl,rfl⟩,fun _=>⟨rfl,hn,hx,fun hc=>by cases hc⟩⟩
   ·cases h
    exact⟨hM _,wY _ _ _ _,⟨rfl,hs.what.symm,rfl,rfl⟩,fun hb=>by cases hb⟩
  ·cases h
   exact⟨hM _,wY _ _ _ _,⟨rfl,hs.what.symm,rfl,rfl⟩,fun _=>⟨rfl,ab,hx,fun hc=>by cases hc⟩⟩
 ·split at h
  ·unfold gZ at h
   dsimp only at h
   split at h
   ·rename_i hn
    cases h
    exact⟨hw,rfl,⟨rfl,hs.what.symm,rfl,rfl⟩,fun _=>⟨rfl,hn,Ca.1,fun hc=>absurd hc (by assumption)⟩⟩
   ·cases h
    exact⟨hw,rfl,⟨rfl,hs.what.symm,rfl,rfl⟩,fun hb=>by cases hb⟩
  ·cases h
   exact⟨hw,rfl,⟨rfl,hs.what.symm,rfl,rfl⟩,fun _=>⟨rfl,ab,Ca.1,fun _=>Ca⟩⟩
def Xl(s:Sy)(does:Int):Nw→Prop
 |.none=>False
 |.pop q=>bG q.n
 |.cC q=>bG q.n
 |.read y=>eI s.what s.w y
 |.join _=>does=5
 |.take _=>does=6
 |.push _=>does=7
 |_=>True
theorem ME{nx:List Int}{n:Int}(h:∀u∈nx,0≤u∧u<n)(h0:0<nx.length):∃u:Nat,nx.headD 0=u∧(u:Int)<n:=by
 cases nx with
 |nil=>cases h0
 |cons u r=>
  have:=h u (cj ..)
  exact⟨u.toNat,by show u=_;omega,by omega⟩
theorem aa9{s:Sy}{l:Lay}{ws ws':List Int}{who does node:Int}{nx out:List Int}{n n':Nw}{b:Bool}(hs:LS s l)(hw:MV s l ws)(sL:0≤who∧who<l.k)(qD:0≤node∧node<s.n)(cU:∀u∈nx,0≤u∧u<s.n)(hh:does=5∨does=6∨does=7→0<nx.length)(ho:does=5∨does=6∨does=7→eI s.what s.w out)
  (hb:zK s l who does node nx out n) (h:gn bJ l node n ws=(n',ws',b)):MV s l ws'∧ws'.length=ws.length∧(b=false→zK s l who does node nx out n'∧kept l n')∧(b=true→Xl s does n'):=by
 have ei:=hs.k2
 have hd:∀k:Nat,(k:Int)<l.k→((nN s*nW l:Nat):Int)≤ec l k∧((nN s*nW l:Nat):Int)≤eR (ec l k)∧∀i,((nN s*nW l:Nat):Int)≤lN (ec l k) (eC l) i:=fun k hk=>hs.ahp (by omega)
 obtain⟨me,rfl⟩:=mH sL.1
 obtain⟨v,rfl⟩:=mH qD.1
 have hv:v<nN s:=by have:=hs.nn;omega
 have JT:=hd me sL.2
 cases n with
 |none=>exact hb.elim
 |pop q=>
  obtain⟨q',a',b',an⟩:∃q' a' b',fE bJ q ws=(q',a',b'):=⟨_,_,_,rfl⟩
  rw[vu an]at h
  cases h
  obtain⟨h1,h2,h3,h4⟩:=hb
  obtain⟨k1,k2,k3,k4,k5,k6⟩:=Z9 hw h2 (by rw[h3];exact JT.2.1) (by rw[h3];exact JT.1) an
  exact⟨k1,k2,fun hb=>⟨⟨h1,k6 hb,k3.trans h3,k4.trans h4⟩,trivial⟩,fun _=>k5⟩
 |cC q=>
  obtain⟨q',a',b',an⟩:∃q' a' b',gR bJ q ws=(q',a',b'):=⟨_,_,_,rfl⟩
  rw[uX an]at h
  cases h
  obtain⟨h1,h2,⟨k,hk,h3⟩,h4,h5⟩:=hb
  obtain⟨k1,k2,k3,k4,k5,k6⟩:=X8 hw h2 (by rw[h3];exact (hd k hk).1) h5 an
  exact⟨k1,k2,fun hb=>⟨⟨h1,(k6 hb).1,⟨k,hk,k3.trans h3⟩,k4.trans h4,(k6 hb).2⟩,trivial⟩,fun _=>k5⟩
 |quiet t=>
  obtain⟨h1,rfl⟩:=hb
  cases h
  exact⟨hw,rfl,fun hb=>(by cases hb),fun _=>trivial⟩
 |clear t=>
  obtain⟨h1,rfl⟩:=hb
  cases h
  refine⟨?_,?_,fun hb=>(by cases hb),fun _=>trivial⟩
  ·show MV s l (if 0≤(v:Int) then iv ws (wr (cO l+(v:Nat))) 0 else ws)
   rw[ah (by omega),hs.zy hv]
   exact hw.AU (by omega) (by unfold bG;omega)
  ·show (if 0≤(v:Int) then iv ws (wr (cO l+(v:Nat))) 0 else ws).length=_
   rw[ah (by omega)];exact Ay _ _ _
 |read y=>
  obtain⟨y',a',b',an⟩:∃y' a' b',mM bJ l (bg l v) y ws=(y',a',b'):=⟨_,_,_,rfl⟩
  rw[y7 an]at h
  cases h
  obtain⟨h1,h2,h3⟩:=hb
  obtain⟨rfl,k2,k3,k4⟩:=Y5 hs hw hv h2 h3 an
  exact⟨hw,rfl,fun hb=>⟨⟨h1,.inl (k3 hb),k2⟩,k3 hb⟩,fun hb=>k4 hb⟩
 |join j=>
  obtain⟨j',a',b',an⟩:∃j' a' b',iI bJ j ws=(j',a',b'):=⟨_,_,_,rfl⟩
  rw[vh an]at h
  cases h
  obtain⟨h1,⟨h2,h3,h4,h5⟩,h6,h7,h8,h9⟩:=hb
  obtain⟨u,hu,fD⟩:=ME cU (hh (.inl h1))
  obtain⟨k1,k2,⟨k3,k4,k5,k6⟩,k7⟩:=Zg hs hw (u:=u) (by have:=hs.nn;omega) (by rw[h2,hu]) h3 h4 (by rw[h5];exact ho (.inl h1)) h6 h7 h8 h9 an
  refine⟨k1,k2,fun hb=>?_,fun _=>h1⟩
  obtain⟨m1,m2,m3,m4⟩:=k7 hb
  exact⟨⟨h1,⟨k3.trans h2,k4.trans h3,k5.trans h4,k6.trans h5⟩,m1,Nat.le_of_lt m2,m3,fun hc=>⟨m2,m4 hc⟩⟩,m2⟩
 |take t=>
  obtain⟨h1,j6,rfl⟩:=hb
  obtain⟨u,hu,fD⟩:=ME cU (hh (.inr (.inl h1)))
  have B5:u<nN s:=by have:=hs.nn;omega
  rw[hu]at h
  have gx:((nN s*nW l:Nat):Int)≤wr (cO l+(u:Nat)):=by rw[hs.zy B5];omega
  have OZ:((nN s*nW l:Nat):Int)≤cq l:=by rw[hs.count];omega
  cases j6 with
  |true=>
   cases h
   exact⟨hw.VM OZ,Qa _ _ _,fun hb=>(by cases hb),fun _=>h1⟩
  |false=>
   obtain⟨t',a',b',an⟩:∃t' a' b',k8 bJ ⟨cO l,cq l,(u:Nat),false,false,false⟩ ws=(t',a',b'):=⟨_,_,_,rfl⟩
   rw[vf an]at h
   cases h
   unfold k8 at an
   dsimp only at an
   rw[ag (by decide),ag (by decide),ah (by omega)]at an
   split at an
   ·cases an
    exact⟨hw.Ik gx (by unfold bG;omega),wY _ _ _ _,fun _=>⟨⟨h1,true,by rw[hu]⟩,rfl⟩,fun hb=>(by cases hb)⟩
   ·cases an
    exact⟨hw.Ik gx (by unfold bG;omega),wY _ _ _ _,fun hb=>(by cases hb),fun _=>h1⟩
 |push q=>
  obtain⟨q',a',b',an⟩:∃q' a' b',gD bJ q ws=(q',a',b'):=⟨_,_,_,rfl⟩
  rw[DG an]at h
  cases h
  obtain⟨h1,h2,h3,h4,h5⟩:=hb
  obtain⟨k1,k2,k3,k4,k5,k6⟩:=Y7 hw h2 (by rw[h3];exact JT.2.1) (by rw[h3,h4];exact JT.2.2) h5 an
  exact⟨k1,k2,fun hb=>⟨⟨h1,(k6 hb).1,k3.trans h3,k4.trans h4,(k6 hb).2⟩,trivial⟩,fun _=>h1⟩
 |ee t=>
  obtain⟨h1,rfl⟩:=hb
  cases h
  have OZ:((nN s*nW l:Nat):Int)≤cq l:=by rw[hs.count];omega
  exact⟨hw.VM OZ,Qa _ _ _,fun hb=>(by cases hb),fun _=>trivial⟩
theorem AQ:bG 0:=by unfold bG;omega
theorem M0(base cap n:Int)(m:Nat)(h:bG n):(uP base cap n).w4 m:=⟨bA _,AQ,AQ,h,AQ,rfl⟩
theorem adH{d n:Int}(hn:0<n): -n<d.tmod n∧d.tmod n<n:=⟨by have:=Kw (-d) hn;rw[Int.neg_tmod]at this;omega,Kw _ hn⟩
theorem RA{s:Sy}{l:Lay}(hs:LS s l){who:Int}(sL:0≤who∧who<l.k)(h2:2≤l.k)(d:Int):∃v:Nat,Dx l who d=v∧(v:Int)<l.k:=by
 have ei:=hs.k2
 have hnk:nK l=l.k-1:=iG (by omega) (by omega)
 have h1:=adH (d:=d) (n:=l.k-1) (by omega)
 unfold Dx
 rw[hnk]
 generalize d.tmod (l.k-1)=a at h1
 rw[iG (z:=a+(l.k-1)) (by omega) (by omega),iG (z:=who+1) (by omega) (by omega)]
 have h3:0≤(a+(l.k-1)).tmod (l.k-1):=Int.tmod_nonneg _ (by omega)
 have h4:=Kw (a+(l.k-1)) (show 0<l.k-1 by omega)
 generalize (a+(l.k-1)).tmod (l.k-1)=c at h3 h4
 rw[iG (by omega) (by omega)]
 have h5:0≤(who+1+c).tmod l.k:=Int.tmod_nonneg _ (by omega)
 have h6:=Kw (who+1+c) (show 0<l.k by omega)
 exact⟨_,(ma h5).symm,by omega⟩
theorem UE{s:Sy}{l:Lay}{who:Int}{x:WS}{d:Int}(hs:LS s l)(sL:0≤who∧who<l.k)(h:WV s l who x):zK s l who x.does x.node x.nx x.out (kB l who x d):=by
 have hd:=h.does
 have hw:=hs.ww
 rcases h.now with h0 | h0
 ·unfold kB
  rw[h0]
  show zK s l who x.does x.node x.nx x.out (iY l who x.does x.node x.nx x.out d)
  unfold iY
  repeat' split
  ·exact⟨by assumption,M0 _ _ _ _ (by unfold bG;omega),rfl,rfl⟩
  ·rename_i h1
   obtain⟨v,hv,hvk⟩:=RA hs sL (h.BX h1) d
   exact⟨h1,M0 _ _ _ _ (by unfold bG;omega),⟨v,hvk,by rw[← hv];rfl⟩,rfl,rfl⟩
  ·exact⟨by assumption,rfl⟩
  ·exact⟨by assumption,rfl⟩
  ·refine⟨by assumption,?_,fun i hi=>absurd hi (og _)⟩
   rcases uK (nW l) with h | h
   ·exact .inr ⟨h,rfl⟩
   ·exact .inl h
  ·exact⟨by assumption,⟨rfl,rfl,rfl,rfl⟩,rfl,bA _,AQ,fun hc=>by cases hc⟩
  ·exact⟨by assumption,false,rfl⟩
  ·exact⟨by assumption,M0 _ _ _ _ (Bm _),rfl,rfl,rfl⟩
  ·exact⟨by omega,rfl⟩
 ·unfold kB
  split
  ·rename_i hn;rw[hn]at h0;exact h0.1.elim
  ·exact h0.1
theorem Vy{s:Sy}{l:Lay}(hs:LS s l){n:Int}(h:bG n):0≤pD l n∧pD l n<s.n:=by
 have hn:=hs.nn
 have e:wu l.n=s.n:=by
  show IntKind.u64.wrap l.n=_
  rw[IntKind.wrap_u64,hs.n];omega
 unfold pD
 rw[e]
 split
 ·omega
 ·rw[iG h.1 (by omega)]
  exact⟨h.1,by omega⟩
theorem qz{s:Sy}{l:Lay}{who:Int}{x:WS}(h0:x.now=.none)(h1:0≤x.does∧x.does≤8)(h2:0≤x.node∧x.node<s.n)(h3:∀u∈x.nx,0≤u∧u<s.n)(h4:x.does=5∨x.does=6∨x.does=7→0<x.nx.length∧eI s.what s.w x.out)(h5:x.does=1→2≤l.k):WV s l who x:=
 ⟨h1,h2,h3,fun h=>(h4 h).1,fun h=>(h4 h).2,h5,.inl h0⟩
theorem agm{s:Sy}{l:Lay}{who:Int}{x:WS}{n:Nw}(hs:LS s l)(h:WV s l who x)(he:Xl s x.does n):WV s l who (dV s l x n):=by
 have g:=fun n=>Zl l n
 have f:=Zm x.nx
 have r:=Z5 s x.node
 have no:=Yn l
 have qu:=Y6 l
 have sZ:∀u∈x.nx.tail,0≤u∧u<s.n:=fun u hu=>h.nx u (List.mem_of_mem_tail hu)
 cases n with
 |none=>exact he.elim
 |pop q=>
  have g:=g q.n
  by_cases hq:q.ok=true
  ·rw[show dV s l x (.pop q)=⟨x.ev,x.jo,x.en,rG l q.n,.none,pD l q.n,true,x.nx,x.out⟩ from ah hq]
   exact qz rfl (by dsimp only;omega) (Vy hs he) h.nx (fun h=>by dsimp only at h;omega) (fun h=>by dsimp only at h;omega)
  ·rw[show dV s l x (.pop q)=⟨x.ev,x.jo,x.en,rC l,.none,x.node,x.has,x.nx,x.out⟩ from ag hq]
   exact qz rfl (by dsimp only;omega) h.node h.nx (fun h=>by dsimp only at h;omega) (fun h=>by dsimp only at h;omega)
 |cC q=>
  have g:=g q.n
  by_cases hq:q.ok=true
  ·rw[show dV s l x (.cC q)=⟨x.ev,x.jo,x.en,rG l q.n,.none,pD l q.n,true,x.nx,x.out⟩ from ah hq]
   exact qz rfl (by dsimp only;omega) (Vy hs he) h.nx (fun h=>by dsimp only at h;omega) (fun h=>by dsimp only at h;omega)
  ·rw[show dV s l x (.cC q)=⟨x.ev,x.jo,x.en,2,.none,x.node,x.has,x.nx,x.out⟩ from ag hq]
   exact qz rfl (by dsimp only;omega) h.node h.nx (fun h=>by dsimp only at h;omega) (fun h=>by dsimp only at h;omega)
 |quiet q=>exact qz rfl (by dsimp only[dV];omega) h.node h.nx (fun h=>by dsimp only[dV]at h;omega) (fun h=>by dsimp only[dV]at h;omega)
 |clear q=>exact qz rfl (by dsimp only[dV];omega) h.node h.nx (fun h=>by dsimp only[dV]at h;omega) (fun h=>by dsimp only[dV]at h;omega)
 |read y=>
  obtain⟨v,hv⟩:=mH h.node.1
  have dy:=h.node.2
  have hE:pQ s x.node y=0:=S6 ((GZ (C8 hs.gK) h.node).symm) he.v
  have hV:eI s.what s.w (r8 (pQ s x.node y) (gg s y x.node.toNat)):=by
   rw[hE,show r8 0 (gg s y x.node.toNat)=gg s y x.node.toNat from rfl]
   have:=DE hs.fit hs.gK he.cE he.v (v:=x.node.toNat) (by omega)
   exact⟨this.1,this.2⟩
  exact qz rfl (by dsimp only[dV];omega) h.node (fun u hu=>(lL.1 hu).1) (fun h=>⟨by dsimp only[dV]at h ⊢;omega,hV⟩) (fun h=>by dsimp only[dV]at h;omega)
 |join q=>
  have hh:=h.head (.inl he)
  have ho:=h.out (.inl he)
  by_cases hq:q.changed=true
  ·rw[show dV s l x (.join q)=⟨x.ev,wr (x.jo+1),x.en,6,.none,x.node,x.has,x.nx,x.out⟩ from ah hq]
   exact qz rfl (by dsimp only;omega) h.node h.nx (fun _=>⟨hh,ho⟩) (fun h=>by dsimp only at h;omega)
  ·rw[show dV s l x (.join q)=⟨x.ev,x.jo,x.en,kD x.nx,.none,x.node,x.has,x.nx.tail,x.out⟩ from ag hq]
   exact qz rfl (by dsimp only;omega) h.node sZ (fun h=>⟨by dsimp only at h ⊢;omega,ho⟩) (fun h=>by dsimp only at h;omega)
 |take q=>
  have hh:=h.head (.inr (.inl he))
  have ho:=h.out (.inr (.inl he))
  by_cases hq:q.new=true
  ·rw[show dV s l x (.take q)=⟨x.ev,x.jo,x.en,7,.none,x.node,x.has,x.nx,x.out⟩ from ah hq]
   exact qz rfl (by dsimp only;omega) h.node h.nx (fun _=>⟨hh,ho⟩) (fun h=>by dsimp only at h;omega)
  ·rw[show dV s l x (.take q)=⟨x.ev,x.jo,x.en,kD x.nx,.none,x.node,x.has,x.nx.tail,x.out⟩ from ag hq]
   exact qz rfl (by dsimp only;omega) h.node sZ (fun h=>⟨by dsimp only at h ⊢;omega,ho⟩) (fun h=>by dsimp only at h;omega)
 |push q=>
  have ho:=h.out (.inr (.inr he))
  exact qz rfl (by dsimp only[dV];omega) h.node sZ (fun h=>⟨by dsimp only[dV]at h ⊢;omega,ho⟩) (fun h=>by dsimp only[dV]at h;omega)
 |ee q=>exact qz rfl (by dsimp only[dV];omega) h.node h.nx (fun h=>by dsimp only[dV]at h;omega) (fun h=>by dsimp only[dV]at h;omega)
theorem ady{s:Sy}{l:Lay}{who:Int}{x:WS}{d:Int}{ws:List Int}(hs:LS s l)(sL:0≤who∧who<l.k)(hw:MV s l ws)(h:WV s l who x):MV s l (dw bJ s l who x d ws).2.1∧(dw bJ s l who x d ws).2.1.length=ws.length∧WV s l who (dw bJ s l who x d ws).1:=by
 obtain⟨n',ws',b,an⟩:∃n' ws' b,gn bJ l x.node (kB l who x d) ws=(n',ws',b):=⟨_,_,_,rfl⟩
 obtain⟨k1,k2,k3,k4⟩:=aa9 hs hw sL h.node h.nx h.head h.out (UE hs sL h (d:=d)) an
 unfold dw
 rw[an]
 dsimp only
 split
 ·exact⟨hw,rfl,h⟩
 ·split
  ·rename_i hb
   exact⟨k1,k2,agm hs h (k4 hb)⟩
  ·rename_i hb
   exact⟨k1,k2,h.does,h.node,h.nx,h.head,h.out,h.BX,.inr (k3 (by simpa using hb))⟩
set_option maxHeartbeats 4000000
theorem afM{l:Lay}{base:Int}{y ws:List Int}(h:y.length<cw l.words){x:Int}(hx:cc ws (wr (base+(y.length:Nat)))=x):mM bJ l base y ws=(y++[x],ws,decide (y.length+1=cw l.words)):=by
 subst hx
 exact ah h
theorem acN{s:Sy}{l:Lay}{x:WS}{y:List Int}(h:pQ s x.node y=0):dV s l x (.read y)=⟨wr (x.ev+1),x.jo,x.en,vr s x.node,.none,x.node,x.has,au s.n s.aO x.node,gg s y x.node.toNat⟩:=by
 show (⟨wr (x.ev+1),x.jo,x.en,vr s x.node,.none,x.node,x.has,au s.n s.aO x.node,r8 (pQ s x.node y) (gg s y x.node.toNat)⟩:WS)=_
 rw[h];rfl
set_option maxHeartbeats 4000000
theorem abe{s:Sy}{l:Lay}{who:Int}{x:WS}{d:Int}{ws:List Int}(he:x.en=false):(dw bJ s l who x d ws).2.2=(dw bJ s l who x d ws).1.en:=by
 unfold dw
 rw[ag (by rw[he];decide)]
 split
 ·rfl
 ·exact he.symm
theorem LY{s:Sy}{k:Int}(h:du s k=0):cm s=0∧1≤k∧k≤64:=by
 unfold du at h
 split at h
 ·split at h
  ·exact⟨by assumption,by assumption⟩
  ·cases h
 ·exact absurd h (by assumption)
theorem Eb{s:Sy}{k:Int}(hf:Fit s)(h:du s k=0):LS s (iJ s k)∧(iJ s k).k=k:=by
 obtain⟨h1,h2⟩:=LY h
 have e:∀z,qR (du s k) z=z:=fun z=>ah h
 exact⟨⟨hf,xB h1,e _,e _,e _,by rw[show (iJ s k).k=k from e _];exact h2.1,by rw[show (iJ s k).k=k from e _];exact h2.2⟩,e _⟩
def nQ(l:Lay):Nat:=(ec l l.k).toNat
section
variable {s:Sy} {l:Lay} (hs:LS s l)
include hs
theorem LS.kk:∃k:Nat,l.k=k∧1≤k∧k≤64:=⟨l.k.toNat,by have:=hs.k1;have:=hs.k2;omega⟩
theorem LS.size:ec l l.k=(nQ l:Int)∧nQ l≤1000000∧rY (ec l l.k)=nQ l:=by
 obtain⟨k,hk,n0,ei⟩:=hs.kk
 have hd:=hs.vI ei
 have h1:=hs.nn
 have h2:=hs.ww
 have h3:=sF h1.2.2 h2.2
 have h4:k*(nN s+3)≤64*259:=uF ei (by omega)
 unfold nQ rY
 rw[hk,hd]
 omega
theorem LS.low:nN s*nW l+nN s<nQ l:=by
 obtain⟨m,hm,ON,uw⟩:=hs.kk
 have n9:=hs.vI uw
 unfold nQ
 rw[hm,n9]
 omega
end
theorem MV.afE{s:Sy}{l:Lay}{ws:List Int}(h:MV s l ws){a:Nat}{x:Int}(ha:nN s*nW l≤a)(hx:bG x):MV s l (ws.set a x):=by
 rw[← lJ]
 exact h.AU (by omega) hx
theorem MV.abz{s:Sy}{l:Lay}{ws:List Int}(h:MV s l ws){u j:Nat}{x:Int}(hj:j<nW l)(hx:fX s.what s.w j x):MV s l (ws.set (u*nW l+j) x):=by
 rw[← lJ]
 exact h.QQ hj hx
theorem ael(s:Sy)(l:Lay)(n:Nat):MV s l (List.replicate n 0):=⟨fun z hz=>by rw[Ar hz];exact AQ,fun v i _ _=>by
 have:(List.replicate n (0:Int)).getD (v*nW l+i) 0=0:=by
  rw[aZ,wV];split <;> rfl
 rw[this];exact YV _ _ _⟩
def pU(s:Sy)(l:Lay)(ws:List Int):Prop:=ws.length=nQ l∧MV s l ws
theorem pU.hi{s:Sy}{l:Lay}{ws:List Int}(h:pU s l ws){a:Nat}{x:Int}(ha:nN s*nW l≤a)(hx:bG x):pU s l (ws.set a x):=⟨by rw[cR];exact h.1,h.2.afE ha hx⟩
theorem LN:∀{l m:List Int},l.Nodup→(∀x∈l,x∈m)→l.length≤m.length
 | [],_,_,_=>bA _
 |a::l,m,hd,h=>by
  have hd:=mE.1 hd
  have ha:=h a (cj ..)
  have h1:=LN (l:=l) (m:=m.erase a) hd.2 fun x hx=>(PA (fun e:x=a=>hd.1 (by rw[← e];exact hx))).2 (h x (dp _ hx))
  rw[List.length_erase_of_mem ha]at h1
  have:=Gf ha
  rw[ik];omega
inductive Rx(nx:Int→List Int):Int→Int→Prop where
 |refl (a:Int):Rx nx a a
 |step {a b c:Int} (h:Rx nx a b) (hc:c∈nx b):Rx nx a c
theorem Rx.trans{nx:Int→List Int}{a b c:Int}(h1:Rx nx a b)(h2:Rx nx b c):Rx nx a c:=by
 induction h2 with
 |refl=>exact h1
 |step _ hc ih=>exact .step ih hc
theorem Rx.one{nx:Int→List Int}{a b:Int}(h:b∈nx a):Rx nx a b:=.step (.refl a) h
def pO(f:Int→Int)(a v:Int):Int→Int:=fun y=>if y=a then v else f y
theorem qp{f:Int→Int}{a v y:Int}(h:y≠a):pO f a v y=f y:=ag h
theorem qq{f:Int→Int}{a v:Int}:pO f a v a=v:=ah rfl
structure rj(n:Nat)(nx:Int→List Int)(P:List (List Int)):Prop where
 ne:∀p∈P,p≠[]
 node:∀p∈P,∀x∈p,0≤x∧x<(n:Int)
 nd:P.flatten.Nodup
 BV:∀p∈P,p.Pairwise (· < ·)
 PN:∀p∈P,∀x∈p,∀y∈p,Rx nx x y
 KT:∀(i:Nat) (p:List Int),P[i]?=some p→∀x∈p,∀y∈nx x,∃(j:Nat) (q:List Int),j≤i∧P[j]?=some q∧y∈q
theorem rj.nil(n:Nat)(nx:Int→List Int):rj n nx []:=⟨fun _ h=>(by cases h),fun _ h=>(by cases h),List.nodup_nil,fun _ h=>(by cases h),fun _ h=>(by cases h),fun i p h=>by simp at h⟩
theorem rj.reach{n:Nat}{nx:Int→List Int}{P:List (List Int)}(h:rj n nx P){x y:Int}(hr:Rx nx x y)(hx:∃p∈P,x∈p):∃p∈P,y∈p:=by
 induction hr with
 |refl=>exact hx
 |step _ hc ih=>
  obtain⟨p,hp,hb⟩:=ih
  obtain⟨i,hi⟩:=Ga hp
  obtain⟨j,q,_,hq,hy⟩:=h.KT i p hi _ hb _ hc
  exact⟨q,cx hq,hy⟩
structure TJ(n:Nat)(nx:Int→List Int)(f L:Int→Int)(st:List Int)(aH:Nat)(P:List (List Int))(W:List Int):Prop where
 node:∀x∈st,0≤x∧x<(n:Int)
 inc:st.Pairwise fun x y=>f x<f y
 sR:∀x∈st,1≤f x∧f x≤aH
 x8:∀x:Int,0≤x→x<n→(f x≠0↔x∈st∨∃p∈P,x∈p)
 Av:∀p∈P,∀x∈p,x ∉ st
 len:aH=st.length+P.flatten.length
 sub:W.Sublist st
 top:∀x∈st,∃v∈W,f v≤f x
 z6:∀v∈W,∀x∈st,f v≤f x→Rx nx v x
 fin:∀x∈st,x ∉ W→(∀y∈nx x,f y≠0)∧∃y∈st,f y<f x∧Rx nx x y
 low:∀v∈W,L v≤f v∧∃y∈st,f y=L v∧Rx nx v y
 BW:∀v∈W,∀x∈st,x ∉ W→f v<f x→(∀u∈W,f u≤f x→f u≤f v)→∀y∈nx x,y∈st→L v≤f y
 prt:rj n nx P
def Prc(nx:Int→List Int)(f L:Int→Int)(st:List Int)(ie:List (Int×Nat)):Prop:=∀t∈ie,∀y∈(nx t.1).take t.2,f y≠0∧(y∈st→L t.1≤f y)
theorem Lh{f:Int→Int}:∀{st:List Int},st.Pairwise (fun x y=>f x<f y)→∀{x y:Int},x∈st→y∈st→f x=f y→x=y
 | [],_,_,_,hx,_,_=>by cases hx
 |a::st,h,x,y,hx,hy,e=>by
  obtain⟨h1,h2⟩:=Cw.1 h
  rcases eB.1 hx with e1 | sa
  ·rcases eB.1 hy with e2 | ur
   ·rw[e1,e2]
   ·have:=h1 y ur;rw[e1]at e;omega
  ·rcases eB.1 hy with e2 | ur
   ·have:=h1 x sa;rw[e2]at e;omega
   ·exact Lh h2 sa ur e
theorem uS{f:Int→Int}{st:List Int}(h:st.Pairwise (fun x y=>f x<f y)):st.Nodup:=h.imp fun aU e=>by subst e;omega
theorem Dl{f:Int→Int}{st w:List Int}{v:Int}(h:st.Pairwise (fun x y=>f x<f y))(hs:(w++[v]).Sublist st):∀u∈w,f u<f v:=by
 have:=h.sublist hs
 intro u hu
 exact (KA.1 this).2.2 u hu v (bB.2 rfl)
variable {n:Nat} {nx:Int→List Int} {f L:Int→Int} {st:List Int} {aH:Nat} {P:List (List Int)}
theorem TJ.start(h:∀x,f x=0):TJ n nx f L [] 0 [] []:=
 ⟨fun _ h=>(by cases h),.nil,fun _ h=>(by cases h),fun x _ _=>by simp[h],fun _ h=>(by cases h),rfl,.slnil,fun _ h=>(by cases h),fun _ h=>(by cases h),fun _ h=>(by cases h),fun _ h=>(by cases h),fun _ h=>(by cases h),.nil n nx⟩
theorem TJ.enter{W:List Int}{b:Int}(h:TJ n nx f L st aH P W)(hb:0≤b∧b<n)(hf:f b=0)(hW:∀v∈W,Rx nx v b):TJ n nx (pO f b (aH+1)) (pO L b (aH+1)) (st++[b]) (aH+1) P (W++[b]):=by
 have eM:b ∉ st:=fun hm=>by have:=h.sR b hm;omega
 have hbW:b ∉ W:=fun hm=>eM (h.sub.subset hm)
 have ja:∀x∈st,pO f b (aH+1) x=f x:=fun x hx=>qp fun e=>eM (e▸hx)
 have hL1:∀x∈W,pO L b (aH+1) x=L x:=fun x hx=>qp fun e=>hbW (e▸hx)
 have Ce:pO f b (aH+1) b=(aH+1:Nat):=by rw[qq];rfl
 have Ci:=h.sub.subset
 refine⟨fun x hx=>?_,?_,fun x hx=>?_,fun x h0 h1=>?_,fun p hp x hx=>?_,by have:=h.len;rw[bZ,tp];omega,h.sub.append (.refl _),fun x hx=>?_,fun v hv x hx hle=>?_,fun x hx lZ=>?_,fun v hv=>?_,fun v hv x hx lZ ab jJ y hy kO=>?_,h.prt⟩
 ·rcases bV.1 hx with hx | hx
  ·exact h.node x hx
  ·rw[bB.1 hx];exact hb
 ·refine KA.2 ⟨h.inc.imp_of_mem fun {x y} hx hy aU=>?_,List.pairwise_singleton ..,fun x hx y hy=>?_⟩
  ·rw[ja x hx,ja y hy];exact aU
  ·rw[bB.1 hy,ja x hx,Ce]
   have:=(h.sR x hx).2;omega
 ·rcases bV.1 hx with hx | hx
  ·rw[ja x hx];have:=h.sR x hx;omega
  ·rw[bB.1 hx,Ce];omega
 ·by_cases e:x=b
  ·subst e
   exact⟨fun _=>.inl (jM _ (bB.2 rfl)),fun _=>by rw[Ce];omega⟩
  ·rw[qp e,h.x8 x h0 h1,bV,bB]
   exact or_congr_left ⟨.inl,fun h=>h.resolve_right e⟩
 ·rw[bV,bB]
  rintro (hm | rfl)
  ·exact h.Av p hp x hx hm
  ·exact ((h.x8 x hb.1 hb.2).2 (.inr ⟨p,hp,hx⟩)) hf
 ·rcases bV.1 hx with hx | hx
  ·obtain⟨v,hv,hle⟩:=h.top x hx
   exact⟨v,gY _ hv,by rw[ja v (Ci hv),ja x hx];exact hle⟩
  ·rw[bB.1 hx]
   exact⟨b,jM _ (bB.2 rfl),jL _⟩
 ·rcases bV.1 hv with hv | hv
  ·rcases bV.1 hx with hx | hx
   ·rw[ja v (Ci hv),ja x hx]at hle
    exact h.z6 v hv x hx hle
   ·rw[bB.1 hx];exact hW v hv
  ·rw[bB.1 hv]at hle ⊢
   rcases bV.1 hx with hx | hx
   ·rw[Ce,ja x hx]at hle
    have:=(h.sR x hx).2;omega
   ·rw[bB.1 hx];exact .refl _
 ·rw[bV,bB]at lZ
  have hx:x∈st:=by
   rcases bV.1 hx with hx | hx
   ·exact hx
   ·exact absurd (.inr (bB.1 hx)) lZ
  obtain⟨h1,y,hy,h2,h3⟩:=h.fin x hx fun hm=>lZ (.inl hm)
  refine⟨fun y hy=>?_,y,gY _ hy,by rw[ja y hy,ja x hx];exact h2,h3⟩
  by_cases e:y=b
  ·subst e;rw[Ce];omega
  ·rw[qp e];exact h1 y hy
 ·rcases bV.1 hv with hv | hv
  ·obtain⟨h1,y,hy,h2,h3⟩:=h.low v hv
   rw[hL1 v hv,ja v (Ci hv)]
   exact⟨h1,y,gY _ hy,by rw[ja y hy];exact h2,h3⟩
  ·rw[bB.1 hv,qq,qq]
   exact⟨jL _,b,jM _ (bB.2 rfl),qq,.refl _⟩
 ·rw[bV,bB]at lZ
  have hx:x∈st:=by
   rcases bV.1 hx with hx | hx
   ·exact hx
   ·exact absurd (.inr (bB.1 hx)) lZ
  rcases bV.1 hv with hv | hv
  ·rw[hL1 v hv]
   rw[ja v (Ci hv),ja x hx]at ab
   have hyb:y≠b:=fun e=>(h.fin x hx fun hm=>lZ (.inl hm)).1 y hy (e▸hf)
   have kO:y∈st:=by
    rcases bV.1 kO with kO | kO
    ·exact kO
    ·exact absurd (bB.1 kO) hyb
   rw[ja y kO]
   refine h.BW v hv x hx (fun hm=>lZ (.inl hm)) ab (fun u hu hle=>?_) y hy kO
   have:=jJ u (gY _ hu)
   rw[ja u (Ci hu),ja x hx,ja v (Ci hv)]at this
   exact this hle
  ·rw[bB.1 hv,Ce,ja x hx]at ab
   have:=(h.sR x hx).2;omega
theorem TJ.lower{w:List Int}{v z:Int}(h:TJ n nx f L st aH P (w++[v]))(hz:z∈st)(hr:Rx nx v z):TJ n nx f (pO L v (min (L v) (f z))) st aH P (w++[v]):=by
 have hd:(w++[v]).Nodup:=(uS h.inc).sublist h.sub
 have hvw:v ∉ w:=fun hm=>(pt.1 hd).2.2 v hm v (bB.2 rfl) rfl
 refine⟨h.node,h.inc,h.sR,h.x8,h.Av,h.len,h.sub,h.top,h.z6,h.fin,fun u hu=>?_,fun u hu x hx lZ ab jJ y hy kO=>?_,h.prt⟩
 ·by_cases e:u=v
  ·subst e
   rw[qq]
   obtain⟨h1,y,hy,h2,h3⟩:=h.low u hu
   refine⟨by omega,?_⟩
   by_cases c:L u≤f z
   ·exact⟨y,hy,by rw[h2];omega,h3⟩
   ·exact⟨z,hz,by omega,hr⟩
  ·rw[qp e];exact h.low u hu
 ·have:=h.BW u hu x hx lZ ab jJ y hy kO
  by_cases e:u=v
  ·subst e;rw[qq];omega
  ·rw[qp e];exact this
theorem TJ.up{w:List Int}{u v:Int}(h:TJ n nx f L st aH P (w++[u]++[v]))(ab:L v<f v)(cQ:∀y∈nx v,f y≠0∧(y∈st→L v≤f y)):TJ n nx f (pO L u (min (L u) (L v))) st aH P (w++[u]):=by
 have hd:(w++[u]++[v]).Nodup:=(uS h.inc).sublist h.sub
 have hvw:v ∉ w++[u]:=fun hm=>(pt.1 hd).2.2 v hm v (bB.2 rfl) rfl
 have fD:u ∉ w:=fun hm=>(pt.1 (pt.1 hd).1).2.2 u hm u (bB.2 rfl) rfl
 have huv:u≠v:=fun e=>hvw (e▸jM _ (bB.2 rfl))
 have lU:=Dl h.inc h.sub
 have ahd:=Dl h.inc ((List.sublist_append_left _ _).trans h.sub)
 have JN:u∈w++[u]:=jM _ (bB.2 rfl)
 have B4:v∈w++[u]++[v]:=jM _ (bB.2 rfl)
 have bR:v∈st:=h.sub.subset B4
 have hfuv:f u<f v:=lU u JN
 obtain⟨yi,z,hz,o0,hzr⟩:=h.low v B4
 refine⟨h.node,h.inc,h.sR,h.x8,h.Av,h.len,(List.sublist_append_left _ _).trans h.sub,fun x hx=>?_,fun a ha=>h.z6 a (gY _ ha),fun x hx lZ=>?_,fun a ha=>?_,fun a ha x hx lZ dA jJ y hy kO=>?_,h.prt⟩
 ·obtain⟨a,ha,hle⟩:=h.top x hx
  rcases bV.1 ha with ha | ha
  ·exact⟨a,ha,hle⟩
  ·rw[bB.1 ha]at hle
   exact⟨u,JN,by omega⟩
 ·by_cases e:x=v
  ·subst e
   exact⟨fun y hy=>(cQ y hy).1,z,hz,by omega,hzr⟩
  ·exact h.fin x hx fun hm=>by
    rcases bV.1 hm with hm | hm
    ·exact lZ hm
    ·exact e (bB.1 hm)
 ·obtain⟨h1,y,hy,h2,h3⟩:=h.low a (gY _ ha)
  by_cases e:a=u
  ·subst e
   rw[qq]
   refine⟨by omega,?_⟩
   by_cases c:L a≤L v
   ·exact⟨y,hy,by omega,h3⟩
   ·exact⟨z,hz,by omega,(h.z6 a (gY _ JN) v bR (by omega)).trans hzr⟩
  ·rw[qp e];exact⟨h1,y,hy,h2,h3⟩
 ·have qU:∀c,f a≤c→f u≤f a→pO L u (min (L u) (L v)) a≤L a:=fun c _ _=>by
   by_cases e:a=u
   ·subst e;rw[qq];omega
   ·rw[qp e];exact jL _
  have hle:pO L u (min (L u) (L v)) a≤L a:=by
   by_cases e:a=u
   ·subst e;rw[qq];omega
   ·rw[qp e];exact jL _
  by_cases B1:f v≤f x
  ·have hau:a=u:=by
    have h1:=jJ u JN (by omega)
    by_cases e:a=u
    ·exact e
    ·have:a∈w:=by
      rcases bV.1 ha with ha | ha
      ·exact ha
      ·exact absurd (bB.1 ha) e
     have:=ahd a this
     omega
   subst hau
   rw[qq]
   by_cases e:x=v
   ·subst e
    have:=(cQ y hy).2 kO
    omega
   ·have aX:f v≠f x:=fun e2=>e (Lh h.inc hx bR e2.symm)
    have:=h.BW v B4 x hx (fun hm=>by
     rcases bV.1 hm with hm | hm
     ·exact lZ hm
     ·exact e (bB.1 hm)) (by omega) (fun c hc _=>by
      rcases bV.1 hc with hc | hc
      ·have:=lU c hc;omega
      ·rw[bB.1 hc];exact jL _) y hy kO
    omega
  ·have ahY:x≠v:=fun e=>by subst e;omega
   have:=h.BW a (gY _ ha) x hx (fun hm=>by
    rcases bV.1 hm with hm | hm
    ·exact lZ hm
    ·exact ahY (bB.1 hm)) dA (fun c hc se=>by
     rcases bV.1 hc with hc | hc
     ·exact jJ c hc se
     ·rw[bB.1 hc]at se;omega) y hy kO
   omega
theorem R5{v:Int}:∀{st:List Int},st.Pairwise (fun x y=>f x<f y)→v∈st→∃A B,st=A++v::B∧(∀x∈A,f x<f v)∧∀x∈B,f v<f x:=by
 intro st h hv
 obtain⟨A,B,rfl⟩:=List.append_of_mem hv
 obtain⟨h1,h2,h3⟩:=KA.1 h
 exact⟨A,B,rfl,fun x hx=>h3 x hx v (cj ..),fun x hx=>(Cw.1 h2).1 x hx⟩
theorem TJ.tell{w A B part:List Int}{v:Int}(h:TJ n nx f L st aH P (w++[v]))(an:st=A++v::B)(heq:L v=f v)(cQ:∀y∈nx v,f y≠0∧(y∈st→L v≤f y))(cU:∀x y,y∈nx x→0≤y∧y<n)(hp:part.Perm (v::B))(hs:part.Pairwise (· < ·)):TJ n nx f L A aH (P++[part]) w:=by
 have cf:=uS h.inc
 have lU:=Dl h.inc h.sub
 have B4:v∈w++[v]:=jM _ (bB.2 rfl)
 have mq:=h.inc
 rw[an]at mq
 obtain⟨i1,i2,i3⟩:=KA.1 mq
 have xW:∀x∈A,f x<f v:=fun x hx=>i3 x hx v (cj ..)
 have Jb:∀x∈B,f v<f x:=(Cw.1 i2).1
 have uE:∀x∈A,x∈st:=fun x hx=>by rw[an];exact gY _ hx
 have yn:∀x∈v::B,x∈st:=fun x hx=>by rw[an];exact jM _ hx
 have BM:∀x∈v::B,f v≤f x:=fun x hx=>by
  rcases eB.1 hx with rfl | hx
  ·exact jL _
  ·have:=Jb x hx;omega
 have aq:∀x∈st,f v≤f x→x∈v::B:=fun x hx hle=>by
  rw[an]at hx
  rcases bV.1 hx with hx | hx
  ·have:=xW x hx;omega
  ·exact hx
 have Nq:∀x∈B,x ∉ w++[v]:=fun x hx hm=>by
  have:=Jb x hx
  rcases bV.1 hm with hm | hm
  ·have:=lU x hm;omega
  ·rw[bB.1 hm]at this;omega
 have I6:∀x∈v::B,∀y∈nx x,y∈v::B∨∃p∈P,y∈p:=fun x hx y hy=>by
  have Aa:f y≠0∧(y∈st→f v≤f y):=by
   rcases eB.1 hx with rfl | B2
   ·rw[← heq];exact cQ y hy
   ·refine⟨(h.fin x (yn x hx) (Nq x B2)).1 y hy,fun kO=>?_⟩
    rw[← heq]
    refine h.BW v B4 x (yn x hx) (Nq x B2) (Jb x B2) (fun u hu _=>?_) y hy kO
    rcases bV.1 hu with hu | hu
    ·have:=lU u hu;omega
    ·rw[bB.1 hu];exact jL _
  obtain⟨q1,q2⟩:=cU x y hy
  rcases (h.x8 y q1 q2).1 Aa.1 with kO | hyp
  ·exact .inl (aq y kO (Aa.2 kO))
  ·exact .inr hyp
 have ag7:∀{x y:Int},Rx nx x y→x∈v::B→y∈v::B∨∃p∈P,y∈p:=by
  intro x y hr hx
  induction hr with
  |refl=>exact .inl hx
  |step _ hc ih=>
   rcases ih with ih | ih
   ·exact I6 _ ih _ hc
   ·exact .inr (h.prt.reach (.one hc) ih)
 have Ek:∀(k:Nat) (x:Int),x∈v::B→(f x-f v).toNat≤k→Rx nx x v:=by
  intro k
  induction k with
  |zero=>
   intro x hx hk
   have:=BM x hx
   rw[Lh h.inc (yn x hx) (yn v (cj ..)) (by omega)]
   exact .refl _
  |succ k ih=>
   intro x hx hk
   rcases eB.1 hx with rfl | B2
   ·exact .refl _
   ·obtain⟨_,y,hy,ab,hr⟩:=h.fin x (yn x hx) (Nq x B2)
    rcases ag7 hr hx with OA | ⟨p,hp,hyp⟩
    ·have:=Jb x B2
     exact hr.trans (ih y OA (by omega))
    ·exact absurd hy (h.Av p hp y hyp)
 have ais:∀x∈v::B,∀y∈v::B,Rx nx x y:=fun x hx y hy=>(Ek _ x hx (a8 _)).trans (h.z6 v B4 y (yn y hy) (BM y hy))
 have gv:∀x,x∈part↔x∈v::B:=fun x=>hp.mem_iff
 have hwA:w.Sublist A:=by
  have h1:(w++[v]).Sublist (A++v::B):=an▸h.sub
  have h2:=h1.filter (fun x=>decide (f x<f v))
  have e1:(w++[v]).filter (fun x=>decide (f x<f v))=w:=by
   rw[List.filter_append,List.filter_eq_self.2 fun x hx=>decide_eq_true (lU x hx),List.filter_cons_of_neg (by simp)]
   simp
  have e2:(A++v::B).filter (fun x=>decide (f x<f v))=A:=by
   rw[An,gv9.2 fun x hx=>aT (xW x hx),List.filter_eq_nil_iff.2 fun x hx=>by
    have:=BM x hx
    rw[decide_eq_true_eq];omega]
   simp
  rw[e1,e2]at h2
  exact h2
 have Wt:(P++[part]).flatten=P.flatten++part:=by rw[List.flatten_append];simp
 refine⟨fun x hx=>h.node x (uE x hx),i1,fun x hx=>h.sR x (uE x hx),fun x h0 h1=>?_,fun p dF x hx hxA=>?_,?_,hwA,fun x hx=>?_,fun a ha x hx=>h.z6 a (gY _ ha) x (uE x hx),fun x hx lZ=>?_,fun a ha=>?_,fun a ha x hx lZ ab jJ y hy kO=>?_,⟨fun p dF=>?_,fun p dF x hx=>?_,?_,fun p dF=>?_,fun p dF x hx y hy=>?_,fun i p hi x hx y hy=>?_⟩⟩
 ·rw[h.x8 x h0 h1,an,bV]
  constructor
  ·rintro ((hx | hx) | ⟨p,dF,hx⟩)
   ·exact .inl hx
   ·exact .inr ⟨part,jM _ (bB.2 rfl),(gv x).2 hx⟩
   ·exact .inr ⟨p,gY _ dF,hx⟩
  ·rintro (hx | ⟨p,dF,hx⟩)
   ·exact .inl (.inl hx)
   ·rcases bV.1 dF with dF | dF
    ·exact .inr ⟨p,dF,hx⟩
    ·rw[bB.1 dF]at hx
     exact .inl (.inr ((gv x).1 hx))
 ·rcases bV.1 dF with dF | dF
  ·exact h.Av p dF x hx (uE x hxA)
  ·rw[bB.1 dF]at hx
   have:=BM x ((gv x).1 hx)
   have:=xW x hxA
   omega
 ·have h1:=h.len
  have h2:=hp.length_eq
  have h3:=congrArg List.length an
  rw[bZ]at h3
  rw[Wt,bZ];omega
 ·obtain⟨a,ha,hle⟩:=h.top x (uE x hx)
  rcases bV.1 ha with ha | ha
  ·exact⟨a,ha,hle⟩
  ·rw[bB.1 ha]at hle
   have:=xW x hx;omega
 ·have B1:x ∉ w++[v]:=fun hm=>by
   rcases bV.1 hm with hm | hm
   ·exact lZ hm
   ·have:=xW x hx
    rw[bB.1 hm]at this;omega
  obtain⟨h1,y,hy,h2,h3⟩:=h.fin x (uE x hx) B1
  refine⟨h1,y,?_,h2,h3⟩
  have:=xW x hx
  rw[an]at hy
  rcases bV.1 hy with hy | hy
  ·exact hy
  ·have:=BM y hy;omega
 ·obtain⟨h1,y,hy,h2,h3⟩:=h.low a (gY _ ha)
  refine⟨h1,y,?_,h2,h3⟩
  have:=lU a ha
  rw[an]at hy
  rcases bV.1 hy with hy | hy
  ·exact hy
  ·have:=BM y hy;omega
 ·have B1:x ∉ w++[v]:=fun hm=>by
   rcases bV.1 hm with hm | hm
   ·exact lZ hm
   ·have:=xW x hx
    rw[bB.1 hm]at this;omega
  refine h.BW a (gY _ ha) x (uE x hx) B1 ab (fun u hu hle=>?_) y hy (uE y kO)
  rcases bV.1 hu with hu | hu
  ·exact jJ u hu hle
  ·rw[bB.1 hu]at hle
   have:=xW x hx;omega
 ·rcases bV.1 dF with dF | dF
  ·exact h.prt.ne p dF
  ·rw[bB.1 dF]
   exact List.ne_nil_of_mem ((gv v).2 (cj ..))
 ·rcases bV.1 dF with dF | dF
  ·exact h.prt.node p dF x hx
  ·rw[bB.1 dF]at hx
   exact h.node x (yn x ((gv x).1 hx))
 ·rw[Wt]
  refine pt.2 ⟨h.prt.nd,hs.imp fun h=>by omega,fun x hx y hy e=>?_⟩
  subst e
  obtain⟨p,dF,r9⟩:=pr.1 hx
  exact h.Av p dF x r9 (yn x ((gv x).1 hy))
 ·rcases bV.1 dF with dF | dF
  ·exact h.prt.BV p dF
  ·rw[bB.1 dF];exact hs
 ·rcases bV.1 dF with dF | dF
  ·exact h.prt.PN p dF x hx y hy
  ·rw[bB.1 dF]at hx hy
   exact ais x ((gv x).1 hx) y ((gv y).1 hy)
 ·by_cases ab:i<P.length
  ·rw[ky ab]at hi
   obtain⟨j,q,h1,h2,h3⟩:=h.prt.KT i p hi x hx y hy
   exact⟨j,q,h1,by rw[ky (by omega)];exact h2,h3⟩
  ·have hip:i=P.length∧p=part:=by
    rw[jb (by omega)]at hi
    by_cases e:i-P.length=0
    ·rw[e]at hi
     exact⟨by omega,(Option.some.inj hi).symm⟩
    ·rw[uN (by rw[tp];omega)]at hi;cases hi
   obtain⟨rfl,rfl⟩:=hip
   rcases I6 x ((gv x).1 hx) y hy with OA | ⟨q,hq,hyq⟩
   ·exact⟨P.length,p,a8 _,by rw[jb (a8 _),qd];rfl,(gv y).2 OA⟩
   ·obtain⟨j,hj⟩:=Ga hq
    have gP:j<P.length:=(ck.1 hj).1
    exact⟨j,q,by omega,by rw[ky gP];exact hj,hyq⟩
theorem TJ.empty(h:TJ n nx f L st aH P []):st=[]:=by
 cases st with
 |nil=>rfl
 |cons x st=>
  obtain⟨v,hv,_⟩:=h.top x (cj ..)
  cases hv
theorem TJ.first{v:Int}(h:TJ n nx f L st aH P [v]):L v=f v:=by
 obtain⟨h1,y,hy,h2,_⟩:=h.low v (bB.2 rfl)
 obtain⟨u,hu,h3⟩:=h.top y hy
 rw[bB.1 hu]at h3
 omega
mutual
def ia(nx:Int→List Int):Nat→Int→List Int→List Int
 | 0,_,_=>[]
 |f+1,a,met=>if a∈met then [] else eQ nx f (nx a) (met++[a])++[a]
def eQ(nx:Int→List Int):Nat→List Int→List Int→List Int
 |_,[],_=>[]
 |f,b::bs,met=>ia nx f b met++eQ nx f bs (met++ia nx f b met)
end
def lD(met:List Int)(n:Nat):Nat:=((List.range n).filter fun a:Nat=>decide ((a:Int) ∉ met)).length
theorem LM{met met2:List Int}{n:Nat}(h:∀x∈met,x∈met2):lD met2 n≤lD met n:=by
 unfold lD
 induction n with
 |zero=>exact a8 _
 |succ n ih=>
  rw[tk,An,An,bZ,bZ]
  refine Nat.add_le_add ih ?_
  rw[CA,CA,gu2]
  by_cases c:(n:Int)∈met
  ·rw[if_neg (by simp[h _ c]),if_neg (by simp[c])];exact Nat.le_refl _
  ·rw[if_pos (show decide ((n:Int) ∉ met)=true by simp[c])];split <;> simp
theorem Uh{met met2:List Int}{n:Nat}{a:Nat}(h:∀x∈met,x∈met2)(ha:a<n)(h1:(a:Int) ∉ met)(h2:(a:Int)∈met2):lD met2 n<lD met n:=by
 induction n with
 |zero=>omega
 |succ n ih=>
  have e:∀m:List Int,lD m (n+1)=lD m n+if (n:Int)∈m then 0 else 1:=fun m=>by
   unfold lD
   rw[tk,An,bZ,CA,gu2]
   by_cases c:(n:Int)∈m <;> simp[c]
  rw[e,e]
  by_cases c:a=n
  ·subst c
   rw[ah h2,ag h1]
   have:=LM (n:=a) h
   omega
  ·have:=ih (by omega)
   by_cases c2:(n:Int)∈met
   ·rw[ah c2,ah (h _ c2)];exact this
   ·rw[ag c2];split <;> omega
theorem adD{met:List Int}{n:Nat}{a:Int}(ha:0≤a∧a<n)(h:a ∉ met):0<lD met n:=by
 unfold lD
 refine Gf (a:=a.toNat) (oe.2 ⟨gy.2 (by omega),?_⟩)
 rw[Int.toNat_of_nonneg ha.1];simp[h]
theorem SE{n:Nat}{nx:Int→List Int}(cU:∀x,∀y∈nx x,0≤y∧y<(n:Int)):∀u,
  (∀(f f2:Nat) (a:Int) (met met2:List Int),0≤a∧a<(n:Int)→lD met n≤u→u≤f→u≤f2→(∀x,x∈met↔x∈met2)→ia nx f a met=ia nx f2 a met2)∧
  (∀(f f2:Nat) (bs:List Int) (met met2:List Int),(∀b∈bs,0≤b∧b<(n:Int))→lD met n≤u→u≤f→u≤f2→(∀x,x∈met↔x∈met2)→eQ nx f bs met=eQ nx f2 bs met2):=by
 intro u
 induction u with
 |zero=>
  have h0:∀(f:Nat) (a:Int) (met:List Int),0≤a∧a<(n:Int)→lD met n≤0→ia nx f a met=[]:=fun f a met ha hu=>by
   have hm:a∈met:=by
    by_cases c:a∈met
    ·exact c
    ·have:=adD ha c;omega
   cases f with
   |zero=>unfold ia;rfl
   |succ f=>unfold ia;rw[ah hm]
  have h1:∀(f:Nat) (bs:List Int) (met:List Int),(∀b∈bs,0≤b∧b<(n:Int))→lD met n≤0→eQ nx f bs met=[]:=by
   intro f bs
   induction bs with
   |nil=>intro met _ _;unfold eQ;rfl
   |cons b bs ih=>
    intro met hb hu
    unfold eQ
    rw[h0 f b met (hb b (cj ..)) hu,ni,ih met (fun c hc=>hb c (dp _ hc)) hu];rfl
  have hs:∀{met met2:List Int},lD met n≤0→(∀x,x∈met↔x∈met2)→lD met2 n≤0:=fun hu hm=>eH (LM fun x hx=>(hm x).1 hx) hu
  exact⟨fun f f2 a met met2 ha hu _ _ hm=>by rw[h0 f a met ha hu,h0 f2 a met2 ha (hs hu hm)],fun f f2 bs met met2 hb hu _ _ hm=>by rw[h1 f bs met hb hu,h1 f2 bs met2 hb (hs hu hm)]⟩
 |succ u ih=>
  have hv:∀(f f2:Nat) (a:Int) (met met2:List Int),0≤a∧a<(n:Int)→lD met n≤u+1→u+1≤f→u+1≤f2→(∀x,x∈met↔x∈met2)→ia nx f a met=ia nx f2 a met2:=fun f f2 a met met2 ha hu hf wF hm=>by
   obtain⟨f,rfl⟩:∃k,f=k+1:=⟨f-1,by omega⟩
   obtain⟨f2,rfl⟩:∃k,f2=k+1:=⟨f2-1,by omega⟩
   unfold ia
   by_cases c:a∈met
   ·rw[ah c,ah ((hm a).1 c)]
   ·rw[ag c,ag fun h=>c ((hm a).2 h)]
    congr 1
    refine ih.2 f f2 (nx a) _ _ (cU a) ?_ (by omega) (by omega) (fun x=>by rw[bV,bV,hm])
    have:=Uh (met:=met) (met2:=met++[a]) (n:=n) (a:=a.toNat) (fun x hx=>List.mem_append_left _ hx) (by omega) (by rw[Int.toNat_of_nonneg ha.1];exact c) (by rw[Int.toNat_of_nonneg ha.1];simp)
    omega
  refine⟨hv,fun f f2 bs=>?_⟩
  induction bs with
  |nil=>intro met met2 _ _ _ _ _;unfold eQ;rfl
  |cons b bs Ow=>
   intro met met2 hb hu hf wF hm
   unfold eQ
   have e:=hv f f2 b met met2 (hb b (cj ..)) hu hf wF hm
   rw[e]
   congr 1
   exact Ow _ _ (fun c hc=>hb c (dp _ hc)) (eH (LM fun x hx=>gY _ hx) hu) hf wF (fun x=>by rw[bV,bV,hm])
theorem Ve(met:List Int)(n:Nat):lD met n≤n:=by
 unfold lD
 exact eH (Gg _ _) (by rw[kS];exact a8 _)
def lR(n:Nat)(nx:Int→List Int):List (Int×Nat)→List Int→List Int
 | [],_=>[]
 |(v,k)::w,seen=>eQ nx n ((nx v).drop k) seen++([v]++lR n nx w (seen++eQ nx n ((nx v).drop k) seen))
theorem Tq{n:Nat}{nx:Int→List Int}(cU:∀x,∀y∈nx x,0≤y∧y<(n:Int)){bs met met2:List Int}(hb:∀b∈bs,0≤b∧b<(n:Int))(hm:∀x,x∈met↔x∈met2):eQ nx n bs met=eQ nx n bs met2:=
 (SE cU n).2 n n bs met met2 hb (Ve _ _) (a8 _) (a8 _) hm
theorem SY{n:Nat}{nx:Int→List Int}(cU:∀x,∀y∈nx x,0≤y∧y<(n:Int)):∀(w:List (Int×Nat)) {seen seen2:List Int},(∀x,x∈seen↔x∈seen2)→lR n nx w seen=lR n nx w seen2
 | [],_,_,_=>rfl
 |(v,k)::w,seen,seen2,h=>by
  have e:=Tq cU (bs:=(nx v).drop k) (fun b hb=>cU v b (List.mem_of_mem_drop hb)) h
  unfold lR
  rw[e,SY cU w (seen:=seen++eQ nx n ((nx v).drop k) seen2) (seen2:=seen2++eQ nx n ((nx v).drop k) seen2) fun x=>by rw[bV,bV,h]]
theorem UP{L:List Int}{k:Nat}(h:k<L.length):L.drop k=L[k]::L.drop (k+1):=KE h
theorem abI{n:Nat}{nx:Int→List Int}{v:Int}{k:Nat}{w:List (Int×Nat)}{seen:List Int}(hk:k<(nx v).length)(hb:(nx v)[k]∈seen):lR n nx ((v,k)::w) seen=lR n nx ((v,k+1)::w) seen:=by
 have e:ia nx n (nx v)[k] seen=[]:=by
  cases n with
  |zero=>unfold ia;rfl
  |succ n=>unfold ia;rw[ah hb]
 have e2:eQ nx n ((nx v).drop k) seen=eQ nx n ((nx v).drop (k+1)) seen:=by
  rw[UP hk]
  conv=>lhs;unfold eQ
  rw[e,ni,uH]
 unfold lR
 rw[e2]
theorem abJ{n:Nat}{nx:Int→List Int}(cU:∀x,∀y∈nx x,0≤y∧y<(n:Int)){v:Int}{k:Nat}{w:List (Int×Nat)}{seen:List Int}(hk:k<(nx v).length)(hb:(nx v)[k] ∉ seen):lR n nx ((v,k)::w) seen=lR n nx (((nx v)[k],0)::(v,k+1)::w) (seen++[(nx v)[k]]):=by
 obtain⟨b,tb⟩:∃b,(nx v)[k]=b:=⟨_,rfl⟩
 have dM:=cU v b (tb▸bP hk)
 rw[tb]at hb ⊢
 obtain⟨m,rfl⟩:∃m,n=m+1:=⟨n-1,by omega⟩
 have hu:lD (seen++[b]) (m+1)≤m:=by
  have:=Uh (met:=seen) (met2:=seen++[b]) (n:=m+1) (a:=b.toNat) (fun x hx=>List.mem_append_left _ hx) (by omega) (by rw[Int.toNat_of_nonneg dM.1];exact hb) (by rw[Int.toNat_of_nonneg dM.1];simp)
  have:=Ve seen (m+1)
  omega
 have e:ia nx (m+1) b seen=eQ nx (m+1) (nx b) (seen++[b])++[b]:=by
  conv=>lhs;unfold ia
  rw[ag hb,(SE cU m).2 m (m+1) (nx b) (seen++[b]) (seen++[b]) (cU b) hu (a8 _) (by omega) fun _=>Iff.rfl]
 have e2:eQ nx (m+1) ((nx v).drop k) seen=(eQ nx (m+1) (nx b) (seen++[b])++[b])++eQ nx (m+1) ((nx v).drop (k+1)) (seen++(eQ nx (m+1) (nx b) (seen++[b])++[b])):=by
  rw[UP hk,tb]
  conv=>lhs;unfold eQ
  rw[e]
 have e3:eQ nx (m+1) ((nx v).drop (k+1)) (seen++(eQ nx (m+1) (nx b) (seen++[b])++[b]))=eQ nx (m+1) ((nx v).drop (k+1)) (seen++[b]++eQ nx (m+1) (nx b) (seen++[b])):=
  Tq cU (fun c hc=>cU v c (List.mem_of_mem_drop hc)) fun x=>by simp only[List.mem_append];exact⟨fun h=>by rcases h with h | h | h <;> simp[h],fun h=>by rcases h with (h | h) | h <;> simp[h]⟩
 have hd:(nx b).drop 0=nx b:=gz
 show eQ nx (m+1) ((nx v).drop k) seen++([v]++lR (m+1) nx w (seen++eQ nx (m+1) ((nx v).drop k) seen))=eQ nx (m+1) ((nx b).drop 0) (seen++[b])++([b]++(eQ nx (m+1) ((nx v).drop (k+1)) (seen++[b]++eQ nx (m+1) ((nx b).drop 0) (seen++[b]))++([v]++lR (m+1) nx w (seen++[b]++eQ nx (m+1) ((nx b).drop 0) (seen++[b])++eQ nx (m+1) ((nx v).drop (k+1)) (seen++[b]++eQ nx (m+1) ((nx b).drop 0) (seen++[b]))))))
 rw[hd,e2,e3]
 generalize eQ nx (m+1) (nx b) (seen++[b])=K
 generalize eQ nx (m+1) ((nx v).drop (k+1)) (seen++[b]++K)=K2
 rw[SY cU w (seen:=seen++(K++[b]++K2)) (seen2:=seen++[b]++K++K2) fun x=>by simp only[List.mem_append];exact⟨fun h=>by rcases h with h | (h | h) | h <;> simp[h],fun h=>by rcases h with ((h | h) | h) | h <;> simp[h]⟩]
 simp only[dU]
theorem adW{n:Nat}{nx:Int→List Int}{v:Int}{k:Nat}{w:List (Int×Nat)}{seen:List Int}(hk:(nx v).length≤k):lR n nx ((v,k)::w) seen=v::lR n nx w seen:=by
 have e:eQ nx n ((nx v).drop k) seen=[]:=by rw[Ge hk];unfold eQ;rfl
 show eQ nx n ((nx v).drop k) seen++([v]++lR n nx w (seen++eQ nx n ((nx v).drop k) seen))=_
 rw[e,ni,uH];rfl
theorem adV{n:Nat}{nx:Int→List Int}{a:Int}{met:List Int}(ha:a ∉ met):ia nx (n+1) a met=lR n nx [(a,0)] (met++[a]):=by
 unfold ia lR lR
 rw[ag ha,gz,ni]
def sD(n:Nat)(nx:Int→List Int)(l:List Int):List Int:=l.foldl (fun out a=>out++ia nx (n+1) a out) []
inductive iN(e:Nat):Nat→AV→Hp→List AV→Prop
 |nil:iN e 0 .ai [] []
 |af (b k:Nat) (cs J:List AV) (h:cs.length=k*e):iN e k (.af b 0 k e) [(b,cs++J)] cs
theorem iN.x9{e k:Nat}{v:AV}{acc:Hp}{cs:List AV}(h:iN e k v acc cs):iN e k (bU v) acc cs:=by
 cases h with
 |nil=>exact .nil
 |af b k cs J h=>exact .af b k cs J h
theorem iN.pos{e k:Nat}{v:AV}{acc:Hp}{cs:List AV}(h:iN e k v acc cs)(h0:0<k):∃b J,v=.af b 0 k e∧acc=[(b,cs++J)]∧cs.length=k*e:=by
 cases h with
 |nil=>omega
 |af b k cs J h=>exact⟨b,J,rfl,rfl,h⟩
theorem yI{i:TI}{K:AV→Hp→Prop}(fr:Hp){acc σ:Hp}{k n:Nat}{v x:AV}{cs new:List AV}(h:iN i.size k v acc cs)(hx:kf (fr++(acc++σ)) i.size x n new)(iz:new.length=n*i.size)(hn:k+n≤1048576)(hb:i.bytes≤1024)(h0:0<i.size)
  (go:∀v' bD,iN i.size (k+n) v' bD (cs++new)→K v' (fr++(bD++σ))):AppendAt i (fr++(acc++σ)) v x K:=by
 cases h with
 |nil=>
  refine .perm _ (eX fr [] σ) (.fresh n new (.inl rfl) (hx.perm (eX fr [] σ)) (by omega) hb h0 (K:=fun v ew=>(n=0∧v=.ai∧ew=[]++(fr++σ))∨(n≠0∧∃b,v=.af b 0 n i.size∧ew=(b,new)::([]++(fr++σ)))) (fun aX b=>.inr ⟨aX,b,rfl,rfl⟩) (fun h0=>.inl ⟨h0,rfl,rfl⟩)) ?_
  rintro v ew (⟨hz,rfl,rfl⟩ | ⟨hz,b,rfl,rfl⟩)
  ·subst hz
   obtain rfl:new=[]:=List.length_eq_zero_iff.1 (by simpa using iz)
   exact⟨_,(eX fr [] σ).symm,.inl (go _ _ .nil)⟩
  ·refine⟨_,(eX fr [(b,new)] σ).symm,.inl (go _ _ ?_)⟩
   have:=iN.af (e:=i.size) b (0+n) new [] (by rw[dR];exact iz)
   rw[ni,dR]at this
   rw[dR]
   exact this
 |af b k cs J hl=>
  refine .perm _ (eX fr [(b,cs++J)] σ) (.more 0 b k n (cs++J) new rfl rfl (by rw[bZ];omega) (hx.perm (eX fr [(b,cs++J)] σ)) hn hb h0 (K:=fun v ew=>∃b',v=.af b' 0 (k+n) i.size∧ew=(b',cs++new)::(fr++σ)) (fun b'=>⟨b',rfl,by rw[KH (by omega),ek (by omega)];rfl⟩)) ?_
  rintro v ew ⟨b',rfl,rfl⟩
  refine⟨_,(eX fr [(b',cs++new)] σ).symm,.inl (go _ _ ?_)⟩
  have:=iN.af (e:=i.size) b' (k+n) (cs++new) [] (by rw[bZ,hl,iz,qc])
  rw[ni]at this
  exact this
theorem nu{i:TI}(hs:i.size=1){l:List Int}(x:Int){a:Int}(h1:0≤a)(h2:a<l.length):kX i (ao l) (0+a.toNat*1) (.int .i64 x)=some (ao (l.set a.toNat x)):=by
 rw[rH hs rfl (by rw[MD];omega),dR,eA]
 unfold ao;rw[oc]
theorem fq{i:TI}(hw:i.wide=false){l:List Int}{a:Int}(h1:0≤a)(h2:a<l.length):ep i (ao l) (0+a.toNat*1)=some (.int .i64 (l.getD a.toNat 0)):=by
 refine jf hw ?_
 unfold ao
 rw[dR,eA,fm,aZ,bh (by omega)];rfl
def dr(N:List (List Int))(bi bl bo n:Nat)(vs:AV)(aH:Nat)(vp:AV):List AV:=[.ae (.slice (.int .i64)) N,.af bi 0 n 1,.af bl 0 n 1,.af bo 0 n 1,vs,.int .i64 aH,vp]
theorem Bk(w bi bl bo n:Nat)(N:List (List Int))(ix lo st:List Int)(on:List Bool)(aH:Nat)(vs vp:AV)(acc:Hp)(a:Int)(σ:Hp)(h0:0≤a)(hn:a<n)(hi:ix.length=n)(hl:lo.length=n)(ho:on.length=n)(hs:iN 1 st.length vs acc (ao st))(df:st.length≤10000)(hc:aH≤10000):
  ACalls Tryz.prog 314 [.ptr w 0,.int .i64 a] ((w,dr N bi bl bo n vs aH vp)::(bi,ao ix)::(bl,ao lo)::(bo,bN on)::(acc++σ))
   (fun r σ'=>r=.agg [.int .i64 a,.int .i64 0]∧∃eL bD,iN 1 (st++[a]).length eL bD (ao (st++[a]))∧σ'=(w,dr N bi bl bo n eL (aH+1) vp)::(bi,ao (ix.set a.toNat ((aH+1:Nat):Int)))::(bl,ao (lo.set a.toNat ((aH+1:Nat):Int)))::(bo,bN (on.set a.toNat true))::(bD++σ)):=by
 have hwr:IntKind.i64.wrap ((aH:Int)+1)=((aH+1:Nat):Int):=by rw[cE (by omega)];omega
 refine ar Tryz.func314 ?_
 intro aB
 refine aa 1 ?_
 refine aj 1 ?_
 refine .sched [] (upto [] 29 0) (by kernel_rfl) ?_
 refine aa 1 ?_
 refine aa 1 ?_
 refine aa 1 ?_
 refine aa 1 ?_
 refine aa 1 ?_
 refine aM ?_
 refine cT 2 rfl (nu rfl _ h0 (by omega)) ?_
 refine aM ?_
 refine cT 3 rfl (nu rfl _ h0 (by omega)) ?_
 refine aM ?_
 refine cT 4 rfl (yU rfl true h0 (by omega)) ?_
 refine aa 1 ?_
 intro aB
 refine yI [_,_,_,_,_,_] hs.x9 (.af 0 aB 0 1 _ rfl (cI rfl)) rfl (by omega) (by decide) (by decide) (fun v' bD h'=>?_)
 obtain⟨bq,J,rfl,rfl,hq⟩:=h'.pos (by omega)
 refine aj 2 ?_
 refine aj 1 ?_
 refine aa 1 ?_
 refine .drop 0 2 (.done ⟨rfl,.af bq 0 (st.length+1) 1,[(bq,(ao st++[.int .i64 a])++J)],?_,?_⟩)
 ·rw[bZ,show ao (st++[a])=ao st++[.int .i64 a] from cW];exact h'
 ·rw[hwr];rfl
end Go.Proofs.YtnikdflhefijbaaGreat
