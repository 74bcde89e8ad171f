import Derived.Test.YtnikdflhefijbaaGreatBn11
import Derived.Test.YtnikdflhefijbaaGreatBn5
import Derived.Test.YtnikdflhefijbaaGreatBn6
import Derived.Test.YtnikdflhefijbaaGreatBn9
import Derived.Test.YtnikdflhefijbaaGreatBn10
namespace Go.Proofs.YtnikdflhefijbaaGreat
open Go.RowKit
set_option maxRecDepth 100000
theorem agP{l:Lay}(h:2≤l.k∧l.k≤64):nK l≠0∧l.k≠0:=by
 unfold nK
 show IntKind.i64.wrap (l.k-1)≠0∧_
 rw[IntKind.wrap_i64]
 omega
theorem Za(l:Lay)(n:Int):rz l n=8∨rz l n=3:=by unfold rz;split;exact .inl rfl;exact .inr rfl
theorem Zb(nx:List Int):kp nx=8∨(kp nx=5∧0<nx.tail.length):=by
 unfold kp;split
 ·exact .inl rfl
 ·exact .inr ⟨rfl,by omega⟩
theorem ZY(s:Sy)(node:Int):uY s node=8∨(uY s node=5∧0<(ar s.n s.aT node).length):=by
 unfold uY;split
 ·exact .inl rfl
 ·exact .inr ⟨rfl,by omega⟩
theorem Yb(l:Lay):rr l=2∨(rr l=1∧2≤l.k):=by
 unfold rr;split
 ·exact .inl rfl
 ·exact .inr ⟨rfl,by omega⟩
theorem YV(l:Lay):uQ l=0∨(uQ l=1∧2≤l.k):=by
 unfold uQ;split
 ·exact .inl rfl
 ·exact .inr ⟨rfl,by omega⟩
theorem Qt{f:FuncId}{xs:List AV}{σ:Hp}{R R':AV→Hp→Prop}(h:ACalls Tryz.prog f xs σ R)(hR:∀r σ',R r σ'→∃(i k b:Nat) (cs:List AV) (e:Sh),σ'[i]?=some (b,cs)∧cs[k]?=some .ai∧R' r (σ'.set i (b,cs.set k (.ae e [])))):ACalls Tryz.prog f xs σ R':=
 ⟨h.1,fun F w vs bN aE=>(h.2 F w vs bN aE).mono fun _ _ ⟨r,v,σ',F',h1,h2,h3,h4,h5⟩=>by
  obtain⟨i,k,b,cs,e,q1,q2,q3⟩:=hR r σ' h5
  exact⟨r,v,_,F',h1,h2,Uo h3 e q1 q2,h4,q3⟩⟩
def oP:WS:=⟨0,0,false,0,.none,0,false,[],[]⟩
theorem afS{s:Sy}{L:Lay}(h:ir s L.k=L)(he:cP s L.k=0):AV.tup [.agg (gR (ir s L.k)),.int .i64 (cP s L.k)]=.tup [.agg (gR L),.int .i64 0]:=by rw[h,he]
theorem ac5(A:Lay):¬(!fD (sB (List.take 4 (List.drop 0 (fL [AV.int .i64 0,AV.int .i64 0,AV.int .i64 0,AV.int .i64 0] 0 (gR A)))) (List.take 4 (List.drop 0 (gR A)))))=true:=by
 show ¬(!fD [decide (A.what=A.what),decide (A.words=A.words),decide (A.n=A.n),decide (A.k=A.k)])=true
 simp[fD]
theorem agu(s:Sy)(L:Lay)(who:Int)(σ:Hp)(hf:Fit s)(he:cP s L.k=0)(hL:ir s L.k=L)(h0:0≤who)(h1:who<L.k):ACalls Tryz.prog 100 [.agg (aV s),.agg (gR L),.int .i64 who] σ (fun r σ'=>∃w,r=.tup [.ptr w 0,.int .i64 0]∧σ'=WB s L who w 0 .ai [] oP++σ):=by
 have hg:ACalls Tryz.prog 100 [.agg (aV s),.agg (gR L),.int .i64 who] σ (fun r σ'=>∃w,r=.tup [.ptr w 0,.int .i64 0]∧σ'=(w,[.int .i64 0,.int .i64 0,.bool false,.int .i64 s.what,.int .i64 s.w,.int .i64 s.n,.ae dC s.aT,.ae (.int .i64) s.entry,.ae (.int .u64) s.init,.ae kn s.T,.int .i64 L.what,.int .i64 L.words,.int .i64 L.n,.int .i64 L.k,.int .i64 who,.int .i64 0,.nilif,.int .i64 0,.bool false,.ai,.ai,.bool true])::σ):=by
  refine au Tryz.func100 ?_
  intro aD
  intro du
  refine aa 1 ?_
  refine aa 0 ?_
  refine az [] (qg (HW s L.k _ hf) (afS hL he)) ?_
  intro rb
  refine aj 0 ?_
  refine aa 0 ?_
  refine aa 1 ?_
  refine .mk (by kernel_rfl) (by kernel_rfl) ?_
  refine cI (fun c4=>?_) (fun c4=>?_)
  ·have c4:(!fD (sB (List.take 4 (List.drop 0 (fL [AV.int IntKind.i64 0,AV.int IntKind.i64 0,AV.int IntKind.i64 0,AV.int IntKind.i64 0] 0 (gR L)))) (List.take 4 (List.drop 0 (gR L)))))=true:=c4
   exact absurd c4 (ac5 L)
  ·have c4:(!fD (sB (List.take 4 (List.drop 0 (fL [AV.int IntKind.i64 0,AV.int IntKind.i64 0,AV.int IntKind.i64 0,AV.int IntKind.i64 0] 0 (gR L)))) (List.take 4 (List.drop 0 (gR L)))))=false:=c4
   refine ak (fun c5=>?_) (fun c5=>?_)
   ·have c5:who<0:=c5
    exact absurd c5 (by omega)
   ·have c5:¬(who<0):=c5
    refine aa 1 ?_
    refine ak (fun c6=>?_) (fun c6=>?_)
    ·have c6:L.k≤who:=c6
     exact absurd c6 (by omega)
    ·refine .sched [1] (upto [1] 8 0) (by kernel_rfl) ?_
     refine aa 2 ?_
     refine aH [] (aaX s _ hf) ?_
     refine aa 1 ?_
     intro bl7
     exact .drop 1 3 (.done ⟨_,rfl,rfl⟩)
 refine Qt (Qt hg (R':=fun r σ'=>∃w,r=.tup [.ptr w 0,.int .i64 0]∧σ'=(w,[.int .i64 0,.int .i64 0,.bool false,.int .i64 s.what,.int .i64 s.w,.int .i64 s.n,.ae dC s.aT,.ae (.int .i64) s.entry,.ae (.int .u64) s.init,.ae kn s.T,.int .i64 L.what,.int .i64 L.words,.int .i64 L.n,.int .i64 L.k,.int .i64 who,.int .i64 0,.nilif,.int .i64 0,.bool false,.ae (.int .i64) ([]:List Int),.ai,.bool true])::σ) ?_) ?_
 ·rintro r σ' ⟨w,rfl,rfl⟩
  exact⟨0,19,w,_,.int .i64,rfl,rfl,w,rfl,rfl⟩
 ·rintro r σ' ⟨w,rfl,rfl⟩
  exact⟨0,20,w,_,.int .u64,rfl,rfl,w,rfl,rfl⟩
def kv:Lay:=⟨1,1,1,1⟩
theorem aiv(p q w r:Nat)(c:AV)(acc:Hp)(s:Sy)(l:Lay)(who:Int)(x:WS)(d:Int)(ws:List Int)(σ:Hp)(hf:Fit s)(hv:aU ws)(ok:ND l x)(rd:zn c acc x.now){x':WS}{ws':List Int}{b:Bool}(an:dE bC s l who x d ws=(x',ws',b)):
  ACalls Tryz.prog 390 [.ptr w 0,kB p,.int .i64 d] (WB s l who w r c acc x++bG p q ws σ) (fun z σ'=>∃r c acc,zn c acc x'.now∧z=.bool b∧σ'=WB s l who w r c acc x'++bG p q ws' σ):=by
 refine (agh (uZ p q) w r c acc s l who x d ws σ hf trivial (fun a=>Hm hv a) ok rd).mono ?_
 rintro z σ' ⟨m',r,c,acc,h1,h2,rfl,rfl⟩
 have h2:m'=(dE bC s l who x d ws).2.1:=h2
 refine⟨r,c,acc,?_,?_,?_⟩
 ·have:=h1
  rw[show dE (uZ p q).O s l who x d ((uZ p q).abs ws)=dE bC s l who x d ws from rfl,an]at this
  exact this
 ·rw[show dE (uZ p q).O s l who x d ((uZ p q).abs ws)=dE bC s l who x d ws from rfl,an]
 ·rw[show dE (uZ p q).O s l who x d ((uZ p q).abs ws)=dE bC s l who x d ws from rfl,h2,an]
  rfl
theorem L0{f:FuncId}{xs ys:List AV}{σ:Hp}{K:AV→Hp→Prop}(j b off len es:Nat)(cs:List AV)(e:Sh)(l:List e.T)(h1:σ[j]?=some (b,cs))(h2:(cs.drop off).take (len*es)=l.flatMap e.cells)(h3:l.length=len∧e.size=es∧0<es)(i k b':Nat)(cs':List AV)(hi:(σ.eraseIdx j)[i]?=some (b',cs'))(hk:cs'[k]?=some (.af b off len es))(h4:eI b off len es e l (.tup xs) (.tup ys))(h:CallAt Tryz.prog f K ys ((σ.eraseIdx j).set i (b',cs'.set k (.ae e l)))):CallAt Tryz.prog f K xs σ:=
 .mk [] K ⟨(yF h).1,fun F w vs bN aE=>by
  obtain⟨an,oE,hh⟩:=vd aE h1 h2 h3
  have hv:=yv an hh h4 (.tuple vs) (.tup _ _ bN.1 bN.2)
  cases hv with
  |tup _ _ hs hr=>
   refine ((yF h).2 _ w vs ⟨hs,hr⟩ (Dc oE hh hi hk)).mono ?_
   rintro e w' ⟨r,v,σ',F',rfl,q1,q2,q3,q4⟩
   exact⟨r,v,σ',F',rfl,an.trans q1,q2,q3,q4⟩⟩ fun _ _ h=>h
theorem G5{f:FuncId}{xs ys:List AV}{σ:Hp}{K:AV→Hp→Prop}(hr:eI 0 0 0 0 .bool [] (.tup xs) (.tup ys))(h:CallAt Tryz.prog f K ys σ):CallAt Tryz.prog f K xs σ:=.mk [] K (Zu hr (yF h)) fun _ _ h=>h
theorem aaq{R:AV→Hp→Prop}{r:AV}(a:Hp){σ:Hp}(h:Fin R r σ):Fin R r (a++σ):=.drop 0 a.length (by rw[List.take_zero,dM,List.drop_left];exact h)
set_option maxHeartbeats 4000000
theorem Sp{ws:List Int}(h:aU ws)(a:Int){x:Int}(hx:bK x):aU (gZ ws a x):=by
 unfold gZ
 split
 ·exact h
 ·intro z hz
  rcases q9 hz with hz | rfl
  ·exact h z hz
  ·exact hx
def fM(what w:Int)(i:Nat)(z:Int):Prop:=bK z∧(if what=3 then bD z=z else z.toNat<2 ^ min 64 (dY w-64*i))
theorem YK(what w:Int)(i:Nat):fM what w i 0:=by
 refine⟨⟨by decide,by decide⟩,?_⟩
 split
 ·rfl
 ·exact Cc _
theorem CD{what w:Int}(h:what=1∨what=2∨what=3){i:Nat}{x y:Int}(hx:fM what w i x)(hy:fM what w i y):fM what w i (dD what x y):=by
 refine⟨TH hx.1 hy.1,?_⟩
 have ux:=hx.1
 have uy:=hy.1
 obtain⟨a,rfl⟩:=mC ux.1
 obtain⟨b,rfl⟩:=mC uy.1
 have ha:a<18446744073709551616:=by have:=ux.2;omega
 have hb:b<18446744073709551616:=by have:=uy.2;omega
 rcases h with rfl | rfl | rfl
 ·have h1:=hx.2
  have h2:=hy.2
  rw[ag (by decide)]at h1 h2 ⊢
  rw[show dD 1 (a:Int) b=bits .or .u64 (a:Int) b from rfl,tp ha hb,bO]
  exact JY h1 h2
 ·have h1:=hx.2
  rw[ag (by decide)]at h1 ⊢
  rw[show dD 2 (a:Int) b=bits .and .u64 (a:Int) b from rfl,rj ha hb,bO]
  exact yg FH h1
 ·rw[ah rfl]
  exact QV _ _
theorem Gu{what w:Int}{a:List Int}(hi:cO what w=true):eH what w a↔((a.length:Int)=eX what w∧∀i,i<a.length→fM what w i (wd a i)):=by
 constructor
 ·intro ⟨hv,jR⟩
  refine⟨tC hv,fun i h=>⟨oc jR i,?_⟩⟩
  by_cases h3:what=3
  ·rw[ah h3]
   exact xg ((jJ hi h3).1 hv).2 h
  ·rw[ag h3]
   have:=(qk hi h3).1 hv
   unfold fA at this
   rw[bL,fI]at this
   simpa using this.2 i (List.mem_range.2 h)
 ·intro ⟨hl,hk⟩
  have jR:aU a:=fun z hz=>by
   obtain⟨i,hi,rfl⟩:=tc.1 hz
   rw[← kQ a hi];exact (hk i hi).1
  refine⟨?_,jR⟩
  by_cases h3:what=3
  ·subst h3
   refine (jJ hi rfl).2 ⟨?_,yM.2 fun z hz=>?_⟩
   ·rw[hl];unfold eX;rw[ah hi,ah rfl]
   ·obtain⟨i,hi,rfl⟩:=tc.1 hz
    have:=(hk i hi).2
    rw[ah rfl,kQ a hi]at this
    exact this
  ·refine (qk hi h3).2 ?_
   have OD:a.length=ej w:=by
    have:eX what w=(ej w:Int):=by unfold eX;rw[ah hi,ag h3]
    omega
   unfold fA
   rw[bL,fI]
   refine⟨by simpa using OD,fun i hi=>?_⟩
   have:=(hk i (gb.1 hi)).2
   rw[ag h3]at this
   simpa using this
structure LS(s:Sy)(l:Lay):Prop where
 fit:Fit s
 jf:Good s
 what:l.what=s.what
 words:l.words=eX s.what s.w
 n:l.n=s.n
 k1:1≤l.k
 k2:l.k≤64
abbrev nN(s:Sy):Nat:=s.n.toNat
abbrev nW(l:Lay):Nat:=cw l.words
theorem LS.nn{s:Sy}{l:Lay}(h:LS s l):s.n=(nN s:Int)∧1≤nN s∧nN s≤256:=by have:=h.jf.n1;have:=h.jf.n2;unfold nN;omega
theorem LS.ww{s:Sy}{l:Lay}(h:LS s l):l.words=(nW l:Int)∧nW l≤1024:=by
 have:=Ao s.what s.w
 have:=h.words
 unfold nW cw;omega
theorem tE{N W v i:Nat}(hv:v<N)(hi:i<W):v*W+i<N*W:=by
 have:(v+1)*W≤N*W:=kg _ hv
 rw[p9]at this
 omega
theorem Ts{W u v i j:Nat}(hi:i<W)(hj:j<W)(h:u*W+i=v*W+j):u=v∧i=j:=by
 have h1:(u*W+i) / W=u:=by rw[B8,Nat.mul_add_div (by omega),Nat.div_eq_of_lt hi,wE]
 have h2:(v*W+j) / W=v:=by rw[B8,Nat.mul_add_div (by omega),Nat.div_eq_of_lt hj,wE]
 have h3:u=v:=by rw[← h1,← h2,h]
 subst h3
 exact⟨rfl,by omega⟩
theorem sy{N W:Nat}(hN:N≤256)(hW:W≤1024):N*W≤262144:=uA hN hW
theorem gg{z:Int}(h0:0≤z)(h1:z<9223372036854775808):wr z=z:=by
 show IntKind.i64.wrap z=z
 rw[IntKind.wrap_i64];omega
section
variable {s:Sy} {l:Lay} (hs:LS s l)
include hs
theorem LS.flags:cT l=((nN s*nW l:Nat):Int):=by
 have h1:=hs.nn
 have h2:=hs.ww
 have:=sy h1.2.2 h2.2
 unfold cT
 rw[hs.n,h1.1,h2.1,← Cb]
 exact gg (by omega) (by omega)
theorem LS.count:cE l=((nN s*nW l+nN s:Nat):Int):=by
 have h1:=hs.nn
 have h2:=hs.ww
 have:=sy h1.2.2 h2.2
 unfold cE
 rw[hs.flags,hs.n,h1.1,uB]
 exact gg (by omega) (by omega)
theorem LS.room:eA l=((nN s+1:Nat):Int)∧rm (eA l)=nN s+1:=by
 have h1:=hs.nn
 have e:eA l=((nN s+1:Nat):Int):=by
  unfold eA
  rw[hs.n,h1.1,uB]
  exact gg (by omega) (by omega)
 refine⟨e,?_⟩
 rw[e];unfold rm;omega
theorem LS.vv{k:Nat}(hk:k≤64):eR l k=((nN s*nW l+nN s+1+k*(nN s+3):Nat):Int):=by
 have h1:=hs.nn
 have h2:=hs.ww
 have h3:=sy h1.2.2 h2.2
 have h4:k*(nN s+3)≤64*259:=uA hk (by omega)
 unfold eR
 rw[hs.count,hs.room.2,show ((k:Int)*((2+(nN s+1):Nat):Int))=((k*(nN s+3):Nat):Int) by rw[Cb];congr 1;omega]
 rw[gg (z:=((k*(nN s+3):Nat):Int)) (by omega) (by omega),gg (z:=((nN s*nW l+nN s:Nat):Int)+1) (by omega) (by omega)]
 rw[show ((nN s*nW l+nN s:Nat):Int)+1+((k*(nN s+3):Nat):Int)=((nN s*nW l+nN s+1+k*(nN s+3):Nat):Int) by omega]
 exact gg (by omega) (by omega)
theorem LS.Wo{v:Nat}(hv:v<nN s):aX l v=((v*nW l:Nat):Int):=by
 have h1:=hs.nn
 have h2:=hs.ww
 have h3:=sy h1.2.2 h2.2
 have h4:v*nW l≤nN s*nW l:=kg _ (by omega)
 unfold aX
 rw[h2.1,← Cb]
 exact gg (by omega) (by omega)
theorem LS.Bm{v i:Nat}(hv:v<nN s)(hi:i<nW l):wr (aX l v+(i:Nat))=((v*nW l+i:Nat):Int):=by
 have h1:=hs.nn
 have h2:=hs.ww
 have h3:=sy h1.2.2 h2.2
 have h4:=tE hv hi
 rw[hs.Wo hv,← uB]
 exact gg (by omega) (by omega)
theorem LS.Bi{v:Nat}(hv:v<nN s):wr (cT l+(v:Nat))=((nN s*nW l+v:Nat):Int):=by
 have h1:=hs.nn
 have h2:=hs.ww
 have h3:=sy h1.2.2 h2.2
 rw[hs.flags,← uB]
 exact gg (by omega) (by omega)
theorem LS.vh:s.what=1∨s.what=2∨s.what=3:=by
 have:=hs.jf.ug
 unfold cO at this
 simp at this
 omega
end
structure MV(s:Sy)(l:Lay)(ws:List Int):Prop where
 a64:aU ws
 cells:∀v i,v<nN s→i<nW l→fM s.what s.w i (ws.getD (v*nW l+i) 0)
theorem jW{ws:List Int}{a b:Nat}{x:Int}:(ws.set a x).getD b 0=if a=b∧b<ws.length then x else ws.getD b 0:=by
 simp only[aW,e9]
 by_cases h:a=b
 ·subst h
  by_cases h2:a<ws.length
  ·simp[h2]
  ·simp[h2]
 ·simp[h]
theorem MV.AB{s:Sy}{l:Lay}{ws:List Int}(h:MV s l ws){a x:Int}(ha:((nN s*nW l:Nat):Int)≤a)(hx:bK x):MV s l (gZ ws a x):=by
 refine⟨Sp h.a64 a hx,fun v i hv hi=>?_⟩
 have:=tE hv hi
 obtain⟨k,rfl⟩:=mC (show 0≤a by omega)
 rw[lD,jW,ag (by omega)]
 exact h.cells v i hv hi
theorem MV.HR{s:Sy}{l:Lay}{ws:List Int}(h:MV s l ws){a o x:Int}(ha:((nN s*nW l:Nat):Int)≤a)(hx:bK x):MV s l (iU ws a o x):=by
 unfold iU;split
 ·exact h.AB ha hx
 ·exact h
theorem MV.Vx{s:Sy}{l:Lay}{ws:List Int}(h:MV s l ws){a x:Int}(ha:((nN s*nW l:Nat):Int)≤a):MV s l (nm ws a x):=by
 unfold nm;split
 ·exact h.AB ha (by unfold bK;omega)
 ·exact h
theorem MV.QD{s:Sy}{l:Lay}{ws:List Int}(h:MV s l ws){u j:Nat}{x:Int}(hj:j<nW l)(hx:fM s.what s.w j x):MV s l (gZ ws ((u*nW l+j:Nat):Int) x):=by
 refine⟨Sp h.a64 _ hx.1,fun v i hv hi=>?_⟩
 rw[lD,jW]
 split
 ·rename_i he
  obtain⟨-,rfl⟩:=Ts hj hi he.1
  exact hx
 ·exact h.cells v i hv hi
theorem MV.acJ{s:Sy}{l:Lay}{ws:List Int}(h:MV s l ws){u j:Nat}{o x:Int}(hj:j<nW l)(hx:fM s.what s.w j x):MV s l (iU ws ((u*nW l+j:Nat):Int) o x):=by
 unfold iU;split
 ·exact h.QD hj hx
 ·exact h
theorem MV.load{s:Sy}{l:Lay}{ws:List Int}(h:MV s l ws){v i:Nat}(hv:v<nN s)(hi:i<nW l):fM s.what s.w i (cN ws ((v*nW l+i:Nat):Int)):=by
 rw[ma];exact h.cells v i hv hi
structure DQ.w4(q:DQ)(m:Nat):Prop where
 at_:q.at_≤m
 b:bK q.b
 t:bK q.t
 n:bK q.n
 x:bK q.x
 en:q.ended=false
def zo(s:Sy)(l:Lay)(who does node:Int)(nx out:List Int):Nw→Prop
 |.none=>False
 |.pop q=>does=0∧q.w4 5∧q.base=eR l who∧q.cap=eA l
 |.cx q=>does=1∧q.w4 3∧(∃v:Nat,(v:Int)<l.k∧q.base=eR l v)∧q.cap=eA l∧q.ok=false
 |.quiet t=>does=2∧t=⟨cT l,cE l,false,false⟩
 |.clear t=>does=3∧t=⟨cT l,cE l,node,false⟩
 |.read y=>does=4∧(y.length<nW l∨(nW l=0∧y=[]))∧∀i,i<y.length→fM s.what s.w i (wd y i)
 |.join j=>does=5∧(j.base=aX l (nx.headD 0)∧j.what=l.what∧j.words=l.words∧j.a=out)∧j.ended=false∧j.at_≤nW l∧bK j.x∧(j.fy=true→j.at_<nW l∧fM s.what s.w j.at_ j.x)
 |.take t=>does=6∧∃jS:Bool,t=⟨cT l,cE l,nx.headD 0,jS,false,jS⟩
 |.push q=>does=7∧q.w4 3∧q.base=eR l who∧q.cap=eA l∧q.ok=false
 |.dW t=>does=8∧t=⟨cT l,cE l,0,false⟩
def kept(l:Lay):Nw→Prop
 |.none | .quiet _ | .clear _ | .dW _=>False
 |.read y=>y.length<nW l
 |.join j=>j.at_<nW l
 |.take t=>t.jS=true
 |_=>True
structure WV(s:Sy)(l:Lay)(who:Int)(x:WS):Prop where
 does:0≤x.does∧x.does≤8
 node:0≤x.node∧x.node<s.n
 nx:∀u∈x.nx,0≤u∧u<s.n
 head:x.does=5∨x.does=6∨x.does=7→0<x.nx.length
 out:x.does=5∨x.does=6∨x.does=7→eH s.what s.w x.out
 BL:x.does=1→2≤l.k
 now:x.now=.none∨(zo s l who x.does x.node x.nx x.out x.now∧kept l x.now)
theorem wv0{s:Sy}{l:Lay}(hs:LS s l)(who:Int):WV s l who oP:=
 ⟨by decide,⟨jD _,hs.jf.n1⟩,fun u hu=>(wG hu).elim,fun h=>absurd h (by decide),fun h=>absurd h (by decide),fun h=>absurd h (by decide),.inl rfl⟩
theorem WV.ok{s:Sy}{l:Lay}(hs:LS s l){who:Int}{x:WS}(h:WV s l who x):ND l x:=by
 refine⟨h.head,fun h1=>agP ⟨h.BL h1,hs.k2⟩,?_⟩
 have hh:=h.head
 rcases h.now with h0 | ⟨h1,h2⟩
 ·rw[h0];trivial
 ·cases hn:x.now with
  |none=>trivial
  |pop q=>rw[hn]at h1;exact⟨h1.2.1.at_,h1.2.1.b.1⟩
  |cx q=>rw[hn]at h1;exact⟨h1.2.1.at_,h1.2.1.t.1⟩
  |quiet q=>trivial
  |clear q=>trivial
  |read y=>
   rw[hn]at h1
   refine⟨h1.2.1,fun z hz=>?_⟩
   obtain⟨i,hi,rfl⟩:=tc.1 hz
   rw[← kQ y hi];exact (h1.2.2 i hi).1
  |join j=>rw[hn]at h1;have:=hs.ww.2;exact⟨by have:=h1.2.2.2.1;omega,hh (.inl h1.1)⟩
  |take t=>rw[hn]at h1;exact hh (.inr (.inl h1.1))
  |push q=>rw[hn]at h1;exact⟨⟨h1.2.1.at_,h1.2.1.b.1⟩,hh (.inr (.inr h1.1))⟩
  |dW t=>trivial
theorem LS.ah8{s:Sy}{l:Lay}(hs:LS s l){k:Nat}(hk:k≤64):((nN s*nW l:Nat):Int)≤eR l k∧((nN s*nW l:Nat):Int)≤eZ (eR l k)∧∀i,((nN s*nW l:Nat):Int)≤lE (eR l k) (eA l) i:=by
 have h1:=hs.nn
 have h2:=hs.ww
 have h3:=sy h1.2.2 h2.2
 have h4:k*(nN s+3)≤64*259:=uA hk (by omega)
 have hd:=hs.vv hk
 refine⟨by omega,?_,fun i=>?_⟩
 ·unfold eZ;rw[hd,gg (by omega) (by omega)];omega
 ·unfold lE
  rw[hs.room.2]
  have hm:=JP i (show ((nN s+1:Nat):Int)≠0 by omega)
  have um:=J0 i (show (0:Int)<((nN s+1:Nat):Int) by omega)
  rw[hd,gg (z:=((nN s*nW l+nN s+1+k*(nN s+3):Nat):Int)+2) (by omega) (by omega),gg (z:=i % _) hm (by omega),gg (by omega) (by omega)]
  omega
theorem Ba(n:Int):bK (wu n):=Di n
section
variable {s:Sy} {l:Lay} {ws ws':List Int} {q q':DQ} {b:Bool}
theorem Z2(hw:MV s l ws)(hq:q.w4 5)(hb:((nN s*nW l:Nat):Int)≤eZ q.base)(h0:((nN s*nW l:Nat):Int)≤q.base)(h:fx bC q ws=(q',ws',b)):MV s l ws'∧ws'.length=ws.length∧q'.base=q.base∧q'.cap=q.cap∧bK q'.n∧(b=false→q'.w4 5):=by
 obtain⟨base,cap,n,ok,ended,at_,bb,t,x⟩:=q
 obtain⟨h1,h2,h3,h4,h5,h6⟩:=hq
 have l1:=fun a=>Hm hw.a64 a
 have s1:=fun {a} {x} (ha:((nN s*nW l:Nat):Int)≤a) (hx:bK x)=>hw.AB ha hx
 have c1:=fun {a} {o} {x} (ha:((nN s*nW l:Nat):Int)≤a) (hx:bK x)=>hw.HR (o:=o) ha hx
 dsimp only at *
 subst h6
 unfold fx at h
 dsimp only at h
 repeat' split at h
 all_goals
  cases h
  refine⟨?_,?_,rfl,rfl,?_,fun hb=>?_⟩
 all_goals first
  |contradiction
  |assumption
  |rfl
  |exact Ac _ _ _
  |exact wP _ _ _ _
  |exact s1 hb h2
  |exact s1 hb (Ba _)
  |exact c1 h0 (Ba _)
  |exact l1 _
  |(dsimp only;split <;> assumption)
  |exact⟨by dsimp only;omega,by first | assumption | exact l1 _ | exact Ba _,by first | assumption | exact l1 _,by first | assumption | exact l1 _,by first | assumption | exact l1 _,rfl⟩
theorem XW(hw:MV s l ws)(hq:q.w4 3)(h0:((nN s*nW l:Nat):Int)≤q.base)(hk:q.ok=false)(h:gJ bC q ws=(q',ws',b)):MV s l ws'∧ws'.length=ws.length∧q'.base=q.base∧q'.cap=q.cap∧bK q'.n∧(b=false→q'.w4 3∧q'.ok=false):=by
 obtain⟨base,cap,n,ok,ended,at_,bb,t,x⟩:=q
 obtain⟨h1,h2,h3,h4,h5,h6⟩:=hq
 have l1:=fun a=>Hm hw.a64 a
 have c1:=fun {a} {o} {x} (ha:((nN s*nW l:Nat):Int)≤a) (hx:bK x)=>hw.HR (o:=o) ha hx
 dsimp only at *
 subst h6;subst hk
 unfold gJ at h
 dsimp only at h
 repeat' split at h
 all_goals
  cases h
  refine⟨?_,?_,rfl,rfl,?_,fun hb=>?_⟩
 all_goals first
  |contradiction
  |assumption
  |rfl
  |exact Ac _ _ _
  |exact wP _ _ _ _
  |exact c1 h0 (Ba _)
  |exact l1 _
  |exact⟨⟨by dsimp only;omega,by first | assumption | exact l1 _,by first | assumption | exact l1 _,by first | assumption | exact l1 _,by first | assumption | exact l1 _,rfl⟩,rfl⟩
theorem YW(hw:MV s l ws)(hq:q.w4 3)(hb:((nN s*nW l:Nat):Int)≤eZ q.base)(hp:∀i,((nN s*nW l:Nat):Int)≤lE q.base q.cap i)(hk:q.ok=false)(h:gx bC q ws=(q',ws',b)):MV s l ws'∧ws'.length=ws.length∧q'.base=q.base∧q'.cap=q.cap∧bK q'.n∧(b=false→q'.w4 3∧q'.ok=false):=by
 obtain⟨base,cap,n,ok,ended,at_,bb,t,x⟩:=q
 obtain⟨h1,h2,h3,h4,h5,h6⟩:=hq
 have l1:=fun a=>Hm hw.a64 a
 have s1:=fun {a} {x} (ha:((nN s*nW l:Nat):Int)≤a) (hx:bK x)=>hw.AB ha hx
 dsimp only at *
 subst h6;subst hk
 unfold gx at h
 dsimp only at h
 repeat' split at h
 all_goals
  cases h
  refine⟨?_,?_,rfl,rfl,?_,fun hb=>?_⟩
 all_goals first
  |contradiction
  |assumption
  |rfl
  |exact Ac _ _ _
  |exact wP _ _ _ _
  |exact s1 hb (Ba _)
  |exact s1 (hp _) h4
  |exact l1 _
  |exact⟨⟨by dsimp only;omega,by first | assumption | exact l1 _,by first | assumption | exact l1 _,by first | assumption | exact l1 _,by first | assumption | exact l1 _,rfl⟩,rfl⟩
end
theorem UZ{y:List Int}{z:Int}{i:Nat}:wd (y++[z]) i=if i<y.length then wd y i else if i=y.length then z else 0:=by
 unfold wd
 rw[List.getElem?_append]
 by_cases h:i<y.length
 ·rw[ah h,ah h]
 ·rw[ag h,ag h]
  by_cases h2:i=y.length
  ·subst h2;simp
  ·rw[ag h2,uF (by show 1≤_;omega)];rfl
theorem YU{s:Sy}{l:Lay}{ws ws':List Int}{y y':List Int}{b:Bool}(hs:LS s l)(hw:MV s l ws){v:Nat}(hv:v<nN s)(hy:y.length<nW l∨(nW l=0∧y=[]))(hk:∀i,i<y.length→fM s.what s.w i (wd y i))(h:mG bC l (aX l v) y ws=(y',ws',b)):ws'=ws∧(∀i,i<y'.length→fM s.what s.w i (wd y' i))∧(b=false→y'.length<nW l)∧(b=true→eH s.what s.w y'):=by
 have Je:=hs.ww
 unfold mG at h
 split at h
 ·rename_i ab
  have ab:y.length<nW l:=ab
  cases h
  have e:∀i,i<(y++[(bC.ld ws (wr (aX l v+(y.length:Nat)))).1]).length→fM s.what s.w i (wd (y++[(bC.ld ws (wr (aX l v+(y.length:Nat)))).1]) i):=fun i hi=>by
   rw[bV]at hi
   have hi:i<y.length+1:=hi
   rw[UZ]
   by_cases h1:i<y.length
   ·rw[ah h1];exact hk i h1
   ·obtain rfl:i=y.length:=by omega
    rw[ag h1,ah rfl]
    show fM _ _ _ (cN ws _)
    rw[hs.Bm hv ab]
    exact hw.load hv ab
  refine⟨rfl,e,fun hb=>?_,fun hb=>?_⟩
  ·have hb:¬y.length+1=nW l:=qd hb
   rw[bV];show y.length+1<_;omega
  ·have hb:y.length+1=nW l:=fv hb
   refine (Gu hs.jf.ug).2 ⟨?_,e⟩
   rw[← hs.words,Je.1,bV];show ((y.length+1:Nat):Int)=_;omega
 ·rename_i ab
  obtain⟨h1,h2⟩:=Prod.mk.inj h
  obtain⟨h2,h3⟩:=Prod.mk.inj h2
  subst h1;subst h2;subst h3
  have h0:nW l=0∧y=[]:=by
   rcases hy with h | h
   ·exact absurd h ab
   ·exact h
  refine⟨rfl,hk,fun hb=>(by cases hb),fun _=>?_⟩
  refine (Gu hs.jf.ug).2 ⟨?_,hk⟩
  rw[← hs.words,Je.1,h0.1,h0.2];rfl
theorem Y5{s:Sy}{l:Lay}{ws ws':List Int}{j j':Jn}{b:Bool}(hs:LS s l)(hw:MV s l ws){u:Nat}(hu:u<nN s)(ze:j.base=aX l u)(agR:j.what=l.what)(afV:j.words=l.words)(ha:eH s.what s.w j.a)(k9:j.ended=false)(dV:j.at_≤nW l)(hx:bK j.x)(hl:j.fy=true→j.at_<nW l∧fM s.what s.w j.at_ j.x)(h:iq bC j ws=(j',ws',b)):
  MV s l ws'∧ws'.length=ws.length∧(j'.base=j.base∧j'.what=j.what∧j'.words=j.words∧j'.a=j.a)∧(b=false→j'.ended=false∧j'.at_<nW l∧bK j'.x∧(j'.fy=true→fM s.what s.w j'.at_ j'.x)):=by
 obtain⟨base,what,words,a,changed,ended,tries,at_,fy,x⟩:=j
 dsimp only at *
 subst ze;subst k9;subst agR;subst afV
 have Je:=hs.ww
 have sS:∀i,i<nW l→fM s.what s.w i (wd a i):=fun i hi=>by
  have:=(Gu hs.jf.ug).1 ha
  refine this.2 i ?_
  have h2:=this.1
  rw[← hs.words,Je.1]at h2
  omega
 unfold iq at h
 dsimp only at h
 split at h
 ·contradiction
 split at h
 ·cases h
  exact⟨hw,rfl,⟨rfl,rfl,rfl,rfl⟩,fun hb=>by cases hb⟩
 rename_i NR
 have ab:at_<nW l:=by have:¬at_=nW l:=NR;omega
 have hA:=hs.Bm hu ab
 have BX:fM s.what s.w at_ (cN ws (wr (aX l u+(at_:Nat)))):=by rw[hA];exact hw.load hu ab
 rw[hs.what]at h
 split at h
 ·rename_i ai7
  have ie:=(hl ai7).2
  have xU:=CD hs.vh ie (sS at_ ab)
  have hM:∀o,MV s l (iU ws (wr (aX l u+(at_:Nat))) o (dD s.what x (wd a at_))):=fun o=>by rw[hA];exact hw.acJ ab xU
  split at h
  ·unfold gO at h
   dsimp only at h
   split at h
   ·rename_i hn
    cases h
    exact⟨hM _,wP _ _ _ _,⟨rfl,hs.what.symm,rfl,rfl⟩,fun _=>⟨rfl,hn,hx,fun hc=>by cases hc⟩⟩
   ·cases h
    exact⟨hM _,wP _ _ _ _,⟨rfl,hs.what.symm,rfl,rfl⟩,fun hb=>by cases hb⟩
  ·cases h
   exact⟨hM _,wP _ _ _ _,⟨rfl,hs.what.symm,rfl,rfl⟩,fun _=>⟨rfl,ab,hx,fun hc=>by cases hc⟩⟩
 ·split at h
  ·unfold gO at h
   dsimp only at h
   split at h
   ·rename_i hn
    cases h
    exact⟨hw,rfl,⟨rfl,hs.what.symm,rfl,rfl⟩,fun _=>⟨rfl,hn,BX.1,fun hc=>absurd hc (by assumption)⟩⟩
   ·cases h
    exact⟨hw,rfl,⟨rfl,hs.what.symm,rfl,rfl⟩,fun hb=>by cases hb⟩
  ·cases h
   exact⟨hw,rfl,⟨rfl,hs.what.symm,rfl,rfl⟩,fun _=>⟨rfl,ab,BX.1,fun _=>BX⟩⟩
def W8(s:Sy)(does:Int):Nw→Prop
 |.none=>False
 |.pop q=>bK q.n
 |.cx q=>bK q.n
 |.read y=>eH s.what s.w y
 |.join _=>does=5
 |.take _=>does=6
 |.push _=>does=7
 |_=>True
theorem Mr{nx:List Int}{n:Int}(h:∀u∈nx,0≤u∧u<n)(h0:0<nx.length):∃u:Nat,nx.headD 0=u∧(u:Int)<n:=by
 cases nx with
 |nil=>cases h0
 |cons u r=>
  have:=h u (bU ..)
  exact⟨u.toNat,by show u=_;omega,by omega⟩
theorem aa2{s:Sy}{l:Lay}{ws ws':List Int}{who does node:Int}{nx out:List Int}{n n':Nw}{b:Bool}(hs:LS s l)(hw:MV s l ws)(rR:0≤who∧who<l.k)(qx:0≤node∧node<s.n)(dc:∀u∈nx,0≤u∧u<s.n)(hh:does=5∨does=6∨does=7→0<nx.length)(ho:does=5∨does=6∨does=7→eH s.what s.w out)
  (hb:zo s l who does node nx out n) (h:gi bC l node n ws=(n',ws',b)):MV s l ws'∧ws'.length=ws.length∧(b=false→zo s l who does node nx out n'∧kept l n')∧(b=true→W8 s does n'):=by
 have ec:=hs.k2
 have hd:∀k:Nat,(k:Int)<l.k→((nN s*nW l:Nat):Int)≤eR l k∧((nN s*nW l:Nat):Int)≤eZ (eR l k)∧∀i,((nN s*nW l:Nat):Int)≤lE (eR l k) (eA l) i:=fun k hk=>hs.ah8 (by omega)
 obtain⟨me,rfl⟩:=mC rR.1
 obtain⟨v,rfl⟩:=mC qx.1
 have hv:v<nN s:=by have:=hs.nn;omega
 have Jr:=hd me rR.2
 cases n with
 |none=>exact hb.elim
 |pop q=>
  obtain⟨q',a',b',an⟩:∃q' a' b',fx bC q ws=(q',a',b'):=⟨_,_,_,rfl⟩
  rw[u0 an]at h
  cases h
  obtain⟨h1,h2,h3,h4⟩:=hb
  obtain⟨k1,k2,k3,k4,k5,k6⟩:=Z2 hw h2 (by rw[h3];exact Jr.2.1) (by rw[h3];exact Jr.1) an
  exact⟨k1,k2,fun hb=>⟨⟨h1,k6 hb,k3.trans h3,k4.trans h4⟩,trivial⟩,fun _=>k5⟩
 |cx q=>
  obtain⟨q',a',b',an⟩:∃q' a' b',gJ bC q ws=(q',a',b'):=⟨_,_,_,rfl⟩
  rw[uN an]at h
  cases h
  obtain⟨h1,h2,⟨k,hk,h3⟩,h4,h5⟩:=hb
  obtain⟨k1,k2,k3,k4,k5,k6⟩:=XW hw h2 (by rw[h3];exact (hd k hk).1) h5 an
  exact⟨k1,k2,fun hb=>⟨⟨h1,(k6 hb).1,⟨k,hk,k3.trans h3⟩,k4.trans h4,(k6 hb).2⟩,trivial⟩,fun _=>k5⟩
 |quiet t=>
  obtain⟨h1,rfl⟩:=hb
  cases h
  exact⟨hw,rfl,fun hb=>(by cases hb),fun _=>trivial⟩
 |clear t=>
  obtain⟨h1,rfl⟩:=hb
  cases h
  refine⟨?_,?_,fun hb=>(by cases hb),fun _=>trivial⟩
  ·show MV s l (if 0≤(v:Int) then gZ ws (wr (cT l+(v:Nat))) 0 else ws)
   rw[ah (by omega),hs.Bi hv]
   exact hw.AB (by omega) (by unfold bK;omega)
  ·show (if 0≤(v:Int) then gZ ws (wr (cT l+(v:Nat))) 0 else ws).length=_
   rw[ah (by omega)];exact Ac _ _ _
 |read y=>
  obtain⟨y',a',b',an⟩:∃y' a' b',mG bC l (aX l v) y ws=(y',a',b'):=⟨_,_,_,rfl⟩
  rw[yN an]at h
  cases h
  obtain⟨h1,h2,h3⟩:=hb
  obtain⟨rfl,k2,k3,k4⟩:=YU hs hw hv h2 h3 an
  exact⟨hw,rfl,fun hb=>⟨⟨h1,.inl (k3 hb),k2⟩,k3 hb⟩,fun hb=>k4 hb⟩
 |join j=>
  obtain⟨j',a',b',an⟩:∃j' a' b',iq bC j ws=(j',a',b'):=⟨_,_,_,rfl⟩
  rw[uU an]at h
  cases h
  obtain⟨h1,⟨h2,h3,h4,h5⟩,h6,h7,h8,h9⟩:=hb
  obtain⟨u,hu,fq⟩:=Mr dc (hh (.inl h1))
  obtain⟨k1,k2,⟨k3,k4,k5,k6⟩,k7⟩:=Y5 hs hw (u:=u) (by have:=hs.nn;omega) (by rw[h2,hu]) h3 h4 (by rw[h5];exact ho (.inl h1)) h6 h7 h8 h9 an
  refine⟨k1,k2,fun hb=>?_,fun _=>h1⟩
  obtain⟨m1,m2,m3,m4⟩:=k7 hb
  exact⟨⟨h1,⟨k3.trans h2,k4.trans h3,k5.trans h4,k6.trans h5⟩,m1,Nat.le_of_lt m2,m3,fun hc=>⟨m2,m4 hc⟩⟩,m2⟩
 |take t=>
  obtain⟨h1,jS,rfl⟩:=hb
  obtain⟨u,hu,fq⟩:=Mr dc (hh (.inr (.inl h1)))
  have hu2:u<nN s:=by have:=hs.nn;omega
  rw[hu]at h
  have gL:((nN s*nW l:Nat):Int)≤wr (cT l+(u:Nat)):=by rw[hs.Bi hu2];omega
  have ON:((nN s*nW l:Nat):Int)≤cE l:=by rw[hs.count];omega
  cases jS with
  |true=>
   cases h
   exact⟨hw.Vx ON,PW _ _ _,fun hb=>(by cases hb),fun _=>h1⟩
  |false=>
   obtain⟨t',a',b',an⟩:∃t' a' b',kR bC ⟨cT l,cE l,(u:Nat),false,false,false⟩ ws=(t',a',b'):=⟨_,_,_,rfl⟩
   rw[uT an]at h
   cases h
   unfold kR at an
   dsimp only at an
   rw[ag (by decide),ag (by decide),ah (by omega)]at an
   split at an
   ·cases an
    exact⟨hw.HR gL (by unfold bK;omega),wP _ _ _ _,fun _=>⟨⟨h1,true,by rw[hu]⟩,rfl⟩,fun hb=>(by cases hb)⟩
   ·cases an
    exact⟨hw.HR gL (by unfold bK;omega),wP _ _ _ _,fun hb=>(by cases hb),fun _=>h1⟩
 |push q=>
  obtain⟨q',a',b',an⟩:∃q' a' b',gx bC q ws=(q',a',b'):=⟨_,_,_,rfl⟩
  rw[Ds an]at h
  cases h
  obtain⟨h1,h2,h3,h4,h5⟩:=hb
  obtain⟨k1,k2,k3,k4,k5,k6⟩:=YW hw h2 (by rw[h3];exact Jr.2.1) (by rw[h3,h4];exact Jr.2.2) h5 an
  exact⟨k1,k2,fun hb=>⟨⟨h1,(k6 hb).1,k3.trans h3,k4.trans h4,(k6 hb).2⟩,trivial⟩,fun _=>h1⟩
 |dW t=>
  obtain⟨h1,rfl⟩:=hb
  cases h
  have ON:((nN s*nW l:Nat):Int)≤cE l:=by rw[hs.count];omega
  exact⟨hw.Vx ON,PW _ _ _,fun hb=>(by cases hb),fun _=>trivial⟩
theorem Ay:bK 0:=by unfold bK;omega
theorem MP(base cap n:Int)(m:Nat)(h:bK n):(uG base cap n).w4 m:=⟨bE _,Ay,Ay,h,Ay,rfl⟩
theorem adA{d n:Int}(hn:0<n): -n<d.tmod n∧d.tmod n<n:=⟨by have:=J3 (-d) hn;rw[Int.neg_tmod]at this;omega,J3 _ hn⟩
theorem Rj{s:Sy}{l:Lay}(hs:LS s l){who:Int}(rR:0≤who∧who<l.k)(h2:2≤l.k)(d:Int):∃v:Nat,Dj l who d=v∧(v:Int)<l.k:=by
 have ec:=hs.k2
 have hnk:nK l=l.k-1:=gg (by omega) (by omega)
 have h1:=adA (d:=d) (n:=l.k-1) (by omega)
 unfold Dj
 rw[hnk]
 generalize d.tmod (l.k-1)=a at h1
 rw[gg (z:=a+(l.k-1)) (by omega) (by omega),gg (z:=who+1) (by omega) (by omega)]
 have h3:0≤(a+(l.k-1)).tmod (l.k-1):=Int.tmod_nonneg _ (by omega)
 have h4:=J3 (a+(l.k-1)) (show 0<l.k-1 by omega)
 generalize (a+(l.k-1)).tmod (l.k-1)=c at h3 h4
 rw[gg (by omega) (by omega)]
 have h5:0≤(who+1+c).tmod l.k:=Int.tmod_nonneg _ (by omega)
 have h6:=J3 (who+1+c) (show 0<l.k by omega)
 exact⟨_,(lB h5).symm,by omega⟩
theorem Um{s:Sy}{l:Lay}{who:Int}{x:WS}{d:Int}(hs:LS s l)(rR:0≤who∧who<l.k)(h:WV s l who x):zo s l who x.does x.node x.nx x.out (km l who x d):=by
 have hd:=h.does
 have hw:=hs.ww
 rcases h.now with h0 | h0
 ·unfold km
  rw[h0]
  show zo s l who x.does x.node x.nx x.out (iK l who x.does x.node x.nx x.out d)
  unfold iK
  repeat' split
  ·exact⟨by assumption,MP _ _ _ _ (by unfold bK;omega),rfl,rfl⟩
  ·rename_i h1
   obtain⟨v,hv,hvk⟩:=Rj hs rR (h.BL h1) d
   exact⟨h1,MP _ _ _ _ (by unfold bK;omega),⟨v,hvk,by rw[← hv];rfl⟩,rfl,rfl⟩
  ·exact⟨by assumption,rfl⟩
  ·exact⟨by assumption,rfl⟩
  ·refine⟨by assumption,?_,fun i hi=>absurd hi (nV _)⟩
   rcases uD (nW l) with h | h
   ·exact .inr ⟨h,rfl⟩
   ·exact .inl h
  ·exact⟨by assumption,⟨rfl,rfl,rfl,rfl⟩,rfl,bE _,Ay,fun hc=>by cases hc⟩
  ·exact⟨by assumption,false,rfl⟩
  ·exact⟨by assumption,MP _ _ _ _ (Ba _),rfl,rfl,rfl⟩
  ·exact⟨by omega,rfl⟩
 ·unfold km
  split
  ·rename_i hn;rw[hn]at h0;exact h0.1.elim
  ·exact h0.1
theorem Vj{s:Sy}{l:Lay}(hs:LS s l){n:Int}(h:bK n):0≤pr l n∧pr l n<s.n:=by
 have hn:=hs.nn
 have e:wu l.n=s.n:=by
  show IntKind.u64.wrap l.n=_
  rw[IntKind.wrap_u64,hs.n];omega
 unfold pr
 rw[e]
 split
 ·omega
 ·rw[gg h.1 (by omega)]
  exact⟨h.1,by omega⟩
theorem qs{s:Sy}{l:Lay}{who:Int}{x:WS}(h0:x.now=.none)(h1:0≤x.does∧x.does≤8)(h2:0≤x.node∧x.node<s.n)(h3:∀u∈x.nx,0≤u∧u<s.n)(h4:x.does=5∨x.does=6∨x.does=7→0<x.nx.length∧eH s.what s.w x.out)(h5:x.does=1→2≤l.k):WV s l who x:=
 ⟨h1,h2,h3,fun h=>(h4 h).1,fun h=>(h4 h).2,h5,.inl h0⟩
theorem ag8{s:Sy}{l:Lay}{who:Int}{x:WS}{n:Nw}(hs:LS s l)(h:WV s l who x)(he:W8 s x.does n):WV s l who (eB s l x n):=by
 have g:=fun n=>Za l n
 have f:=Zb x.nx
 have r:=ZY s x.node
 have no:=Yb l
 have qu:=YV l
 have wg:∀u∈x.nx.tail,0≤u∧u<s.n:=fun u hu=>h.nx u (List.mem_of_mem_tail hu)
 cases n with
 |none=>exact he.elim
 |pop q=>
  have g:=g q.n
  by_cases hq:q.ok=true
  ·rw[show eB s l x (.pop q)=⟨x.ev,x.jo,x.en,rz l q.n,.none,pr l q.n,true,x.nx,x.out⟩ from ah hq]
   exact qs rfl (by dsimp only;omega) (Vj hs he) h.nx (fun h=>by dsimp only at h;omega) (fun h=>by dsimp only at h;omega)
  ·rw[show eB s l x (.pop q)=⟨x.ev,x.jo,x.en,rr l,.none,x.node,x.has,x.nx,x.out⟩ from ag hq]
   exact qs rfl (by dsimp only;omega) h.node h.nx (fun h=>by dsimp only at h;omega) (fun h=>by dsimp only at h;omega)
 |cx q=>
  have g:=g q.n
  by_cases hq:q.ok=true
  ·rw[show eB s l x (.cx q)=⟨x.ev,x.jo,x.en,rz l q.n,.none,pr l q.n,true,x.nx,x.out⟩ from ah hq]
   exact qs rfl (by dsimp only;omega) (Vj hs he) h.nx (fun h=>by dsimp only at h;omega) (fun h=>by dsimp only at h;omega)
  ·rw[show eB s l x (.cx q)=⟨x.ev,x.jo,x.en,2,.none,x.node,x.has,x.nx,x.out⟩ from ag hq]
   exact qs rfl (by dsimp only;omega) h.node h.nx (fun h=>by dsimp only at h;omega) (fun h=>by dsimp only at h;omega)
 |quiet q=>exact qs rfl (by dsimp only[eB];omega) h.node h.nx (fun h=>by dsimp only[eB]at h;omega) (fun h=>by dsimp only[eB]at h;omega)
 |clear q=>exact qs rfl (by dsimp only[eB];omega) h.node h.nx (fun h=>by dsimp only[eB]at h;omega) (fun h=>by dsimp only[eB]at h;omega)
 |read y=>
  obtain⟨v,hv⟩:=mC h.node.1
  have dy:=h.node.2
  have hE:pM s x.node y=0:=SI ((GC (Au hs.jf) h.node).symm) he.v
  have hV:eH s.what s.w (rY (pM s x.node y) (ia s y x.node.toNat)):=by
   rw[hE,show rY 0 (ia s y x.node.toNat)=ia s y x.node.toNat from rfl]
   have:=Hh hs.fit hs.jf he.dx he.v (v:=x.node.toNat) (by omega)
   exact⟨this.1,this.2⟩
  exact qs rfl (by dsimp only[eB];omega) h.node (fun u hu=>(mb.1 hu).1) (fun h=>⟨by dsimp only[eB]at h ⊢;omega,hV⟩) (fun h=>by dsimp only[eB]at h;omega)
 |join q=>
  have hh:=h.head (.inl he)
  have ho:=h.out (.inl he)
  by_cases hq:q.changed=true
  ·rw[show eB s l x (.join q)=⟨x.ev,wr (x.jo+1),x.en,6,.none,x.node,x.has,x.nx,x.out⟩ from ah hq]
   exact qs rfl (by dsimp only;omega) h.node h.nx (fun _=>⟨hh,ho⟩) (fun h=>by dsimp only at h;omega)
  ·rw[show eB s l x (.join q)=⟨x.ev,x.jo,x.en,kp x.nx,.none,x.node,x.has,x.nx.tail,x.out⟩ from ag hq]
   exact qs rfl (by dsimp only;omega) h.node wg (fun h=>⟨by dsimp only at h ⊢;omega,ho⟩) (fun h=>by dsimp only at h;omega)
 |take q=>
  have hh:=h.head (.inr (.inl he))
  have ho:=h.out (.inr (.inl he))
  by_cases hq:q.new=true
  ·rw[show eB s l x (.take q)=⟨x.ev,x.jo,x.en,7,.none,x.node,x.has,x.nx,x.out⟩ from ah hq]
   exact qs rfl (by dsimp only;omega) h.node h.nx (fun _=>⟨hh,ho⟩) (fun h=>by dsimp only at h;omega)
  ·rw[show eB s l x (.take q)=⟨x.ev,x.jo,x.en,kp x.nx,.none,x.node,x.has,x.nx.tail,x.out⟩ from ag hq]
   exact qs rfl (by dsimp only;omega) h.node wg (fun h=>⟨by dsimp only at h ⊢;omega,ho⟩) (fun h=>by dsimp only at h;omega)
 |push q=>
  have ho:=h.out (.inr (.inr he))
  exact qs rfl (by dsimp only[eB];omega) h.node wg (fun h=>⟨by dsimp only[eB]at h ⊢;omega,ho⟩) (fun h=>by dsimp only[eB]at h;omega)
 |dW q=>exact qs rfl (by dsimp only[eB];omega) h.node h.nx (fun h=>by dsimp only[eB]at h;omega) (fun h=>by dsimp only[eB]at h;omega)
theorem ads{s:Sy}{l:Lay}{who:Int}{x:WS}{d:Int}{ws:List Int}(hs:LS s l)(rR:0≤who∧who<l.k)(hw:MV s l ws)(h:WV s l who x):MV s l (dE bC s l who x d ws).2.1∧(dE bC s l who x d ws).2.1.length=ws.length∧WV s l who (dE bC s l who x d ws).1:=by
 obtain⟨n',ws',b,an⟩:∃n' ws' b,gi bC l x.node (km l who x d) ws=(n',ws',b):=⟨_,_,_,rfl⟩
 obtain⟨k1,k2,k3,k4⟩:=aa2 hs hw rR h.node h.nx h.head h.out (Um hs rR h (d:=d)) an
 unfold dE
 rw[an]
 dsimp only
 split
 ·exact⟨hw,rfl,h⟩
 ·split
  ·rename_i hb
   exact⟨k1,k2,ag8 hs h (k4 hb)⟩
  ·rename_i hb
   exact⟨k1,k2,h.does,h.node,h.nx,h.head,h.out,h.BL,.inr (k3 (by simpa using hb))⟩
set_option maxHeartbeats 4000000
theorem afB{l:Lay}{base:Int}{y ws:List Int}(h:y.length<cw l.words){x:Int}(hx:cN ws (wr (base+(y.length:Nat)))=x):mG bC l base y ws=(y++[x],ws,decide (y.length+1=cw l.words)):=by
 subst hx
 exact ah h
theorem acL{s:Sy}{l:Lay}{x:WS}{y:List Int}(h:pM s x.node y=0):eB s l x (.read y)=⟨wr (x.ev+1),x.jo,x.en,uY s x.node,.none,x.node,x.has,ar s.n s.aT x.node,ia s y x.node.toNat⟩:=by
 show (⟨wr (x.ev+1),x.jo,x.en,uY s x.node,.none,x.node,x.has,ar s.n s.aT x.node,rY (pM s x.node y) (ia s y x.node.toNat)⟩:WS)=_
 rw[h];rfl
set_option maxHeartbeats 4000000
theorem ab7{s:Sy}{l:Lay}{who:Int}{x:WS}{d:Int}{ws:List Int}(he:x.en=false):(dE bC s l who x d ws).2.2=(dE bC s l who x d ws).1.en:=by
 unfold dE
 rw[ag (by rw[he];decide)]
 split
 ·rfl
 ·exact he.symm
theorem LH{s:Sy}{k:Int}(h:cP s k=0):cb s=0∧1≤k∧k≤64:=by
 unfold cP at h
 split at h
 ·split at h
  ·exact⟨by assumption,by assumption⟩
  ·cases h
 ·exact absurd h (by assumption)
theorem DX{s:Sy}{k:Int}(hf:Fit s)(h:cP s k=0):LS s (ir s k)∧(ir s k).k=k:=by
 obtain⟨h1,h2⟩:=LH h
 have e:∀z,qO (cP s k) z=z:=fun z=>ah h
 exact⟨⟨hf,xl h1,e _,e _,e _,by rw[show (ir s k).k=k from e _];exact h2.1,by rw[show (ir s k).k=k from e _];exact h2.2⟩,e _⟩
def nG(l:Lay):Nat:=(eR l l.k).toNat
section
variable {s:Sy} {l:Lay} (hs:LS s l)
include hs
theorem LS.kk:∃k:Nat,l.k=k∧1≤k∧k≤64:=⟨l.k.toNat,by have:=hs.k1;have:=hs.k2;omega⟩
theorem LS.size:eR l l.k=(nG l:Int)∧nG l≤1000000∧rT (eR l l.k)=nG l:=by
 obtain⟨k,hk,lV,ec⟩:=hs.kk
 have hd:=hs.vv ec
 have h1:=hs.nn
 have h2:=hs.ww
 have h3:=sy h1.2.2 h2.2
 have h4:k*(nN s+3)≤64*259:=uA ec (by omega)
 unfold nG rT
 rw[hk,hd]
 omega
theorem LS.low:nN s*nW l+nN s<nG l:=by
 obtain⟨m,hm,OB,um⟩:=hs.kk
 have nS:=hs.vv um
 unfold nG
 rw[hm,nS]
 omega
end
theorem MV.afu{s:Sy}{l:Lay}{ws:List Int}(h:MV s l ws){a:Nat}{x:Int}(ha:nN s*nW l≤a)(hx:bK x):MV s l (ws.set a x):=by
 rw[← lD]
 exact h.AB (by omega) hx
theorem MV.abq{s:Sy}{l:Lay}{ws:List Int}(h:MV s l ws){u j:Nat}{x:Int}(hj:j<nW l)(hx:fM s.what s.w j x):MV s l (ws.set (u*nW l+j) x):=by
 rw[← lD]
 exact h.QD hj hx
theorem aee(s:Sy)(l:Lay)(n:Nat):MV s l (List.replicate n 0):=⟨fun z hz=>by rw[Cr hz];exact Ay,fun v i _ _=>by
 have:(List.replicate n (0:Int)).getD (v*nW l+i) 0=0:=by
  rw[aW,wM];split <;> rfl
 rw[this];exact YK _ _ _⟩
def pT(s:Sy)(l:Lay)(ws:List Int):Prop:=ws.length=nG l∧MV s l ws
theorem pT.hi{s:Sy}{l:Lay}{ws:List Int}(h:pT s l ws){a:Nat}{x:Int}(ha:nN s*nW l≤a)(hx:bK x):pT s l (ws.set a x):=⟨by rw[cM];exact h.1,h.2.afu ha hx⟩
theorem Lx:∀{l m:List Int},l.Nodup→(∀x∈l,x∈m)→l.length≤m.length
 | [],_,_,_=>bE _
 |a::l,m,hd,h=>by
  have hd:=lY.1 hd
  have ha:=h a (bU ..)
  have h1:=Lx (l:=l) (m:=m.erase a) hd.2 fun x hx=>(J7 (fun e:x=a=>hd.1 (by rw[← e];exact hx))).2 (h x (cQ _ hx))
  rw[List.length_erase_of_mem ha]at h1
  have:=Cs ha
  rw[gq];omega
inductive Rx(nx:Int→List Int):Int→Int→Prop where
 |refl (a:Int):Rx nx a a
 |step {a b c:Int} (h:Rx nx a b) (hc:c∈nx b):Rx nx a c
theorem Rx.trans{nx:Int→List Int}{a b c:Int}(h1:Rx nx a b)(h2:Rx nx b c):Rx nx a c:=by
 induction h2 with
 |refl=>exact h1
 |step _ hc ih=>exact .step ih hc
theorem Rx.one{nx:Int→List Int}{a b:Int}(h:b∈nx a):Rx nx a b:=.step (.refl a) h
def pJ(f:Int→Int)(a v:Int):Int→Int:=fun y=>if y=a then v else f y
theorem ql{f:Int→Int}{a v y:Int}(h:y≠a):pJ f a v y=f y:=ag h
theorem qm{f:Int→Int}{a v:Int}:pJ f a v a=v:=ah rfl
structure rh(n:Nat)(nx:Int→List Int)(P:List (List Int)):Prop where
 ne:∀p∈P,p≠[]
 node:∀p∈P,∀x∈p,0≤x∧x<(n:Int)
 nd:P.flatten.Nodup
 BJ:∀p∈P,p.Pairwise (· < ·)
 PA:∀p∈P,∀x∈p,∀y∈p,Rx nx x y
 Ks:∀(i:Nat) (p:List Int),P[i]?=some p→∀x∈p,∀y∈nx x,∃(j:Nat) (q:List Int),j≤i∧P[j]?=some q∧y∈q
theorem rh.nil(n:Nat)(nx:Int→List Int):rh n nx []:=⟨fun _ h=>(by cases h),fun _ h=>(by cases h),List.nodup_nil,fun _ h=>(by cases h),fun _ h=>(by cases h),fun i p h=>by simp at h⟩
theorem rh.reach{n:Nat}{nx:Int→List Int}{P:List (List Int)}(h:rh n nx P){x y:Int}(hr:Rx nx x y)(hx:∃p∈P,x∈p):∃p∈P,y∈p:=by
 induction hr with
 |refl=>exact hx
 |step _ hc ih=>
  obtain⟨p,hp,hb⟩:=ih
  obtain⟨i,hi⟩:=FQ hp
  obtain⟨j,q,_,hq,hy⟩:=h.Ks i p hi _ hb _ hc
  exact⟨q,cu hq,hy⟩
structure TJ(n:Nat)(nx:Int→List Int)(f L:Int→Int)(st:List Int)(aF:Nat)(P:List (List Int))(W:List Int):Prop where
 node:∀x∈st,0≤x∧x<(n:Int)
 inc:st.Pairwise fun x y=>f x<f y
 sN:∀x∈st,1≤f x∧f x≤aF
 xP:∀x:Int,0≤x→x<n→(f x≠0↔x∈st∨∃p∈P,x∈p)
 z8:∀p∈P,∀x∈p,x ∉ st
 len:aF=st.length+P.flatten.length
 sub:W.Sublist st
 top:∀x∈st,∃v∈W,f v≤f x
 zH:∀v∈W,∀x∈st,f v≤f x→Rx nx v x
 fin:∀x∈st,x ∉ W→(∀y∈nx x,f y≠0)∧∃y∈st,f y<f x∧Rx nx x y
 low:∀v∈W,L v≤f v∧∃y∈st,f y=L v∧Rx nx v y
 BK:∀v∈W,∀x∈st,x ∉ W→f v<f x→(∀u∈W,f u≤f x→f u≤f v)→∀y∈nx x,y∈st→L v≤f y
 prt:rh n nx P
def Prc(nx:Int→List Int)(f L:Int→Int)(st:List Int)(gT:List (Int×Nat)):Prop:=∀t∈gT,∀y∈(nx t.1).take t.2,f y≠0∧(y∈st→L t.1≤f y)
theorem KP{f:Int→Int}:∀{st:List Int},st.Pairwise (fun x y=>f x<f y)→∀{x y:Int},x∈st→y∈st→f x=f y→x=y
 | [],_,_,_,hx,_,_=>by cases hx
 |a::st,h,x,y,hx,hy,e=>by
  obtain⟨h1,h2⟩:=ta.1 h
  rcases dA.1 hx with e1 | r7
  ·rcases dA.1 hy with e2 | uh
   ·rw[e1,e2]
   ·have:=h1 y uh;rw[e1]at e;omega
  ·rcases dA.1 hy with e2 | uh
   ·have:=h1 x r7;rw[e2]at e;omega
   ·exact KP h2 r7 uh e
theorem uI{f:Int→Int}{st:List Int}(h:st.Pairwise (fun x y=>f x<f y)):st.Nodup:=h.imp fun aO e=>by subst e;omega
theorem C7{f:Int→Int}{st w:List Int}{v:Int}(h:st.Pairwise (fun x y=>f x<f y))(hs:(w++[v]).Sublist st):∀u∈w,f u<f v:=by
 have:=h.sublist hs
 intro u hu
 exact (J8.1 this).2.2 u hu v (bh.2 rfl)
variable {n:Nat} {nx:Int→List Int} {f L:Int→Int} {st:List Int} {aF:Nat} {P:List (List Int)}
theorem TJ.start(h:∀x,f x=0):TJ n nx f L [] 0 [] []:=
 ⟨fun _ h=>(by cases h),.nil,fun _ h=>(by cases h),fun x _ _=>by simp[h],fun _ h=>(by cases h),rfl,.slnil,fun _ h=>(by cases h),fun _ h=>(by cases h),fun _ h=>(by cases h),fun _ h=>(by cases h),fun _ h=>(by cases h),.nil n nx⟩
theorem TJ.enter{W:List Int}{b:Int}(h:TJ n nx f L st aF P W)(hb:0≤b∧b<n)(hf:f b=0)(hW:∀v∈W,Rx nx v b):TJ n nx (pJ f b (aF+1)) (pJ L b (aF+1)) (st++[b]) (aF+1) P (W++[b]):=by
 have eG:b ∉ st:=fun hm=>by have:=h.sN b hm;omega
 have hbW:b ∉ W:=fun hm=>eG (h.sub.subset hm)
 have iO:∀x∈st,pJ f b (aF+1) x=f x:=fun x hx=>ql fun e=>eG (e▸hx)
 have hL1:∀x∈W,pJ L b (aF+1) x=L x:=fun x hx=>ql fun e=>hbW (e▸hx)
 have B0:pJ f b (aF+1) b=(aF+1:Nat):=by rw[qm];rfl
 have B5:=h.sub.subset
 refine⟨fun x hx=>?_,?_,fun x hx=>?_,fun x h0 h1=>?_,fun p hp x hx=>?_,by have:=h.len;rw[bV,td];omega,h.sub.append (.refl _),fun x hx=>?_,fun v hv x hx hle=>?_,fun x hx lQ=>?_,fun v hv=>?_,fun v hv x hx lQ ab jz y hy kF=>?_,h.prt⟩
 ·rcases bR.1 hx with hx | hx
  ·exact h.node x hx
  ·rw[bh.1 hx];exact hb
 ·refine J8.2 ⟨h.inc.imp_of_mem fun {x y} hx hy aO=>?_,List.pairwise_singleton ..,fun x hx y hy=>?_⟩
  ·rw[iO x hx,iO y hy];exact aO
  ·rw[bh.1 hy,iO x hx,B0]
   have:=(h.sN x hx).2;omega
 ·rcases bR.1 hx with hx | hx
  ·rw[iO x hx];have:=h.sN x hx;omega
  ·rw[bh.1 hx,B0];omega
 ·by_cases e:x=b
  ·subst e
   exact⟨fun _=>.inl (jE _ (bh.2 rfl)),fun _=>by rw[B0];omega⟩
  ·rw[ql e,h.xP x h0 h1,bR,bh]
   exact or_congr_left ⟨.inl,fun h=>h.resolve_right e⟩
 ·rw[bR,bh]
  rintro (hm | rfl)
  ·exact h.z8 p hp x hx hm
  ·exact ((h.xP x hb.1 hb.2).2 (.inr ⟨p,hp,hx⟩)) hf
 ·rcases bR.1 hx with hx | hx
  ·obtain⟨v,hv,hle⟩:=h.top x hx
   exact⟨v,gN _ hv,by rw[iO v (B5 hv),iO x hx];exact hle⟩
  ·rw[bh.1 hx]
   exact⟨b,jE _ (bh.2 rfl),jD _⟩
 ·rcases bR.1 hv with hv | hv
  ·rcases bR.1 hx with hx | hx
   ·rw[iO v (B5 hv),iO x hx]at hle
    exact h.zH v hv x hx hle
   ·rw[bh.1 hx];exact hW v hv
  ·rw[bh.1 hv]at hle ⊢
   rcases bR.1 hx with hx | hx
   ·rw[B0,iO x hx]at hle
    have:=(h.sN x hx).2;omega
   ·rw[bh.1 hx];exact .refl _
 ·rw[bR,bh]at lQ
  have hx:x∈st:=by
   rcases bR.1 hx with hx | hx
   ·exact hx
   ·exact absurd (.inr (bh.1 hx)) lQ
  obtain⟨h1,y,hy,h2,h3⟩:=h.fin x hx fun hm=>lQ (.inl hm)
  refine⟨fun y hy=>?_,y,gN _ hy,by rw[iO y hy,iO x hx];exact h2,h3⟩
  by_cases e:y=b
  ·subst e;rw[B0];omega
  ·rw[ql e];exact h1 y hy
 ·rcases bR.1 hv with hv | hv
  ·obtain⟨h1,y,hy,h2,h3⟩:=h.low v hv
   rw[hL1 v hv,iO v (B5 hv)]
   exact⟨h1,y,gN _ hy,by rw[iO y hy];exact h2,h3⟩
  ·rw[bh.1 hv,qm,qm]
   exact⟨jD _,b,jE _ (bh.2 rfl),qm,.refl _⟩
 ·rw[bR,bh]at lQ
  have hx:x∈st:=by
   rcases bR.1 hx with hx | hx
   ·exact hx
   ·exact absurd (.inr (bh.1 hx)) lQ
  rcases bR.1 hv with hv | hv
  ·rw[hL1 v hv]
   rw[iO v (B5 hv),iO x hx]at ab
   have hyb:y≠b:=fun e=>(h.fin x hx fun hm=>lQ (.inl hm)).1 y hy (e▸hf)
   have kF:y∈st:=by
    rcases bR.1 kF with kF | kF
    ·exact kF
    ·exact absurd (bh.1 kF) hyb
   rw[iO y kF]
   refine h.BK v hv x hx (fun hm=>lQ (.inl hm)) ab (fun u hu hle=>?_) y hy kF
   have:=jz u (gN _ hu)
   rw[iO u (B5 hu),iO x hx,iO v (B5 hv)]at this
   exact this hle
  ·rw[bh.1 hv,B0,iO x hx]at ab
   have:=(h.sN x hx).2;omega
theorem TJ.lower{w:List Int}{v z:Int}(h:TJ n nx f L st aF P (w++[v]))(hz:z∈st)(hr:Rx nx v z):TJ n nx f (pJ L v (min (L v) (f z))) st aF P (w++[v]):=by
 have hd:(w++[v]).Nodup:=(uI h.inc).sublist h.sub
 have hvw:v ∉ w:=fun hm=>(o7.1 hd).2.2 v hm v (bh.2 rfl) rfl
 refine⟨h.node,h.inc,h.sN,h.xP,h.z8,h.len,h.sub,h.top,h.zH,h.fin,fun u hu=>?_,fun u hu x hx lQ ab jz y hy kF=>?_,h.prt⟩
 ·by_cases e:u=v
  ·subst e
   rw[qm]
   obtain⟨h1,y,hy,h2,h3⟩:=h.low u hu
   refine⟨by omega,?_⟩
   by_cases c:L u≤f z
   ·exact⟨y,hy,by rw[h2];omega,h3⟩
   ·exact⟨z,hz,by omega,hr⟩
  ·rw[ql e];exact h.low u hu
 ·have:=h.BK u hu x hx lQ ab jz y hy kF
  by_cases e:u=v
  ·subst e;rw[qm];omega
  ·rw[ql e];exact this
theorem TJ.up{w:List Int}{u v:Int}(h:TJ n nx f L st aF P (w++[u]++[v]))(ab:L v<f v)(cD:∀y∈nx v,f y≠0∧(y∈st→L v≤f y)):TJ n nx f (pJ L u (min (L u) (L v))) st aF P (w++[u]):=by
 have hd:(w++[u]++[v]).Nodup:=(uI h.inc).sublist h.sub
 have hvw:v ∉ w++[u]:=fun hm=>(o7.1 hd).2.2 v hm v (bh.2 rfl) rfl
 have fq:u ∉ w:=fun hm=>(o7.1 (o7.1 hd).1).2.2 u hm u (bh.2 rfl) rfl
 have huv:u≠v:=fun e=>hvw (e▸jE _ (bh.2 rfl))
 have sG:=C7 h.inc h.sub
 have agY:=C7 h.inc ((List.sublist_append_left _ _).trans h.sub)
 have Jj:u∈w++[u]:=jE _ (bh.2 rfl)
 have BS:v∈w++[u]++[v]:=jE _ (bh.2 rfl)
 have bN:v∈st:=h.sub.subset BS
 have hfuv:f u<f v:=sG u Jj
 obtain⟨xZ,z,hz,oR,hzr⟩:=h.low v BS
 refine⟨h.node,h.inc,h.sN,h.xP,h.z8,h.len,(List.sublist_append_left _ _).trans h.sub,fun x hx=>?_,fun a ha=>h.zH a (gN _ ha),fun x hx lQ=>?_,fun a ha=>?_,fun a ha x hx lQ eL jz y hy kF=>?_,h.prt⟩
 ·obtain⟨a,ha,hle⟩:=h.top x hx
  rcases bR.1 ha with ha | ha
  ·exact⟨a,ha,hle⟩
  ·rw[bh.1 ha]at hle
   exact⟨u,Jj,by omega⟩
 ·by_cases e:x=v
  ·subst e
   exact⟨fun y hy=>(cD y hy).1,z,hz,by omega,hzr⟩
  ·exact h.fin x hx fun hm=>by
    rcases bR.1 hm with hm | hm
    ·exact lQ hm
    ·exact e (bh.1 hm)
 ·obtain⟨h1,y,hy,h2,h3⟩:=h.low a (gN _ ha)
  by_cases e:a=u
  ·subst e
   rw[qm]
   refine⟨by omega,?_⟩
   by_cases c:L a≤L v
   ·exact⟨y,hy,by omega,h3⟩
   ·exact⟨z,hz,by omega,(h.zH a (gN _ Jj) v bN (by omega)).trans hzr⟩
  ·rw[ql e];exact⟨h1,y,hy,h2,h3⟩
 ·have uj:∀c,f a≤c→f u≤f a→pJ L u (min (L u) (L v)) a≤L a:=fun c _ _=>by
   by_cases e:a=u
   ·subst e;rw[qm];omega
   ·rw[ql e];exact jD _
  have hle:pJ L u (min (L u) (L v)) a≤L a:=by
   by_cases e:a=u
   ·subst e;rw[qm];omega
   ·rw[ql e];exact jD _
  by_cases BP:f v≤f x
  ·have hau:a=u:=by
    have h1:=jz u Jj (by omega)
    by_cases e:a=u
    ·exact e
    ·have:a∈w:=by
      rcases bR.1 ha with ha | ha
      ·exact ha
      ·exact absurd (bh.1 ha) e
     have:=agY a this
     omega
   subst hau
   rw[qm]
   by_cases e:x=v
   ·subst e
    have:=(cD y hy).2 kF
    omega
   ·have aQ:f v≠f x:=fun e2=>e (KP h.inc hx bN e2.symm)
    have:=h.BK v BS x hx (fun hm=>by
     rcases bR.1 hm with hm | hm
     ·exact lQ hm
     ·exact e (bh.1 hm)) (by omega) (fun c hc _=>by
      rcases bR.1 hc with hc | hc
      ·have:=sG c hc;omega
      ·rw[bh.1 hc];exact jD _) y hy kF
    omega
  ·have ahL:x≠v:=fun e=>by subst e;omega
   have:=h.BK a (gN _ ha) x hx (fun hm=>by
    rcases bR.1 hm with hm | hm
    ·exact lQ hm
    ·exact ahL (bh.1 hm)) eL (fun c hc sc=>by
     rcases bR.1 hc with hc | hc
     ·exact jz c hc sc
     ·rw[bh.1 hc]at sc;omega) y hy kF
   omega
theorem RM{v:Int}:∀{st:List Int},st.Pairwise (fun x y=>f x<f y)→v∈st→∃A B,st=A++v::B∧(∀x∈A,f x<f v)∧∀x∈B,f v<f x:=by
 intro st h hv
 obtain⟨A,B,rfl⟩:=List.append_of_mem hv
 obtain⟨h1,h2,h3⟩:=J8.1 h
 exact⟨A,B,rfl,fun x hx=>h3 x hx v (bU ..),fun x hx=>(ta.1 h2).1 x hx⟩
theorem TJ.tell{w A B part:List Int}{v:Int}(h:TJ n nx f L st aF P (w++[v]))(an:st=A++v::B)(heq:L v=f v)(cD:∀y∈nx v,f y≠0∧(y∈st→L v≤f y))(dc:∀x y,y∈nx x→0≤y∧y<n)(hp:part.Perm (v::B))(hs:part.Pairwise (· < ·)):TJ n nx f L A aF (P++[part]) w:=by
 have cf:=uI h.inc
 have sG:=C7 h.inc h.sub
 have BS:v∈w++[v]:=jE _ (bh.2 rfl)
 have mq:=h.inc
 rw[an]at mq
 obtain⟨i1,i2,i3⟩:=J8.1 mq
 have xJ:∀x∈A,f x<f v:=fun x hx=>i3 x hx v (bU ..)
 have II:∀x∈B,f v<f x:=(ta.1 i2).1
 have uw:∀x∈A,x∈st:=fun x hx=>by rw[an];exact gN _ hx
 have x7:∀x∈v::B,x∈st:=fun x hx=>by rw[an];exact jE _ hx
 have BB:∀x∈v::B,f v≤f x:=fun x hx=>by
  rcases dA.1 hx with rfl | hx
  ·exact jD _
  ·have:=II x hx;omega
 have aq:∀x∈st,f v≤f x→x∈v::B:=fun x hx hle=>by
  rw[an]at hx
  rcases bR.1 hx with hx | hx
  ·have:=xJ x hx;omega
  ·exact hx
 have Ni:∀x∈B,x ∉ w++[v]:=fun x hx hm=>by
  have:=II x hx
  rcases bR.1 hm with hm | hm
  ·have:=sG x hm;omega
  ·rw[bh.1 hm]at this;omega
 have IE:∀x∈v::B,∀y∈nx x,y∈v::B∨∃p∈P,y∈p:=fun x hx y hy=>by
  have hv2:f y≠0∧(y∈st→f v≤f y):=by
   rcases dA.1 hx with rfl | BQ
   ·rw[← heq];exact cD y hy
   ·refine⟨(h.fin x (x7 x hx) (Ni x BQ)).1 y hy,fun kF=>?_⟩
    rw[← heq]
    refine h.BK v BS x (x7 x hx) (Ni x BQ) (II x BQ) (fun u hu _=>?_) y hy kF
    rcases bR.1 hu with hu | hu
    ·have:=sG u hu;omega
    ·rw[bh.1 hu];exact jD _
  obtain⟨q1,q2⟩:=dc x y hy
  rcases (h.xP y q1 q2).1 hv2.1 with kF | hyp
  ·exact .inl (aq y kF (hv2.2 kF))
  ·exact .inr hyp
 have afW:∀{x y:Int},Rx nx x y→x∈v::B→y∈v::B∨∃p∈P,y∈p:=by
  intro x y hr hx
  induction hr with
  |refl=>exact .inl hx
  |step _ hc ih=>
   rcases ih with ih | ih
   ·exact IE _ ih _ hc
   ·exact .inr (h.prt.reach (.one hc) ih)
 have D6:∀(k:Nat) (x:Int),x∈v::B→(f x-f v).toNat≤k→Rx nx x v:=by
  intro k
  induction k with
  |zero=>
   intro x hx hk
   have:=BB x hx
   rw[KP h.inc (x7 x hx) (x7 v (bU ..)) (by omega)]
   exact .refl _
  |succ k ih=>
   intro x hx hk
   rcases dA.1 hx with rfl | BQ
   ·exact .refl _
   ·obtain⟨_,y,hy,ab,hr⟩:=h.fin x (x7 x hx) (Ni x BQ)
    rcases afW hr hx with Ol | ⟨p,hp,hyp⟩
    ·have:=II x BQ
     exact hr.trans (ih y Ol (by omega))
    ·exact absurd hy (h.z8 p hp y hyp)
 have aib:∀x∈v::B,∀y∈v::B,Rx nx x y:=fun x hx y hy=>(D6 _ x hx (aR _)).trans (h.zH v BS y (x7 y hy) (BB y hy))
 have gn:∀x,x∈part↔x∈v::B:=fun x=>hp.mem_iff
 have hwA:w.Sublist A:=by
  have h1:(w++[v]).Sublist (A++v::B):=an▸h.sub
  have h2:=h1.filter (fun x=>decide (f x<f v))
  have e1:(w++[v]).filter (fun x=>decide (f x<f v))=w:=by
   rw[List.filter_append,List.filter_eq_self.2 fun x hx=>decide_eq_true (sG x hx),List.filter_cons_of_neg (by simp)]
   simp
  have e2:(A++v::B).filter (fun x=>decide (f x<f v))=A:=by
   rw[zW,gw2.2 fun x hx=>aL (xJ x hx),List.filter_eq_nil_iff.2 fun x hx=>by
    have:=BB x hx
    rw[decide_eq_true_eq];omega]
   simp
  rw[e1,e2]at h2
  exact h2
 have Wh:(P++[part]).flatten=P.flatten++part:=by rw[List.flatten_append];simp
 refine⟨fun x hx=>h.node x (uw x hx),i1,fun x hx=>h.sN x (uw x hx),fun x h0 h1=>?_,fun p dz x hx hxA=>?_,?_,hwA,fun x hx=>?_,fun a ha x hx=>h.zH a (gN _ ha) x (uw x hx),fun x hx lQ=>?_,fun a ha=>?_,fun a ha x hx lQ ab jz y hy kF=>?_,⟨fun p dz=>?_,fun p dz x hx=>?_,?_,fun p dz=>?_,fun p dz x hx y hy=>?_,fun i p hi x hx y hy=>?_⟩⟩
 ·rw[h.xP x h0 h1,an,bR]
  constructor
  ·rintro ((hx | hx) | ⟨p,dz,hx⟩)
   ·exact .inl hx
   ·exact .inr ⟨part,jE _ (bh.2 rfl),(gn x).2 hx⟩
   ·exact .inr ⟨p,gN _ dz,hx⟩
  ·rintro (hx | ⟨p,dz,hx⟩)
   ·exact .inl (.inl hx)
   ·rcases bR.1 dz with dz | dz
    ·exact .inr ⟨p,dz,hx⟩
    ·rw[bh.1 dz]at hx
     exact .inl (.inr ((gn x).1 hx))
 ·rcases bR.1 dz with dz | dz
  ·exact h.z8 p dz x hx (uw x hxA)
  ·rw[bh.1 dz]at hx
   have:=BB x ((gn x).1 hx)
   have:=xJ x hxA
   omega
 ·have h1:=h.len
  have h2:=hp.length_eq
  have h3:=congrArg List.length an
  rw[bV]at h3
  rw[Wh,bV];omega
 ·obtain⟨a,ha,hle⟩:=h.top x (uw x hx)
  rcases bR.1 ha with ha | ha
  ·exact⟨a,ha,hle⟩
  ·rw[bh.1 ha]at hle
   have:=xJ x hx;omega
 ·have BP:x ∉ w++[v]:=fun hm=>by
   rcases bR.1 hm with hm | hm
   ·exact lQ hm
   ·have:=xJ x hx
    rw[bh.1 hm]at this;omega
  obtain⟨h1,y,hy,h2,h3⟩:=h.fin x (uw x hx) BP
  refine⟨h1,y,?_,h2,h3⟩
  have:=xJ x hx
  rw[an]at hy
  rcases bR.1 hy with hy | hy
  ·exact hy
  ·have:=BB y hy;omega
 ·obtain⟨h1,y,hy,h2,h3⟩:=h.low a (gN _ ha)
  refine⟨h1,y,?_,h2,h3⟩
  have:=sG a ha
  rw[an]at hy
  rcases bR.1 hy with hy | hy
  ·exact hy
  ·have:=BB y hy;omega
 ·have BP:x ∉ w++[v]:=fun hm=>by
   rcases bR.1 hm with hm | hm
   ·exact lQ hm
   ·have:=xJ x hx
    rw[bh.1 hm]at this;omega
  refine h.BK a (gN _ ha) x (uw x hx) BP ab (fun u hu hle=>?_) y hy (uw y kF)
  rcases bR.1 hu with hu | hu
  ·exact jz u hu hle
  ·rw[bh.1 hu]at hle
   have:=xJ x hx;omega
 ·rcases bR.1 dz with dz | dz
  ·exact h.prt.ne p dz
  ·rw[bh.1 dz]
   exact List.ne_nil_of_mem ((gn v).2 (bU ..))
 ·rcases bR.1 dz with dz | dz
  ·exact h.prt.node p dz x hx
  ·rw[bh.1 dz]at hx
   exact h.node x (x7 x ((gn x).1 hx))
 ·rw[Wh]
  refine o7.2 ⟨h.prt.nd,hs.imp fun h=>by omega,fun x hx y hy e=>?_⟩
  subst e
  obtain⟨p,dz,rZ⟩:=nf.1 hx
  exact h.z8 p dz x rZ (x7 x ((gn x).1 hy))
 ·rcases bR.1 dz with dz | dz
  ·exact h.prt.BJ p dz
  ·rw[bh.1 dz];exact hs
 ·rcases bR.1 dz with dz | dz
  ·exact h.prt.PA p dz x hx y hy
  ·rw[bh.1 dz]at hx hy
   exact aib x ((gn x).1 hx) y ((gn y).1 hy)
 ·by_cases ab:i<P.length
  ·rw[kh ab]at hi
   obtain⟨j,q,h1,h2,h3⟩:=h.prt.Ks i p hi x hx y hy
   exact⟨j,q,h1,by rw[kh (by omega)];exact h2,h3⟩
  ·have hip:i=P.length∧p=part:=by
    rw[iQ (by omega)]at hi
    by_cases e:i-P.length=0
    ·rw[e]at hi
     exact⟨by omega,(Option.some.inj hi).symm⟩
    ·rw[uF (by rw[td];omega)]at hi;cases hi
   obtain⟨rfl,rfl⟩:=hip
   rcases IE x ((gn x).1 hx) y hy with Ol | ⟨q,hq,hyq⟩
   ·exact⟨P.length,p,aR _,by rw[iQ (aR _),qY];rfl,(gn y).2 Ol⟩
   ·obtain⟨j,hj⟩:=FQ hq
    have ij:j<P.length:=(ck.1 hj).1
    exact⟨j,q,by omega,by rw[kh ij];exact hj,hyq⟩
theorem TJ.empty(h:TJ n nx f L st aF P []):st=[]:=by
 cases st with
 |nil=>rfl
 |cons x st=>
  obtain⟨v,hv,_⟩:=h.top x (bU ..)
  cases hv
theorem TJ.first{v:Int}(h:TJ n nx f L st aF P [v]):L v=f v:=by
 obtain⟨h1,y,hy,h2,_⟩:=h.low v (bh.2 rfl)
 obtain⟨u,hu,h3⟩:=h.top y hy
 rw[bh.1 hu]at h3
 omega
mutual
def gQ(nx:Int→List Int):Nat→Int→List Int→List Int
 | 0,_,_=>[]
 |f+1,a,met=>if a∈met then [] else eK nx f (nx a) (met++[a])++[a]
def eK(nx:Int→List Int):Nat→List Int→List Int→List Int
 |_,[],_=>[]
 |f,b::bs,met=>gQ nx f b met++eK nx f bs (met++gQ nx f b met)
end
def lp(met:List Int)(n:Nat):Nat:=((List.range n).filter fun a:Nat=>decide ((a:Int) ∉ met)).length
theorem Lw{met met2:List Int}{n:Nat}(h:∀x∈met,x∈met2):lp met2 n≤lp met n:=by
 unfold lp
 induction n with
 |zero=>exact aR _
 |succ n ih=>
  rw[wJ,zW,zW,bV,bV]
  refine Nat.add_le_add ih ?_
  rw[Co,Co,gu5]
  by_cases c:(n:Int)∈met
  ·rw[if_neg (by simp[h _ c]),if_neg (by simp[c])];exact Nat.le_refl _
  ·rw[if_pos (show decide ((n:Int) ∉ met)=true by simp[c])];split <;> simp
theorem TQ{met met2:List Int}{n:Nat}{a:Nat}(h:∀x∈met,x∈met2)(ha:a<n)(h1:(a:Int) ∉ met)(h2:(a:Int)∈met2):lp met2 n<lp met n:=by
 induction n with
 |zero=>omega
 |succ n ih=>
  have e:∀m:List Int,lp m (n+1)=lp m n+if (n:Int)∈m then 0 else 1:=fun m=>by
   unfold lp
   rw[wJ,zW,bV,Co,gu5]
   by_cases c:(n:Int)∈m <;> simp[c]
  rw[e,e]
  by_cases c:a=n
  ·subst c
   rw[ah h2,ag h1]
   have:=Lw (n:=a) h
   omega
  ·have:=ih (by omega)
   by_cases c2:(n:Int)∈met
   ·rw[ah c2,ah (h _ c2)];exact this
   ·rw[ag c2];split <;> omega
theorem adw{met:List Int}{n:Nat}{a:Int}(ha:0≤a∧a<n)(h:a ∉ met):0<lp met n:=by
 unfold lp
 refine Cs (a:=a.toNat) (lZ.2 ⟨gb.2 (by omega),?_⟩)
 rw[Int.toNat_of_nonneg ha.1];simp[h]
theorem Si{n:Nat}{nx:Int→List Int}(dc:∀x,∀y∈nx x,0≤y∧y<(n:Int)):∀u,
  (∀(f f2:Nat) (a:Int) (met met2:List Int),0≤a∧a<(n:Int)→lp met n≤u→u≤f→u≤f2→(∀x,x∈met↔x∈met2)→gQ nx f a met=gQ nx f2 a met2)∧
  (∀(f f2:Nat) (bs:List Int) (met met2:List Int),(∀b∈bs,0≤b∧b<(n:Int))→lp met n≤u→u≤f→u≤f2→(∀x,x∈met↔x∈met2)→eK nx f bs met=eK nx f2 bs met2):=by
 intro u
 induction u with
 |zero=>
  have h0:∀(f:Nat) (a:Int) (met:List Int),0≤a∧a<(n:Int)→lp met n≤0→gQ nx f a met=[]:=fun f a met ha hu=>by
   have hm:a∈met:=by
    by_cases c:a∈met
    ·exact c
    ·have:=adw ha c;omega
   cases f with
   |zero=>unfold gQ;rfl
   |succ f=>unfold gQ;rw[ah hm]
  have h1:∀(f:Nat) (bs:List Int) (met:List Int),(∀b∈bs,0≤b∧b<(n:Int))→lp met n≤0→eK nx f bs met=[]:=by
   intro f bs
   induction bs with
   |nil=>intro met _ _;unfold eK;rfl
   |cons b bs ih=>
    intro met hb hu
    unfold eK
    rw[h0 f b met (hb b (bU ..)) hu,mZ,ih met (fun c hc=>hb c (cQ _ hc)) hu];rfl
  have hs:∀{met met2:List Int},lp met n≤0→(∀x,x∈met↔x∈met2)→lp met2 n≤0:=fun hu hm=>eu (Lw fun x hx=>(hm x).1 hx) hu
  exact⟨fun f f2 a met met2 ha hu _ _ hm=>by rw[h0 f a met ha hu,h0 f2 a met2 ha (hs hu hm)],fun f f2 bs met met2 hb hu _ _ hm=>by rw[h1 f bs met hb hu,h1 f2 bs met2 hb (hs hu hm)]⟩
 |succ u ih=>
  have hv:∀(f f2:Nat) (a:Int) (met met2:List Int),0≤a∧a<(n:Int)→lp met n≤u+1→u+1≤f→u+1≤f2→(∀x,x∈met↔x∈met2)→gQ nx f a met=gQ nx f2 a met2:=fun f f2 a met met2 ha hu hf wk hm=>by
   obtain⟨f,rfl⟩:∃k,f=k+1:=⟨f-1,by omega⟩
   obtain⟨f2,rfl⟩:∃k,f2=k+1:=⟨f2-1,by omega⟩
   unfold gQ
   by_cases c:a∈met
   ·rw[ah c,ah ((hm a).1 c)]
   ·rw[ag c,ag fun h=>c ((hm a).2 h)]
    congr 1
    refine ih.2 f f2 (nx a) _ _ (dc a) ?_ (by omega) (by omega) (fun x=>by rw[bR,bR,hm])
    have:=TQ (met:=met) (met2:=met++[a]) (n:=n) (a:=a.toNat) (fun x hx=>List.mem_append_left _ hx) (by omega) (by rw[Int.toNat_of_nonneg ha.1];exact c) (by rw[Int.toNat_of_nonneg ha.1];simp)
    omega
  refine⟨hv,fun f f2 bs=>?_⟩
  induction bs with
  |nil=>intro met met2 _ _ _ _ _;unfold eK;rfl
  |cons b bs Og=>
   intro met met2 hb hu hf wk hm
   unfold eK
   have e:=hv f f2 b met met2 (hb b (bU ..)) hu hf wk hm
   rw[e]
   congr 1
   exact Og _ _ (fun c hc=>hb c (cQ _ hc)) (eu (Lw fun x hx=>gN _ hx) hu) hf wk (fun x=>by rw[bR,bR,hm])
theorem U0(met:List Int)(n:Nat):lp met n≤n:=by
 unfold lp
 exact eu (Cu _ _) (by rw[l0];exact aR _)
def lJ(n:Nat)(nx:Int→List Int):List (Int×Nat)→List Int→List Int
 | [],_=>[]
 |(v,k)::w,seen=>eK nx n ((nx v).drop k) seen++([v]++lJ n nx w (seen++eK nx n ((nx v).drop k) seen))
theorem S4{n:Nat}{nx:Int→List Int}(dc:∀x,∀y∈nx x,0≤y∧y<(n:Int)){bs met met2:List Int}(hb:∀b∈bs,0≤b∧b<(n:Int))(hm:∀x,x∈met↔x∈met2):eK nx n bs met=eK nx n bs met2:=
 (Si dc n).2 n n bs met met2 hb (U0 _ _) (aR _) (aR _) hm
theorem SD{n:Nat}{nx:Int→List Int}(dc:∀x,∀y∈nx x,0≤y∧y<(n:Int)):∀(w:List (Int×Nat)) {seen seen2:List Int},(∀x,x∈seen↔x∈seen2)→lJ n nx w seen=lJ n nx w seen2
 | [],_,_,_=>rfl
 |(v,k)::w,seen,seen2,h=>by
  have e:=S4 dc (bs:=(nx v).drop k) (fun b hb=>dc v b (List.mem_of_mem_drop hb)) h
  unfold lJ
  rw[e,SD dc w (seen:=seen++eK nx n ((nx v).drop k) seen2) (seen2:=seen2++eK nx n ((nx v).drop k) seen2) fun x=>by rw[bR,bR,h]]
theorem UA{L:List Int}{k:Nat}(h:k<L.length):L.drop k=L[k]::L.drop (k+1):=Kc h
theorem abB{n:Nat}{nx:Int→List Int}{v:Int}{k:Nat}{w:List (Int×Nat)}{seen:List Int}(hk:k<(nx v).length)(hb:(nx v)[k]∈seen):lJ n nx ((v,k)::w) seen=lJ n nx ((v,k+1)::w) seen:=by
 have e:gQ nx n (nx v)[k] seen=[]:=by
  cases n with
  |zero=>unfold gQ;rfl
  |succ n=>unfold gQ;rw[ah hb]
 have e2:eK nx n ((nx v).drop k) seen=eK nx n ((nx v).drop (k+1)) seen:=by
  rw[UA hk]
  conv=>lhs;unfold eK
  rw[e,mZ,ye]
 unfold lJ
 rw[e2]
theorem abC{n:Nat}{nx:Int→List Int}(dc:∀x,∀y∈nx x,0≤y∧y<(n:Int)){v:Int}{k:Nat}{w:List (Int×Nat)}{seen:List Int}(hk:k<(nx v).length)(hb:(nx v)[k] ∉ seen):lJ n nx ((v,k)::w) seen=lJ n nx (((nx v)[k],0)::(v,k+1)::w) (seen++[(nx v)[k]]):=by
 obtain⟨b,s5⟩:∃b,(nx v)[k]=b:=⟨_,rfl⟩
 have dK:=dc v b (s5▸bX hk)
 rw[s5]at hb ⊢
 obtain⟨m,rfl⟩:∃m,n=m+1:=⟨n-1,by omega⟩
 have hu:lp (seen++[b]) (m+1)≤m:=by
  have:=TQ (met:=seen) (met2:=seen++[b]) (n:=m+1) (a:=b.toNat) (fun x hx=>List.mem_append_left _ hx) (by omega) (by rw[Int.toNat_of_nonneg dK.1];exact hb) (by rw[Int.toNat_of_nonneg dK.1];simp)
  have:=U0 seen (m+1)
  omega
 have e:gQ nx (m+1) b seen=eK nx (m+1) (nx b) (seen++[b])++[b]:=by
  conv=>lhs;unfold gQ
  rw[ag hb,(Si dc m).2 m (m+1) (nx b) (seen++[b]) (seen++[b]) (dc b) hu (aR _) (by omega) fun _=>Iff.rfl]
 have e2:eK nx (m+1) ((nx v).drop k) seen=(eK nx (m+1) (nx b) (seen++[b])++[b])++eK nx (m+1) ((nx v).drop (k+1)) (seen++(eK nx (m+1) (nx b) (seen++[b])++[b])):=by
  rw[UA hk,s5]
  conv=>lhs;unfold eK
  rw[e]
 have e3:eK nx (m+1) ((nx v).drop (k+1)) (seen++(eK nx (m+1) (nx b) (seen++[b])++[b]))=eK nx (m+1) ((nx v).drop (k+1)) (seen++[b]++eK nx (m+1) (nx b) (seen++[b])):=
  S4 dc (fun c hc=>dc v c (List.mem_of_mem_drop hc)) fun x=>by simp only[List.mem_append];exact⟨fun h=>by rcases h with h | h | h <;> simp[h],fun h=>by rcases h with (h | h) | h <;> simp[h]⟩
 have hd:(nx b).drop 0=nx b:=iP
 show eK nx (m+1) ((nx v).drop k) seen++([v]++lJ (m+1) nx w (seen++eK nx (m+1) ((nx v).drop k) seen))=eK nx (m+1) ((nx b).drop 0) (seen++[b])++([b]++(eK nx (m+1) ((nx v).drop (k+1)) (seen++[b]++eK nx (m+1) ((nx b).drop 0) (seen++[b]))++([v]++lJ (m+1) nx w (seen++[b]++eK nx (m+1) ((nx b).drop 0) (seen++[b])++eK nx (m+1) ((nx v).drop (k+1)) (seen++[b]++eK nx (m+1) ((nx b).drop 0) (seen++[b]))))))
 rw[hd,e2,e3]
 generalize eK nx (m+1) (nx b) (seen++[b])=K
 generalize eK nx (m+1) ((nx v).drop (k+1)) (seen++[b]++K)=K2
 rw[SD dc w (seen:=seen++(K++[b]++K2)) (seen2:=seen++[b]++K++K2) fun x=>by simp only[List.mem_append];exact⟨fun h=>by rcases h with h | (h | h) | h <;> simp[h],fun h=>by rcases h with ((h | h) | h) | h <;> simp[h]⟩]
 simp only[dQ]
theorem adQ{n:Nat}{nx:Int→List Int}{v:Int}{k:Nat}{w:List (Int×Nat)}{seen:List Int}(hk:(nx v).length≤k):lJ n nx ((v,k)::w) seen=v::lJ n nx w seen:=by
 have e:eK nx n ((nx v).drop k) seen=[]:=by rw[FU hk];unfold eK;rfl
 show eK nx n ((nx v).drop k) seen++([v]++lJ n nx w (seen++eK nx n ((nx v).drop k) seen))=_
 rw[e,mZ,ye];rfl
theorem adP{n:Nat}{nx:Int→List Int}{a:Int}{met:List Int}(ha:a ∉ met):gQ nx (n+1) a met=lJ n nx [(a,0)] (met++[a]):=by
 unfold gQ lJ lJ
 rw[ag ha,iP,mZ]
def sw(n:Nat)(nx:Int→List Int)(l:List Int):List Int:=l.foldl (fun out a=>out++gQ nx (n+1) a out) []
inductive iy(e:Nat):Nat→AV→Hp→List AV→Prop
 |nil:iy e 0 .ai [] []
 |af (b k:Nat) (cs J:List AV) (h:cs.length=k*e):iy e k (.af b 0 k e) [(b,cs++J)] cs
theorem iy.xQ{e k:Nat}{v:AV}{acc:Hp}{cs:List AV}(h:iy e k v acc cs):iy e k (bP v) acc cs:=by
 cases h with
 |nil=>exact .nil
 |af b k cs J h=>exact .af b k cs J h
theorem iy.pos{e k:Nat}{v:AV}{acc:Hp}{cs:List AV}(h:iy e k v acc cs)(h0:0<k):∃b J,v=.af b 0 k e∧acc=[(b,cs++J)]∧cs.length=k*e:=by
 cases h with
 |nil=>omega
 |af b k cs J h=>exact⟨b,J,rfl,rfl,h⟩
theorem yy{i:TI}{K:AV→Hp→Prop}(fr:Hp){acc σ:Hp}{k n:Nat}{v x:AV}{cs new:List AV}(h:iy i.size k v acc cs)(hx:jZ (fr++(acc++σ)) i.size x n new)(ib:new.length=n*i.size)(hn:k+n≤1048576)(hb:i.bytes≤1024)(h0:0<i.size)
  (go:∀v' bQ,iy i.size (k+n) v' bQ (cs++new)→K v' (fr++(bQ++σ))):AppendAt i (fr++(acc++σ)) v x K:=by
 cases h with
 |nil=>
  refine .perm _ (eS fr [] σ) (.fresh n new (.inl rfl) (hx.perm (eS fr [] σ)) (by omega) hb h0 (K:=fun v ep=>(n=0∧v=.ai∧ep=[]++(fr++σ))∨(n≠0∧∃b,v=.af b 0 n i.size∧ep=(b,new)::([]++(fr++σ)))) (fun aQ b=>.inr ⟨aQ,b,rfl,rfl⟩) (fun h0=>.inl ⟨h0,rfl,rfl⟩)) ?_
  rintro v ep (⟨hz,rfl,rfl⟩ | ⟨hz,b,rfl,rfl⟩)
  ·subst hz
   obtain rfl:new=[]:=List.length_eq_zero_iff.1 (by simpa using ib)
   exact⟨_,(eS fr [] σ).symm,.inl (go _ _ .nil)⟩
  ·refine⟨_,(eS fr [(b,new)] σ).symm,.inl (go _ _ ?_)⟩
   have:=iy.af (e:=i.size) b (0+n) new [] (by rw[dM];exact ib)
   rw[mZ,dM]at this
   rw[dM]
   exact this
 |af b k cs J hl=>
  refine .perm _ (eS fr [(b,cs++J)] σ) (.more 0 b k n (cs++J) new rfl rfl (by rw[bV];omega) (hx.perm (eS fr [(b,cs++J)] σ)) hn hb h0 (K:=fun v ep=>∃b',v=.af b' 0 (k+n) i.size∧ep=(b',cs++new)::(fr++σ)) (fun b'=>⟨b',rfl,by rw[Kg (by omega),fe (by omega)];rfl⟩)) ?_
  rintro v ep ⟨b',rfl,rfl⟩
  refine⟨_,(eS fr [(b',cs++new)] σ).symm,.inl (go _ _ ?_)⟩
  have:=iy.af (e:=i.size) b' (k+n) (cs++new) [] (by rw[bV,hl,ib,p9])
  rw[mZ]at this
  exact this
theorem nq{i:TI}(hs:i.size=1){l:List Int}(x:Int){a:Int}(h1:0≤a)(h2:a<l.length):kP i (ao l) (0+a.toNat*1) (.int .i64 x)=some (ao (l.set a.toNat x)):=by
 rw[rC hs rfl (by rw[Mq];omega),dM,er]
 unfold ao;rw[nU]
theorem fg{i:TI}(hw:i.wide=false){l:List Int}{a:Int}(h1:0≤a)(h2:a<l.length):eg i (ao l) (0+a.toNat*1)=some (.int .i64 (l.getD a.toNat 0)):=by
 refine iV hw ?_
 unfold ao
 rw[dM,er,fm,aW,bj (by omega)];rfl
def dp(N:List (List Int))(bi bl bo n:Nat)(vs:AV)(aF:Nat)(vp:AV):List AV:=[.ae (.slice (.int .i64)) N,.af bi 0 n 1,.af bl 0 n 1,.af bo 0 n 1,vs,.int .i64 aF,vp]
theorem A8(w bi bl bo n:Nat)(N:List (List Int))(ix lo st:List Int)(on:List Bool)(aF:Nat)(vs vp:AV)(acc:Hp)(a:Int)(σ:Hp)(h0:0≤a)(hn:a<n)(hi:ix.length=n)(hl:lo.length=n)(ho:on.length=n)(hs:iy 1 st.length vs acc (ao st))(cY:st.length≤10000)(hc:aF≤10000):
  ACalls Tryz.prog 314 [.ptr w 0,.int .i64 a] ((w,dp N bi bl bo n vs aF vp)::(bi,ao ix)::(bl,ao lo)::(bo,bJ on)::(acc++σ))
   (fun r σ'=>r=.agg [.int .i64 a,.int .i64 0]∧∃eE bQ,iy 1 (st++[a]).length eE bQ (ao (st++[a]))∧σ'=(w,dp N bi bl bo n eE (aF+1) vp)::(bi,ao (ix.set a.toNat ((aF+1:Nat):Int)))::(bl,ao (lo.set a.toNat ((aF+1:Nat):Int)))::(bo,bJ (on.set a.toNat true))::(bQ++σ)):=by
 have hwr:IntKind.i64.wrap ((aF:Int)+1)=((aF+1:Nat):Int):=by rw[dx (by omega)];omega
 refine au Tryz.func314 ?_
 intro aD
 refine aa 1 ?_
 refine aj 1 ?_
 refine .sched [] (upto [] 29 0) (by kernel_rfl) ?_
 refine aa 1 ?_
 refine aa 1 ?_
 refine aa 1 ?_
 refine aa 1 ?_
 refine aa 1 ?_
 refine aK ?_
 refine da 2 rfl (nq rfl _ h0 (by omega)) ?_
 refine aK ?_
 refine da 3 rfl (nq rfl _ h0 (by omega)) ?_
 refine aK ?_
 refine da 4 rfl (yH rfl true h0 (by omega)) ?_
 refine aa 1 ?_
 intro aD
 refine yy [_,_,_,_,_,_] hs.xQ (.af 0 aD 0 1 _ rfl (cR rfl)) rfl (by omega) (by decide) (by decide) (fun v' bQ h'=>?_)
 obtain⟨bq,J,rfl,rfl,hq⟩:=h'.pos (by omega)
 refine aj 2 ?_
 refine aj 1 ?_
 refine aa 1 ?_
 refine .drop 0 2 (.done ⟨rfl,.af bq 0 (st.length+1) 1,[(bq,(ao st++[.int .i64 a])++J)],?_,?_⟩)
 ·rw[bV,show ao (st++[a])=ao st++[.int .i64 a] from dr];exact h'
 ·rw[hwr];rfl
end Go.Proofs.YtnikdflhefijbaaGreat
