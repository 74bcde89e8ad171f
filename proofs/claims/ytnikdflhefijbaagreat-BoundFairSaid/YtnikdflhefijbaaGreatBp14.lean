import Derived.Test.YtnikdflhefijbaaGreatBp13
import Derived.Test.YtnikdflhefijbaaGreatBp7
import Derived.Test.YtnikdflhefijbaaGreatBp12
import Derived.Test.YtnikdflhefijbaaGreatBp10
import Derived.Test.YtnikdflhefijbaaGreatBp11
import Derived.Test.YtnikdflhefijbaaGreatBp9
namespace Go.Proofs.YtnikdflhefijbaaGreat
open Go.RowKit
set_option maxRecDepth 100000
theorem agE{l:Lay}(h:2≤l.k∧l.k≤64):nK l≠0∧l.k≠0:=by
 unfold nK
 show IntKind.i64.wrap (l.k-1)≠0∧_
 rw[IntKind.wrap_i64]
 omega
theorem Y0(l:Lay)(n:Int):rj l n=8∨rj l n=3:=by unfold rj;split;exact .inl rfl;exact .inr rfl
theorem Y1(nx:List Int):ko nx=8∨(ko nx=5∧0<nx.tail.length):=by
 unfold ko;split
 ·exact .inl rfl
 ·exact .inr ⟨rfl,by omega⟩
theorem ZN(s:Sy)(node:Int):vE s node=8∨(vE s node=5∧0<(ar s.n s.aL node).length):=by
 unfold vE;split
 ·exact .inl rfl
 ·exact .inr ⟨rfl,by omega⟩
theorem X4(l:Lay):rf l=2∨(rf l=1∧2≤l.k):=by
 unfold rf;split
 ·exact .inl rfl
 ·exact .inr ⟨rfl,by omega⟩
theorem YK(l:Lay):vu l=0∨(vu l=1∧2≤l.k):=by
 unfold vu;split
 ·exact .inl rfl
 ·exact .inr ⟨rfl,by omega⟩
theorem Ql{f:FuncId}{xs:List AV}{σ:Hp}{R R':AV→Hp→Prop}(h:ACalls Tryz.prog f xs σ R)(hR:∀r σ',R r σ'→∃(i k b:Nat) (cs:List AV) (e:Sh),σ'[i]?=some (b,cs)∧cs[k]?=some .aj∧R' r (σ'.set i (b,cs.set k (.ai e [])))):ACalls Tryz.prog f xs σ R':=
 ⟨h.1,fun F w vs bX aC=>(h.2 F w vs bX aC).mono fun _ _ ⟨r,v,σ',F',h1,h2,h3,h4,h5⟩=>by
  obtain⟨i,k,b,cs,e,q1,q2,q3⟩:=hR r σ' h5
  exact⟨r,v,_,F',h1,h2,Ut h3 e q1 q2,h4,q3⟩⟩
def nE:WS:=⟨0,0,false,0,.none,0,false,[],[]⟩
theorem afF{s:Sy}{L:Lay}(h:iI s L.k=L)(he:cx s L.k=0):AV.tup [.agg (gP (iI s L.k)),.int .i64 (cx s L.k)]=.tup [.agg (gP L),.int .i64 0]:=by rw[h,he]
theorem abZ(A:Lay):¬(!fH (tT (List.take 4 (List.drop 0 (e8 [AV.int .i64 0,AV.int .i64 0,AV.int .i64 0,AV.int .i64 0] 0 (gP A)))) (List.take 4 (List.drop 0 (gP A)))))=true:=by
 show ¬(!fH [decide (A.what=A.what),decide (A.words=A.words),decide (A.n=A.n),decide (A.k=A.k)])=true
 simp[fH]
theorem agd(s:Sy)(L:Lay)(who:Int)(σ:Hp)(hf:Fit s)(he:cx s L.k=0)(hL:iI s L.k=L)(h0:0≤who)(h1:who<L.k):ACalls Tryz.prog 100 [.agg (cd s),.agg (gP L),.int .i64 who] σ (fun r σ'=>∃w,r=.tup [.ptr w 0,.int .i64 0]∧σ'=WB s L who w 0 .aj [] nE++σ):=by
 have hg:ACalls Tryz.prog 100 [.agg (cd s),.agg (gP L),.int .i64 who] σ (fun r σ'=>∃w,r=.tup [.ptr w 0,.int .i64 0]∧σ'=(w,[.int .i64 0,.int .i64 0,.bool false,.int .i64 s.what,.int .i64 s.w,.int .i64 s.n,.ai dG s.aL,.ai (.int .i64) s.entry,.ai (.int .u64) s.init,.ai lX s.T,.int .i64 L.what,.int .i64 L.words,.int .i64 L.n,.int .i64 L.k,.int .i64 who,.int .i64 0,.nilif,.int .i64 0,.bool false,.aj,.aj,.bool true])::σ):=by
  refine aA Tryz.func100 ?_
  intro aG
  intro eV
  refine aa 1 ?_
  refine aa 0 ?_
  refine aB [] (vf (MR s L.k _ hf) (afF hL he)) ?_
  intro uW
  refine an 0 ?_
  refine aa 0 ?_
  refine aa 1 ?_
  refine .mk (by kernel_rfl) (by kernel_rfl) ?_
  refine eG (fun c4=>?_) (fun c4=>?_)
  ·have c4:(!fH (tT (List.take 4 (List.drop 0 (e8 [AV.int IntKind.i64 0,AV.int IntKind.i64 0,AV.int IntKind.i64 0,AV.int IntKind.i64 0] 0 (gP L)))) (List.take 4 (List.drop 0 (gP L)))))=true:=c4
   exact absurd c4 (abZ L)
  ·have c4:(!fH (tT (List.take 4 (List.drop 0 (e8 [AV.int IntKind.i64 0,AV.int IntKind.i64 0,AV.int IntKind.i64 0,AV.int IntKind.i64 0] 0 (gP L)))) (List.take 4 (List.drop 0 (gP L)))))=false:=c4
   refine aq (fun c5=>?_) (fun c5=>?_)
   ·have c5:who<0:=c5
    exact absurd c5 (by omega)
   ·have c5:¬(who<0):=c5
    refine aa 1 ?_
    refine aq (fun c6=>?_) (fun c6=>?_)
    ·have c6:L.k≤who:=c6
     exact absurd c6 (by omega)
    ·refine .sched [1] (upto [1] 8 0) (by kernel_rfl) ?_
     refine aa 2 ?_
     refine aI [] (aaR s _ hf) ?_
     refine aa 1 ?_
     intro bl7
     exact .drop 1 3 (.done ⟨_,rfl,rfl⟩)
 refine Ql (Ql hg (R':=fun r σ'=>∃w,r=.tup [.ptr w 0,.int .i64 0]∧σ'=(w,[.int .i64 0,.int .i64 0,.bool false,.int .i64 s.what,.int .i64 s.w,.int .i64 s.n,.ai dG s.aL,.ai (.int .i64) s.entry,.ai (.int .u64) s.init,.ai lX s.T,.int .i64 L.what,.int .i64 L.words,.int .i64 L.n,.int .i64 L.k,.int .i64 who,.int .i64 0,.nilif,.int .i64 0,.bool false,.ai (.int .i64) ([]:List Int),.aj,.bool true])::σ) ?_) ?_
 ·rintro r σ' ⟨w,rfl,rfl⟩
  exact⟨0,19,w,_,.int .i64,rfl,rfl,w,rfl,rfl⟩
 ·rintro r σ' ⟨w,rfl,rfl⟩
  exact⟨0,20,w,_,.int .u64,rfl,rfl,w,rfl,rfl⟩
theorem aij(p q w r:Nat)(c:AV)(acc:Hp)(s:Sy)(l:Lay)(who:Int)(x:WS)(d:Int)(ws:List Int)(σ:Hp)(hf:Fit s)(hv:bA ws)(ok:ND l x)(rd:zw c acc x.now){x':WS}{ws':List Int}{b:Bool}(ao:dv bj s l who x d ws=(x',ws',b)):
  ACalls Tryz.prog 390 [.ptr w 0,mK p,.int .i64 d] (WB s l who w r c acc x++ca p q ws σ) (fun z σ'=>∃r c acc,zw c acc x'.now∧z=.bool b∧σ'=WB s l who w r c acc x'++ca p q ws' σ):=by
 refine (afZ (zc p q) w r c acc s l who x d ws σ hf trivial (fun a=>Ht hv a) ok rd).mono ?_
 rintro z σ' ⟨m',r,c,acc,h1,h2,rfl,rfl⟩
 have h2:m'=(dv bj s l who x d ws).2.1:=h2
 refine⟨r,c,acc,?_,?_,?_⟩
 ·have:=h1
  rw[show dv (zc p q).O s l who x d ((zc p q).abs ws)=dv bj s l who x d ws from rfl,ao]at this
  exact this
 ·rw[show dv (zc p q).O s l who x d ((zc p q).abs ws)=dv bj s l who x d ws from rfl,ao]
 ·rw[show dv (zc p q).O s l who x d ((zc p q).abs ws)=dv bj s l who x d ws from rfl,h2,ao]
  rfl
theorem RZ{R:AV→Hp→Prop}{r:AV}(a:Hp){σ:Hp}(h:Fin R r σ):Fin R r (a++σ):=.drop 0 a.length (by rw[List.take_zero,dK,List.drop_left];exact h)
set_option maxHeartbeats 4000000
theorem Sq{ws:List Int}(h:bA ws)(a:Int){x:Int}(hx:bM x):bA (gZ ws a x):=by
 unfold gZ
 split
 ·exact h
 ·intro z hz
  rcases qb hz with hz | rfl
  ·exact h z hz
  ·exact hx
def fL(what w:Int)(i:Nat)(z:Int):Prop:=bM z∧(if what=3 then bR z=z else z.toNat<2 ^ min 64 (eS w-64*i))
theorem Yy(what w:Int)(i:Nat):fL what w i 0:=by
 refine⟨⟨by decide,by decide⟩,?_⟩
 split
 ·rfl
 ·exact Cb _
theorem Cx{what w:Int}(h:what=1∨what=2∨what=3){i:Nat}{x y:Int}(hx:fL what w i x)(hy:fL what w i y):fL what w i (dx what x y):=by
 refine⟨TL hx.1 hy.1,?_⟩
 have ux:=hx.1
 have uy:=hy.1
 obtain⟨a,rfl⟩:=mn ux.1
 obtain⟨b,rfl⟩:=mn uy.1
 have ha:a<18446744073709551616:=by have:=ux.2;omega
 have hb:b<18446744073709551616:=by have:=uy.2;omega
 rcases h with rfl | rfl | rfl
 ·have h1:=hx.2
  have h2:=hy.2
  rw[ah (by decide)]at h1 h2 ⊢
  rw[show dx 1 (a:Int) b=bits .or .u64 (a:Int) b from rfl,tk ha hb,bU]
  exact JY h1 h2
 ·have h1:=hx.2
  rw[ah (by decide)]at h1 ⊢
  rw[show dx 2 (a:Int) b=bits .and .u64 (a:Int) b from rfl,si ha hb,bU]
  exact Ch FL h1
 ·rw[ag rfl]
  exact QQ _ _
theorem Gz{what w:Int}{a:List Int}(hi:dC what w=true):eF what w a↔((a.length:Int)=ft what w∧∀i,i<a.length→fL what w i (wd a i)):=by
 constructor
 ·intro ⟨hv,mV⟩
  refine⟨xp hv,fun i h=>⟨oe mV i,?_⟩⟩
  by_cases h3:what=3
  ·rw[ag h3]
   exact xv ((jK hi h3).1 hv).2 h
  ·rw[ah h3]
   have:=(qd hi h3).1 hv
   unfold gq at this
   rw[bL,fp]at this
   simpa using this.2 i (List.mem_range.2 h)
 ·intro ⟨hl,hk⟩
  have mV:bA a:=fun z hz=>by
   obtain⟨i,hi,rfl⟩:=wW.1 hz
   rw[← lv a hi];exact (hk i hi).1
  refine⟨?_,mV⟩
  by_cases h3:what=3
  ·subst h3
   refine (jK hi rfl).2 ⟨?_,y5.2 fun z hz=>?_⟩
   ·rw[hl];unfold ft;rw[ag hi,ag rfl]
   ·obtain⟨i,hi,rfl⟩:=wW.1 hz
    have:=(hk i hi).2
    rw[ag rfl,lv a hi]at this
    exact this
  ·refine (qd hi h3).2 ?_
   have Oy:a.length=eX w:=by
    have:ft what w=(eX w:Int):=by unfold ft;rw[ag hi,ah h3]
    omega
   unfold gq
   rw[bL,fp]
   refine⟨by simpa using Oy,fun i hi=>?_⟩
   have:=(hk i (fA.1 hi)).2
   rw[ah h3]at this
   simpa using this
structure LS(s:Sy)(l:Lay):Prop where
 fit:Fit s
 ia:Good s
 what:l.what=s.what
 words:l.words=ft s.what s.w
 n:l.n=s.n
 k1:1≤l.k
 k2:l.k≤64
abbrev nN(s:Sy):Nat:=s.n.toNat
abbrev nW(l:Lay):Nat:=cw l.words
theorem LS.nn{s:Sy}{l:Lay}(h:LS s l):s.n=(nN s:Int)∧1≤nN s∧nN s≤256:=by have:=h.ia.n1;have:=h.ia.n2;unfold nN;omega
theorem LS.ww{s:Sy}{l:Lay}(h:LS s l):l.words=(nW l:Int)∧nW l≤1024:=by
 have:=CI s.what s.w
 have:=h.words
 unfold nW cw;omega
theorem tA{N W v i:Nat}(hv:v<N)(hi:i<W):v*W+i<N*W:=by
 have:(v+1)*W≤N*W:=iR _ hv
 rw[lh]at this
 omega
theorem Tv{W u v i j:Nat}(hi:i<W)(hj:j<W)(h:u*W+i=v*W+j):u=v∧i=j:=by
 have h1:(u*W+i) / W=u:=by rw[uO,Nat.mul_add_div (by omega),Nat.div_eq_of_lt hi,uN]
 have h2:(v*W+j) / W=v:=by rw[uO,Nat.mul_add_div (by omega),Nat.div_eq_of_lt hj,uN]
 have h3:u=v:=by rw[← h1,← h2,h]
 subst h3
 exact⟨rfl,by omega⟩
theorem sx{N W:Nat}(hN:N≤256)(hW:W≤1024):N*W≤262144:=jm hN hW
theorem iC{z:Int}(h0:0≤z)(h1:z<9223372036854775808):wr z=z:=by
 show IntKind.i64.wrap z=z
 rw[IntKind.wrap_i64];omega
section
variable {s:Sy} {l:Lay} (hs:LS s l)
include hs
theorem LS.flags:cP l=((nN s*nW l:Nat):Int):=by
 have h1:=hs.nn
 have h2:=hs.ww
 have:=sx h1.2.2 h2.2
 unfold cP
 rw[hs.n,h1.1,h2.1,← r8]
 exact iC (by omega) (by omega)
theorem LS.count:dr l=((nN s*nW l+nN s:Nat):Int):=by
 have h1:=hs.nn
 have h2:=hs.ww
 have:=sx h1.2.2 h2.2
 unfold dr
 rw[hs.flags,hs.n,h1.1,p8]
 exact iC (by omega) (by omega)
theorem LS.room:eu l=((nN s+1:Nat):Int)∧rm (eu l)=nN s+1:=by
 have h1:=hs.nn
 have e:eu l=((nN s+1:Nat):Int):=by
  unfold eu
  rw[hs.n,h1.1,p8]
  exact iC (by omega) (by omega)
 refine⟨e,?_⟩
 rw[e];unfold rm;omega
theorem LS.xR{k:Nat}(hk:k≤64):iT l k=((nN s*nW l+nN s+1+k*(nN s+3):Nat):Int):=by
 have h1:=hs.nn
 have h2:=hs.ww
 have h3:=sx h1.2.2 h2.2
 have h4:k*(nN s+3)≤64*259:=jm hk (by omega)
 unfold iT
 rw[hs.count,hs.room.2,show ((k:Int)*((2+(nN s+1):Nat):Int))=((k*(nN s+3):Nat):Int) by rw[r8];congr 1;omega]
 rw[iC (z:=((k*(nN s+3):Nat):Int)) (by omega) (by omega),iC (z:=((nN s*nW l+nN s:Nat):Int)+1) (by omega) (by omega)]
 rw[show ((nN s*nW l+nN s:Nat):Int)+1+((k*(nN s+3):Nat):Int)=((nN s*nW l+nN s+1+k*(nN s+3):Nat):Int) by omega]
 exact iC (by omega) (by omega)
theorem LS.Wd{v:Nat}(hv:v<nN s):aS l v=((v*nW l:Nat):Int):=by
 have h1:=hs.nn
 have h2:=hs.ww
 have h3:=sx h1.2.2 h2.2
 have h4:v*nW l≤nN s*nW l:=iR _ (by omega)
 unfold aS
 rw[h2.1,← r8]
 exact iC (by omega) (by omega)
theorem LS.Bk{v i:Nat}(hv:v<nN s)(hi:i<nW l):wr (aS l v+(i:Nat))=((v*nW l+i:Nat):Int):=by
 have h1:=hs.nn
 have h2:=hs.ww
 have h3:=sx h1.2.2 h2.2
 have h4:=tA hv hi
 rw[hs.Wd hv,← p8]
 exact iC (by omega) (by omega)
theorem LS.Bg{v:Nat}(hv:v<nN s):wr (cP l+(v:Nat))=((nN s*nW l+v:Nat):Int):=by
 have h1:=hs.nn
 have h2:=hs.ww
 have h3:=sx h1.2.2 h2.2
 rw[hs.flags,← p8]
 exact iC (by omega) (by omega)
theorem LS.vH:s.what=1∨s.what=2∨s.what=3:=by
 have:=hs.ia.uu
 unfold dC at this
 simp at this
 omega
end
structure MV(s:Sy)(l:Lay)(ws:List Int):Prop where
 a64:bA ws
 cells:∀v i,v<nN s→i<nW l→fL s.what s.w i (ws.getD (v*nW l+i) 0)
theorem jY{ws:List Int}{a b:Nat}{x:Int}:(ws.set a x).getD b 0=if a=b∧b<ws.length then x else ws.getD b 0:=by
 simp only[aR,dY]
 by_cases h:a=b
 ·subst h
  by_cases h2:a<ws.length
  ·simp[h2]
  ·simp[h2]
 ·simp[h]
theorem MV.AE{s:Sy}{l:Lay}{ws:List Int}(h:MV s l ws){a x:Int}(ha:((nN s*nW l:Nat):Int)≤a)(hx:bM x):MV s l (gZ ws a x):=by
 refine⟨Sq h.a64 a hx,fun v i hv hi=>?_⟩
 have:=tA hv hi
 obtain⟨k,rfl⟩:=mn (show 0≤a by omega)
 rw[lq,jY,ah (by omega)]
 exact h.cells v i hv hi
theorem MV.HU{s:Sy}{l:Lay}{ws:List Int}(h:MV s l ws){a o x:Int}(ha:((nN s*nW l:Nat):Int)≤a)(hx:bM x):MV s l (iX ws a o x):=by
 unfold iX;split
 ·exact h.AE ha hx
 ·exact h
theorem MV.Vy{s:Sy}{l:Lay}{ws:List Int}(h:MV s l ws){a x:Int}(ha:((nN s*nW l:Nat):Int)≤a):MV s l (ni ws a x):=by
 unfold ni;split
 ·exact h.AE ha (by unfold bM;omega)
 ·exact h
theorem MV.Qx{s:Sy}{l:Lay}{ws:List Int}(h:MV s l ws){u j:Nat}{x:Int}(hj:j<nW l)(hx:fL s.what s.w j x):MV s l (gZ ws ((u*nW l+j:Nat):Int) x):=by
 refine⟨Sq h.a64 _ hx.1,fun v i hv hi=>?_⟩
 rw[lq,jY]
 split
 ·rename_i he
  obtain⟨-,rfl⟩:=Tv hj hi he.1
  exact hx
 ·exact h.cells v i hv hi
theorem MV.acG{s:Sy}{l:Lay}{ws:List Int}(h:MV s l ws){u j:Nat}{o x:Int}(hj:j<nW l)(hx:fL s.what s.w j x):MV s l (iX ws ((u*nW l+j:Nat):Int) o x):=by
 unfold iX;split
 ·exact h.Qx hj hx
 ·exact h
theorem MV.load{s:Sy}{l:Lay}{ws:List Int}(h:MV s l ws){v i:Nat}(hv:v<nN s)(hi:i<nW l):fL s.what s.w i (gD ws ((v*nW l+i:Nat):Int)):=by
 rw[n5];exact h.cells v i hv hi
structure DQ.w4(q:DQ)(m:Nat):Prop where
 at_:q.at_≤m
 b:bM q.b
 t:bM q.t
 n:bM q.n
 x:bM q.x
 en:q.ended=false
def zx(s:Sy)(l:Lay)(who does node:Int)(nx out:List Int):Nw→Prop
 |.none=>False
 |.pop q=>does=0∧q.w4 5∧q.base=iT l who∧q.cap=eu l
 |.cc q=>does=1∧q.w4 3∧(∃v:Nat,(v:Int)<l.k∧q.base=iT l v)∧q.cap=eu l∧q.ok=false
 |.quiet t=>does=2∧t=⟨cP l,dr l,false,false⟩
 |.clear t=>does=3∧t=⟨cP l,dr l,node,false⟩
 |.read y=>does=4∧(y.length<nW l∨(nW l=0∧y=[]))∧∀i,i<y.length→fL s.what s.w i (wd y i)
 |.join j=>does=5∧(j.base=aS l (nx.headD 0)∧j.what=l.what∧j.words=l.words∧j.a=out)∧j.ended=false∧j.at_≤nW l∧bM j.x∧(j.fv=true→j.at_<nW l∧fL s.what s.w j.at_ j.x)
 |.take t=>does=6∧∃jH:Bool,t=⟨cP l,dr l,nx.headD 0,jH,false,jH⟩
 |.push q=>does=7∧q.w4 3∧q.base=iT l who∧q.cap=eu l∧q.ok=false
 |.dA t=>does=8∧t=⟨cP l,dr l,0,false⟩
def kept(l:Lay):Nw→Prop
 |.none | .quiet _ | .clear _ | .dA _=>False
 |.read y=>y.length<nW l
 |.join j=>j.at_<nW l
 |.take t=>t.jH=true
 |_=>True
structure WV(s:Sy)(l:Lay)(who:Int)(x:WS):Prop where
 does:0≤x.does∧x.does≤8
 node:0≤x.node∧x.node<s.n
 nx:∀u∈x.nx,0≤u∧u<s.n
 head:x.does=5∨x.does=6∨x.does=7→0<x.nx.length
 out:x.does=5∨x.does=6∨x.does=7→eF s.what s.w x.out
 BJ:x.does=1→2≤l.k
 now:x.now=.none∨(zx s l who x.does x.node x.nx x.out x.now∧kept l x.now)
theorem wv0{s:Sy}{l:Lay}(hs:LS s l)(who:Int):WV s l who nE:=
 ⟨by decide,⟨lf _,hs.ia.n1⟩,fun u hu=>(wQ hu).elim,fun h=>absurd h (by decide),fun h=>absurd h (by decide),fun h=>absurd h (by decide),.inl rfl⟩
theorem WV.ok{s:Sy}{l:Lay}(hs:LS s l){who:Int}{x:WS}(h:WV s l who x):ND l x:=by
 refine⟨h.head,fun h1=>agE ⟨h.BJ h1,hs.k2⟩,?_⟩
 have hh:=h.head
 rcases h.now with h0 | ⟨h1,h2⟩
 ·rw[h0];trivial
 ·cases hn:x.now with
  |none=>trivial
  |pop q=>rw[hn]at h1;exact⟨h1.2.1.at_,h1.2.1.b.1⟩
  |cc q=>rw[hn]at h1;exact⟨h1.2.1.at_,h1.2.1.t.1⟩
  |quiet q=>trivial
  |clear q=>trivial
  |read y=>
   rw[hn]at h1
   refine⟨h1.2.1,fun z hz=>?_⟩
   obtain⟨i,hi,rfl⟩:=wW.1 hz
   rw[← lv y hi];exact (h1.2.2 i hi).1
  |join j=>rw[hn]at h1;have:=hs.ww.2;exact⟨by have:=h1.2.2.2.1;omega,hh (.inl h1.1)⟩
  |take t=>rw[hn]at h1;exact hh (.inr (.inl h1.1))
  |push q=>rw[hn]at h1;exact⟨⟨h1.2.1.at_,h1.2.1.b.1⟩,hh (.inr (.inr h1.1))⟩
  |dA t=>trivial
theorem LS.ah0{s:Sy}{l:Lay}(hs:LS s l){k:Nat}(hk:k≤64):((nN s*nW l:Nat):Int)≤iT l k∧((nN s*nW l:Nat):Int)≤gF (iT l k)∧∀i,((nN s*nW l:Nat):Int)≤lA (iT l k) (eu l) i:=by
 have h1:=hs.nn
 have h2:=hs.ww
 have h3:=sx h1.2.2 h2.2
 have h4:k*(nN s+3)≤64*259:=jm hk (by omega)
 have hd:=hs.xR hk
 refine⟨by omega,?_,fun i=>?_⟩
 ·unfold gF;rw[hd,iC (by omega) (by omega)];omega
 ·unfold lA
  rw[hs.room.2]
  have hm:=JO i (show ((nN s+1:Nat):Int)≠0 by omega)
  have rT:=J0 i (show (0:Int)<((nN s+1:Nat):Int) by omega)
  rw[hd,iC (z:=((nN s*nW l+nN s+1+k*(nN s+3):Nat):Int)+2) (by omega) (by omega),iC (z:=i % _) hm (by omega),iC (by omega) (by omega)]
  omega
theorem A6(n:Int):bM (wu n):=Dd n
section
variable {s:Sy} {l:Lay} {ws ws':List Int} {q q':DQ} {b:Bool}
theorem ZR(hw:MV s l ws)(hq:q.w4 5)(hb:((nN s*nW l:Nat):Int)≤gF q.base)(h0:((nN s*nW l:Nat):Int)≤q.base)(h:fq bj q ws=(q',ws',b)):MV s l ws'∧ws'.length=ws.length∧q'.base=q.base∧q'.cap=q.cap∧bM q'.n∧(b=false→q'.w4 5):=by
 obtain⟨base,cap,n,ok,ended,at_,bb,t,x⟩:=q
 obtain⟨h1,h2,h3,h4,h5,h6⟩:=hq
 have l1:=fun a=>Ht hw.a64 a
 have s1:=fun {a} {x} (ha:((nN s*nW l:Nat):Int)≤a) (hx:bM x)=>hw.AE ha hx
 have c1:=fun {a} {o} {x} (ha:((nN s*nW l:Nat):Int)≤a) (hx:bM x)=>hw.HU (o:=o) ha hx
 dsimp only at *
 subst h6
 unfold fq at h
 dsimp only at h
 repeat' split at h
 all_goals
  cases h
  refine⟨?_,?_,rfl,rfl,?_,fun hb=>?_⟩
 all_goals first
  |contradiction
  |assumption
  |rfl
  |exact Aj _ _ _
  |exact w6 _ _ _ _
  |exact s1 hb h2
  |exact s1 hb (A6 _)
  |exact c1 h0 (A6 _)
  |exact l1 _
  |(dsimp only;split <;> assumption)
  |exact⟨by dsimp only;omega,by first | assumption | exact l1 _ | exact A6 _,by first | assumption | exact l1 _,by first | assumption | exact l1 _,by first | assumption | exact l1 _,rfl⟩
theorem XN(hw:MV s l ws)(hq:q.w4 3)(h0:((nN s*nW l:Nat):Int)≤q.base)(hk:q.ok=false)(h:gA bj q ws=(q',ws',b)):MV s l ws'∧ws'.length=ws.length∧q'.base=q.base∧q'.cap=q.cap∧bM q'.n∧(b=false→q'.w4 3∧q'.ok=false):=by
 obtain⟨base,cap,n,ok,ended,at_,bb,t,x⟩:=q
 obtain⟨h1,h2,h3,h4,h5,h6⟩:=hq
 have l1:=fun a=>Ht hw.a64 a
 have c1:=fun {a} {o} {x} (ha:((nN s*nW l:Nat):Int)≤a) (hx:bM x)=>hw.HU (o:=o) ha hx
 dsimp only at *
 subst h6;subst hk
 unfold gA at h
 dsimp only at h
 repeat' split at h
 all_goals
  cases h
  refine⟨?_,?_,rfl,rfl,?_,fun hb=>?_⟩
 all_goals first
  |contradiction
  |assumption
  |rfl
  |exact Aj _ _ _
  |exact w6 _ _ _ _
  |exact c1 h0 (A6 _)
  |exact l1 _
  |exact⟨⟨by dsimp only;omega,by first | assumption | exact l1 _,by first | assumption | exact l1 _,by first | assumption | exact l1 _,by first | assumption | exact l1 _,rfl⟩,rfl⟩
theorem YL(hw:MV s l ws)(hq:q.w4 3)(hb:((nN s*nW l:Nat):Int)≤gF q.base)(hp:∀i,((nN s*nW l:Nat):Int)≤lA q.base q.cap i)(hk:q.ok=false)(h:gn bj q ws=(q',ws',b)):MV s l ws'∧ws'.length=ws.length∧q'.base=q.base∧q'.cap=q.cap∧bM q'.n∧(b=false→q'.w4 3∧q'.ok=false):=by
 obtain⟨base,cap,n,ok,ended,at_,bb,t,x⟩:=q
 obtain⟨h1,h2,h3,h4,h5,h6⟩:=hq
 have l1:=fun a=>Ht hw.a64 a
 have s1:=fun {a} {x} (ha:((nN s*nW l:Nat):Int)≤a) (hx:bM x)=>hw.AE ha hx
 dsimp only at *
 subst h6;subst hk
 unfold gn at h
 dsimp only at h
 repeat' split at h
 all_goals
  cases h
  refine⟨?_,?_,rfl,rfl,?_,fun hb=>?_⟩
 all_goals first
  |contradiction
  |assumption
  |rfl
  |exact Aj _ _ _
  |exact w6 _ _ _ _
  |exact s1 hb (A6 _)
  |exact s1 (hp _) h4
  |exact l1 _
  |exact⟨⟨by dsimp only;omega,by first | assumption | exact l1 _,by first | assumption | exact l1 _,by first | assumption | exact l1 _,by first | assumption | exact l1 _,rfl⟩,rfl⟩
end
theorem UX{y:List Int}{z:Int}{i:Nat}:wd (y++[z]) i=if i<y.length then wd y i else if i=y.length then z else 0:=by
 unfold wd
 rw[List.getElem?_append]
 by_cases h:i<y.length
 ·rw[ag h,ag h]
 ·rw[ah h,ah h]
  by_cases h2:i=y.length
  ·subst h2;simp
  ·rw[ah h2,uS (by show 1≤_;omega)];rfl
theorem YJ{s:Sy}{l:Lay}{ws ws':List Int}{y y':List Int}{b:Bool}(hs:LS s l)(hw:MV s l ws){v:Nat}(hv:v<nN s)(hy:y.length<nW l∨(nW l=0∧y=[]))(hk:∀i,i<y.length→fL s.what s.w i (wd y i))(h:mB bj l (aS l v) y ws=(y',ws',b)):ws'=ws∧(∀i,i<y'.length→fL s.what s.w i (wd y' i))∧(b=false→y'.length<nW l)∧(b=true→eF s.what s.w y'):=by
 have Jc:=hs.ww
 unfold mB at h
 split at h
 ·rename_i ab
  have ab:y.length<nW l:=ab
  cases h
  have e:∀i,i<(y++[(bj.ld ws (wr (aS l v+(y.length:Nat)))).1]).length→fL s.what s.w i (wd (y++[(bj.ld ws (wr (aS l v+(y.length:Nat)))).1]) i):=fun i hi=>by
   rw[bG]at hi
   have hi:i<y.length+1:=hi
   rw[UX]
   by_cases h1:i<y.length
   ·rw[ag h1];exact hk i h1
   ·obtain rfl:i=y.length:=by omega
    rw[ah h1,ag rfl]
    show fL _ _ _ (gD ws _)
    rw[hs.Bk hv ab]
    exact hw.load hv ab
  refine⟨rfl,e,fun hb=>?_,fun hb=>?_⟩
  ·have hb:¬y.length+1=nW l:=sd hb
   rw[bG];show y.length+1<_;omega
  ·have hb:y.length+1=nW l:=fP hb
   refine (Gz hs.ia.uu).2 ⟨?_,e⟩
   rw[← hs.words,Jc.1,bG];show ((y.length+1:Nat):Int)=_;omega
 ·rename_i ab
  obtain⟨h1,h2⟩:=Prod.mk.inj h
  obtain⟨h2,h3⟩:=Prod.mk.inj h2
  subst h1;subst h2;subst h3
  have h0:nW l=0∧y=[]:=by
   rcases hy with h | h
   ·exact absurd h ab
   ·exact h
  refine⟨rfl,hk,fun hb=>(by cases hb),fun _=>?_⟩
  refine (Gz hs.ia.uu).2 ⟨?_,hk⟩
  rw[← hs.words,Jc.1,h0.1,h0.2];rfl
theorem YU{s:Sy}{l:Lay}{ws ws':List Int}{j j':Jn}{b:Bool}(hs:LS s l)(hw:MV s l ws){u:Nat}(hu:u<nN s)(Ic:j.base=aS l u)(agI:j.what=l.what)(afI:j.words=l.words)(ha:eF s.what s.w j.a)(j8:j.ended=false)(dX:j.at_≤nW l)(hx:bM j.x)(hl:j.fv=true→j.at_<nW l∧fL s.what s.w j.at_ j.x)(h:iq bj j ws=(j',ws',b)):
  MV s l ws'∧ws'.length=ws.length∧(j'.base=j.base∧j'.what=j.what∧j'.words=j.words∧j'.a=j.a)∧(b=false→j'.ended=false∧j'.at_<nW l∧bM j'.x∧(j'.fv=true→fL s.what s.w j'.at_ j'.x)):=by
 obtain⟨base,what,words,a,changed,ended,tries,at_,fv,x⟩:=j
 dsimp only at *
 subst Ic;subst j8;subst agI;subst afI
 have Jc:=hs.ww
 have rQ:∀i,i<nW l→fL s.what s.w i (wd a i):=fun i hi=>by
  have:=(Gz hs.ia.uu).1 ha
  refine this.2 i ?_
  have h2:=this.1
  rw[← hs.words,Jc.1]at h2
  omega
 unfold iq at h
 dsimp only at h
 split at h
 ·contradiction
 split at h
 ·cases h
  exact⟨hw,rfl,⟨rfl,rfl,rfl,rfl⟩,fun hb=>by cases hb⟩
 rename_i NS
 have ab:at_<nW l:=by have:¬at_=nW l:=NS;omega
 have hA:=hs.Bk hu ab
 have BX:fL s.what s.w at_ (gD ws (wr (aS l u+(at_:Nat)))):=by rw[hA];exact hw.load hu ab
 rw[hs.what]at h
 split at h
 ·rename_i ahR
  have ic:=(hl ahR).2
  have Jm:=Cx hs.vH ic (rQ at_ ab)
  have hM:∀o,MV s l (iX ws (wr (aS l u+(at_:Nat))) o (dx s.what x (wd a at_))):=fun o=>by rw[hA];exact hw.acG ab Jm
  split at h
  ·unfold gL at h
   dsimp only at h
   split at h
   ·rename_i hn
    cases h
    exact⟨hM _,w6 _ _ _ _,⟨rfl,hs.what.symm,rfl,rfl⟩,fun _=>⟨rfl,hn,hx,fun hc=>by cases hc⟩⟩
   ·cases h
    exact⟨hM _,w6 _ _ _ _,⟨rfl,hs.what.symm,rfl,rfl⟩,fun hb=>by cases hb⟩
  ·cases h
   exact⟨hM _,w6 _ _ _ _,⟨rfl,hs.what.symm,rfl,rfl⟩,fun _=>⟨rfl,ab,hx,fun hc=>by cases hc⟩⟩
 ·split at h
  ·unfold gL at h
   dsimp only at h
   split at h
   ·rename_i hn
    cases h
    exact⟨hw,rfl,⟨rfl,hs.what.symm,rfl,rfl⟩,fun _=>⟨rfl,hn,BX.1,fun hc=>absurd hc (by assumption)⟩⟩
   ·cases h
    exact⟨hw,rfl,⟨rfl,hs.what.symm,rfl,rfl⟩,fun hb=>by cases hb⟩
  ·cases h
   exact⟨hw,rfl,⟨rfl,hs.what.symm,rfl,rfl⟩,fun _=>⟨rfl,ab,BX.1,fun _=>BX⟩⟩
def WX(s:Sy)(does:Int):Nw→Prop
 |.none=>False
 |.pop q=>bM q.n
 |.cc q=>bM q.n
 |.read y=>eF s.what s.w y
 |.join _=>does=5
 |.take _=>does=6
 |.push _=>does=7
 |_=>True
theorem Mh{nx:List Int}{n:Int}(h:∀u∈nx,0≤u∧u<n)(h0:0<nx.length):∃u:Nat,nx.headD 0=u∧(u:Int)<n:=by
 cases nx with
 |nil=>cases h0
 |cons u r=>
  have:=h u (bV ..)
  exact⟨u.toNat,by show u=_;omega,by omega⟩
theorem Z5{s:Sy}{l:Lay}{ws ws':List Int}{who does node:Int}{nx out:List Int}{n n':Nw}{b:Bool}(hs:LS s l)(hw:MV s l ws)(pM:0≤who∧who<l.k)(qp:0≤node∧node<s.n)(cy:∀u∈nx,0≤u∧u<s.n)(hh:does=5∨does=6∨does=7→0<nx.length)(ho:does=5∨does=6∨does=7→eF s.what s.w out)
  (hb:zx s l who does node nx out n) (h:ga bj l node n ws=(n',ws',b)):MV s l ws'∧ws'.length=ws.length∧(b=false→zx s l who does node nx out n'∧kept l n')∧(b=true→WX s does n'):=by
 have ef:=hs.k2
 have hd:∀k:Nat,(k:Int)<l.k→((nN s*nW l:Nat):Int)≤iT l k∧((nN s*nW l:Nat):Int)≤gF (iT l k)∧∀i,((nN s*nW l:Nat):Int)≤lA (iT l k) (eu l) i:=fun k hk=>hs.ah0 (by omega)
 obtain⟨me,rfl⟩:=mn pM.1
 obtain⟨v,rfl⟩:=mn qp.1
 have hv:v<nN s:=by have:=hs.nn;omega
 have Jr:=hd me pM.2
 cases n with
 |none=>exact hb.elim
 |pop q=>
  obtain⟨q',a',b',ao⟩:∃q' a' b',fq bj q ws=(q',a',b'):=⟨_,_,_,rfl⟩
  rw[vF ao]at h
  cases h
  obtain⟨h1,h2,h3,h4⟩:=hb
  obtain⟨k1,k2,k3,k4,k5,k6⟩:=ZR hw h2 (by rw[h3];exact Jr.2.1) (by rw[h3];exact Jr.1) ao
  exact⟨k1,k2,fun hb=>⟨⟨h1,k6 hb,k3.trans h3,k4.trans h4⟩,trivial⟩,fun _=>k5⟩
 |cc q=>
  obtain⟨q',a',b',ao⟩:∃q' a' b',gA bj q ws=(q',a',b'):=⟨_,_,_,rfl⟩
  rw[vm ao]at h
  cases h
  obtain⟨h1,h2,⟨k,hk,h3⟩,h4,h5⟩:=hb
  obtain⟨k1,k2,k3,k4,k5,k6⟩:=XN hw h2 (by rw[h3];exact (hd k hk).1) h5 ao
  exact⟨k1,k2,fun hb=>⟨⟨h1,(k6 hb).1,⟨k,hk,k3.trans h3⟩,k4.trans h4,(k6 hb).2⟩,trivial⟩,fun _=>k5⟩
 |quiet t=>
  obtain⟨h1,rfl⟩:=hb
  cases h
  exact⟨hw,rfl,fun hb=>(by cases hb),fun _=>trivial⟩
 |clear t=>
  obtain⟨h1,rfl⟩:=hb
  cases h
  refine⟨?_,?_,fun hb=>(by cases hb),fun _=>trivial⟩
  ·show MV s l (if 0≤(v:Int) then gZ ws (wr (cP l+(v:Nat))) 0 else ws)
   rw[ag (by omega),hs.Bg hv]
   exact hw.AE (by omega) (by unfold bM;omega)
  ·show (if 0≤(v:Int) then gZ ws (wr (cP l+(v:Nat))) 0 else ws).length=_
   rw[ag (by omega)];exact Aj _ _ _
 |read y=>
  obtain⟨y',a',b',ao⟩:∃y' a' b',mB bj l (aS l v) y ws=(y',a',b'):=⟨_,_,_,rfl⟩
  rw[y6 ao]at h
  cases h
  obtain⟨h1,h2,h3⟩:=hb
  obtain⟨rfl,k2,k3,k4⟩:=YJ hs hw hv h2 h3 ao
  exact⟨hw,rfl,fun hb=>⟨⟨h1,.inl (k3 hb),k2⟩,k3 hb⟩,fun hb=>k4 hb⟩
 |join j=>
  obtain⟨j',a',b',ao⟩:∃j' a' b',iq bj j ws=(j',a',b'):=⟨_,_,_,rfl⟩
  rw[vA ao]at h
  cases h
  obtain⟨h1,⟨h2,h3,h4,h5⟩,h6,h7,h8,h9⟩:=hb
  obtain⟨u,hu,eP⟩:=Mh cy (hh (.inl h1))
  obtain⟨k1,k2,⟨k3,k4,k5,k6⟩,k7⟩:=YU hs hw (u:=u) (by have:=hs.nn;omega) (by rw[h2,hu]) h3 h4 (by rw[h5];exact ho (.inl h1)) h6 h7 h8 h9 ao
  refine⟨k1,k2,fun hb=>?_,fun _=>h1⟩
  obtain⟨m1,m2,m3,m4⟩:=k7 hb
  exact⟨⟨h1,⟨k3.trans h2,k4.trans h3,k5.trans h4,k6.trans h5⟩,m1,Nat.le_of_lt m2,m3,fun hc=>⟨m2,m4 hc⟩⟩,m2⟩
 |take t=>
  obtain⟨h1,jH,rfl⟩:=hb
  obtain⟨u,hu,eP⟩:=Mh cy (hh (.inr (.inl h1)))
  have BS:u<nN s:=by have:=hs.nn;omega
  rw[hu]at h
  have gG:((nN s*nW l:Nat):Int)≤wr (cP l+(u:Nat)):=by rw[hs.Bg BS];omega
  have OH:((nN s*nW l:Nat):Int)≤dr l:=by rw[hs.count];omega
  cases jH with
  |true=>
   cases h
   exact⟨hw.Vy OH,PL _ _ _,fun hb=>(by cases hb),fun _=>h1⟩
  |false=>
   obtain⟨t',a',b',ao⟩:∃t' a' b',kN bj ⟨cP l,dr l,(u:Nat),false,false,false⟩ ws=(t',a',b'):=⟨_,_,_,rfl⟩
   rw[vw ao]at h
   cases h
   unfold kN at ao
   dsimp only at ao
   rw[ah (by decide),ah (by decide),ag (by omega)]at ao
   split at ao
   ·cases ao
    exact⟨hw.HU gG (by unfold bM;omega),w6 _ _ _ _,fun _=>⟨⟨h1,true,by rw[hu]⟩,rfl⟩,fun hb=>(by cases hb)⟩
   ·cases ao
    exact⟨hw.HU gG (by unfold bM;omega),w6 _ _ _ _,fun hb=>(by cases hb),fun _=>h1⟩
 |push q=>
  obtain⟨q',a',b',ao⟩:∃q' a' b',gn bj q ws=(q',a',b'):=⟨_,_,_,rfl⟩
  rw[Dn ao]at h
  cases h
  obtain⟨h1,h2,h3,h4,h5⟩:=hb
  obtain⟨k1,k2,k3,k4,k5,k6⟩:=YL hw h2 (by rw[h3];exact Jr.2.1) (by rw[h3,h4];exact Jr.2.2) h5 ao
  exact⟨k1,k2,fun hb=>⟨⟨h1,(k6 hb).1,k3.trans h3,k4.trans h4,(k6 hb).2⟩,trivial⟩,fun _=>h1⟩
 |dA t=>
  obtain⟨h1,rfl⟩:=hb
  cases h
  have OH:((nN s*nW l:Nat):Int)≤dr l:=by rw[hs.count];omega
  exact⟨hw.Vy OH,PL _ _ _,fun hb=>(by cases hb),fun _=>trivial⟩
theorem AB:bM 0:=by unfold bM;omega
theorem MK(base cap n:Int)(m:Nat)(h:bM n):(uV base cap n).w4 m:=⟨bK _,AB,AB,h,AB,rfl⟩
theorem ado{d n:Int}(hn:0<n): -n<d.tmod n∧d.tmod n<n:=⟨by have:=J3 (-d) hn;rw[Int.neg_tmod]at this;omega,J3 _ hn⟩
theorem Rg{s:Sy}{l:Lay}(hs:LS s l){who:Int}(pM:0≤who∧who<l.k)(h2:2≤l.k)(d:Int):∃v:Nat,De l who d=v∧(v:Int)<l.k:=by
 have ef:=hs.k2
 have hnk:nK l=l.k-1:=iC (by omega) (by omega)
 have h1:=ado (d:=d) (n:=l.k-1) (by omega)
 unfold De
 rw[hnk]
 generalize d.tmod (l.k-1)=a at h1
 rw[iC (z:=a+(l.k-1)) (by omega) (by omega),iC (z:=who+1) (by omega) (by omega)]
 have h3:0≤(a+(l.k-1)).tmod (l.k-1):=Int.tmod_nonneg _ (by omega)
 have h4:=J3 (a+(l.k-1)) (show 0<l.k-1 by omega)
 generalize (a+(l.k-1)).tmod (l.k-1)=c at h3 h4
 rw[iC (by omega) (by omega)]
 have h5:0≤(who+1+c).tmod l.k:=Int.tmod_nonneg _ (by omega)
 have h6:=J3 (who+1+c) (show 0<l.k by omega)
 exact⟨_,(lT h5).symm,by omega⟩
theorem Uq{s:Sy}{l:Lay}{who:Int}{x:WS}{d:Int}(hs:LS s l)(pM:0≤who∧who<l.k)(h:WV s l who x):zx s l who x.does x.node x.nx x.out (km l who x d):=by
 have hd:=h.does
 have hw:=hs.ww
 rcases h.now with h0 | h0
 ·unfold km
  rw[h0]
  show zx s l who x.does x.node x.nx x.out (iN l who x.does x.node x.nx x.out d)
  unfold iN
  repeat' split
  ·exact⟨by assumption,MK _ _ _ _ (by unfold bM;omega),rfl,rfl⟩
  ·rename_i h1
   obtain⟨v,hv,hvk⟩:=Rg hs pM (h.BJ h1) d
   exact⟨h1,MK _ _ _ _ (by unfold bM;omega),⟨v,hvk,by rw[← hv];rfl⟩,rfl,rfl⟩
  ·exact⟨by assumption,rfl⟩
  ·exact⟨by assumption,rfl⟩
  ·refine⟨by assumption,?_,fun i hi=>absurd hi (ml _)⟩
   rcases uQ (nW l) with h | h
   ·exact .inr ⟨h,rfl⟩
   ·exact .inl h
  ·exact⟨by assumption,⟨rfl,rfl,rfl,rfl⟩,rfl,bK _,AB,fun hc=>by cases hc⟩
  ·exact⟨by assumption,false,rfl⟩
  ·exact⟨by assumption,MK _ _ _ _ (A6 _),rfl,rfl,rfl⟩
  ·exact⟨by omega,rfl⟩
 ·unfold km
  split
  ·rename_i hn;rw[hn]at h0;exact h0.1.elim
  ·exact h0.1
theorem Vk{s:Sy}{l:Lay}(hs:LS s l){n:Int}(h:bM n):0≤pg l n∧pg l n<s.n:=by
 have hn:=hs.nn
 have e:wu l.n=s.n:=by
  show IntKind.u64.wrap l.n=_
  rw[IntKind.wrap_u64,hs.n];omega
 unfold pg
 rw[e]
 split
 ·omega
 ·rw[iC h.1 (by omega)]
  exact⟨h.1,by omega⟩
theorem qk{s:Sy}{l:Lay}{who:Int}{x:WS}(h0:x.now=.none)(h1:0≤x.does∧x.does≤8)(h2:0≤x.node∧x.node<s.n)(h3:∀u∈x.nx,0≤u∧u<s.n)(h4:x.does=5∨x.does=6∨x.does=7→0<x.nx.length∧eF s.what s.w x.out)(h5:x.does=1→2≤l.k):WV s l who x:=
 ⟨h1,h2,h3,fun h=>(h4 h).1,fun h=>(h4 h).2,h5,.inl h0⟩
theorem afT{s:Sy}{l:Lay}{who:Int}{x:WS}{n:Nw}(hs:LS s l)(h:WV s l who x)(he:WX s x.does n):WV s l who (ew s l x n):=by
 have g:=fun n=>Y0 l n
 have f:=Y1 x.nx
 have r:=ZN s x.node
 have no:=X4 l
 have qu:=YK l
 have Jo:∀u∈x.nx.tail,0≤u∧u<s.n:=fun u hu=>h.nx u (List.mem_of_mem_tail hu)
 cases n with
 |none=>exact he.elim
 |pop q=>
  have g:=g q.n
  by_cases hq:q.ok=true
  ·rw[show ew s l x (.pop q)=⟨x.ev,x.jo,x.en,rj l q.n,.none,pg l q.n,true,x.nx,x.out⟩ from ag hq]
   exact qk rfl (by dsimp only;omega) (Vk hs he) h.nx (fun h=>by dsimp only at h;omega) (fun h=>by dsimp only at h;omega)
  ·rw[show ew s l x (.pop q)=⟨x.ev,x.jo,x.en,rf l,.none,x.node,x.has,x.nx,x.out⟩ from ah hq]
   exact qk rfl (by dsimp only;omega) h.node h.nx (fun h=>by dsimp only at h;omega) (fun h=>by dsimp only at h;omega)
 |cc q=>
  have g:=g q.n
  by_cases hq:q.ok=true
  ·rw[show ew s l x (.cc q)=⟨x.ev,x.jo,x.en,rj l q.n,.none,pg l q.n,true,x.nx,x.out⟩ from ag hq]
   exact qk rfl (by dsimp only;omega) (Vk hs he) h.nx (fun h=>by dsimp only at h;omega) (fun h=>by dsimp only at h;omega)
  ·rw[show ew s l x (.cc q)=⟨x.ev,x.jo,x.en,2,.none,x.node,x.has,x.nx,x.out⟩ from ah hq]
   exact qk rfl (by dsimp only;omega) h.node h.nx (fun h=>by dsimp only at h;omega) (fun h=>by dsimp only at h;omega)
 |quiet q=>exact qk rfl (by dsimp only[ew];omega) h.node h.nx (fun h=>by dsimp only[ew]at h;omega) (fun h=>by dsimp only[ew]at h;omega)
 |clear q=>exact qk rfl (by dsimp only[ew];omega) h.node h.nx (fun h=>by dsimp only[ew]at h;omega) (fun h=>by dsimp only[ew]at h;omega)
 |read y=>
  obtain⟨v,hv⟩:=mn h.node.1
  have cX:=h.node.2
  have hE:pI s x.node y=0:=SK ((GK (Lb hs.ia) h.node).symm) he.v
  have hV:eF s.what s.w (sO (pI s x.node y) (jO s y x.node.toNat)):=by
   rw[hE,show sO 0 (jO s y x.node.toNat)=jO s y x.node.toNat from rfl]
   have:=L7 hs.fit hs.ia he.dh he.v (v:=x.node.toNat) (by omega)
   exact⟨this.1,this.2⟩
  exact qk rfl (by dsimp only[ew];omega) h.node (fun u hu=>(lu.1 hu).1) (fun h=>⟨by dsimp only[ew]at h ⊢;omega,hV⟩) (fun h=>by dsimp only[ew]at h;omega)
 |join q=>
  have hh:=h.head (.inl he)
  have ho:=h.out (.inl he)
  by_cases hq:q.changed=true
  ·rw[show ew s l x (.join q)=⟨x.ev,wr (x.jo+1),x.en,6,.none,x.node,x.has,x.nx,x.out⟩ from ag hq]
   exact qk rfl (by dsimp only;omega) h.node h.nx (fun _=>⟨hh,ho⟩) (fun h=>by dsimp only at h;omega)
  ·rw[show ew s l x (.join q)=⟨x.ev,x.jo,x.en,ko x.nx,.none,x.node,x.has,x.nx.tail,x.out⟩ from ah hq]
   exact qk rfl (by dsimp only;omega) h.node Jo (fun h=>⟨by dsimp only at h ⊢;omega,ho⟩) (fun h=>by dsimp only at h;omega)
 |take q=>
  have hh:=h.head (.inr (.inl he))
  have ho:=h.out (.inr (.inl he))
  by_cases hq:q.new=true
  ·rw[show ew s l x (.take q)=⟨x.ev,x.jo,x.en,7,.none,x.node,x.has,x.nx,x.out⟩ from ag hq]
   exact qk rfl (by dsimp only;omega) h.node h.nx (fun _=>⟨hh,ho⟩) (fun h=>by dsimp only at h;omega)
  ·rw[show ew s l x (.take q)=⟨x.ev,x.jo,x.en,ko x.nx,.none,x.node,x.has,x.nx.tail,x.out⟩ from ah hq]
   exact qk rfl (by dsimp only;omega) h.node Jo (fun h=>⟨by dsimp only at h ⊢;omega,ho⟩) (fun h=>by dsimp only at h;omega)
 |push q=>
  have ho:=h.out (.inr (.inr he))
  exact qk rfl (by dsimp only[ew];omega) h.node Jo (fun h=>⟨by dsimp only[ew]at h ⊢;omega,ho⟩) (fun h=>by dsimp only[ew]at h;omega)
 |dA q=>exact qk rfl (by dsimp only[ew];omega) h.node h.nx (fun h=>by dsimp only[ew]at h;omega) (fun h=>by dsimp only[ew]at h;omega)
theorem adh{s:Sy}{l:Lay}{who:Int}{x:WS}{d:Int}{ws:List Int}(hs:LS s l)(pM:0≤who∧who<l.k)(hw:MV s l ws)(h:WV s l who x):MV s l (dv bj s l who x d ws).2.1∧(dv bj s l who x d ws).2.1.length=ws.length∧WV s l who (dv bj s l who x d ws).1:=by
 obtain⟨n',ws',b,ao⟩:∃n' ws' b,ga bj l x.node (km l who x d) ws=(n',ws',b):=⟨_,_,_,rfl⟩
 obtain⟨k1,k2,k3,k4⟩:=Z5 hs hw pM h.node h.nx h.head h.out (Uq hs pM h (d:=d)) ao
 unfold dv
 rw[ao]
 dsimp only
 split
 ·exact⟨hw,rfl,h⟩
 ·split
  ·rename_i hb
   exact⟨k1,k2,afT hs h (k4 hb)⟩
  ·rename_i hb
   exact⟨k1,k2,h.does,h.node,h.nx,h.head,h.out,h.BJ,.inr (k3 (by simpa using hb))⟩
set_option maxHeartbeats 4000000
theorem afl{l:Lay}{base:Int}{y ws:List Int}(h:y.length<cw l.words){x:Int}(hx:gD ws (wr (base+(y.length:Nat)))=x):mB bj l base y ws=(y++[x],ws,decide (y.length+1=cw l.words)):=by
 subst hx
 exact ag h
theorem acJ{s:Sy}{l:Lay}{x:WS}{y:List Int}(h:pI s x.node y=0):ew s l x (.read y)=⟨wr (x.ev+1),x.jo,x.en,vE s x.node,.none,x.node,x.has,ar s.n s.aL x.node,jO s y x.node.toNat⟩:=by
 show (⟨wr (x.ev+1),x.jo,x.en,vE s x.node,.none,x.node,x.has,ar s.n s.aL x.node,sO (pI s x.node y) (jO s y x.node.toNat)⟩:WS)=_
 rw[h];rfl
set_option maxHeartbeats 4000000
theorem aaZ{s:Sy}{l:Lay}{who:Int}{x:WS}{d:Int}{ws:List Int}(he:x.en=false):(dv bj s l who x d ws).2.2=(dv bj s l who x d ws).1.en:=by
 unfold dv
 rw[ah (by rw[he];decide)]
 split
 ·rfl
 ·exact he.symm
theorem Lw{s:Sy}{k:Int}(h:cx s k=0):dH s=0∧1≤k∧k≤64:=by
 unfold cx at h
 split at h
 ·split at h
  ·exact⟨by assumption,by assumption⟩
  ·cases h
 ·exact absurd h (by assumption)
theorem A9{s:Sy}{k:Int}(hf:Fit s)(h:cx s k=0):LS s (iI s k)∧(iI s k).k=k:=by
 obtain⟨h1,h2⟩:=Lw h
 have e:∀z,kX (cx s k) z=z:=fun z=>ag h
 exact⟨⟨hf,Mj h1,e _,e _,e _,by rw[show (iI s k).k=k from e _];exact h2.1,by rw[show (iI s k).k=k from e _];exact h2.2⟩,e _⟩
def nF(l:Lay):Nat:=(iT l l.k).toNat
section
variable {s:Sy} {l:Lay} (hs:LS s l)
include hs
theorem LS.kk:∃k:Nat,l.k=k∧1≤k∧k≤64:=⟨l.k.toNat,by have:=hs.k1;have:=hs.k2;omega⟩
theorem LS.size:iT l l.k=(nF l:Int)∧nF l≤1000000∧rK (iT l l.k)=nF l:=by
 obtain⟨k,hk,kF,ef⟩:=hs.kk
 have hd:=hs.xR ef
 have h1:=hs.nn
 have h2:=hs.ww
 have h3:=sx h1.2.2 h2.2
 have h4:k*(nN s+3)≤64*259:=jm ef (by omega)
 unfold nF rK
 rw[hk,hd]
 omega
theorem LS.low:nN s*nW l+nN s<nF l:=by
 obtain⟨m,hm,uB,rT⟩:=hs.kk
 have rW:=hs.xR rT
 unfold nF
 rw[hm,rW]
 omega
end
theorem MV.afe{s:Sy}{l:Lay}{ws:List Int}(h:MV s l ws){a:Nat}{x:Int}(ha:nN s*nW l≤a)(hx:bM x):MV s l (ws.set a x):=by
 rw[← lq]
 exact h.AE (by omega) hx
theorem MV.abi{s:Sy}{l:Lay}{ws:List Int}(h:MV s l ws){u j:Nat}{x:Int}(hj:j<nW l)(hx:fL s.what s.w j x):MV s l (ws.set (u*nW l+j) x):=by
 rw[← lq]
 exact h.Qx hj hx
theorem ae3(s:Sy)(l:Lay)(n:Nat):MV s l (List.replicate n 0):=⟨fun z hz=>by rw[yC hz];exact AB,fun v i _ _=>by
 have:(List.replicate n (0:Int)).getD (v*nW l+i) 0=0:=by
  rw[aR,uT];split <;> rfl
 rw[this];exact Yy _ _ _⟩
def pS(s:Sy)(l:Lay)(ws:List Int):Prop:=ws.length=nF l∧MV s l ws
theorem pS.hi{s:Sy}{l:Lay}{ws:List Int}(h:pS s l ws){a:Nat}{x:Int}(ha:nN s*nW l≤a)(hx:bM x):pS s l (ws.set a x):=⟨by rw[ck];exact h.1,h.2.afe ha hx⟩
theorem Ln:∀{l m:List Int},l.Nodup→(∀x∈l,x∈m)→l.length≤m.length
 | [],_,_,_=>bK _
 |a::l,m,hd,h=>by
  have hd:=lp.1 hd
  have ha:=h a (bV ..)
  have h1:=Ln (l:=l) (m:=m.erase a) hd.2 fun x hx=>(FR (fun e:x=a=>hd.1 (by rw[← e];exact hx))).2 (h x (cE _ hx))
  rw[List.length_erase_of_mem ha]at h1
  have:=Co ha
  rw[fO];omega
inductive Rx(nx:Int→List Int):Int→Int→Prop where
 |refl (a:Int):Rx nx a a
 |step {a b c:Int} (h:Rx nx a b) (hc:c∈nx b):Rx nx a c
theorem Rx.trans{nx:Int→List Int}{a b c:Int}(h1:Rx nx a b)(h2:Rx nx b c):Rx nx a c:=by
 induction h2 with
 |refl=>exact h1
 |step _ hc ih=>exact .step ih hc
theorem Rx.one{nx:Int→List Int}{a b:Int}(h:b∈nx a):Rx nx a b:=.step (.refl a) h
def pD(f:Int→Int)(a v:Int):Int→Int:=fun y=>if y=a then v else f y
theorem qe{f:Int→Int}{a v y:Int}(h:y≠a):pD f a v y=f y:=ah h
theorem qf{f:Int→Int}{a v:Int}:pD f a v a=v:=ag rfl
structure qX(n:Nat)(nx:Int→List Int)(P:List (List Int)):Prop where
 ne:∀p∈P,p≠[]
 node:∀p∈P,∀x∈p,0≤x∧x<(n:Int)
 nd:P.flatten.Nodup
 BH:∀p∈P,p.Pairwise (· < ·)
 Ps:∀p∈P,∀x∈p,∀y∈p,Rx nx x y
 Kp:∀(i:Nat) (p:List Int),P[i]?=some p→∀x∈p,∀y∈nx x,∃(j:Nat) (q:List Int),j≤i∧P[j]?=some q∧y∈q
theorem qX.nil(n:Nat)(nx:Int→List Int):qX n nx []:=⟨fun _ h=>(by cases h),fun _ h=>(by cases h),List.nodup_nil,fun _ h=>(by cases h),fun _ h=>(by cases h),fun i p h=>by simp at h⟩
theorem qX.reach{n:Nat}{nx:Int→List Int}{P:List (List Int)}(h:qX n nx P){x y:Int}(hr:Rx nx x y)(hx:∃p∈P,x∈p):∃p∈P,y∈p:=by
 induction hr with
 |refl=>exact hx
 |step _ hc ih=>
  obtain⟨p,hp,hb⟩:=ih
  obtain⟨i,hi⟩:=FQ hp
  obtain⟨j,q,_,hq,hy⟩:=h.Kp i p hi _ hb _ hc
  exact⟨q,bH hq,hy⟩
structure TJ(n:Nat)(nx:Int→List Int)(f L:Int→Int)(st:List Int)(aD:Nat)(P:List (List Int))(W:List Int):Prop where
 node:∀x∈st,0≤x∧x<(n:Int)
 inc:st.Pairwise fun x y=>f x<f y
 sK:∀x∈st,1≤f x∧f x≤aD
 ya:∀x:Int,0≤x→x<n→(f x≠0↔x∈st∨∃p∈P,x∈p)
 Ag:∀p∈P,∀x∈p,x ∉ st
 len:aD=st.length+P.flatten.length
 sub:W.Sublist st
 top:∀x∈st,∃v∈W,f v≤f x
 zM:∀v∈W,∀x∈st,f v≤f x→Rx nx v x
 fin:∀x∈st,x ∉ W→(∀y∈nx x,f y≠0)∧∃y∈st,f y<f x∧Rx nx x y
 low:∀v∈W,L v≤f v∧∃y∈st,f y=L v∧Rx nx v y
 BI:∀v∈W,∀x∈st,x ∉ W→f v<f x→(∀u∈W,f u≤f x→f u≤f v)→∀y∈nx x,y∈st→L v≤f y
 prt:qX n nx P
def Prc(nx:Int→List Int)(f L:Int→Int)(st:List Int)(gQ:List (Int×Nat)):Prop:=∀t∈gQ,∀y∈(nx t.1).take t.2,f y≠0∧(y∈st→L t.1≤f y)
theorem KJ{f:Int→Int}:∀{st:List Int},st.Pairwise (fun x y=>f x<f y)→∀{x y:Int},x∈st→y∈st→f x=f y→x=y
 | [],_,_,_,hx,_,_=>by cases hx
 |a::st,h,x,y,hx,hy,e=>by
  obtain⟨h1,h2⟩:=ta.1 h
  rcases da.1 hx with e1 | rP
  ·rcases da.1 hy with e2 | uv
   ·rw[e1,e2]
   ·have:=h1 y uv;rw[e1]at e;omega
  ·rcases da.1 hy with e2 | uv
   ·have:=h1 x rP;rw[e2]at e;omega
   ·exact KJ h2 rP uv e
theorem uY{f:Int→Int}{st:List Int}(h:st.Pairwise (fun x y=>f x<f y)):st.Nodup:=h.imp fun aN e=>by subst e;omega
theorem C3{f:Int→Int}{st w:List Int}{v:Int}(h:st.Pairwise (fun x y=>f x<f y))(hs:(w++[v]).Sublist st):∀u∈w,f u<f v:=by
 have:=h.sublist hs
 intro u hu
 exact (J7.1 this).2.2 u hu v (a8.2 rfl)
variable {n:Nat} {nx:Int→List Int} {f L:Int→Int} {st:List Int} {aD:Nat} {P:List (List Int)}
theorem TJ.start(h:∀x,f x=0):TJ n nx f L [] 0 [] []:=
 ⟨fun _ h=>(by cases h),.nil,fun _ h=>(by cases h),fun x _ _=>by simp[h],fun _ h=>(by cases h),rfl,.slnil,fun _ h=>(by cases h),fun _ h=>(by cases h),fun _ h=>(by cases h),fun _ h=>(by cases h),fun _ h=>(by cases h),.nil n nx⟩
theorem TJ.enter{W:List Int}{b:Int}(h:TJ n nx f L st aD P W)(hb:0≤b∧b<n)(hf:f b=0)(hW:∀v∈W,Rx nx v b):TJ n nx (pD f b (aD+1)) (pD L b (aD+1)) (st++[b]) (aD+1) P (W++[b]):=by
 have eE:b ∉ st:=fun hm=>by have:=h.sK b hm;omega
 have hbW:b ∉ W:=fun hm=>eE (h.sub.subset hm)
 have iQ:∀x∈st,pD f b (aD+1) x=f x:=fun x hx=>qe fun e=>eE (e▸hx)
 have hL1:∀x∈W,pD L b (aD+1) x=L x:=fun x hx=>qe fun e=>hbW (e▸hx)
 have B0:pD f b (aD+1) b=(aD+1:Nat):=by rw[qf];rfl
 have B5:=h.sub.subset
 refine⟨fun x hx=>?_,?_,fun x hx=>?_,fun x h0 h1=>?_,fun p hp x hx=>?_,by have:=h.len;rw[bG,se];omega,h.sub.append (.refl _),fun x hx=>?_,fun v hv x hx hle=>?_,fun x hx lL=>?_,fun v hv=>?_,fun v hv x hx lL ab jC y hy kB=>?_,h.prt⟩
 ·rcases bP.1 hx with hx | hx
  ·exact h.node x hx
  ·rw[a8.1 hx];exact hb
 ·refine J7.2 ⟨h.inc.imp_of_mem fun {x y} hx hy aN=>?_,List.pairwise_singleton ..,fun x hx y hy=>?_⟩
  ·rw[iQ x hx,iQ y hy];exact aN
  ·rw[a8.1 hy,iQ x hx,B0]
   have:=(h.sK x hx).2;omega
 ·rcases bP.1 hx with hx | hx
  ·rw[iQ x hx];have:=h.sK x hx;omega
  ·rw[a8.1 hx,B0];omega
 ·by_cases e:x=b
  ·subst e
   exact⟨fun _=>.inl (jF _ (a8.2 rfl)),fun _=>by rw[B0];omega⟩
  ·rw[qe e,h.ya x h0 h1,bP,a8]
   exact or_congr_left ⟨.inl,fun h=>h.resolve_right e⟩
 ·rw[bP,a8]
  rintro (hm | rfl)
  ·exact h.Ag p hp x hx hm
  ·exact ((h.ya x hb.1 hb.2).2 (.inr ⟨p,hp,hx⟩)) hf
 ·rcases bP.1 hx with hx | hx
  ·obtain⟨v,hv,hle⟩:=h.top x hx
   exact⟨v,gJ _ hv,by rw[iQ v (B5 hv),iQ x hx];exact hle⟩
  ·rw[a8.1 hx]
   exact⟨b,jF _ (a8.2 rfl),lf _⟩
 ·rcases bP.1 hv with hv | hv
  ·rcases bP.1 hx with hx | hx
   ·rw[iQ v (B5 hv),iQ x hx]at hle
    exact h.zM v hv x hx hle
   ·rw[a8.1 hx];exact hW v hv
  ·rw[a8.1 hv]at hle ⊢
   rcases bP.1 hx with hx | hx
   ·rw[B0,iQ x hx]at hle
    have:=(h.sK x hx).2;omega
   ·rw[a8.1 hx];exact .refl _
 ·rw[bP,a8]at lL
  have hx:x∈st:=by
   rcases bP.1 hx with hx | hx
   ·exact hx
   ·exact absurd (.inr (a8.1 hx)) lL
  obtain⟨h1,y,hy,h2,h3⟩:=h.fin x hx fun hm=>lL (.inl hm)
  refine⟨fun y hy=>?_,y,gJ _ hy,by rw[iQ y hy,iQ x hx];exact h2,h3⟩
  by_cases e:y=b
  ·subst e;rw[B0];omega
  ·rw[qe e];exact h1 y hy
 ·rcases bP.1 hv with hv | hv
  ·obtain⟨h1,y,hy,h2,h3⟩:=h.low v hv
   rw[hL1 v hv,iQ v (B5 hv)]
   exact⟨h1,y,gJ _ hy,by rw[iQ y hy];exact h2,h3⟩
  ·rw[a8.1 hv,qf,qf]
   exact⟨lf _,b,jF _ (a8.2 rfl),qf,.refl _⟩
 ·rw[bP,a8]at lL
  have hx:x∈st:=by
   rcases bP.1 hx with hx | hx
   ·exact hx
   ·exact absurd (.inr (a8.1 hx)) lL
  rcases bP.1 hv with hv | hv
  ·rw[hL1 v hv]
   rw[iQ v (B5 hv),iQ x hx]at ab
   have hyb:y≠b:=fun e=>(h.fin x hx fun hm=>lL (.inl hm)).1 y hy (e▸hf)
   have kB:y∈st:=by
    rcases bP.1 kB with kB | kB
    ·exact kB
    ·exact absurd (a8.1 kB) hyb
   rw[iQ y kB]
   refine h.BI v hv x hx (fun hm=>lL (.inl hm)) ab (fun u hu hle=>?_) y hy kB
   have:=jC u (gJ _ hu)
   rw[iQ u (B5 hu),iQ x hx,iQ v (B5 hv)]at this
   exact this hle
  ·rw[a8.1 hv,B0,iQ x hx]at ab
   have:=(h.sK x hx).2;omega
theorem TJ.lower{w:List Int}{v z:Int}(h:TJ n nx f L st aD P (w++[v]))(hz:z∈st)(hr:Rx nx v z):TJ n nx f (pD L v (min (L v) (f z))) st aD P (w++[v]):=by
 have hd:(w++[v]).Nodup:=(uY h.inc).sublist h.sub
 have hvw:v ∉ w:=fun hm=>(oZ.1 hd).2.2 v hm v (a8.2 rfl) rfl
 refine⟨h.node,h.inc,h.sK,h.ya,h.Ag,h.len,h.sub,h.top,h.zM,h.fin,fun u hu=>?_,fun u hu x hx lL ab jC y hy kB=>?_,h.prt⟩
 ·by_cases e:u=v
  ·subst e
   rw[qf]
   obtain⟨h1,y,hy,h2,h3⟩:=h.low u hu
   refine⟨by omega,?_⟩
   by_cases c:L u≤f z
   ·exact⟨y,hy,by rw[h2];omega,h3⟩
   ·exact⟨z,hz,by omega,hr⟩
  ·rw[qe e];exact h.low u hu
 ·have:=h.BI u hu x hx lL ab jC y hy kB
  by_cases e:u=v
  ·subst e;rw[qf];omega
  ·rw[qe e];exact this
theorem TJ.up{w:List Int}{u v:Int}(h:TJ n nx f L st aD P (w++[u]++[v]))(ab:L v<f v)(cf:∀y∈nx v,f y≠0∧(y∈st→L v≤f y)):TJ n nx f (pD L u (min (L u) (L v))) st aD P (w++[u]):=by
 have hd:(w++[u]++[v]).Nodup:=(uY h.inc).sublist h.sub
 have hvw:v ∉ w++[u]:=fun hm=>(oZ.1 hd).2.2 v hm v (a8.2 rfl) rfl
 have eP:u ∉ w:=fun hm=>(oZ.1 (oZ.1 hd).1).2.2 u hm u (a8.2 rfl) rfl
 have huv:u≠v:=fun e=>hvw (e▸jF _ (a8.2 rfl))
 have sE:=C3 h.inc h.sub
 have agP:=C3 h.inc ((List.sublist_append_left _ _).trans h.sub)
 have Ji:u∈w++[u]:=jF _ (a8.2 rfl)
 have BR:v∈w++[u]++[v]:=jF _ (a8.2 rfl)
 have bX:v∈st:=h.sub.subset BR
 have hfuv:f u<f v:=sE u Ji
 obtain⟨yi,z,hz,oO,hzr⟩:=h.low v BR
 refine⟨h.node,h.inc,h.sK,h.ya,h.Ag,h.len,(List.sublist_append_left _ _).trans h.sub,fun x hx=>?_,fun a ha=>h.zM a (gJ _ ha),fun x hx lL=>?_,fun a ha=>?_,fun a ha x hx lL fG jC y hy kB=>?_,h.prt⟩
 ·obtain⟨a,ha,hle⟩:=h.top x hx
  rcases bP.1 ha with ha | ha
  ·exact⟨a,ha,hle⟩
  ·rw[a8.1 ha]at hle
   exact⟨u,Ji,by omega⟩
 ·by_cases e:x=v
  ·subst e
   exact⟨fun y hy=>(cf y hy).1,z,hz,by omega,hzr⟩
  ·exact h.fin x hx fun hm=>by
    rcases bP.1 hm with hm | hm
    ·exact lL hm
    ·exact e (a8.1 hm)
 ·obtain⟨h1,y,hy,h2,h3⟩:=h.low a (gJ _ ha)
  by_cases e:a=u
  ·subst e
   rw[qf]
   refine⟨by omega,?_⟩
   by_cases c:L a≤L v
   ·exact⟨y,hy,by omega,h3⟩
   ·exact⟨z,hz,by omega,(h.zM a (gJ _ Ji) v bX (by omega)).trans hzr⟩
  ·rw[qe e];exact⟨h1,y,hy,h2,h3⟩
 ·have Jg:∀c,f a≤c→f u≤f a→pD L u (min (L u) (L v)) a≤L a:=fun c _ _=>by
   by_cases e:a=u
   ·subst e;rw[qf];omega
   ·rw[qe e];exact lf _
  have hle:pD L u (min (L u) (L v)) a≤L a:=by
   by_cases e:a=u
   ·subst e;rw[qf];omega
   ·rw[qe e];exact lf _
  by_cases BP:f v≤f x
  ·have hau:a=u:=by
    have h1:=jC u Ji (by omega)
    by_cases e:a=u
    ·exact e
    ·have:a∈w:=by
      rcases bP.1 ha with ha | ha
      ·exact ha
      ·exact absurd (a8.1 ha) e
     have:=agP a this
     omega
   subst hau
   rw[qf]
   by_cases e:x=v
   ·subst e
    have:=(cf y hy).2 kB
    omega
   ·have aO:f v≠f x:=fun e2=>e (KJ h.inc hx bX e2.symm)
    have:=h.BI v BR x hx (fun hm=>by
     rcases bP.1 hm with hm | hm
     ·exact lL hm
     ·exact e (a8.1 hm)) (by omega) (fun c hc _=>by
      rcases bP.1 hc with hc | hc
      ·have:=sE c hc;omega
      ·rw[a8.1 hc];exact lf _) y hy kB
    omega
  ·have ahx:x≠v:=fun e=>by subst e;omega
   have:=h.BI a (gJ _ ha) x hx (fun hm=>by
    rcases bP.1 hm with hm | hm
    ·exact lL hm
    ·exact ahx (a8.1 hm)) fG (fun c hc rX=>by
     rcases bP.1 hc with hc | hc
     ·exact jC c hc rX
     ·rw[a8.1 hc]at rX;omega) y hy kB
   omega
theorem RN{v:Int}:∀{st:List Int},st.Pairwise (fun x y=>f x<f y)→v∈st→∃A B,st=A++v::B∧(∀x∈A,f x<f v)∧∀x∈B,f v<f x:=by
 intro st h hv
 obtain⟨A,B,rfl⟩:=List.append_of_mem hv
 obtain⟨h1,h2,h3⟩:=J7.1 h
 exact⟨A,B,rfl,fun x hx=>h3 x hx v (bV ..),fun x hx=>(ta.1 h2).1 x hx⟩
theorem TJ.tell{w A B part:List Int}{v:Int}(h:TJ n nx f L st aD P (w++[v]))(ao:st=A++v::B)(heq:L v=f v)(cf:∀y∈nx v,f y≠0∧(y∈st→L v≤f y))(cy:∀x y,y∈nx x→0≤y∧y<n)(hp:part.Perm (v::B))(hs:part.Pairwise (· < ·)):TJ n nx f L A aD (P++[part]) w:=by
 have bZ:=uY h.inc
 have sE:=C3 h.inc h.sub
 have BR:v∈w++[v]:=jF _ (a8.2 rfl)
 have ma:=h.inc
 rw[ao]at ma
 obtain⟨i1,i2,i3⟩:=J7.1 ma
 have xY:∀x∈A,f x<f v:=fun x hx=>i3 x hx v (bV ..)
 have IG:∀x∈B,f v<f x:=(ta.1 i2).1
 have uL:∀x∈A,x∈st:=fun x hx=>by rw[ao];exact gJ _ hx
 have yp:∀x∈v::B,x∈st:=fun x hx=>by rw[ao];exact jF _ hx
 have BC:∀x∈v::B,f v≤f x:=fun x hx=>by
  rcases da.1 hx with rfl | hx
  ·exact lf _
  ·have:=IG x hx;omega
 have ay:∀x∈st,f v≤f x→x∈v::B:=fun x hx hle=>by
  rw[ao]at hx
  rcases bP.1 hx with hx | hx
  ·have:=xY x hx;omega
  ·exact hx
 have Nd:∀x∈B,x ∉ w++[v]:=fun x hx hm=>by
  have:=IG x hx
  rcases bP.1 hm with hm | hm
  ·have:=sE x hm;omega
  ·rw[a8.1 hm]at this;omega
 have IC:∀x∈v::B,∀y∈nx x,y∈v::B∨∃p∈P,y∈p:=fun x hx y hy=>by
  have zR:f y≠0∧(y∈st→f v≤f y):=by
   rcases da.1 hx with rfl | BQ
   ·rw[← heq];exact cf y hy
   ·refine⟨(h.fin x (yp x hx) (Nd x BQ)).1 y hy,fun kB=>?_⟩
    rw[← heq]
    refine h.BI v BR x (yp x hx) (Nd x BQ) (IG x BQ) (fun u hu _=>?_) y hy kB
    rcases bP.1 hu with hu | hu
    ·have:=sE u hu;omega
    ·rw[a8.1 hu];exact lf _
  obtain⟨q1,q2⟩:=cy x y hy
  rcases (h.ya y q1 q2).1 zR.1 with kB | hyp
  ·exact .inl (ay y kB (zR.2 kB))
  ·exact .inr hyp
 have afJ:∀{x y:Int},Rx nx x y→x∈v::B→y∈v::B∨∃p∈P,y∈p:=by
  intro x y hr hx
  induction hr with
  |refl=>exact .inl hx
  |step _ hc ih=>
   rcases ih with ih | ih
   ·exact IC _ ih _ hc
   ·exact .inr (h.prt.reach (.one hc) ih)
 have D5:∀(k:Nat) (x:Int),x∈v::B→(f x-f v).toNat≤k→Rx nx x v:=by
  intro k
  induction k with
  |zero=>
   intro x hx hk
   have:=BC x hx
   rw[KJ h.inc (yp x hx) (yp v (bV ..)) (by omega)]
   exact .refl _
  |succ k ih=>
   intro x hx hk
   rcases da.1 hx with rfl | BQ
   ·exact .refl _
   ·obtain⟨_,y,hy,ab,hr⟩:=h.fin x (yp x hx) (Nd x BQ)
    rcases afJ hr hx with Oj | ⟨p,hp,hyp⟩
    ·have:=IG x BQ
     exact hr.trans (ih y Oj (by omega))
    ·exact absurd hy (h.Ag p hp y hyp)
 have ahW:∀x∈v::B,∀y∈v::B,Rx nx x y:=fun x hx y hy=>(D5 _ x hx (aM _)).trans (h.zM v BR y (yp y hy) (BC y hy))
 have fw:∀x,x∈part↔x∈v::B:=fun x=>hp.mem_iff
 have hwA:w.Sublist A:=by
  have h1:(w++[v]).Sublist (A++v::B):=ao▸h.sub
  have h2:=h1.filter (fun x=>decide (f x<f v))
  have e1:(w++[v]).filter (fun x=>decide (f x<f v))=w:=by
   rw[List.filter_append,List.filter_eq_self.2 fun x hx=>decide_eq_true (sE x hx),List.filter_cons_of_neg (by simp)]
   simp
  have e2:(A++v::B).filter (fun x=>decide (f x<f v))=A:=by
   rw[Ab,gv7.2 fun x hx=>aY (xY x hx),List.filter_eq_nil_iff.2 fun x hx=>by
    have:=BC x hx
    rw[decide_eq_true_eq];omega]
   simp
  rw[e1,e2]at h2
  exact h2
 have V6:(P++[part]).flatten=P.flatten++part:=by rw[List.flatten_append];simp
 refine⟨fun x hx=>h.node x (uL x hx),i1,fun x hx=>h.sK x (uL x hx),fun x h0 h1=>?_,fun p dz x hx hxA=>?_,?_,hwA,fun x hx=>?_,fun a ha x hx=>h.zM a (gJ _ ha) x (uL x hx),fun x hx lL=>?_,fun a ha=>?_,fun a ha x hx lL ab jC y hy kB=>?_,⟨fun p dz=>?_,fun p dz x hx=>?_,?_,fun p dz=>?_,fun p dz x hx y hy=>?_,fun i p hi x hx y hy=>?_⟩⟩
 ·rw[h.ya x h0 h1,ao,bP]
  constructor
  ·rintro ((hx | hx) | ⟨p,dz,hx⟩)
   ·exact .inl hx
   ·exact .inr ⟨part,jF _ (a8.2 rfl),(fw x).2 hx⟩
   ·exact .inr ⟨p,gJ _ dz,hx⟩
  ·rintro (hx | ⟨p,dz,hx⟩)
   ·exact .inl (.inl hx)
   ·rcases bP.1 dz with dz | dz
    ·exact .inr ⟨p,dz,hx⟩
    ·rw[a8.1 dz]at hx
     exact .inl (.inr ((fw x).1 hx))
 ·rcases bP.1 dz with dz | dz
  ·exact h.Ag p dz x hx (uL x hxA)
  ·rw[a8.1 dz]at hx
   have:=BC x ((fw x).1 hx)
   have:=xY x hxA
   omega
 ·have h1:=h.len
  have h2:=hp.length_eq
  have h3:=congrArg List.length ao
  rw[bG]at h3
  rw[V6,bG];omega
 ·obtain⟨a,ha,hle⟩:=h.top x (uL x hx)
  rcases bP.1 ha with ha | ha
  ·exact⟨a,ha,hle⟩
  ·rw[a8.1 ha]at hle
   have:=xY x hx;omega
 ·have BP:x ∉ w++[v]:=fun hm=>by
   rcases bP.1 hm with hm | hm
   ·exact lL hm
   ·have:=xY x hx
    rw[a8.1 hm]at this;omega
  obtain⟨h1,y,hy,h2,h3⟩:=h.fin x (uL x hx) BP
  refine⟨h1,y,?_,h2,h3⟩
  have:=xY x hx
  rw[ao]at hy
  rcases bP.1 hy with hy | hy
  ·exact hy
  ·have:=BC y hy;omega
 ·obtain⟨h1,y,hy,h2,h3⟩:=h.low a (gJ _ ha)
  refine⟨h1,y,?_,h2,h3⟩
  have:=sE a ha
  rw[ao]at hy
  rcases bP.1 hy with hy | hy
  ·exact hy
  ·have:=BC y hy;omega
 ·have BP:x ∉ w++[v]:=fun hm=>by
   rcases bP.1 hm with hm | hm
   ·exact lL hm
   ·have:=xY x hx
    rw[a8.1 hm]at this;omega
  refine h.BI a (gJ _ ha) x (uL x hx) BP ab (fun u hu hle=>?_) y hy (uL y kB)
  rcases bP.1 hu with hu | hu
  ·exact jC u hu hle
  ·rw[a8.1 hu]at hle
   have:=xY x hx;omega
 ·rcases bP.1 dz with dz | dz
  ·exact h.prt.ne p dz
  ·rw[a8.1 dz]
   exact List.ne_nil_of_mem ((fw v).2 (bV ..))
 ·rcases bP.1 dz with dz | dz
  ·exact h.prt.node p dz x hx
  ·rw[a8.1 dz]at hx
   exact h.node x (yp x ((fw x).1 hx))
 ·rw[V6]
  refine oZ.2 ⟨h.prt.nd,hs.imp fun h=>by omega,fun x hx y hy e=>?_⟩
  subst e
  obtain⟨p,dz,rO⟩:=oX.1 hx
  exact h.Ag p dz x rO (yp x ((fw x).1 hy))
 ·rcases bP.1 dz with dz | dz
  ·exact h.prt.BH p dz
  ·rw[a8.1 dz];exact hs
 ·rcases bP.1 dz with dz | dz
  ·exact h.prt.Ps p dz x hx y hy
  ·rw[a8.1 dz]at hx hy
   exact ahW x ((fw x).1 hx) y ((fw y).1 hy)
 ·by_cases ab:i<P.length
  ·rw[jG ab]at hi
   obtain⟨j,q,h1,h2,h3⟩:=h.prt.Kp i p hi x hx y hy
   exact⟨j,q,h1,by rw[jG (by omega)];exact h2,h3⟩
  ·have hip:i=P.length∧p=part:=by
    rw[ij (by omega)]at hi
    by_cases e:i-P.length=0
    ·rw[e]at hi
     exact⟨by omega,(Option.some.inj hi).symm⟩
    ·rw[uS (by rw[se];omega)]at hi;cases hi
   obtain⟨rfl,rfl⟩:=hip
   rcases IC x ((fw x).1 hx) y hy with Oj | ⟨q,hq,hyq⟩
   ·exact⟨P.length,p,aM _,by rw[ij (aM _),qT];rfl,(fw y).2 Oj⟩
   ·obtain⟨j,hj⟩:=FQ hq
    have jl:j<P.length:=(bQ.1 hj).1
    exact⟨j,q,by omega,by rw[jG jl];exact hj,hyq⟩
theorem TJ.empty(h:TJ n nx f L st aD P []):st=[]:=by
 cases st with
 |nil=>rfl
 |cons x st=>
  obtain⟨v,hv,_⟩:=h.top x (bV ..)
  cases hv
theorem TJ.first{v:Int}(h:TJ n nx f L st aD P [v]):L v=f v:=by
 obtain⟨h1,y,hy,h2,_⟩:=h.low v (a8.2 rfl)
 obtain⟨u,hu,h3⟩:=h.top y hy
 rw[a8.1 hu]at h3
 omega
mutual
def gO(nx:Int→List Int):Nat→Int→List Int→List Int
 | 0,_,_=>[]
 |f+1,a,met=>if a∈met then [] else eJ nx f (nx a) (met++[a])++[a]
def eJ(nx:Int→List Int):Nat→List Int→List Int→List Int
 |_,[],_=>[]
 |f,b::bs,met=>gO nx f b met++eJ nx f bs (met++gO nx f b met)
end
def kW(met:List Int)(n:Nat):Nat:=((List.range n).filter fun a:Nat=>decide ((a:Int) ∉ met)).length
theorem Lj{met met2:List Int}{n:Nat}(h:∀x∈met,x∈met2):kW met2 n≤kW met n:=by
 unfold kW
 induction n with
 |zero=>exact aM _
 |succ n ih=>
  rw[wU,Ab,Ab,bG,bG]
  refine Nat.add_le_add ih ?_
  rw[FX,FX,gu0]
  by_cases c:(n:Int)∈met
  ·rw[if_neg (by simp[h _ c]),if_neg (by simp[c])];exact Nat.le_refl _
  ·rw[if_pos (show decide ((n:Int) ∉ met)=true by simp[c])];split <;> simp
theorem TV{met met2:List Int}{n:Nat}{a:Nat}(h:∀x∈met,x∈met2)(ha:a<n)(h1:(a:Int) ∉ met)(h2:(a:Int)∈met2):kW met2 n<kW met n:=by
 induction n with
 |zero=>omega
 |succ n ih=>
  have e:∀m:List Int,kW m (n+1)=kW m n+if (n:Int)∈m then 0 else 1:=fun m=>by
   unfold kW
   rw[wU,Ab,bG,FX,gu0]
   by_cases c:(n:Int)∈m <;> simp[c]
  rw[e,e]
  by_cases c:a=n
  ·subst c
   rw[ag h2,ah h1]
   have:=Lj (n:=a) h
   omega
  ·have:=ih (by omega)
   by_cases c2:(n:Int)∈met
   ·rw[ag c2,ag (h _ c2)];exact this
   ·rw[ah c2];split <;> omega
theorem adk{met:List Int}{n:Nat}{a:Int}(ha:0≤a∧a<n)(h:a ∉ met):0<kW met n:=by
 unfold kW
 refine Co (a:=a.toNat) (ki.2 ⟨fA.2 (by omega),?_⟩)
 rw[Int.toNat_of_nonneg ha.1];simp[h]
theorem Sl{n:Nat}{nx:Int→List Int}(cy:∀x,∀y∈nx x,0≤y∧y<(n:Int)):∀u,
  (∀(f f2:Nat) (a:Int) (met met2:List Int),0≤a∧a<(n:Int)→kW met n≤u→u≤f→u≤f2→(∀x,x∈met↔x∈met2)→gO nx f a met=gO nx f2 a met2)∧
  (∀(f f2:Nat) (bs:List Int) (met met2:List Int),(∀b∈bs,0≤b∧b<(n:Int))→kW met n≤u→u≤f→u≤f2→(∀x,x∈met↔x∈met2)→eJ nx f bs met=eJ nx f2 bs met2):=by
 intro u
 induction u with
 |zero=>
  have h0:∀(f:Nat) (a:Int) (met:List Int),0≤a∧a<(n:Int)→kW met n≤0→gO nx f a met=[]:=fun f a met ha hu=>by
   have hm:a∈met:=by
    by_cases c:a∈met
    ·exact c
    ·have:=adk ha c;omega
   cases f with
   |zero=>unfold gO;rfl
   |succ f=>unfold gO;rw[ag hm]
  have h1:∀(f:Nat) (bs:List Int) (met:List Int),(∀b∈bs,0≤b∧b<(n:Int))→kW met n≤0→eJ nx f bs met=[]:=by
   intro f bs
   induction bs with
   |nil=>intro met _ _;unfold eJ;rfl
   |cons b bs ih=>
    intro met hb hu
    unfold eJ
    rw[h0 f b met (hb b (bV ..)) hu,mX,ih met (fun c hc=>hb c (cE _ hc)) hu];rfl
  have hs:∀{met met2:List Int},kW met n≤0→(∀x,x∈met↔x∈met2)→kW met2 n≤0:=fun hu hm=>fy (Lj fun x hx=>(hm x).1 hx) hu
  exact⟨fun f f2 a met met2 ha hu _ _ hm=>by rw[h0 f a met ha hu,h0 f2 a met2 ha (hs hu hm)],fun f f2 bs met met2 hb hu _ _ hm=>by rw[h1 f bs met hb hu,h1 f2 bs met2 hb (hs hu hm)]⟩
 |succ u ih=>
  have hv:∀(f f2:Nat) (a:Int) (met met2:List Int),0≤a∧a<(n:Int)→kW met n≤u+1→u+1≤f→u+1≤f2→(∀x,x∈met↔x∈met2)→gO nx f a met=gO nx f2 a met2:=fun f f2 a met met2 ha hu hf wI hm=>by
   obtain⟨f,rfl⟩:∃k,f=k+1:=⟨f-1,by omega⟩
   obtain⟨f2,rfl⟩:∃k,f2=k+1:=⟨f2-1,by omega⟩
   unfold gO
   by_cases c:a∈met
   ·rw[ag c,ag ((hm a).1 c)]
   ·rw[ah c,ah fun h=>c ((hm a).2 h)]
    congr 1
    refine ih.2 f f2 (nx a) _ _ (cy a) ?_ (by omega) (by omega) (fun x=>by rw[bP,bP,hm])
    have:=TV (met:=met) (met2:=met++[a]) (n:=n) (a:=a.toNat) (fun x hx=>List.mem_append_left _ hx) (by omega) (by rw[Int.toNat_of_nonneg ha.1];exact c) (by rw[Int.toNat_of_nonneg ha.1];simp)
    omega
  refine⟨hv,fun f f2 bs=>?_⟩
  induction bs with
  |nil=>intro met met2 _ _ _ _ _;unfold eJ;rfl
  |cons b bs Of=>
   intro met met2 hb hu hf wI hm
   unfold eJ
   have e:=hv f f2 b met met2 (hb b (bV ..)) hu hf wI hm
   rw[e]
   congr 1
   exact Of _ _ (fun c hc=>hb c (cE _ hc)) (fy (Lj fun x hx=>gJ _ hx) hu) hf wI (fun x=>by rw[bP,bP,hm])
theorem UY(met:List Int)(n:Nat):kW met n≤n:=by
 unfold kW
 exact fy (Cp _ _) (by rw[oY];exact aM _)
def lF(n:Nat)(nx:Int→List Int):List (Int×Nat)→List Int→List Int
 | [],_=>[]
 |(v,k)::w,seen=>eJ nx n ((nx v).drop k) seen++([v]++lF n nx w (seen++eJ nx n ((nx v).drop k) seen))
theorem S8{n:Nat}{nx:Int→List Int}(cy:∀x,∀y∈nx x,0≤y∧y<(n:Int)){bs met met2:List Int}(hb:∀b∈bs,0≤b∧b<(n:Int))(hm:∀x,x∈met↔x∈met2):eJ nx n bs met=eJ nx n bs met2:=
 (Sl cy n).2 n n bs met met2 hb (UY _ _) (aM _) (aM _) hm
theorem SF{n:Nat}{nx:Int→List Int}(cy:∀x,∀y∈nx x,0≤y∧y<(n:Int)):∀(w:List (Int×Nat)) {seen seen2:List Int},(∀x,x∈seen↔x∈seen2)→lF n nx w seen=lF n nx w seen2
 | [],_,_,_=>rfl
 |(v,k)::w,seen,seen2,h=>by
  have e:=S8 cy (bs:=(nx v).drop k) (fun b hb=>cy v b (List.mem_of_mem_drop hb)) h
  unfold lF
  rw[e,SF cy w (seen:=seen++eJ nx n ((nx v).drop k) seen2) (seen2:=seen2++eJ nx n ((nx v).drop k) seen2) fun x=>by rw[bP,bP,h]]
theorem UD{L:List Int}{k:Nat}(h:k<L.length):L.drop k=L[k]::L.drop (k+1):=Kb h
theorem abt{n:Nat}{nx:Int→List Int}{v:Int}{k:Nat}{w:List (Int×Nat)}{seen:List Int}(hk:k<(nx v).length)(hb:(nx v)[k]∈seen):lF n nx ((v,k)::w) seen=lF n nx ((v,k+1)::w) seen:=by
 have e:gO nx n (nx v)[k] seen=[]:=by
  cases n with
  |zero=>unfold gO;rfl
  |succ n=>unfold gO;rw[ag hb]
 have e2:eJ nx n ((nx v).drop k) seen=eJ nx n ((nx v).drop (k+1)) seen:=by
  rw[UD hk]
  conv=>lhs;unfold eJ
  rw[e,mX,yy]
 unfold lF
 rw[e2]
theorem abu{n:Nat}{nx:Int→List Int}(cy:∀x,∀y∈nx x,0≤y∧y<(n:Int)){v:Int}{k:Nat}{w:List (Int×Nat)}{seen:List Int}(hk:k<(nx v).length)(hb:(nx v)[k] ∉ seen):lF n nx ((v,k)::w) seen=lF n nx (((nx v)[k],0)::(v,k+1)::w) (seen++[(nx v)[k]]):=by
 obtain⟨b,s4⟩:∃b,(nx v)[k]=b:=⟨_,rfl⟩
 have dJ:=cy v b (s4▸cD hk)
 rw[s4]at hb ⊢
 obtain⟨m,rfl⟩:∃m,n=m+1:=⟨n-1,by omega⟩
 have hu:kW (seen++[b]) (m+1)≤m:=by
  have:=TV (met:=seen) (met2:=seen++[b]) (n:=m+1) (a:=b.toNat) (fun x hx=>List.mem_append_left _ hx) (by omega) (by rw[Int.toNat_of_nonneg dJ.1];exact hb) (by rw[Int.toNat_of_nonneg dJ.1];simp)
  have:=UY seen (m+1)
  omega
 have e:gO nx (m+1) b seen=eJ nx (m+1) (nx b) (seen++[b])++[b]:=by
  conv=>lhs;unfold gO
  rw[ah hb,(Sl cy m).2 m (m+1) (nx b) (seen++[b]) (seen++[b]) (cy b) hu (aM _) (by omega) fun _=>Iff.rfl]
 have e2:eJ nx (m+1) ((nx v).drop k) seen=(eJ nx (m+1) (nx b) (seen++[b])++[b])++eJ nx (m+1) ((nx v).drop (k+1)) (seen++(eJ nx (m+1) (nx b) (seen++[b])++[b])):=by
  rw[UD hk,s4]
  conv=>lhs;unfold eJ
  rw[e]
 have e3:eJ nx (m+1) ((nx v).drop (k+1)) (seen++(eJ nx (m+1) (nx b) (seen++[b])++[b]))=eJ nx (m+1) ((nx v).drop (k+1)) (seen++[b]++eJ nx (m+1) (nx b) (seen++[b])):=
  S8 cy (fun c hc=>cy v c (List.mem_of_mem_drop hc)) fun x=>by simp only[List.mem_append];exact⟨fun h=>by rcases h with h | h | h <;> simp[h],fun h=>by rcases h with (h | h) | h <;> simp[h]⟩
 have hd:(nx b).drop 0=nx b:=iB
 show eJ nx (m+1) ((nx v).drop k) seen++([v]++lF (m+1) nx w (seen++eJ nx (m+1) ((nx v).drop k) seen))=eJ nx (m+1) ((nx b).drop 0) (seen++[b])++([b]++(eJ nx (m+1) ((nx v).drop (k+1)) (seen++[b]++eJ nx (m+1) ((nx b).drop 0) (seen++[b]))++([v]++lF (m+1) nx w (seen++[b]++eJ nx (m+1) ((nx b).drop 0) (seen++[b])++eJ nx (m+1) ((nx v).drop (k+1)) (seen++[b]++eJ nx (m+1) ((nx b).drop 0) (seen++[b]))))))
 rw[hd,e2,e3]
 generalize eJ nx (m+1) (nx b) (seen++[b])=K
 generalize eJ nx (m+1) ((nx v).drop (k+1)) (seen++[b]++K)=K2
 rw[SF cy w (seen:=seen++(K++[b]++K2)) (seen2:=seen++[b]++K++K2) fun x=>by simp only[List.mem_append];exact⟨fun h=>by rcases h with h | (h | h) | h <;> simp[h],fun h=>by rcases h with ((h | h) | h) | h <;> simp[h]⟩]
 simp only[dN]
theorem adE{n:Nat}{nx:Int→List Int}{v:Int}{k:Nat}{w:List (Int×Nat)}{seen:List Int}(hk:(nx v).length≤k):lF n nx ((v,k)::w) seen=v::lF n nx w seen:=by
 have e:eJ nx n ((nx v).drop k) seen=[]:=by rw[FV hk];unfold eJ;rfl
 show eJ nx n ((nx v).drop k) seen++([v]++lF n nx w (seen++eJ nx n ((nx v).drop k) seen))=_
 rw[e,mX,yy];rfl
theorem adD{n:Nat}{nx:Int→List Int}{a:Int}{met:List Int}(ha:a ∉ met):gO nx (n+1) a met=lF n nx [(a,0)] (met++[a]):=by
 unfold gO lF lF
 rw[ah ha,iB,mX]
def su(n:Nat)(nx:Int→List Int)(l:List Int):List Int:=l.foldl (fun out a=>out++gO nx (n+1) a out) []
inductive iw(e:Nat):Nat→AV→Hp→List AV→Prop
 |nil:iw e 0 .aj [] []
 |ae (b k:Nat) (cs J:List AV) (h:cs.length=k*e):iw e k (.ae b 0 k e) [(b,cs++J)] cs
theorem iw.yb{e k:Nat}{v:AV}{acc:Hp}{cs:List AV}(h:iw e k v acc cs):iw e k (bJ v) acc cs:=by
 cases h with
 |nil=>exact .nil
 |ae b k cs J h=>exact .ae b k cs J h
theorem iw.pos{e k:Nat}{v:AV}{acc:Hp}{cs:List AV}(h:iw e k v acc cs)(h0:0<k):∃b J,v=.ae b 0 k e∧acc=[(b,cs++J)]∧cs.length=k*e:=by
 cases h with
 |nil=>omega
 |ae b k cs J h=>exact⟨b,J,rfl,rfl,h⟩
theorem yM{i:TI}{K:AV→Hp→Prop}(fr:Hp){acc σ:Hp}{k n:Nat}{v x:AV}{cs new:List AV}(h:iw i.size k v acc cs)(hx:j4 (fr++(acc++σ)) i.size x n new)(hY:new.length=n*i.size)(hn:k+n≤1048576)(hb:i.bytes≤1024)(h0:0<i.size)
  (go:∀v' bN,iw i.size (k+n) v' bN (cs++new)→K v' (fr++(bN++σ))):AppendAt i (fr++(acc++σ)) v x K:=by
 cases h with
 |nil=>
  refine .perm _ (fB fr [] σ) (.fresh n new (.inl rfl) (hx.perm (fB fr [] σ)) (by omega) hb h0 (K:=fun v ej=>(n=0∧v=.aj∧ej=[]++(fr++σ))∨(n≠0∧∃b,v=.ae b 0 n i.size∧ej=(b,new)::([]++(fr++σ)))) (fun aO b=>.inr ⟨aO,b,rfl,rfl⟩) (fun h0=>.inl ⟨h0,rfl,rfl⟩)) ?_
  rintro v ej (⟨hz,rfl,rfl⟩ | ⟨hz,b,rfl,rfl⟩)
  ·subst hz
   obtain rfl:new=[]:=List.length_eq_zero_iff.1 (by simpa using hY)
   exact⟨_,(fB fr [] σ).symm,.inl (go _ _ .nil)⟩
  ·refine⟨_,(fB fr [(b,new)] σ).symm,.inl (go _ _ ?_)⟩
   have:=iw.ae (e:=i.size) b (0+n) new [] (by rw[dK];exact hY)
   rw[mX,dK]at this
   rw[dK]
   exact this
 |ae b k cs J hl=>
  refine .perm _ (fB fr [(b,cs++J)] σ) (.more 0 b k n (cs++J) new rfl rfl (by rw[bG];omega) (hx.perm (fB fr [(b,cs++J)] σ)) hn hb h0 (K:=fun v ej=>∃b',v=.ae b' 0 (k+n) i.size∧ej=(b',cs++new)::(fr++σ)) (fun b'=>⟨b',rfl,by rw[Kj (by omega),eZ (by omega)];rfl⟩)) ?_
  rintro v ej ⟨b',rfl,rfl⟩
  refine⟨_,(fB fr [(b',cs++new)] σ).symm,.inl (go _ _ ?_)⟩
  have:=iw.ae (e:=i.size) b' (k+n) (cs++new) [] (by rw[bG,hl,hY,lh])
  rw[mX]at this
  exact this
theorem nk{i:TI}(hs:i.size=1){l:List Int}(x:Int){a:Int}(h1:0≤a)(h2:a<l.length):kn i (ak l) (0+a.toNat*1) (.int .i64 x)=some (ak (l.set a.toNat x)):=by
 rw[tD hs rfl (by rw[Mg];omega),dK,eo]
 unfold ak;rw[nS]
theorem e9{i:TI}(hw:i.wide=false){l:List Int}{a:Int}(h1:0≤a)(h2:a<l.length):dP i (ak l) (0+a.toNat*1)=some (.int .i64 (l.getD a.toNat 0)):=by
 refine iY hw ?_
 unfold ak
 rw[dK,eo,eU,aR,bc (by omega)];rfl
def dc(N:List (List Int))(bi bl bo n:Nat)(vs:AV)(aD:Nat)(vp:AV):List AV:=[.ai (.slice (.int .i64)) N,.ae bi 0 n 1,.ae bl 0 n 1,.ae bo 0 n 1,vs,.int .i64 aD,vp]
theorem A4(w bi bl bo n:Nat)(N:List (List Int))(ix lo st:List Int)(on:List Bool)(aD:Nat)(vs vp:AV)(acc:Hp)(a:Int)(σ:Hp)(h0:0≤a)(hn:a<n)(hi:ix.length=n)(hl:lo.length=n)(ho:on.length=n)(hs:iw 1 st.length vs acc (ak st))(cH:st.length≤10000)(hc:aD≤10000):
  ACalls Tryz.prog 314 [.ptr w 0,.int .i64 a] ((w,dc N bi bl bo n vs aD vp)::(bi,ak ix)::(bl,ak lo)::(bo,bE on)::(acc++σ))
   (fun r σ'=>r=.agg [.int .i64 a,.int .i64 0]∧∃eC bN,iw 1 (st++[a]).length eC bN (ak (st++[a]))∧σ'=(w,dc N bi bl bo n eC (aD+1) vp)::(bi,ak (ix.set a.toNat ((aD+1:Nat):Int)))::(bl,ak (lo.set a.toNat ((aD+1:Nat):Int)))::(bo,bE (on.set a.toNat true))::(bN++σ)):=by
 have hwr:IntKind.i64.wrap ((aD:Int)+1)=((aD+1:Nat):Int):=by rw[dh (by omega)];omega
 refine aA Tryz.func314 ?_
 intro aG
 refine aa 1 ?_
 refine an 1 ?_
 refine .sched [] (upto [] 29 0) (by kernel_rfl) ?_
 refine aa 1 ?_
 refine aa 1 ?_
 refine aa 1 ?_
 refine aa 1 ?_
 refine aa 1 ?_
 refine aK ?_
 refine cU 2 rfl (nk rfl _ h0 (by omega)) ?_
 refine aK ?_
 refine cU 3 rfl (nk rfl _ h0 (by omega)) ?_
 refine aK ?_
 refine cU 4 rfl (yV rfl true h0 (by omega)) ?_
 refine aa 1 ?_
 intro aG
 refine yM [_,_,_,_,_,_] hs.yb (.ae 0 aG 0 1 _ rfl (cT rfl)) rfl (by omega) (by decide) (by decide) (fun v' bN h'=>?_)
 obtain⟨bq,J,rfl,rfl,hq⟩:=h'.pos (by omega)
 refine an 2 ?_
 refine an 1 ?_
 refine aa 1 ?_
 refine .drop 0 2 (.done ⟨rfl,.ae bq 0 (st.length+1) 1,[(bq,(ak st++[.int .i64 a])++J)],?_,?_⟩)
 ·rw[bG,show ak (st++[a])=ak st++[.int .i64 a] from cM];exact h'
 ·rw[hwr];rfl
end Go.Proofs.YtnikdflhefijbaaGreat
