import Derived.Test.YtnikdflhefijbaaGreatBr12
import Derived.Test.YtnikdflhefijbaaGreatBr6
namespace Go.Proofs.YtnikdflhefijbaaGreat
open Go.RowKit
set_option maxRecDepth 100000
set_option maxHeartbeats 4000000
abbrev eg(s:Sy)(l:Lay)(who ae node:Int)(has:Bool)(nx out:List Int)(D T J A:AV)(ev jo:Int)(en:Bool):List AV:=
 [.int .i64 s.ai,.int .i64 s.w,.int .i64 s.n,.af cb s.cI,.af (.int .i64) s.entry,.af (.int .u64) s.init,.af jL s.T,.int .i64 l.ai,.int .i64 l.words,.int .i64 l.n,.int .i64 l.k,.int .i64 who,.int .i64 ae,.int .i64 node,.bool has,.af (.int .i64) nx,.af (.int .u64) out,D,T,J,A,.int .i64 ev,.int .i64 jo,.bool en]
theorem Be(l:Lay)(w:Int)(σ:Hp):ACalls Tryz.prog 62 [.agg (cU l),.int .i64 w] σ (aD (.int .i64 (dY l w)) σ):=by
 refine au Tryz.func62 ?_
 intro aB
 refine .quiet (by kernel_rfl) ?_
 refine aa 0 ?_
 refine aa 0 ?_
 refine aa 0 ?_
 refine aa 0 ?_
 refine aK [] (Jh _ _) ?_
 exact .drop 0 1 (.done ⟨aR (by rw[show IntKind.i64.wrap (2+((rm (IntKind.i64.wrap (l.n+1)):Nat):Int))=((2+rm (fB l):Nat):Int) from (iq (z:=2+((rm (fB l):Nat):Int)) (by omega) (by have:=Fk (fB l);omega)).trans (by omega)];rfl),rfl⟩)
theorem vm(w:Nat)(s:Sy)(l:Lay)(me ae node:Int)(has:Bool)(nx out:List Int)(D T J A:AV)(ev jo:Int)(en:Bool)(who kind n:Int)(σ:Hp):ACalls Tryz.prog 166 [.ptr w 0,.int .i64 who,.int .i64 kind,.int .u64 n] ((w,eg s l me ae node has nx out D T J A ev jo en)::σ) (fun x σ'=>∃r,x=.ptr r 0∧σ'=(r,jA kind (mM (dY l who) (fB l) n))::(w,eg s l me ae node has nx out D T J A ev jo en)::σ):=by
 refine au Tryz.func166 ?_
 refine .sched [6] (upto [6] 17 0) (by kernel_rfl) ?_
 refine aa 0 ?_
 refine aK [] (Be l _ _) ?_
 refine aa 0 ?_
 intro aB
 exact .done ⟨aB,rfl,rfl⟩
theorem yE(w:Nat)(s:Sy)(l:Lay)(me ae node:Int)(has:Bool)(nx out:List Int)(D T J A:AV)(ev jo:Int)(en:Bool)(kind v:Int)(σ:Hp):ACalls Tryz.prog 174 [.ptr w 0,.int .i64 kind,.int .i64 v] ((w,eg s l me ae node has nx out D T J A ev jo en)::σ) (fun x σ'=>∃r,x=.ptr r 0∧σ'=(r,wh ⟨kind,v,de l,da l,0,false,false,false,0⟩)::(w,eg s l me ae node has nx out D T J A ev jo en)::σ):=by
 refine au Tryz.func174 ?_
 refine .sched [] (upto [] 33 0) (by kernel_rfl) ?_
 refine aa 0 ?_
 refine aa 0 ?_
 refine aa 0 ?_
 refine aa 0 ?_
 refine aa 0 ?_
 intro aB
 exact .done ⟨aB,rfl,rfl⟩
theorem E9(w:Nat)(s:Sy)(l:Lay)(me ae node:Int)(has:Bool)(nx out:List Int)(D T J A:AV)(ev jo:Int)(en:Bool)(other:Int)(σ:Hp):ACalls Tryz.prog 169 [.ptr w 0,.int .i64 other] ((w,eg s l me ae node has nx out D T J A ev jo en)::σ) (aD (.tup []) ((w,eg s l me (if l.k<2 then other else 1) node has nx out D T J A ev jo en)::σ)):=by
 refine au Tryz.func169 ?_
 refine ag 0 ?_
 refine aa 0 ?_
 refine aj (fun c1=>?_) (fun c1=>?_)
 ·have c1:1<l.k:=c1
  refine ag 0 ?_
  exact .done ⟨rfl,by rw[aA (show ¬l.k<2 by omega)];rfl⟩
 ·have c1:¬(1<l.k):=c1
  exact .done ⟨rfl,by rw[az (show l.k<2 by omega)];rfl⟩
theorem FA(w:Nat)(s:Sy)(l:Lay)(me ae node:Int)(has:Bool)(nx out:List Int)(D T J A:AV)(ev jo:Int)(en:Bool)(n:Int)(σ:Hp):ACalls Tryz.prog 168 [.ptr w 0,.int .u64 n] ((w,eg s l me ae node has nx out D T J A ev jo en)::σ) (aD (.tup []) ((w,eg s l me (jM l n) (iR l n) true nx out D T J A ev jo en)::σ)):=by
 refine au Tryz.func168 ?_
 refine ag 0 ?_
 refine ag 0 ?_
 refine ag 0 ?_
 refine aa 0 ?_
 refine aj (fun c1=>?_) (fun c1=>?_)
 ·have c1:n<IntKind.u64.wrap l.n:=c1
  refine ag 0 ?_
  refine ag 0 ?_
  exact .done ⟨rfl,by unfold jM iR;rw[aA (show ¬wu l.n≤n from Int.not_le.2 c1),aA (show ¬wu l.n≤n from Int.not_le.2 c1)];rfl⟩
 ·have c1:¬(n<IntKind.u64.wrap l.n):=c1
  exact .done ⟨rfl,by unfold jM iR;rw[az (show wu l.n≤n from Int.not_lt.1 c1),az (show wu l.n≤n from Int.not_lt.1 c1)];rfl⟩
theorem Ji(w:Nat)(s:Sy)(l:Lay)(me ae node:Int)(has:Bool)(nx out:List Int)(D T J A:AV)(ev jo:Int)(en:Bool)(σ:Hp):ACalls Tryz.prog 172 [.ptr w 0] ((w,eg s l me ae node has nx out D T J A ev jo en)::σ) (aD (.tup []) ((w,eg s l me (if nx.length=0 then 8 else 5) node has nx out D T J A ev jo en)::σ)):=by
 refine au Tryz.func172 ?_
 refine ag 0 ?_
 refine aa 0 ?_
 refine aj (fun c1=>?_) (fun c1=>?_)
 ·have c1:0<(↑nx.length:Int):=c1
  refine ag 0 ?_
  exact .done ⟨rfl,by rw[aA (show ¬nx.length=0 by omega)];rfl⟩
 ·have c1:¬(0<(↑nx.length:Int)):=c1
  exact .done ⟨rfl,by rw[az (show nx.length=0 by omega)];rfl⟩
def KJ(r:Nat):Nw→AV
 |.pop _ | .dO _ | .push _=>.ptr r 0
 |_=>.aG
def KH(r:Nat):Nw→AV
 |.take _=>.ptr r 0
 |_=>.aG
def KI(r:Nat):Nw→AV
 |.join _=>.ptr r 0
 |_=>.aG
def rA:List Int→AV
 | []=>.ak
 |x::y=>.af (.int .u64) (x::y:List Int)
def CB:Nw→AV
 |.read y=>rA y
 |_=>.ak
def rtT(t:Tk):RT:=⟨1,t.v,t.f,t.c,1,true,false,false,0⟩
def KK(r:Nat):Nw→Hp
 |.pop q=>[(r,jA 2 q)]
 |.dO q=>[(r,jA 3 q)]
 |.push q=>[(r,jA 1 q)]
 |.take t=>[(r,wh (rtT t))]
 |.join j=>[(r,zO j)]
 |_=>[]
def RB(s:Sy)(l:Lay)(who:Int)(w r:Nat)(x:WS):Hp:=(w,eg s l who x.ae x.node x.has x.nx x.out (KJ r x.now) (KH r x.now) (KI r x.now) (CB x.now) x.ev x.jo x.en)::KK r x.now
def jr(s:Sy)(l:Lay)(who:Int)(w m p:Nat)(x:WS)(d:Int)(ws:List Int)(σ:Hp):AV→Hp→Prop:=fun z σ'=>∃r,z=.tup []∧σ'=RB s l who w r (cW bF s l who x d ws).1++bu m p (cW bF s l who x d ws).2.1 σ
theorem eN{s:Sy}{l:Lay}{who:Int}{w m p:Nat}{x:WS}{d:Int}{ws ws':List Int}{σ:Hp}{n n':Nw}{b:Bool}{y:WS}(he:x.en=false)(eP:oo l who x d=n)(hn:kf bF l x.node n ws=(n',ws',b))(hb:b=true)(hy:ft s l x n'=y)(h0:y.now=.none):jr s l who w m p x d ws σ (.tup []) ((w,eg s l who y.ae y.node y.has y.nx y.out .aG .aG .aG .ak y.ev y.jo y.en)::bu m p ws' σ):=by
 unfold jr cW
 rw[aA (by rw[he];decide),eP,hn]
 dsimp only
 rw[az hb,hy]
 exact⟨0,rfl,by unfold RB;rw[h0];rfl⟩
theorem sq{s:Sy}{l:Lay}{who:Int}{w m p:Nat}{x:WS}{d:Int}{ws ws':List Int}{σ:Hp}{n n':Nw}{b:Bool}(r:Nat)(he:x.en=false)(eP:oo l who x d=n)(hn:kf bF l x.node n ws=(n',ws',b))(hb:b=false):jr s l who w m p x d ws σ (.tup []) (RB s l who w r ⟨x.ev,x.jo,x.en,x.ae,n',x.node,x.has,x.nx,x.out⟩++bu m p ws' σ):=by
 unfold jr cW
 rw[aA (by rw[he];decide),eP,hn]
 dsimp only
 rw[aA (by rw[hb];decide)]
 exact⟨r,rfl,rfl⟩
theorem yR{q:DQ}{m:Nat}(h:q.w4 m)(hm:m≤5):q.S9:=⟨by have:=h.at_;omega,h.b.1,h.t.1⟩
theorem Bs(w:Nat)(s:Sy)(l:Lay)(me ae node:Int)(has:Bool)(nx KO out:List Int)(D T J A:AV)(ev jo:Int)(en:Bool)(σ:Hp)(e:KO=nx):ACalls Tryz.prog 172 [.ptr w 0] ((w,eg s l me ae node has KO out D T J A ev jo en)::σ) (aD (.tup []) ((w,eg s l me (if nx.length=0 then 8 else 5) node has nx out D T J A ev jo en)::σ)):=e▸Ji w s l me ae node has KO out D T J A ev jo en σ
theorem drop_one(z:Int)(nx:List Int):((z::nx).drop ((1:Int)).toNat).take ((((z::nx).length:Nat):Int).toNat-((1:Int)).toNat)=nx:=by simp
theorem gw(z:Int)(nx:List Int):(1:Int)≤((z::nx).length:Nat):=Int.ofNat_le.2 (Nat.succ_le_succ (aY _))
theorem Sp{l:Lay}{who ae node d:Int}{nx out:List Int}(hd:ae=8):jy l who ae node nx out d=.fU ⟨de l,da l,0,false⟩:=Ku (by omega) (by omega) (by omega) (by omega) (by omega) (by omega) (by omega) (by omega)
theorem ZD(y:List Int)(x:Int):rA (y++[x])=.af (.int .u64) (y++[x]):=by cases y <;> rfl
theorem Ew{s:Sy}{l:Lay}{x:WS}{q:DQ}(h:q.ok=true):ft s l x (.pop q)=⟨x.ev,x.jo,x.en,jM l q.n,.none,iR l q.n,true,x.nx,x.out⟩:=az h
theorem Ey{s:Sy}{l:Lay}{x:WS}{q:DQ}(h:q.ok=false):ft s l x (.pop q)=⟨x.ev,x.jo,x.en,qm l,.none,x.node,x.has,x.nx,x.out⟩:=aA (by rw[h];decide)
theorem D0{s:Sy}{l:Lay}{x:WS}{q:DQ}(h:q.ok=true):ft s l x (.dO q)=⟨x.ev,x.jo,x.en,jM l q.n,.none,iR l q.n,true,x.nx,x.out⟩:=az h
theorem D1{s:Sy}{l:Lay}{x:WS}{q:DQ}(h:q.ok=false):ft s l x (.dO q)=⟨x.ev,x.jo,x.en,2,.none,x.node,x.has,x.nx,x.out⟩:=aA (by rw[h];decide)
theorem Ee{s:Sy}{l:Lay}{x:WS}{q:Jn}(h:q.changed=true):ft s l x (.join q)=⟨x.ev,wr (x.jo+1),x.en,6,.none,x.node,x.has,x.nx,x.out⟩:=az h
theorem Ef{s:Sy}{l:Lay}{x:WS}{q:Jn}(h:q.changed=false):ft s l x (.join q)=⟨x.ev,x.jo,x.en,jq x.nx,.none,x.node,x.has,x.nx.tail,x.out⟩:=aA (by rw[h];decide)
theorem OE{s:Sy}{l:Lay}{x:WS}{q:Tk}(h:q.new=true):ft s l x (.take q)=⟨x.ev,x.jo,x.en,7,.none,x.node,x.has,x.nx,x.out⟩:=az h
theorem OF{s:Sy}{l:Lay}{x:WS}{q:Tk}(h:q.new=false):ft s l x (.take q)=⟨x.ev,x.jo,x.en,jq x.nx,.none,x.node,x.has,x.nx.tail,x.out⟩:=aA (by rw[h];decide)
theorem VI(w r m p:Nat)(s:Sy)(l:Lay)(me ev jo ae:Int)(q:DQ)(node:Int)(has:Bool)(nx out:List Int)(d:Int)(ws:List Int)(σ:Hp)(hd:ae=0) (hq:q.w4 5):
  ACalls Tryz.prog 116 [.ptr w 0,.ptr m 0,.int .i64 d] ((w,eg s l me ae node has nx out (.ptr r 0) .aG .aG .ak ev jo false)::(r,jA 2 q)::bu m p ws σ) (jr s l me w m p ⟨ev,jo,false,ae,(.pop q),node,has,nx,out⟩ d ws σ):=by
 obtain⟨q',ws',b,ao⟩:∃q' ws' b,oI 2 bF (q) ws=(q',ws',b):=⟨_,_,_,rfl⟩
 have h4:DQ.w4 (q) 5:=hq
 have gE:b=q'.ended:=by have:=yO (k:=2) (O:=bF) (a:=ws) h4.en;rw[ao]at this;exact this
 have hp:dZ bF (q) ws=(q',ws',b):=ao
 have hc:=fun r σ=>yP r m p 2 _ ws σ (yR h4 (by omega)) ao
 obtain⟨u1,u2,u3,u4,u5,u6,u7,u8,u9⟩:=q'
 cases u5 with
 |true=>
  cases u4 with
  |true=>
   refine au Tryz.func116 ?_
   refine aa 0 ?_
   refine aa 0 ?_
   refine aa 0 ?_
   refine ar [3,3,3] (hc _ _) ?_
   refine aa 3 ?_
   refine ag 3 ?_
   refine aa 0 ?_
   refine aa 0 ?_
   refine ar [3] (FA w s l me _ node has nx out .aG .aG .aG .ak ev jo false _ _) ?_
   first | exact .drop 1 1 (.done (eN (y:=⟨ev,jo,false,jM l u3,.none,iR l u3,true,nx,out⟩) rfl rfl (k8 hp) gE (Ew rfl) rfl)) | exact .pull [3] (.drop 1 1 (.done (eN (y:=⟨ev,jo,false,jM l u3,.none,iR l u3,true,nx,out⟩) rfl rfl (k8 hp) gE (Ew rfl) rfl)))
  |false=>
   refine au Tryz.func116 ?_
   refine aa 0 ?_
   refine aa 0 ?_
   refine aa 0 ?_
   refine ar [3,3,3] (hc _ _) ?_
   refine aa 3 ?_
   refine ag 3 ?_
   refine aa 0 ?_
   refine aa 3 ?_
   refine aj (fun c1=>?_) (fun c1=>?_)
   ·refine ar [3] (E9 w s l me _ node has nx out .aG .aG .aG .ak ev jo false _ _) ?_
    first | exact .drop 1 1 (.done (eN (y:=⟨ev,jo,false,qm l,.none,node,has,nx,out⟩) rfl rfl (k8 hp) gE (Ey rfl) rfl)) | exact .pull [3] (.drop 1 1 (.done (eN (y:=⟨ev,jo,false,qm l,.none,node,has,nx,out⟩) rfl rfl (k8 hp) gE (Ey rfl) rfl)))
   ·have c1:¬(ae=0):=c1
    refine ag 3 ?_
    exact absurd hd (by omega)
 |false=>
  refine au Tryz.func116 ?_
  refine aa 0 ?_
  refine aa 0 ?_
  refine aa 0 ?_
  refine ar [3,3,3] (hc _ _) ?_
  exact .pull [3] (.done (sq (n':=.pop ⟨u1,u2,u3,u4,false,u6,u7,u8,u9⟩) (ws':=ws') r rfl rfl (k8 hp) gE))
theorem VH(w m p:Nat)(s:Sy)(l:Lay)(me ev jo ae:Int) (node:Int)(has:Bool)(nx out:List Int)(d:Int)(ws:List Int)(σ:Hp)(hd:ae=0)  :
  ACalls Tryz.prog 116 [.ptr w 0,.ptr m 0,.int .i64 d] ((w,eg s l me ae node has nx out .aG .aG .aG .ak ev jo false)::bu m p ws σ) (jr s l me w m p ⟨ev,jo,false,ae,.none,node,has,nx,out⟩ d ws σ):=by
 obtain⟨q',ws',b,ao⟩:∃q' ws' b,oI 2 bF (mM (dY l me) (fB l) 0) ws=(q',ws',b):=⟨_,_,_,rfl⟩
 have h4:DQ.w4 (mM (dY l me) (fB l) 0) 5:=zb _ _ _ _ (by unfold bP;omega)
 have gE:b=q'.ended:=by have:=yO (k:=2) (O:=bF) (a:=ws) h4.en;rw[ao]at this;exact this
 have hp:dZ bF (mM (dY l me) (fB l) 0) ws=(q',ws',b):=ao
 have hc:=fun r σ=>yP r m p 2 _ ws σ (yR h4 (by omega)) ao
 obtain⟨u1,u2,u3,u4,u5,u6,u7,u8,u9⟩:=q'
 cases u5 with
 |true=>
  cases u4 with
  |true=>
   refine au Tryz.func116 ?_
   refine aa 0 ?_
   refine aa 0 ?_
   refine aj (fun c1=>?_) (fun c1=>?_)
   ·refine aa 0 ?_
    (refine .mk [] _ (vm w s l me _ node has _ out .aG .aG .aG .ak ev jo false _ _ _ _) ?_;rintro _ _ ⟨rr,rfl,rfl⟩)
    refine ag 1 ?_
    refine aa 1 ?_
    refine aa 1 ?_
    refine ar [2,3,3] (hc _ _) ?_
    refine aa 3 ?_
    refine ag 3 ?_
    refine aa 0 ?_
    refine aa 0 ?_
    refine ar [3] (FA w s l me _ node has nx out .aG .aG .aG .ak ev jo false _ _) ?_
    first | exact .drop 1 1 (.done (eN (y:=⟨ev,jo,false,jM l u3,.none,iR l u3,true,nx,out⟩) rfl (xR hd) (k8 hp) gE (Ew rfl) rfl)) | exact .pull [3] (.drop 1 1 (.done (eN (y:=⟨ev,jo,false,jM l u3,.none,iR l u3,true,nx,out⟩) rfl (xR hd) (k8 hp) gE (Ew rfl) rfl)))
   ·have c1:¬(ae=0):=c1
    refine aa 0 ?_
    refine aa 0 ?_
    exact absurd hd (by omega)
  |false=>
   refine au Tryz.func116 ?_
   refine aa 0 ?_
   refine aa 0 ?_
   refine aj (fun c1=>?_) (fun c1=>?_)
   ·have c1:ae=0:=c1
    refine aa 0 ?_
    (refine .mk [] _ (vm w s l me _ node has _ out .aG .aG .aG .ak ev jo false _ _ _ _) ?_;rintro _ _ ⟨rr,rfl,rfl⟩)
    refine ag 1 ?_
    refine aa 1 ?_
    refine aa 1 ?_
    refine ar [2,3,3] (hc _ _) ?_
    refine aa 3 ?_
    refine ag 3 ?_
    refine aa 0 ?_
    refine aa 3 ?_
    refine aj (fun c2=>?_) (fun c2=>?_)
    ·refine ar [3] (E9 w s l me _ node has nx out .aG .aG .aG .ak ev jo false _ _) ?_
     first | exact .drop 1 1 (.done (eN (y:=⟨ev,jo,false,qm l,.none,node,has,nx,out⟩) rfl (xR hd) (k8 hp) gE (Ey rfl) rfl)) | exact .pull [3] (.drop 1 1 (.done (eN (y:=⟨ev,jo,false,qm l,.none,node,has,nx,out⟩) rfl (xR hd) (k8 hp) gE (Ey rfl) rfl)))
    ·have c2:¬(ae=0):=c2
     refine ag 3 ?_
     exact absurd hd (by omega)
   ·have c1:¬(ae=0):=c1
    refine aa 0 ?_
    refine aa 0 ?_
    exact absurd hd (by omega)
 |false=>
  refine au Tryz.func116 ?_
  refine aa 0 ?_
  refine aa 0 ?_
  refine aj (fun c1=>?_) (fun c1=>?_)
  ·refine aa 0 ?_
   (refine .mk [] _ (vm w s l me _ node has _ out .aG .aG .aG .ak ev jo false _ _ _ _) ?_;rintro _ _ ⟨rr,rfl,rfl⟩)
   refine ag 1 ?_
   refine aa 1 ?_
   refine aa 1 ?_
   refine ar [2,3,3] (hc _ _) ?_
   exact .pull [3] (.done (sq (n':=.pop ⟨u1,u2,u3,u4,false,u6,u7,u8,u9⟩) (ws':=ws') rr rfl (xR hd) (k8 hp) gE))
  ·have c1:¬(ae=0):=c1
   refine aa 0 ?_
   refine aa 0 ?_
   exact absurd hd (by omega)
theorem TX(w r m p:Nat)(s:Sy)(l:Lay)(me ev jo ae:Int)(q:DQ)(node:Int)(has:Bool)(nx out:List Int)(d:Int)(ws:List Int)(σ:Hp)(hd:ae=1) (hq:q.w4 3):
  ACalls Tryz.prog 116 [.ptr w 0,.ptr m 0,.int .i64 d] ((w,eg s l me ae node has nx out (.ptr r 0) .aG .aG .ak ev jo false)::(r,jA 3 q)::bu m p ws σ) (jr s l me w m p ⟨ev,jo,false,ae,(.dO q),node,has,nx,out⟩ d ws σ):=by
 obtain⟨q',ws',b,ao⟩:∃q' ws' b,oI 3 bF (q) ws=(q',ws',b):=⟨_,_,_,rfl⟩
 have h4:DQ.w4 (q) 3:=hq
 have gE:b=q'.ended:=by have:=yO (k:=3) (O:=bF) (a:=ws) h4.en;rw[ao]at this;exact this
 have hp:fx bF (q) ws=(q',ws',b):=ao
 have hc:=fun r σ=>yP r m p 3 _ ws σ (yR h4 (by omega)) ao
 obtain⟨u1,u2,u3,u4,u5,u6,u7,u8,u9⟩:=q'
 cases u5 with
 |true=>
  cases u4 with
  |true=>
   refine au Tryz.func116 ?_
   refine aa 0 ?_
   refine aa 0 ?_
   refine aa 0 ?_
   refine ar [3,3,3] (hc _ _) ?_
   refine aa 3 ?_
   refine ag 3 ?_
   refine aa 0 ?_
   refine aa 0 ?_
   refine ar [3] (FA w s l me _ node has nx out .aG .aG .aG .ak ev jo false _ _) ?_
   first | exact .drop 1 1 (.done (eN (y:=⟨ev,jo,false,jM l u3,.none,iR l u3,true,nx,out⟩) rfl rfl (kX hp) gE (D0 rfl) rfl)) | exact .pull [3] (.drop 1 1 (.done (eN (y:=⟨ev,jo,false,jM l u3,.none,iR l u3,true,nx,out⟩) rfl rfl (kX hp) gE (D0 rfl) rfl)))
  |false=>
   refine au Tryz.func116 ?_
   refine aa 0 ?_
   refine aa 0 ?_
   refine aa 0 ?_
   refine ar [3,3,3] (hc _ _) ?_
   refine aa 3 ?_
   refine ag 3 ?_
   refine aa 0 ?_
   refine aa 3 ?_
   refine aj (fun c1=>?_) (fun c1=>?_)
   ·have c1:ae=0:=c1
    exact absurd hd (by omega)
   ·refine ag 3 ?_
    first | exact .drop 1 1 (.done (eN (y:=⟨ev,jo,false,2,.none,node,has,nx,out⟩) rfl rfl (kX hp) gE (D1 rfl) rfl)) | exact .pull [3] (.drop 1 1 (.done (eN (y:=⟨ev,jo,false,2,.none,node,has,nx,out⟩) rfl rfl (kX hp) gE (D1 rfl) rfl)))
 |false=>
  refine au Tryz.func116 ?_
  refine aa 0 ?_
  refine aa 0 ?_
  refine aa 0 ?_
  refine ar [3,3,3] (hc _ _) ?_
  exact .pull [3] (.done (sq (n':=.dO ⟨u1,u2,u3,u4,false,u6,u7,u8,u9⟩) (ws':=ws') r rfl rfl (kX hp) gE))
theorem TW(w m p:Nat)(s:Sy)(l:Lay)(me ev jo ae:Int) (node:Int)(has:Bool)(nx out:List Int)(d:Int)(ws:List Int)(σ:Hp)(hd:ae=1)(h1:nK l≠0)(h2:l.k≠0):
  ACalls Tryz.prog 116 [.ptr w 0,.ptr m 0,.int .i64 d] ((w,eg s l me ae node has nx out .aG .aG .aG .ak ev jo false)::bu m p ws σ) (jr s l me w m p ⟨ev,jo,false,ae,.none,node,has,nx,out⟩ d ws σ):=by
 obtain⟨q',ws',b,ao⟩:∃q' ws' b,oI 3 bF (mM (dY l (vz l me d)) (fB l) 0) ws=(q',ws',b):=⟨_,_,_,rfl⟩
 have h4:DQ.w4 (mM (dY l (vz l me d)) (fB l) 0) 3:=zb _ _ _ _ (by unfold bP;omega)
 have gE:b=q'.ended:=by have:=yO (k:=3) (O:=bF) (a:=ws) h4.en;rw[ao]at this;exact this
 have hp:fx bF (mM (dY l (vz l me d)) (fB l) 0) ws=(q',ws',b):=ao
 have hc:=fun r σ=>yP r m p 3 _ ws σ (yR h4 (by omega)) ao
 obtain⟨u1,u2,u3,u4,u5,u6,u7,u8,u9⟩:=q'
 cases u5 with
 |true=>
  cases u4 with
  |true=>
   refine au Tryz.func116 ?_
   refine aa 0 ?_
   refine aa 0 ?_
   refine aj (fun c1=>?_) (fun c1=>?_)
   ·have c1:ae=0:=c1
    refine aa 0 ?_
    exact absurd hd (by omega)
   ·have c1:¬(ae=0):=c1
    refine aa 0 ?_
    refine aa 0 ?_
    refine .sched [] (upto [] 25 0) (by kernel_rfl) ?_
    refine aa 0 ?_
    first | exact absurd hd (by omega) | refine aw.mk rfl ?_ | refine aw.mk h1 ?_ | refine aw.mk h2 ?_ | refine aw.mk ⟨by decide,gw z nx,dA _,rfl⟩ ?_
    first | exact absurd hd (by omega) | refine aw.mk rfl ?_ | refine aw.mk h1 ?_ | refine aw.mk h2 ?_ | refine aw.mk ⟨by decide,gw z nx,dA _,rfl⟩ ?_
    refine aa 0 ?_
    first | exact absurd hd (by omega) | refine aw.mk rfl ?_ | refine aw.mk h1 ?_ | refine aw.mk h2 ?_ | refine aw.mk ⟨by decide,gw z nx,dA _,rfl⟩ ?_
    (refine .mk [] _ (vm w s l me _ node has _ out .aG .aG .aG .ak ev jo false _ _ _ _) ?_;rintro _ _ ⟨rr,rfl,rfl⟩)
    refine ag 1 ?_
    refine aa 1 ?_
    refine ar [2,3,3] (hc _ _) ?_
    refine aa 3 ?_
    refine ag 3 ?_
    refine aa 0 ?_
    refine aa 0 ?_
    refine ar [3] (FA w s l me _ node has nx out .aG .aG .aG .ak ev jo false _ _) ?_
    first | exact .drop 1 1 (.done (eN (y:=⟨ev,jo,false,jM l u3,.none,iR l u3,true,nx,out⟩) rfl (xQ hd) (kX hp) gE (D0 rfl) rfl)) | exact .pull [3] (.drop 1 1 (.done (eN (y:=⟨ev,jo,false,jM l u3,.none,iR l u3,true,nx,out⟩) rfl (xQ hd) (kX hp) gE (D0 rfl) rfl)))
  |false=>
   refine au Tryz.func116 ?_
   refine aa 0 ?_
   refine aa 0 ?_
   refine aj (fun c1=>?_) (fun c1=>?_)
   ·have c1:ae=0:=c1
    refine aa 0 ?_
    exact absurd hd (by omega)
   ·have c1:¬(ae=0):=c1
    refine aa 0 ?_
    refine aa 0 ?_
    refine .sched [] (upto [] 25 0) (by kernel_rfl) ?_
    refine aa 0 ?_
    first | exact absurd hd (by omega) | refine aw.mk rfl ?_ | refine aw.mk h1 ?_ | refine aw.mk h2 ?_ | refine aw.mk ⟨by decide,gw z nx,dA _,rfl⟩ ?_
    first | exact absurd hd (by omega) | refine aw.mk rfl ?_ | refine aw.mk h1 ?_ | refine aw.mk h2 ?_ | refine aw.mk ⟨by decide,gw z nx,dA _,rfl⟩ ?_
    refine aa 0 ?_
    first | exact absurd hd (by omega) | refine aw.mk rfl ?_ | refine aw.mk h1 ?_ | refine aw.mk h2 ?_ | refine aw.mk ⟨by decide,gw z nx,dA _,rfl⟩ ?_
    (refine .mk [] _ (vm w s l me _ node has _ out .aG .aG .aG .ak ev jo false _ _ _ _) ?_;rintro _ _ ⟨rr,rfl,rfl⟩)
    refine ag 1 ?_
    refine aa 1 ?_
    refine ar [2,3,3] (hc _ _) ?_
    refine aa 3 ?_
    refine ag 3 ?_
    refine aa 0 ?_
    refine aa 3 ?_
    refine aj (fun c2=>?_) (fun c2=>?_)
    ·have c2:ae=0:=c2
     exact absurd hd (by omega)
    ·refine ag 3 ?_
     first | exact .drop 1 1 (.done (eN (y:=⟨ev,jo,false,2,.none,node,has,nx,out⟩) rfl (xQ hd) (kX hp) gE (D1 rfl) rfl)) | exact .pull [3] (.drop 1 1 (.done (eN (y:=⟨ev,jo,false,2,.none,node,has,nx,out⟩) rfl (xQ hd) (kX hp) gE (D1 rfl) rfl)))
 |false=>
  refine au Tryz.func116 ?_
  refine aa 0 ?_
  refine aa 0 ?_
  refine aj (fun c1=>?_) (fun c1=>?_)
  ·have c1:ae=0:=c1
   refine aa 0 ?_
   exact absurd hd (by omega)
  ·have c1:¬(ae=0):=c1
   refine aa 0 ?_
   refine aa 0 ?_
   refine .sched [] (upto [] 25 0) (by kernel_rfl) ?_
   refine aa 0 ?_
   first | exact absurd hd (by omega) | refine aw.mk rfl ?_ | refine aw.mk h1 ?_ | refine aw.mk h2 ?_ | refine aw.mk ⟨by decide,gw z nx,dA _,rfl⟩ ?_
   first | exact absurd hd (by omega) | refine aw.mk rfl ?_ | refine aw.mk h1 ?_ | refine aw.mk h2 ?_ | refine aw.mk ⟨by decide,gw z nx,dA _,rfl⟩ ?_
   refine aa 0 ?_
   first | exact absurd hd (by omega) | refine aw.mk rfl ?_ | refine aw.mk h1 ?_ | refine aw.mk h2 ?_ | refine aw.mk ⟨by decide,gw z nx,dA _,rfl⟩ ?_
   (refine .mk [] _ (vm w s l me _ node has _ out .aG .aG .aG .ak ev jo false _ _ _ _) ?_;rintro _ _ ⟨rr,rfl,rfl⟩)
   refine ag 1 ?_
   refine aa 1 ?_
   refine ar [2,3,3] (hc _ _) ?_
   exact .pull [3] (.done (sq (n':=.dO ⟨u1,u2,u3,u4,false,u6,u7,u8,u9⟩) (ws':=ws') rr rfl (xQ hd) (kX hp) gE))
theorem aaF(w r m p:Nat)(s:Sy)(l:Lay)(me ev jo ae:Int)(q:DQ)(z:Int)(node:Int)(has:Bool)(nx out:List Int)(d:Int)(ws:List Int)(σ:Hp)  (hq:q.w4 3):
  ACalls Tryz.prog 119 [.ptr w 0,.ptr m 0] ((w,eg s l me ae node has (z::nx) out (.ptr r 0) .aG .aG .ak ev jo false)::(r,jA 1 q)::bu m p ws σ) (jr s l me w m p ⟨ev,jo,false,ae,(.push q),node,has,z::nx,out⟩ d ws σ):=by
 obtain⟨q',ws',b,ao⟩:∃q' ws' b,oI 1 bF (q) ws=(q',ws',b):=⟨_,_,_,rfl⟩
 have h4:DQ.w4 (q) 3:=hq
 have gE:b=q'.ended:=by have:=yO (k:=1) (O:=bF) (a:=ws) h4.en;rw[ao]at this;exact this
 have hp:fT bF (q) ws=(q',ws',b):=ao
 have hc:=fun r σ=>yP r m p 1 _ ws σ (yR h4 (by omega)) ao
 obtain⟨u1,u2,u3,u4,u5,u6,u7,u8,u9⟩:=q'
 cases u5 with
 |true=>
  refine au Tryz.func119 ?_
  refine aa 0 ?_
  refine aa 0 ?_
  refine ar [3,3,3] (hc _ _) ?_
  refine ag 3 ?_
  refine aa 3 ?_
  first | exact absurd hd (by omega) | refine aw.mk rfl ?_ | refine aw.mk h1 ?_ | refine aw.mk h2 ?_ | refine aw.mk ⟨by decide,gw z nx,dA _,rfl⟩ ?_
  refine ag 3 ?_
  refine ar [3] (Bs w s l me _ node has nx _ out .aG .aG .aG .ak ev jo false _ (drop_one z nx)) ?_
  first | exact .drop 1 1 (.done (eN (y:=⟨ev,jo,false,jq (z::nx),.none,node,has,nx,out⟩) rfl rfl (q8 hp) gE (rfl) rfl)) | exact .pull [3] (.drop 1 1 (.done (eN (y:=⟨ev,jo,false,jq (z::nx),.none,node,has,nx,out⟩) rfl rfl (q8 hp) gE (rfl) rfl)))
 |false=>
  refine au Tryz.func119 ?_
  refine aa 0 ?_
  refine aa 0 ?_
  refine ar [3,3,3] (hc _ _) ?_
  exact .pull [3] (.done (sq (n':=.push ⟨u1,u2,u3,u4,false,u6,u7,u8,u9⟩) (ws':=ws') r rfl rfl (q8 hp) gE))
theorem aaE(w m p:Nat)(s:Sy)(l:Lay)(me ev jo ae:Int) (z:Int)(node:Int)(has:Bool)(nx out:List Int)(d:Int)(ws:List Int)(σ:Hp)(hd:ae=7)  :
  ACalls Tryz.prog 119 [.ptr w 0,.ptr m 0] ((w,eg s l me ae node has (z::nx) out .aG .aG .aG .ak ev jo false)::bu m p ws σ) (jr s l me w m p ⟨ev,jo,false,ae,.none,node,has,z::nx,out⟩ d ws σ):=by
 obtain⟨q',ws',b,ao⟩:∃q' ws' b,oI 1 bF (mM (dY l me) (fB l) (wu z)) ws=(q',ws',b):=⟨_,_,_,rfl⟩
 have h4:DQ.w4 (mM (dY l me) (fB l) (wu z)) 3:=zb _ _ _ _ (xz _)
 have gE:b=q'.ended:=by have:=yO (k:=1) (O:=bF) (a:=ws) h4.en;rw[ao]at this;exact this
 have hp:fT bF (mM (dY l me) (fB l) (wu z)) ws=(q',ws',b):=ao
 have hc:=fun r σ=>yP r m p 1 _ ws σ (yR h4 (by omega)) ao
 obtain⟨u1,u2,u3,u4,u5,u6,u7,u8,u9⟩:=q'
 cases u5 with
 |true=>
  refine au Tryz.func119 ?_
  refine aa 0 ?_
  refine .sched [] (upto [] 17 0) (by kernel_rfl) ?_
  refine aa 0 ?_
  refine aa 0 ?_
  first | exact absurd hd (by omega) | refine aw.mk rfl ?_ | refine aw.mk h1 ?_ | refine aw.mk h2 ?_ | refine aw.mk ⟨by decide,gw z nx,dA _,rfl⟩ ?_
  refine aX.mk z (by decide) rfl ?_
  (refine .mk [] _ (vm w s l me _ node has _ out .aG .aG .aG .ak ev jo false _ _ _ _) ?_;rintro _ _ ⟨rr,rfl,rfl⟩)
  refine ag 1 ?_
  refine aa 1 ?_
  refine ar [2,3,3] (hc _ _) ?_
  refine ag 3 ?_
  refine aa 3 ?_
  first | exact absurd hd (by omega) | refine aw.mk rfl ?_ | refine aw.mk h1 ?_ | refine aw.mk h2 ?_ | refine aw.mk ⟨by decide,gw z nx,dA _,rfl⟩ ?_
  refine ag 3 ?_
  refine ar [3] (Bs w s l me _ node has nx _ out .aG .aG .aG .ak ev jo false _ (drop_one z nx)) ?_
  first | exact .drop 1 1 (.done (eN (y:=⟨ev,jo,false,jq (z::nx),.none,node,has,nx,out⟩) rfl (Cr hd) (q8 hp) gE (rfl) rfl)) | exact .pull [3] (.drop 1 1 (.done (eN (y:=⟨ev,jo,false,jq (z::nx),.none,node,has,nx,out⟩) rfl (Cr hd) (q8 hp) gE (rfl) rfl)))
 |false=>
  refine au Tryz.func119 ?_
  refine aa 0 ?_
  refine .sched [] (upto [] 17 0) (by kernel_rfl) ?_
  refine aa 0 ?_
  refine aa 0 ?_
  first | exact absurd hd (by omega) | refine aw.mk rfl ?_ | refine aw.mk h1 ?_ | refine aw.mk h2 ?_ | refine aw.mk ⟨by decide,gw z nx,dA _,rfl⟩ ?_
  refine aX.mk z (by decide) rfl ?_
  (refine .mk [] _ (vm w s l me _ node has _ out .aG .aG .aG .ak ev jo false _ _ _ _) ?_;rintro _ _ ⟨rr,rfl,rfl⟩)
  refine ag 1 ?_
  refine aa 1 ?_
  refine ar [2,3,3] (hc _ _) ?_
  exact .pull [3] (.done (sq (n':=.push ⟨u1,u2,u3,u4,false,u6,u7,u8,u9⟩) (ws':=ws') rr rfl (Cr hd) (q8 hp) gE))
theorem Y3(w m p:Nat)(s:Sy)(l:Lay)(me ev jo ae:Int) (node:Int)(has:Bool)(nx out:List Int)(d:Int)(ws:List Int)(σ:Hp)(hd:ae=2)  :
  ACalls Tryz.prog 120 [.ptr w 0,.ptr m 0] ((w,eg s l me ae node has nx out .aG .aG .aG .ak ev jo false)::bu m p ws σ) (jr s l me w m p ⟨ev,jo,false,ae,.none,node,has,nx,out⟩ d ws σ):=by
 have oe:iS ⟨4,0,de l,da l,0,false,false,false,0⟩ ws=(⟨4,0,de l,da l,1,false,true,decide (bV ws (da l)=0),0⟩,ws):=by simp[iS,Bw]
 have ao:qt bF ⟨de l,da l,false,false⟩ ws=(⟨de l,da l,decide (bV ws (da l)=0),true⟩,ws,true):=rfl
 cases fw:decide (bV ws (da l)=0) with
 |true=>
  rw[fw]at oe ao
  refine au Tryz.func120 ?_
  refine aa 0 ?_
  refine aa 0 ?_
  refine aj (fun c1=>?_) (fun c1=>?_)
  ·have c1:ae=2:=c1
   (refine .mk [] _ (yE w s l me _ node has _ out .aG .aG .aG .ak ev jo false _ _ _) ?_;rintro _ _ ⟨rr,rfl,rfl⟩)
   refine ag 1 ?_
   refine aa 1 ?_
   refine ar [2,3,3] (xk _ oe) ?_
   refine aa 3 ?_
   refine ag 3 ?_
   refine aa 3 ?_
   refine aj (fun c2=>?_) (fun c2=>?_)
   ·refine aa 0 ?_
    refine ag 3 ?_
    refine ar [3] (E9 w s l me _ node has nx out .aG .aG .aG .ak ev jo _ _ _) ?_
    first | exact .drop 1 1 (.done (eN (y:=⟨ev,jo,true,tz l,.none,node,has,nx,out⟩) rfl (zH hd) (ql ao) rfl rfl rfl)) | exact .pull [3] (.drop 1 1 (.done (eN (y:=⟨ev,jo,true,tz l,.none,node,has,nx,out⟩) rfl (zH hd) (ql ao) rfl rfl rfl)))
   ·have c2:¬(ae=2):=c2
    refine aa 3 ?_
    refine aj (fun c3=>?_) (fun c3=>?_)
    ·have c3:ae=3:=c3
     refine ag 3 ?_
     exact absurd hd (by omega)
    ·have c3:¬(ae=3):=c3
     refine aa 3 ?_
     refine aj (fun c4=>?_) (fun c4=>?_)
     ·have c4:ae=6:=c4
      refine aa 0 ?_
      refine aa 3 ?_
      refine aj (fun c5=>?_) (fun c5=>?_)
      ·have c5:ae=6:=c5
       refine aa 3 ?_
       first | exact absurd hd (by omega) | refine aw.mk rfl ?_ | refine aw.mk h1 ?_ | refine aw.mk h2 ?_ | refine aw.mk ⟨by decide,gw z nx,dA _,rfl⟩ ?_
      ·have c5:¬(ae=6):=c5
       refine ag 3 ?_
       refine ag 3 ?_
       exact absurd hd (by omega)
     ·have c4:¬(ae=6):=c4
      refine aa 3 ?_
      refine aj (fun c6=>?_) (fun c6=>?_)
      ·have c6:ae=6:=c6
       refine aa 3 ?_
       first | exact absurd hd (by omega) | refine aw.mk rfl ?_ | refine aw.mk h1 ?_ | refine aw.mk h2 ?_ | refine aw.mk ⟨by decide,gw z nx,dA _,rfl⟩ ?_
      ·have c6:¬(ae=6):=c6
       refine ag 3 ?_
       refine ag 3 ?_
       exact absurd hd (by omega)
  ·have c1:¬(ae=2):=c1
   refine aa 0 ?_
   refine aj (fun c7=>?_) (fun c7=>?_)
   ·have c7:ae=3:=c7
    exact absurd hd (by omega)
   ·have c7:¬(ae=3):=c7
    refine aa 0 ?_
    refine aj (fun c8=>?_) (fun c8=>?_)
    ·have c8:ae=6:=c8
     exact absurd hd (by omega)
    ·have c8:¬(ae=6):=c8
     exact absurd hd (by omega)
 |false=>
  rw[fw]at oe ao
  refine au Tryz.func120 ?_
  refine aa 0 ?_
  refine aa 0 ?_
  refine aj (fun c1=>?_) (fun c1=>?_)
  ·have c1:ae=2:=c1
   (refine .mk [] _ (yE w s l me _ node has _ out .aG .aG .aG .ak ev jo false _ _ _) ?_;rintro _ _ ⟨rr,rfl,rfl⟩)
   refine ag 1 ?_
   refine aa 1 ?_
   refine ar [2,3,3] (xk _ oe) ?_
   refine aa 3 ?_
   refine ag 3 ?_
   refine aa 3 ?_
   refine aj (fun c2=>?_) (fun c2=>?_)
   ·refine aa 0 ?_
    refine ag 3 ?_
    refine ar [3] (E9 w s l me _ node has nx out .aG .aG .aG .ak ev jo _ _ _) ?_
    first | exact .drop 1 1 (.done (eN (y:=⟨ev,jo,false,tz l,.none,node,has,nx,out⟩) rfl (zH hd) (ql ao) rfl rfl rfl)) | exact .pull [3] (.drop 1 1 (.done (eN (y:=⟨ev,jo,false,tz l,.none,node,has,nx,out⟩) rfl (zH hd) (ql ao) rfl rfl rfl)))
   ·have c2:¬(ae=2):=c2
    refine aa 3 ?_
    refine aj (fun c3=>?_) (fun c3=>?_)
    ·have c3:ae=3:=c3
     refine ag 3 ?_
     exact absurd hd (by omega)
    ·have c3:¬(ae=3):=c3
     refine aa 3 ?_
     refine aj (fun c4=>?_) (fun c4=>?_)
     ·have c4:ae=6:=c4
      refine aa 0 ?_
      refine aa 3 ?_
      refine aj (fun c5=>?_) (fun c5=>?_)
      ·have c5:ae=6:=c5
       refine aa 3 ?_
       first | exact absurd hd (by omega) | refine aw.mk rfl ?_ | refine aw.mk h1 ?_ | refine aw.mk h2 ?_ | refine aw.mk ⟨by decide,gw z nx,dA _,rfl⟩ ?_
      ·have c5:¬(ae=6):=c5
       refine ag 3 ?_
       refine ag 3 ?_
       exact absurd hd (by omega)
     ·have c4:¬(ae=6):=c4
      refine aa 3 ?_
      refine aj (fun c6=>?_) (fun c6=>?_)
      ·have c6:ae=6:=c6
       refine aa 3 ?_
       first | exact absurd hd (by omega) | refine aw.mk rfl ?_ | refine aw.mk h1 ?_ | refine aw.mk h2 ?_ | refine aw.mk ⟨by decide,gw z nx,dA _,rfl⟩ ?_
      ·have c6:¬(ae=6):=c6
       refine ag 3 ?_
       refine ag 3 ?_
       exact absurd hd (by omega)
  ·have c1:¬(ae=2):=c1
   refine aa 0 ?_
   refine aj (fun c7=>?_) (fun c7=>?_)
   ·have c7:ae=3:=c7
    exact absurd hd (by omega)
   ·have c7:¬(ae=3):=c7
    refine aa 0 ?_
    refine aj (fun c8=>?_) (fun c8=>?_)
    ·have c8:ae=6:=c8
     exact absurd hd (by omega)
    ·have c8:¬(ae=6):=c8
     exact absurd hd (by omega)
theorem Y1(w m p:Nat)(s:Sy)(l:Lay)(me ev jo ae:Int) (node:Int)(has:Bool)(nx out:List Int)(d:Int)(ws:List Int)(σ:Hp)(hd:ae=3)  :
  ACalls Tryz.prog 120 [.ptr w 0,.ptr m 0] ((w,eg s l me ae node has nx out .aG .aG .aG .ak ev jo false)::bu m p ws σ) (jr s l me w m p ⟨ev,jo,false,ae,.none,node,has,nx,out⟩ d ws σ):=by
 have oe:iS ⟨2,node,de l,da l,0,false,false,false,0⟩ ws=(⟨2,node,de l,da l,1,false,true,false,0⟩,if 0≤node then fy ws (wr (de l+node)) 0 else ws):=by simp[iS,Bw]
 refine au Tryz.func120 ?_
 refine aa 0 ?_
 refine aa 0 ?_
 refine aj (fun c1=>?_) (fun c1=>?_)
 ·have c1:ae=2:=c1
  exact absurd hd (by omega)
 ·have c1:¬(ae=2):=c1
  refine aa 0 ?_
  refine aj (fun c2=>?_) (fun c2=>?_)
  ·have c2:ae=3:=c2
   refine .quiet (by kernel_rfl) ?_
   refine aa 0 ?_
   (refine .mk [] _ (yE w s l me _ node has _ out .aG .aG .aG .ak ev jo false _ _ _) ?_;rintro _ _ ⟨rr,rfl,rfl⟩)
   refine ag 1 ?_
   refine aa 1 ?_
   refine ar [2,3,3] (xk _ oe) ?_
   refine aa 3 ?_
   refine ag 3 ?_
   refine aa 3 ?_
   refine aj (fun c3=>?_) (fun c3=>?_)
   ·have c3:ae=2:=c3
    refine aa 0 ?_
    refine ag 3 ?_
    exact absurd hd (by omega)
   ·have c3:¬(ae=2):=c3
    refine aa 3 ?_
    refine aj (fun c4=>?_) (fun c4=>?_)
    ·refine ag 3 ?_
     first | exact .drop 1 1 (.done (eN (y:=⟨ev,jo,false,4,.none,node,has,nx,out⟩) rfl (F8 hd) (yK rfl) rfl rfl rfl)) | exact .pull [3] (.drop 1 1 (.done (eN (y:=⟨ev,jo,false,4,.none,node,has,nx,out⟩) rfl (F8 hd) (yK rfl) rfl rfl rfl)))
    ·have c4:¬(ae=3):=c4
     refine aa 3 ?_
     refine aj (fun c5=>?_) (fun c5=>?_)
     ·have c5:ae=6:=c5
      refine aa 0 ?_
      refine aa 3 ?_
      refine aj (fun c6=>?_) (fun c6=>?_)
      ·have c6:ae=6:=c6
       refine aa 3 ?_
       first | exact absurd hd (by omega) | refine aw.mk rfl ?_ | refine aw.mk h1 ?_ | refine aw.mk h2 ?_ | refine aw.mk ⟨by decide,gw z nx,dA _,rfl⟩ ?_
      ·have c6:¬(ae=6):=c6
       refine ag 3 ?_
       refine ag 3 ?_
       exact absurd hd (by omega)
     ·have c5:¬(ae=6):=c5
      refine aa 3 ?_
      refine aj (fun c7=>?_) (fun c7=>?_)
      ·have c7:ae=6:=c7
       refine aa 3 ?_
       first | exact absurd hd (by omega) | refine aw.mk rfl ?_ | refine aw.mk h1 ?_ | refine aw.mk h2 ?_ | refine aw.mk ⟨by decide,gw z nx,dA _,rfl⟩ ?_
      ·have c7:¬(ae=6):=c7
       refine ag 3 ?_
       refine ag 3 ?_
       exact absurd hd (by omega)
  ·have c2:¬(ae=3):=c2
   refine aa 0 ?_
   refine aj (fun c8=>?_) (fun c8=>?_)
   ·have c8:ae=6:=c8
    exact absurd hd (by omega)
   ·have c8:¬(ae=6):=c8
    exact absurd hd (by omega)
theorem Y0(w m p:Nat)(s:Sy)(l:Lay)(me ev jo ae:Int) (node:Int)(has:Bool)(nx out:List Int)(d:Int)(ws:List Int)(σ:Hp)(hd:ae=8)  :
  ACalls Tryz.prog 120 [.ptr w 0,.ptr m 0] ((w,eg s l me ae node has nx out .aG .aG .aG .ak ev jo false)::bu m p ws σ) (jr s l me w m p ⟨ev,jo,false,ae,.none,node,has,nx,out⟩ d ws σ):=by
 have oe:iS ⟨3,0,de l,da l,0,false,false,false,0⟩ ws=(⟨3,0,de l,da l,1,false,true,false,wr (pG ws (da l) 18446744073709551615)⟩,k9 ws (da l) 18446744073709551615):=by simp[iS,Bw]
 refine au Tryz.func120 ?_
 refine aa 0 ?_
 refine aa 0 ?_
 refine aj (fun c1=>?_) (fun c1=>?_)
 ·have c1:ae=2:=c1
  exact absurd hd (by omega)
 ·have c1:¬(ae=2):=c1
  refine aa 0 ?_
  refine aj (fun c2=>?_) (fun c2=>?_)
  ·have c2:ae=3:=c2
   exact absurd hd (by omega)
  ·have c2:¬(ae=3):=c2
   refine aa 0 ?_
   refine aj (fun c3=>?_) (fun c3=>?_)
   ·have c3:ae=6:=c3
    exact absurd hd (by omega)
   ·have c3:¬(ae=6):=c3
    (refine .mk [] _ (yE w s l me _ node has _ out .aG .aG .aG .ak ev jo false _ _ _) ?_;rintro _ _ ⟨rr,rfl,rfl⟩)
    refine ag 1 ?_
    refine aa 1 ?_
    refine ar [2,3,3] (xk _ oe) ?_
    refine aa 3 ?_
    refine ag 3 ?_
    refine aa 3 ?_
    refine aj (fun c4=>?_) (fun c4=>?_)
    ·have c4:ae=2:=c4
     refine aa 0 ?_
     refine ag 3 ?_
     exact absurd hd (by omega)
    ·have c4:¬(ae=2):=c4
     refine aa 3 ?_
     refine aj (fun c5=>?_) (fun c5=>?_)
     ·have c5:ae=3:=c5
      refine ag 3 ?_
      exact absurd hd (by omega)
     ·have c5:¬(ae=3):=c5
      refine aa 3 ?_
      refine aj (fun c6=>?_) (fun c6=>?_)
      ·have c6:ae=6:=c6
       refine aa 0 ?_
       refine aa 3 ?_
       refine aj (fun c7=>?_) (fun c7=>?_)
       ·have c7:ae=6:=c7
        refine aa 3 ?_
        first | exact absurd hd (by omega) | refine aw.mk rfl ?_ | refine aw.mk h1 ?_ | refine aw.mk h2 ?_ | refine aw.mk ⟨by decide,gw z nx,dA _,rfl⟩ ?_
       ·have c7:¬(ae=6):=c7
        refine ag 3 ?_
        refine ag 3 ?_
        exact absurd hd (by omega)
      ·have c6:¬(ae=6):=c6
       refine aa 3 ?_
       refine aj (fun c8=>?_) (fun c8=>?_)
       ·have c8:ae=6:=c8
        refine aa 3 ?_
        first | exact absurd hd (by omega) | refine aw.mk rfl ?_ | refine aw.mk h1 ?_ | refine aw.mk h2 ?_ | refine aw.mk ⟨by decide,gw z nx,dA _,rfl⟩ ?_
       ·refine ag 3 ?_
        refine ag 3 ?_
        first | exact .drop 1 1 (.done (eN (y:=⟨ev,jo,false,0,.none,node,false,nx,out⟩) rfl (Sp hd) (yG rfl) rfl rfl rfl)) | exact .pull [3] (.drop 1 1 (.done (eN (y:=⟨ev,jo,false,0,.none,node,false,nx,out⟩) rfl (Sp hd) (yG rfl) rfl rfl rfl)))
theorem Xk(w r m p:Nat)(s:Sy)(l:Lay)(me ev jo ae:Int)(z:Int)(node:Int)(has:Bool)(nx out:List Int)(d:Int)(ws:List Int)(σ:Hp)(hd:ae=6)  :
  ACalls Tryz.prog 120 [.ptr w 0,.ptr m 0] ((w,eg s l me ae node has (z::nx) out .aG (.ptr r 0) .aG .ak ev jo false)::(r,wh ⟨1,z,de l,da l,1,true,false,false,0⟩)::bu m p ws σ) (jr s l me w m p ⟨ev,jo,false,ae,(.take ⟨de l,da l,z,true,false,true⟩),node,has,z::nx,out⟩ d ws σ):=by
 have oe:iS ⟨1,z,de l,da l,1,true,false,false,0⟩ ws=(⟨1,z,de l,da l,2,true,true,false,0⟩,k9 ws (da l) 1):=by simp[iS,Bw]
 refine au Tryz.func120 ?_
 refine aa 0 ?_
 refine aa 0 ?_
 refine ar [3,3,3] (xk _ oe) ?_
 refine aa 3 ?_
 refine ag 3 ?_
 refine aa 3 ?_
 refine aj (fun c1=>?_) (fun c1=>?_)
 ·have c1:ae=2:=c1
  refine aa 0 ?_
  refine ag 3 ?_
  exact absurd hd (by omega)
 ·have c1:¬(ae=2):=c1
  refine aa 3 ?_
  refine aj (fun c2=>?_) (fun c2=>?_)
  ·have c2:ae=3:=c2
   refine ag 3 ?_
   exact absurd hd (by omega)
  ·have c2:¬(ae=3):=c2
   refine aa 3 ?_
   refine aj (fun c3=>?_) (fun c3=>?_)
   ·refine aa 0 ?_
    refine ag 3 ?_
    first | exact .drop 1 1 (.done (eN (y:=⟨ev,jo,false,7,.none,node,has,z::nx,out⟩) rfl rfl (oz rfl) rfl (OE rfl) rfl)) | exact .pull [3] (.drop 1 1 (.done (eN (y:=⟨ev,jo,false,7,.none,node,has,z::nx,out⟩) rfl rfl (oz rfl) rfl (OE rfl) rfl)))
   ·have c3:¬(ae=6):=c3
    refine aa 3 ?_
    refine aj (fun c4=>?_) (fun c4=>?_)
    ·have c4:ae=6:=c4
     refine aa 3 ?_
     first | exact absurd hd (by omega) | refine aw.mk rfl ?_ | refine aw.mk h1 ?_ | refine aw.mk h2 ?_ | refine aw.mk ⟨by decide,gw z nx,dA _,rfl⟩ ?_
    ·have c4:¬(ae=6):=c4
     refine ag 3 ?_
     refine ag 3 ?_
     exact absurd hd (by omega)
theorem Xj(w m p:Nat)(s:Sy)(l:Lay)(me ev jo ae:Int)(z:Int)(node:Int)(has:Bool)(nx out:List Int)(d:Int)(ws:List Int)(σ:Hp)(hd:ae=6)(h0:0≤z):
  ACalls Tryz.prog 120 [.ptr w 0,.ptr m 0] ((w,eg s l me ae node has (z::nx) out .aG .aG .aG .ak ev jo false)::bu m p ws σ) (jr s l me w m p ⟨ev,jo,false,ae,.none,node,has,z::nx,out⟩ d ws σ):=by
 have oe:iS ⟨1,z,de l,da l,0,false,false,false,0⟩ ws=(⟨1,z,de l,da l,1,gL ws (wr (de l+z)) 0,!gL ws (wr (de l+z)) 0,false,0⟩,gj ws (wr (de l+z)) 0 1):=by simp[iS,Bw,h0]
 have ao:mr bF ⟨de l,da l,z,false,false,false⟩ ws=(if gL ws (wr (de l+z)) 0=true then (⟨de l,da l,z,true,false,true⟩,gj ws (wr (de l+z)) 0 1,false) else (⟨de l,da l,z,false,true,true⟩,gj ws (wr (de l+z)) 0 1,true)):=by simp[mr,h0]
 cases fw:gL ws (wr (de l+z)) 0 with
 |true=>
  rw[fw]at oe ao
  refine au Tryz.func120 ?_
  refine aa 0 ?_
  refine aa 0 ?_
  refine aj (fun c1=>?_) (fun c1=>?_)
  ·have c1:ae=2:=c1
   exact absurd hd (by omega)
  ·have c1:¬(ae=2):=c1
   refine aa 0 ?_
   refine aj (fun c2=>?_) (fun c2=>?_)
   ·have c2:ae=3:=c2
    exact absurd hd (by omega)
   ·have c2:¬(ae=3):=c2
    refine aa 0 ?_
    refine aj (fun c3=>?_) (fun c3=>?_)
    ·have c3:ae=6:=c3
     refine .quiet (by kernel_rfl) ?_
     refine aa 0 ?_
     first | exact absurd hd (by omega) | refine aw.mk rfl ?_ | refine aw.mk h1 ?_ | refine aw.mk h2 ?_ | refine aw.mk ⟨by decide,gw z nx,dA _,rfl⟩ ?_
     refine aX.mk z (by decide) rfl ?_
     (refine .mk [] _ (yE w s l me _ node has _ out .aG .aG .aG .ak ev jo false _ _ _) ?_;rintro _ _ ⟨rr,rfl,rfl⟩)
     refine ag 1 ?_
     refine aa 1 ?_
     refine ar [2,3,3] (xk _ oe) ?_
     exact .pull [3] (.done (sq (n':=.take ⟨de l,da l,z,true,false,true⟩) (ws':=gj ws (wr (de l+z)) 0 1) rr rfl (Cs hd) (oz (ao.trans (az rfl))) rfl))
    ·have c3:¬(ae=6):=c3
     exact absurd hd (by omega)
 |false=>
  rw[fw]at oe ao
  refine au Tryz.func120 ?_
  refine aa 0 ?_
  refine aa 0 ?_
  refine aj (fun c1=>?_) (fun c1=>?_)
  ·have c1:ae=2:=c1
   exact absurd hd (by omega)
  ·have c1:¬(ae=2):=c1
   refine aa 0 ?_
   refine aj (fun c2=>?_) (fun c2=>?_)
   ·have c2:ae=3:=c2
    exact absurd hd (by omega)
   ·have c2:¬(ae=3):=c2
    refine aa 0 ?_
    refine aj (fun c3=>?_) (fun c3=>?_)
    ·have c3:ae=6:=c3
     refine .quiet (by kernel_rfl) ?_
     refine aa 0 ?_
     first | exact absurd hd (by omega) | refine aw.mk rfl ?_ | refine aw.mk h1 ?_ | refine aw.mk h2 ?_ | refine aw.mk ⟨by decide,gw z nx,dA _,rfl⟩ ?_
     refine aX.mk z (by decide) rfl ?_
     (refine .mk [] _ (yE w s l me _ node has _ out .aG .aG .aG .ak ev jo false _ _ _) ?_;rintro _ _ ⟨rr,rfl,rfl⟩)
     refine ag 1 ?_
     refine aa 1 ?_
     refine ar [2,3,3] (xk _ oe) ?_
     refine aa 3 ?_
     refine ag 3 ?_
     refine aa 3 ?_
     refine aj (fun c4=>?_) (fun c4=>?_)
     ·have c4:ae=2:=c4
      refine aa 0 ?_
      refine ag 3 ?_
      exact absurd hd (by omega)
     ·have c4:¬(ae=2):=c4
      refine aa 3 ?_
      refine aj (fun c5=>?_) (fun c5=>?_)
      ·have c5:ae=3:=c5
       refine ag 3 ?_
       exact absurd hd (by omega)
      ·have c5:¬(ae=3):=c5
       refine aa 3 ?_
       refine aj (fun c6=>?_) (fun c6=>?_)
       ·have c6:ae=6:=c6
        refine aa 0 ?_
        refine aa 3 ?_
        refine aj (fun c7=>?_) (fun c7=>?_)
        ·have c7:ae=6:=c7
         refine aa 3 ?_
         first | exact absurd hd (by omega) | refine aw.mk rfl ?_ | refine aw.mk h1 ?_ | refine aw.mk h2 ?_ | refine aw.mk ⟨by decide,gw z nx,dA _,rfl⟩ ?_
         refine ag 3 ?_
         refine ar [3] (Bs w s l me _ node has nx _ out .aG .aG .aG .ak ev jo false _ (drop_one z nx)) ?_
         first | exact .drop 1 1 (.done (eN (y:=⟨ev,jo,false,jq (z::nx),.none,node,has,nx,out⟩) rfl (Cs hd) (oz (ao.trans (aA LM))) rfl (OF rfl) rfl)) | exact .pull [3] (.drop 1 1 (.done (eN (y:=⟨ev,jo,false,jq (z::nx),.none,node,has,nx,out⟩) rfl (Cs hd) (oz (ao.trans (aA LM))) rfl (OF rfl) rfl)))
        ·have c7:¬(ae=6):=c7
         refine ag 3 ?_
         refine ag 3 ?_
         exact absurd hd (by omega)
       ·have c6:¬(ae=6):=c6
        refine aa 3 ?_
        refine aj (fun c8=>?_) (fun c8=>?_)
        ·have c8:ae=6:=c8
         refine aa 3 ?_
         first | exact absurd hd (by omega) | refine aw.mk rfl ?_ | refine aw.mk h1 ?_ | refine aw.mk h2 ?_ | refine aw.mk ⟨by decide,gw z nx,dA _,rfl⟩ ?_
        ·have c8:¬(ae=6):=c8
         refine ag 3 ?_
         refine ag 3 ?_
         exact absurd hd (by omega)
    ·have c3:¬(ae=6):=c3
     exact absurd hd (by omega)
theorem aaJ(w r m p:Nat)(s:Sy)(l:Lay)(me ev jo ae:Int)(j:Jn)(z:Int)(node:Int)(has:Bool)(nx out:List Int)(d:Int)(ws:List Int)(σ:Hp) (hj:Jn.ok (j))(hw:bX ws):
  ACalls Tryz.prog 118 [.ptr w 0,.ptr m 0] ((w,eg s l me ae node has (z::nx) out .aG .aG (.ptr r 0) .ak ev jo false)::(r,zO j)::bu m p ws σ) (jr s l me w m p ⟨ev,jo,false,ae,(.join j),node,has,z::nx,out⟩ d ws σ):=by
 obtain⟨j',ws',b,ao⟩:∃j' ws' b,fo bF (j) ws=(j',ws',b):=⟨_,_,_,rfl⟩
 cases b with
 |true=>
  obtain⟨u1,u2,u3,u4,u5,u6,u7,u8,u9,KD⟩:=j'
  cases u5 with
  |true=>
   refine au Tryz.func118 ?_
   refine aa 0 ?_
   refine aa 0 ?_
   refine ar [3,3,3] (AE _ m p (j) ws _ hj hw ao) ?_
   refine aa 3 ?_
   refine ag 3 ?_
   refine aa 0 ?_
   refine aa 3 ?_
   refine ag 3 ?_
   refine ag 3 ?_
   first | exact .drop 1 1 (.done (eN (y:=⟨ev,wr (jo+1),false,6,.none,node,has,z::nx,out⟩) rfl rfl (kY ao) rfl (Ee rfl) rfl)) | exact .pull [3] (.drop 1 1 (.done (eN (y:=⟨ev,wr (jo+1),false,6,.none,node,has,z::nx,out⟩) rfl rfl (kY ao) rfl (Ee rfl) rfl)))
  |false=>
   refine au Tryz.func118 ?_
   refine aa 0 ?_
   refine aa 0 ?_
   refine ar [3,3,3] (AE _ m p (j) ws _ hj hw ao) ?_
   refine aa 3 ?_
   refine ag 3 ?_
   refine aa 0 ?_
   refine aa 3 ?_
   first | exact absurd hd (by omega) | refine aw.mk rfl ?_ | refine aw.mk h1 ?_ | refine aw.mk h2 ?_ | refine aw.mk ⟨by decide,gw z nx,dA _,rfl⟩ ?_
   refine ag 3 ?_
   refine ar [3] (Bs w s l me _ node has nx _ out .aG .aG .aG .ak ev jo false _ (drop_one z nx)) ?_
   first | exact .drop 1 1 (.done (eN (y:=⟨ev,jo,false,jq (z::nx),.none,node,has,nx,out⟩) rfl rfl (kY ao) rfl (Ef rfl) rfl)) | exact .pull [3] (.drop 1 1 (.done (eN (y:=⟨ev,jo,false,jq (z::nx),.none,node,has,nx,out⟩) rfl rfl (kY ao) rfl (Ef rfl) rfl)))
 |false=>
  refine au Tryz.func118 ?_
  refine aa 0 ?_
  refine aa 0 ?_
  refine ar [3,3,3] (AE _ m p (j) ws _ hj hw ao) ?_
  exact .pull [3] (.done (sq (n':=.join j') (ws':=ws') r rfl rfl (kY ao) rfl))
theorem aaI(w m p:Nat)(s:Sy)(l:Lay)(me ev jo ae:Int)(z:Int)(node:Int)(has:Bool)(nx out:List Int)(d:Int)(ws:List Int)(σ:Hp)(hd:ae=5)(hj:Jn.ok (⟨df l z,l.ai,l.words,out,false,false,0,0,false,0⟩))(hw:bX ws):
  ACalls Tryz.prog 118 [.ptr w 0,.ptr m 0] ((w,eg s l me ae node has (z::nx) out .aG .aG .aG .ak ev jo false)::bu m p ws σ) (jr s l me w m p ⟨ev,jo,false,ae,.none,node,has,z::nx,out⟩ d ws σ):=by
 obtain⟨j',ws',b,ao⟩:∃j' ws' b,fo bF (⟨df l z,l.ai,l.words,out,false,false,0,0,false,0⟩) ws=(j',ws',b):=⟨_,_,_,rfl⟩
 cases b with
 |true=>
  obtain⟨u1,u2,u3,u4,u5,u6,u7,u8,u9,KD⟩:=j'
  cases u5 with
  |true=>
   refine au Tryz.func118 ?_
   refine aa 0 ?_
   refine .sched [] (upto [] 32 0) (by kernel_rfl) ?_
   refine aa 0 ?_
   first | exact absurd hd (by omega) | refine aw.mk rfl ?_ | refine aw.mk h1 ?_ | refine aw.mk h2 ?_ | refine aw.mk ⟨by decide,gw z nx,dA _,rfl⟩ ?_
   refine aX.mk z (by decide) rfl ?_
   refine aa 0 ?_
   refine aa 0 ?_
   refine aa 0 ?_
   refine aa 0 ?_
   intro aB
   refine ag 1 ?_
   refine aa 1 ?_
   refine ar [2,3,3] (AE _ m p (⟨df l z,l.ai,l.words,out,false,false,0,0,false,0⟩) ws _ hj hw ao) ?_
   refine aa 3 ?_
   refine ag 3 ?_
   refine aa 0 ?_
   refine aa 3 ?_
   refine ag 3 ?_
   refine ag 3 ?_
   first | exact .drop 1 1 (.done (eN (y:=⟨ev,wr (jo+1),false,6,.none,node,has,z::nx,out⟩) rfl (xP hd) (kY ao) rfl (Ee rfl) rfl)) | exact .pull [3] (.drop 1 1 (.done (eN (y:=⟨ev,wr (jo+1),false,6,.none,node,has,z::nx,out⟩) rfl (xP hd) (kY ao) rfl (Ee rfl) rfl)))
  |false=>
   refine au Tryz.func118 ?_
   refine aa 0 ?_
   refine .sched [] (upto [] 32 0) (by kernel_rfl) ?_
   refine aa 0 ?_
   first | exact absurd hd (by omega) | refine aw.mk rfl ?_ | refine aw.mk h1 ?_ | refine aw.mk h2 ?_ | refine aw.mk ⟨by decide,gw z nx,dA _,rfl⟩ ?_
   refine aX.mk z (by decide) rfl ?_
   refine aa 0 ?_
   refine aa 0 ?_
   refine aa 0 ?_
   refine aa 0 ?_
   intro aB
   refine ag 1 ?_
   refine aa 1 ?_
   refine ar [2,3,3] (AE _ m p (⟨df l z,l.ai,l.words,out,false,false,0,0,false,0⟩) ws _ hj hw ao) ?_
   refine aa 3 ?_
   refine ag 3 ?_
   refine aa 0 ?_
   refine aa 3 ?_
   first | exact absurd hd (by omega) | refine aw.mk rfl ?_ | refine aw.mk h1 ?_ | refine aw.mk h2 ?_ | refine aw.mk ⟨by decide,gw z nx,dA _,rfl⟩ ?_
   refine ag 3 ?_
   refine ar [3] (Bs w s l me _ node has nx _ out .aG .aG .aG .ak ev jo false _ (drop_one z nx)) ?_
   first | exact .drop 1 1 (.done (eN (y:=⟨ev,jo,false,jq (z::nx),.none,node,has,nx,out⟩) rfl (xP hd) (kY ao) rfl (Ef rfl) rfl)) | exact .pull [3] (.drop 1 1 (.done (eN (y:=⟨ev,jo,false,jq (z::nx),.none,node,has,nx,out⟩) rfl (xP hd) (kY ao) rfl (Ef rfl) rfl)))
 |false=>
  refine au Tryz.func118 ?_
  refine aa 0 ?_
  refine .sched [] (upto [] 32 0) (by kernel_rfl) ?_
  refine aa 0 ?_
  first | exact absurd hd (by omega) | refine aw.mk rfl ?_ | refine aw.mk h1 ?_ | refine aw.mk h2 ?_ | refine aw.mk ⟨by decide,gw z nx,dA _,rfl⟩ ?_
  refine aX.mk z (by decide) rfl ?_
  refine aa 0 ?_
  refine aa 0 ?_
  refine aa 0 ?_
  refine aa 0 ?_
  intro aB
  refine ag 1 ?_
  refine aa 1 ?_
  refine ar [2,3,3] (AE _ m p (⟨df l z,l.ai,l.words,out,false,false,0,0,false,0⟩) ws _ hj hw ao) ?_
  exact .pull [3] (.done (sq (n':=.join j') (ws':=ws') aB rfl (xP hd) (kY ao) rfl))
end Go.Proofs.YtnikdflhefijbaaGreat
