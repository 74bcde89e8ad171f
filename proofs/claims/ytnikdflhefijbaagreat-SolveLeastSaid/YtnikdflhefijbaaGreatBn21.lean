import Derived.Test.YtnikdflhefijbaaGreatBn20
import Derived.Test.YtnikdflhefijbaaGreatBn14
import Derived.Test.YtnikdflhefijbaaGreatBn19
import Derived.Test.YtnikdflhefijbaaGreatBn11
import Derived.Test.YtnikdflhefijbaaGreatBn15
import Derived.Test.YtnikdflhefijbaaGreatBn8
import Derived.Shelf.Slices.Delete
import Derived.Test.YtnikdflhefijbaaGreatBn6
import Derived.Test.YtnikdflhefijbaaGreatBn1
import Derived.Below
import Derived.ChangeOld
import Derived.OpenShut
import Derived.ProofKit
import Derived.Test.YtnikdflhefijbaaGreatRows
import Derived.WalkKit
namespace Go.Proofs.YtnikdflhefijbaaGreat
open Go.RowKit
set_option maxRecDepth 100000
set_option maxHeartbeats 4000000
def Dq(s:Sy)(v i:Nat):Int:=((ke s).1.getD v []).getD i 0
theorem aao{a:List Int}{n:Nat}(h:a.length=n):(List.range n).map (fun i=>a.getD i 0)=a:=by
 subst h
 refine List.ext_getElem (by simp) fun i h1 h2=>?_
 rw[Jg,Od,bg,bF h2];rfl
def s7(s:Sy)(l:Lay)(ws:List Int):List (List Int):=(List.range (nN s)).map fun v=>(List.range (nW l)).map fun i=>ws.getD (v*nW l+i) 0
theorem FO{s:Sy}{l:Lay}{ws:List Int}{v:Nat}(h:v<nN s):(s7 s l ws).getD v []=(List.range (nW l)).map fun i=>ws.getD (v*nW l+i) 0:=by
 unfold s7
 rw[bg,fo,tX h];rfl
theorem we{f:Nat→Int}{n i:Nat}(h:i<n):((List.range n).map f).getD i 0=f i:=by
 rw[bg,fo,tX h];rfl
def usS(s:Sy):List Nat:=(List.range (nN s)).filter fun u=>s.aW.any fun e=>decide (e.2.1=(u:Int))
def rkS(s:Sy)(l:Lay)(c:Nat→Int):Nat:=rT s.what s.w ((List.range (nW l)).map c)
section
variable {s:Sy} {l:Lay} (hs:LS s l)
include hs
theorem LS.FV{f:Nat→Int}(h:∀i,i<nW l→fO s.what s.w i (f i)):eu s.what s.w ((List.range (nW l)).map f):=
 (hs.re).2 ⟨by simp,fun i hi=>by rw[we hi];exact h i hi⟩
theorem Pw{ws:List Int}(h:MV s l ws):kA s (s7 s l ws):=by
 refine⟨by unfold s7;rw[cm,pN];exact hs.nn.1.symm,fun x hx=>?_⟩
 obtain⟨v,hv,rfl⟩:=dP.1 hx
 exact hs.FV fun i hi=>h.cells v i (gm.1 hv) hi
theorem K6{v:Nat}(hv:v<nN s):eu s.what s.w ((ke s).1.getD v []):=(zO hs.fit hs.iS).1.get (by have:=hs.nn;omega)
theorem Zm{v:Nat}(hv:v<nN s):SX.ma (kL s l hs) (Dq s) v=(ke s).1.getD v []:=aao ((hs.re).1 (K6 hs hv)).1
theorem SZ{v u:Nat}(hu:u∈Iz s v):v<nN s∧u<nN s∧∃e∈s.aW,e.1=(v:Int)∧e.2.1=(u:Int):=by
 obtain⟨z,hz,rfl⟩:=dP.1 hu
 obtain⟨h1,h2,e,he,e1,e2⟩:=lD.1 hz
 have:=hs.nn
 exact⟨by omega,by omega,e,he,e1,by omega⟩
theorem acK{e:bE}(he:e∈s.aW):e.2.1.toNat∈Iz s e.1.toNat:=by
 have h:=hs.iS.uX e he
 refine dP.2 ⟨e.2.1,lD.2 ⟨h.2,by omega,e,he,by omega,rfl⟩,rfl⟩
theorem Zn:SX.VN (kL s l hs) (Dq s):=by
 obtain⟨hv,DP,_,_⟩:=zO hs.fit hs.iS
 refine⟨fun v i dm hi=>((hs.re).1 (K6 hs dm)).2 i hi,fun v dm u hu i hi=>?_⟩
 obtain⟨h1,h2,e,he,e1,e2⟩:=SZ hs hu
 have Di:=(JS hs.fit hs.iS hv u s.aW.length (a8 _)).2 e (by rw[gn];exact he) e2
 rw[← B3 s _ (show ((u:Nat):Int)<s.n by have:=hs.nn;omega),← DP,show e.1.toNat=v by omega]at Di
 have:=(hs.xn Di.1 Di.2.1).1 Di i hi
 rw[Zm hs dm]
 exact this
theorem ac3:SX.VM (kL s l hs) (usS s) (rkS s l):=by
 refine⟨List.Pairwise.filter _ List.nodup_range,fun v hv u hu=>?_,fun c i x hi hc hx aS=>?_⟩
 ·obtain⟨h1,h2,e,he,e1,e2⟩:=SZ hs hu
  exact nQ.2 ⟨gm.2 h2,mV.2 ⟨e,he,bu e2⟩⟩
 ·have hi:i<nW l:=hi
  have hw:=hs.uH
  have ju:∀j,j<nW l→fO s.what s.w j (if j=i then cT s.what (c i) x else c j):=fun j hj=>by
   by_cases e:j=i
   ·subst e;rw[ah rfl];exact BT hw (hc j hj) hx
   ·rw[ag e];exact hc j hj
  have v1:=hs.FV (f:=c) hc
  have v2:=hs.FV (f:=fun j=>if j=i then cT s.what (c i) x else c j) ju
  have hle:dz s.what s.w ((List.range (nW l)).map c) ((List.range (nW l)).map fun j=>if j=i then cT s.what (c i) x else c j):=(hs.xn v1 v2).2 fun j hj=>by
   rw[we hj,we hj]
   by_cases e:j=i
   ·subst e;rw[ah rfl];exact SX.Lf (A:=kL s l hs) (hc j hj) hx
   ·rw[ag e];exact BS hw (hc j hj)
  obtain⟨h1,h2⟩:=La hle
  rcases BD h1 with h3 | h3
  ·exact h3
  ·have h4:=congrArg (fun a=>a.getD i 0) (h2 h3)
   rw[we hi,we hi,ah rfl]at h4
   exact absurd h4.symm aS
end
theorem OX{s:Sy}{a:List (List Int)}{y:List Int}(v:Nat)(h0:dz s.what s.w (gv s v) y)(he:∀(i:Nat) (hi:i<s.aW.length),s.aW[i].2.1=v→dz s.what s.w (iF s (a.getD s.aW[i].1.toNat []) s.aW[i].1.toNat) y):∀k,k≤s.aW.length→dz s.what s.w (jA s a k v) y
 | 0,_=>h0
 |k+1,hk=>by
  have ih:=OX v h0 he k (by omega)
  rw[xX s a (by omega)]
  unfold uK
  split
  ·next hc=>exact dz.join ih (he k (by omega) hc)
  ·exact ih
def pB(s:Sy)(l:Lay)(ws ws':List Int):Prop:=∀v i,v<nN s→i<nW l→cT s.what (ws.getD (v*nW l+i) 0) (ws'.getD (v*nW l+i) 0)=ws'.getD (v*nW l+i) 0
structure WI(s:Sy)(l:Lay)(hs:LS s l)(a:WA)(us:Nat):Prop where
 free:uQ s l a
 ref:∃D T,RJ s l hs a.W a.ws D T (us+1)∧SX.VI (kL s l hs) (Dq s) (cf s l a.W a.ws D)∧(∀v,v<nN s→SX.xN (kL s l hs) (cf s l a.W a.ws D) v)∧SX.Rest (cf s l a.W a.ws D)∧SX.EI (cf s l a.W a.ws D) (nN s)∧SX.JI (cf s l a.W a.ws D) (usS s) (rkS s l)
 low:∀v i,v<nN s→i<nW l→cT s.what (wd (gv s v) i) (a.ws.getD (v*nW l+i) 0)=a.ws.getD (v*nW l+i) 0
section
variable {s:Sy} {l:Lay} {hs:LS s l}
theorem xU{W:List WS}{ws:List Int}{D:List (List Nat)}{v i:Nat}(hv:v<nN s)(hi:i<nW l):(cf s l W ws D).cell v i=ws.getD (v*nW l+i) 0:=ah ⟨hv,hi⟩
theorem WI.word{a:WA}{us:Nat}(h:WI s l hs a us){v i:Nat}(hv:v<nN s)(hi:i<nW l):fO s.what s.w i (a.ws.getD (v*nW l+i) 0):=h.free.fl.2.cells v i hv hi
theorem pB.refl{a:WA}{us:Nat}(h:WI s l hs a us):pB s l a.ws a.ws:=fun _ _ hv hi=>BS hs.uH (h.word hv hi)
theorem pB.trans{a b c:WA}{u1 u2 u3:Nat}(h1:WI s l hs a u1)(h2:WI s l hs b u2)(h3:WI s l hs c u3)(r1:pB s l a.ws b.ws)(r2:pB s l b.ws c.ws):pB s l a.ws c.ws:=fun v i hv hi=>
 SX.le_trans (A:=kL s l hs) (h1.word hv hi) (h2.word hv hi) (h3.word hv hi) (r1 v i hv hi) (r2 v i hv hi)
theorem WI.step{a:WA}{us:Nat}(h:WI s l hs a us)(hu:us<100000000)(i:Nat)(d:Int):WI s l hs (fF s l a i d).1 (us+1)∧pB s l a.ws (fF s l a i d).1.ws:=by
 obtain⟨hF,⟨D,T,hR,hV,hC,Br,hE,hJ⟩,fg⟩:=h
 obtain⟨D',T',N4,sr⟩:=hR.step (by omega) hF i d
 have hb:=Zn hs
 obtain⟨hV',HB⟩:=hV.step hb hR.ti sr
 have hF':=hF.step hs i d
 have hr:pB s l a.ws (fF s l a i d).1.ws:=fun v j hv hj=>by
  have:=HB v j hv hj
  rw[xU hv hj,xU hv hj]at this
  exact this
 refine⟨⟨hF',⟨D',T',N4,hV',fun v hv=>?_,Br.step hR.ti sr,hE.step sr,hJ.step (ac3 hs) hR.ti hV sr⟩,fun v j hv hj=>?_⟩,hr⟩
 ·exact SX.xN.step hR.ti hV sr hv (hC v hv)
 ·exact SX.le_trans (A:=kL s l hs) (hs.FA hj) (hF.fl.2.cells v j hv hj) (hF'.fl.2.cells v j hv hj) (fg v j hv hj) (hr v j hv hj)
theorem Yf(hs:LS s l){v i:Nat}(hv:v<nN s)(hi:i<nW l):cT s.what (wd (gv s v) i) (Dq s v i)=Dq s v i:=by
 obtain⟨bS,DP,_,_⟩:=zO hs.fit hs.iS
 have h1:=(JS hs.fit hs.iS bS v s.aW.length (a8 _)).1
 rw[← B3 s _ (show ((v:Nat):Int)<s.n by have:=hs.nn;omega),← DP]at h1
 have:=(hs.xn h1.1 h1.2.1).1 h1 i hi
 rw[rX (gv s v)]at this
 exact this
theorem wi0(bO:j7 s l):WI s l hs ⟨W0 l,eJ s l⟩ 0:=by
 obtain⟨mn,nP,EF⟩:=Q4 hs
 have mP:∀p∈(cf s l (W0 l) (eJ s l) (D0 s l)).ph,p=.idle 0 0:=fun p hp=>by
  obtain⟨x,hx,rfl⟩:=dP.1 hp
  rw[show x=oJ from BK hx];rfl
 have lA:(cf s l (W0 l) (eJ s l) (D0 s l)).ev=0:=SH (f:=fun x:WS=>x.ev.toNat) (x:=oJ) rfl _
 have mS:(cf s l (W0 l) (eJ s l) (D0 s l)).jo=0:=SH (f:=fun x:WS=>x.jo.toNat) (x:=oJ) rfl _
 refine⟨Ue bO hs,⟨D0 s l,fun _=>1,rj0 bO,⟨fun v i hv hi=>?_,fun v i hv hi=>?_,fun p hp=>?_⟩,fun v hv=>.inl ?_,fun h=>?_,?_,?_⟩,fun v i hv hi=>?_⟩
 ·rw[xU hv hi,mn v i hv hi];exact hs.FA hi
 ·rw[xU hv hi,mn v i hv hi];exact Yf hs hv hi
 ·rw[mP p hp];trivial
 ·exact bu ⟨hv,by rw[nP v hv];decide⟩
 ·exact absurd (mP _ h) (by intro h;cases h)
 ·show SX.AS.ev _+SX.aN List.length (D0 s l)+SX.aN SX.hY _≤nN s+SX.AS.jo _
  rw[lA,mS,UF bO,SX.vY fun p hp=>by rw[mP p hp];rfl];omega
 ·show SX.AS.jo _+SX.aN SX.fM _≤_
  rw[mS,SX.vY fun p hp=>by rw[mP p hp];rfl];omega
 ·rw[mn v i hv hi];exact BS hs.uH (hs.FA hi)
theorem WI.agr{a:WA}{us:Nat}(h:WI s l hs a us):mg s (s7 s l a.ws) (ke s).1:=by
 obtain⟨hF,⟨D,T,hR,hV,_⟩,_⟩:=h
 refine⟨Pw hs hF.fl.2,(zO hs.fit hs.iS).1,fun v hv=>?_⟩
 have hv:v<nN s:=by have:=hs.nn;omega
 rw[FO hv]
 refine (hs.xn (hs.FV fun i hi=>hF.fl.2.cells v i hv hi) (K6 hs hv)).2 fun i hi=>?_
 rw[we hi]
 have:=hV.low v i hv hi
 rw[xU hv hi]at this
 exact this
theorem aaq{a b:List (List Int)}(h1:mg s a b)(h2:mg s b a):a=b:=by
 have la:=h1.1.len
 have lb:=h1.2.1.len
 refine BL (by omega) fun i hi pH=>?_
 have:=(h1.2.2 i (by omega)).ags (h2.2.2 i (by omega))
 rw[bg,bg,bF hi,bF pH]at this
 exact this
theorem WI.solved{a:WA}{us:Nat}(h:WI s l hs a us)(h0:(a.ws.getD (nN s*nW l+nN s) 0).toNat=0):s7 s l a.ws=(ke s).1:=by
 have yD:=h.agr
 obtain⟨hF,⟨D,T,hR,hV,hC,Br,hE,hJ⟩,fg⟩:=h
 refine aaq yD ?_
 obtain⟨h1,h2,h3⟩:=hR.ti.quiet h0
 have I1:=Pw hs hF.fl.2
 refine (zO hs.fit hs.iS).2.2.2 _ ⟨B2 hs.fit hs.iS I1,I1,fun u hu=>?_⟩
 have Bf:u<nN s:=by have:=hs.nn;omega
 rw[B3 s _ hu]
 have De:=I1.get hu
 refine OX u ?_ (fun i hi he=>?_) _ (a8 _)
 ·rw[FO Bf]at De ⊢
  refine (hs.xn (FU hs.fit hs.iS u) De).2 fun i hi=>?_
  rw[rX (gv s u),we hi]
  exact fg u i Bf hi
 ·have hem:=cj hi
  have Di:=hs.iS.uX _ hem
  have hn:=hs.nn
  have vE:s.aW[i].1.toNat<nN s:=by omega
  have cQ:=acK hs hem
  rw[he,bM]at cQ
  have El:=I1.get (i:=s.aW[i].1.toNat) (by omega)
  have hov:=hs.Vg vE El
  refine (hs.xn hov De).2 fun j hj=>?_
  have ag8:=hC _ vE
  have hle:SX.Bb (kL s l hs) (cf s l a.W a.ws D).cell s.aW[i].1.toNat u:=by
   rcases ag8 with h | ⟨p,hp,h⟩ | ⟨p,hp,h⟩ | h
   ·rw[h3]at h;cases h
   ·rcases h2 p hp with ⟨d,a,rfl⟩ | rfl <;> exact h.elim
   ·rcases h2 p hp with ⟨d,a,rfl⟩ | rfl <;> exact h.elim
   ·rcases h u cQ with h | ⟨p,hp,h⟩
    ·exact h
    ·rcases h2 p hp with ⟨d,a,rfl⟩ | rfl <;> exact h.elim
  have:=hle j hj
  have e1:SX.ma (kL s l hs) (cf s l a.W a.ws D).cell s.aW[i].1.toNat=(s7 s l a.ws).getD s.aW[i].1.toNat []:=by
   rw[FO vE]
   exact vR fun k hk=>xU vE (gm.1 hk)
  rw[e1,xU Bf hj]at this
  rw[FO Bf,we hj]
  exact this
theorem WI.rest{a:WA}{us:Nat}(h:WI s l hs a us){x:WS}(hx:x∈a.W)(he:x.en=true):(a.ws.getD (nN s*nW l+nN s) 0).toNat=0:=by
 obtain⟨hF,⟨D,T,hR,hV,hC,Br,hE,hJ⟩,fg⟩:=h
 refine Br (dP.2 ⟨x,hx,?_⟩)
 unfold dJ
 rw[ah he]
end
section
variable {s:Sy} {l:Lay} {hs:LS s l}
structure XI(s:Sy)(l:Lay)(hs:LS s l)(x:kM WA):Prop where
 wi:WI s l hs x.a x.us
 dn:x.dn=x.a.W.map (·.en)
 st:x.st.length=l.k.toNat
theorem Yc{s:Sy}{l:Lay}{who:Int}{x:WS}{d:Int}{ws:List Int}:(dC bG s l who x d ws).2.2=(dC bG s l who x d ws).1.en:=by
 cases he:x.en with
 |true=>unfold dC;rw[ah he];exact he.symm
 |false=>exact ZK (s:=s) (l:=l) (who:=who) (d:=d) (ws:=ws) he
theorem XI.pick{x:kM WA}(h:XI s l hs x)(hu:x.us<100000000)(p:Int×Int×Unit):XI s l hs (mE (fF s l) (fun a _=>a) l.k.toNat x p)∧pB s l x.a.ws (mE (fF s l) (fun a _=>a) l.k.toNat x p).a.ws:=by
 have mR:=hs.k1
 have r9:=rN (p:=p.1) (show 0<l.k.toNat by omega)
 have hlen:=h.wi.free.len
 unfold mE
 by_cases hd:x.dn.getD (cb p.1 l.k.toNat) true=true
 ·rw[ah hd]
  obtain⟨hw,h2,h3⟩:=h
  obtain⟨hF,⟨D,T,hR,hV,hC,Br,hE,hJ⟩,fg⟩:=hw
  exact⟨⟨⟨hF,⟨D,T,⟨hR.len,hR.fl,hR.kK,hR.dl,hR.di,nZ hR,fun y hy=>by have:=hR.ev y hy;show 0≤y.ev∧y.ev≤((x.us+1+1:Nat):Int)∧0≤y.jo∧y.jo≤((x.us+1+1:Nat):Int);omega,hR.jn,hR.pn,hR.ti⟩,hV,hC,Br,hE,hJ⟩,fg⟩,h2,h3⟩,fun v i hv hi=>BS hs.uH (hF.fl.2.cells v i hv hi)⟩
 ·rw[ag hd]
  obtain⟨h1,h2⟩:=h.wi.step hu (cb p.1 l.k.toNat) p.2.1
  refine⟨⟨h1,?_,by show (x.st.set _ _).length=_;rw[cN];exact h.st⟩,h2⟩
  show x.dn.set _ _=(fF s l x.a _ _).1.W.map (·.en)
  have hW:x.a.W[cb p.1 l.k.toNat]?=some x.a.W[cb p.1 l.k.toNat]:=bF (by omega)
  rw[Gg hW,h.dn,Yc]
  show _=(List.set _ _ _).map _
  rw[oS]
theorem XI.go:∀(aC:List (Int×Int×Unit)) {x:kM WA},XI s l hs x→x.us+aC.length<100000000→XI s l hs (zm s l aC x)∧pB s l x.a.ws (zm s l aC x).a.ws
 | [],x,h,_=>⟨h,pB.refl h.wi⟩
 |p::aC,x,h,hu=>by
  show XI s l hs (if x.dn.all id=true then x else zm s l aC (mE (fF s l) (fun a _=>a) l.k.toNat x p))∧pB s l x.a.ws (if x.dn.all id=true then x else zm s l aC (mE (fF s l) (fun a _=>a) l.k.toNat x p)).a.ws
  have hl:x.us+(aC.length+1)<100000000:=hu
  by_cases hd:x.dn.all id=true
  ·rw[ah hd];exact⟨h,pB.refl h.wi⟩
  ·rw[ag hd]
   obtain⟨h1,h2⟩:=h.pick (by omega) p
   have gZ:(mE (fF s l) (fun a _=>a) l.k.toNat x p).us=x.us+1:=by unfold mE;split <;> rfl
   obtain⟨h3,h4⟩:=XI.go aC h1 (by rw[gZ];omega)
   exact⟨h3,pB.trans h.wi h1.wi h3.wi h2 h4⟩
theorem xi0(bO:j7 s l):XI s l hs (A3 s l):=⟨wi0 bO,by show List.replicate _ _=(List.replicate _ _).map _;rw[List.map_replicate];rfl,fZ⟩
theorem XI.all{x:kM WA}(h:XI s l hs x)(hd:x.dn.all id=true):s7 s l x.a.ws=(ke s).1:=by
 have mR:=hs.k1
 have hlen:=h.wi.free.len
 have h0:0<x.a.W.length:=by omega
 refine h.wi.solved (h.wi.rest (cj h0) ?_)
 rw[h.dn,List.all_map]at hd
 exact fy.1 hd _ (cj h0)
end
set_option maxHeartbeats 4000000
section
variable {s:Sy} {l:Lay} {I:List (Nat×Nat)}
end
theorem adx{s:Sy}{l:Lay}{hs:LS s l}(bO:j7 s l)(aC:List (Int×Int×Unit))(h:aC.length≤100000):XI s l hs (dL s l aC):=
 ((xi0 bO).go aC (by show 0+aC.length<_;omega)).1
set_option maxHeartbeats 4000000
theorem aa4{s:Sy}{l:Lay}(n:Nat)(x:kM WA)(p:Int×Int×Unit):(mE (fF s l) (fun a _=>a) n x p).dn.length=x.dn.length∧(mE (fF s l) (fun a _=>a) n x p).a.W.length=x.a.W.length:=by
 unfold mE
 split
 ·exact⟨rfl,rfl⟩
 ·refine⟨cN ..,?_⟩
  show (fF s l x.a _ _).1.W.length=_
  unfold fF
  split
  ·exact cN ..
  ·rfl
theorem Uc{s:Sy}{l:Lay}(n:Nat):∀(aC:List (Int×Int×Unit)) (x:kM WA),(lW (fF s l) (fun a _=>a) n aC x).dn.length=x.dn.length∧(lW (fF s l) (fun a _=>a) n aC x).a.W.length=x.a.W.length
 | [],x=>⟨rfl,rfl⟩
 |p::aC,x=>by
  show (if x.dn.all id=true then x else lW (fF s l) (fun a _=>a) n aC (mE (fF s l) (fun a _=>a) n x p)).dn.length=_∧(if x.dn.all id=true then x else lW (fF s l) (fun a _=>a) n aC (mE (fF s l) (fun a _=>a) n x p)).a.W.length=_
  split
  ·exact⟨rfl,rfl⟩
  ·have h1:=Uc (s:=s) (l:=l) n aC (mE (fF s l) (fun a _=>a) n x p)
   have h2:=aa4 (s:=s) (l:=l) n x p
   exact⟨h1.1.trans h2.1,h1.2.trans h2.2⟩
theorem abQ(s:Sy)(l:Lay)(aC:List (Int×Int×Unit)):(dL s l aC).dn.length=l.k.toNat∧(dL s l aC).a.W.length=l.k.toNat:=by
 have h:=Uc (s:=s) (l:=l) l.k.toNat aC (A3 s l)
 exact⟨h.1.trans fZ,h.2.trans fZ⟩
def LX(s:Sy)(l:Lay)(aC:List (Int×Int×Unit))(r:AV):Prop:=
 ((dL s l aC).dn.all id=true∧r=.tup [.agg (wU (ta l (dL s l aC).a.ws (nN s)) (zx (dL s l aC).a.W) (za (dL s l aC).a.W) (dL s l aC).us),.int .i64 0])∨((dL s l aC).dn.all id=false∧r=.tup [.agg nm,.int .i64 11])
theorem Mp(s:Sy)(k:Nat)(l:Lay)(hl:iB s k=l)(aC:List (Int×Int×Unit))(σ:Hp)(hf:Fit s)(he:dv s k=0)(ov:aC.length≤100000):ACalls Tryz.prog 13 [.agg (bU s),.int .i64 k,.af ft aC] σ (fun r σ'=>LX s l aC r∧σ'=σ∧j7 s l):=by
 obtain⟨hs,EO⟩:=Ay hf he
 have hk:l.k=k:=by rw[← hl];exact Li he
 rw[hl]at hs
 have dX:=hs.k2
 have hnn:=hs.nn
 have hn:=hs.n
 obtain⟨zh,tN⟩:=abQ s l aC
 have e:l.k.toNat=k:=by omega
 rw[e]at zh tN
 cases hd:(dL s l aC).dn.all id with
 |true=>
  refine (aet s k l hl aC σ hf he ov (by omega) (by omega) (by omega) zh tN hd).mono ?_
  rintro _ _ ⟨rfl,rfl,bO⟩
  exact⟨.inl ⟨hd,rfl⟩,rfl,bO⟩
 |false=>
  refine (Zy s k l hl aC σ hf he ov (by omega) zh hd).mono ?_
  rintro _ _ ⟨rfl,rfl,bO⟩
  exact⟨.inr ⟨hd,rfl⟩,rfl,bO⟩
def eR:Sy:=⟨1,1,1,[],[0],[1],[([0],[0],[],())]⟩
theorem LK:dv eR (1:Nat)=0:=by decide +kernel
theorem Te:Fit eR:=⟨L4 (by unfold bH;omega),by decide,by decide,by decide,by decide,fun t ht=>by
 rw[bB.1 ht];exact⟨L4 (by unfold bH;omega),L4 (by unfold bH;omega),by decide,by decide,by decide⟩⟩
theorem Td:iB eR (1:Nat)=py:=by
 unfold iB
 rw[LK,show eH eR.what eR.w=1 by decide +kernel]
 rfl
def Vj:List Int:=[1,1,1,1,2,0,0]
theorem acI(bO:j7 eR py):nt eR py=[[0]]:=by
 have hA:=bO.all
 have hO:=bO.own 0 (by decide)
 have hl:(oG (nN eR) eR.aW eR.entry).length=1:=hA.len
 obtain⟨z,hz⟩:=List.length_eq_one_iff.1 hl
 have iJ:=hA.rg z (by rw[hz];exact bB.2 rfl)
 have xo:z=0:=by have:(nN eR:Int)=1:=(by decide +kernel);omega
 unfold nt yI mD
 rw[hz,xo]
 have hk:py.k.toNat=1:=rfl
 rw[hk]at hO ⊢
 have h0:(lK (nN eR) 1 eR.aW).getD 0 0=0:=by omega
 show [List.filter (fun x:Int=>decide ((lK (nN eR) 1 eR.aW).getD x.toNat 0=((0:Nat):Int))) [0]]=[[0]]
 rw[BH,ah (by show decide ((lK (nN eR) 1 eR.aW).getD 0 0=((0:Nat):Int))=true;rw[h0];rfl)]
 rfl
theorem aaK(bO:j7 eR py):eJ eR py=Vj:=by
 unfold eJ yE
 rw[acI bO]
 decide +kernel
def x0Q:kM WA:=⟨⟨[oJ],Vj⟩,[0],[false],0⟩
theorem aea(bO:j7 eR py):A3 eR py=x0Q:=by
 unfold A3
 rw[aaK bO];rfl
def Ia(aC:List (Int×Int×Unit)):kM WA:=lW (fF eR py) (fun a _=>a) 1 aC x0Q
theorem Tc(bO:j7 eR py)(aC:List (Int×Int×Unit)):dL eR py aC=Ia aC:=by
 unfold dL zm
 rw[aea bO];rfl
def uR:List (Int×Int×Unit):=List.replicate 20 (0,0,())
theorem acJ:(Ia uR).dn.all id=true∧(Ia uR).us=14∧ta py (Ia uR).a.ws 1=[[1]]:=by decide +kernel
theorem U8(σ:Hp):ACalls Tryz.prog 13 [.agg (bU eR),.int .i64 1,.af ft uR] σ (fun r σ'=>(∃e j,r=.tup [.agg (wU [[1]] e j 14),.int .i64 0])∧σ'=σ):=by
 refine (Mp eR 1 py Td uR _ Te LK (by decide)).mono ?_
 rintro _ _ ⟨h,rfl,bO⟩
 unfold LX at h
 rw[Tc bO]at h
 obtain⟨h1,h2,h3⟩:=acJ
 have hn:nN eR=1:=by decide +kernel
 rw[h1,h2,hn,h3]at h
 rcases h with ⟨_,rfl⟩ | ⟨h,_⟩
 ·exact⟨⟨_,_,rfl⟩,rfl⟩
 ·cases h
theorem abv(σ:Hp):ACalls Tryz.prog 11 [] σ (aE (.bool true) σ):=by
 refine az Tryz.func11 ?_
 intro aG
 intro dw
 intro sN
 intro JG
 intro BM
 intro Fj
 refine ai 0 ?_
 refine aa 0 ?_
 refine .kz 3 sN 0 1 1 _ (.int .u64) ([0]:List Int) rfl rfl ⟨rfl,rfl,by decide⟩ 1 0 BM _ rfl rfl ?_
 refine .kz 2 JG 0 1 1 _ (.int .u64) ([0]:List Int) rfl rfl ⟨rfl,rfl,by decide⟩ 1 1 BM _ rfl rfl ?_
 refine GW 1 2 BM _ jz rfl rfl ?_
 refine KU (ys:=[.agg [.int .i64 1,.int .i64 1,.int .i64 1,.aj,.ae aG 0 1 1,.ae dw 0 1 1,.af kR eR.T],.int .i64 1,.aj]) 1 BM 0 1 3 _ kR eR.T rfl rfl ⟨rfl,rfl,by decide⟩ 0 6 Fj _ rfl rfl (cE (CL (cE (.refl _) (cE (.refl _) (cE (.refl _) (cE (.refl _) (cE (.refl _) (cE (.refl _) (cE .here uw))))))) rfl) (.refl _)) ?_
 refine KU (ys:=[.agg [.int .i64 1,.int .i64 1,.int .i64 1,.aj,.ae aG 0 1 1,.af (.int .u64) eR.init,.af kR eR.T],.int .i64 1,.aj]) 1 dw 0 1 1 _ (.int .u64) eR.init rfl rfl ⟨rfl,rfl,by decide⟩ 0 5 Fj _ rfl rfl (cE (CL (cE (.refl _) (cE (.refl _) (cE (.refl _) (cE (.refl _) (cE (.refl _) (cE .here (.refl _))))))) rfl) (.refl _)) ?_
 refine KU (ys:=[.agg [.int .i64 1,.int .i64 1,.int .i64 1,.aj,.af (.int .i64) eR.entry,.af (.int .u64) eR.init,.af kR eR.T],.int .i64 1,.aj]) 1 aG 0 1 1 _ (.int .i64) eR.entry rfl rfl ⟨rfl,rfl,by decide⟩ 0 4 Fj _ rfl rfl (cE (CL (cE (.refl _) (cE (.refl _) (cE (.refl _) (cE (.refl _) (cE .here (.refl _)))))) rfl) (.refl _)) ?_
 refine GW 0 3 Fj _ dB rfl rfl ?_
 refine aaX (ys:=[.agg (bU eR),.int .i64 1,.af ft []]) (cE (CL (cE (.refl _) (cE (.refl _) (cE (.refl _) (cE (.nil dB) (.refl _))))) rfl) (cE (.refl _) (cE (.nil ft) (.refl _)))) ?_
 refine .mk [] _ (Mp eR 1 py Td [] _ Te LK (by decide)) ?_
 rintro _ _ ⟨h,rfl,bO⟩
 unfold LX at h
 rw[Tc bO]at h
 rcases h with ⟨h,_⟩ | ⟨_,rfl⟩
 ·exact absurd h (by decide)
 intro aG
 refine ai 0 ?_
 refine .meet (S:=Nat×Int×Int) (fun b=>[(3,.int .i64 11),(4,.ptr b.1 0),(5,.int .i64 0)]) (fun b=>(b.1,wU [[1]] b.2.1 b.2.2 14)::(aG,nm)::(Fj,bU eR)::σ) (by kernel_rfl) ?_ ?_
 ·repeat' first
   |exact cS.mk (_,_,_) ⟨rfl,rfl,rfl,trivial⟩ (aJ rfl)
   |refine And.intro ?_ ?_
   |refine aa 1 ?_
   |refine aa 2 ?_
   |refine aa 3 ?_
   |refine ai 0 ?_
   |refine aI.mk ⟨by decide,by decide,by decide,by decide⟩ ?_
   |(refine .cJ (args':=[.agg (bU eR),.int .i64 1,.af ft uR]) 0 _ 0 20 2 _ ft uR rfl rfl ⟨rfl,rfl,by decide⟩ (cE (.refl _) (cE (.refl _) (cE .here uw))) ?_;refine .mk [] _ (U8 _) ?_;rintro _ _ ⟨⟨e,j,rfl⟩,rfl⟩)
   |(refine .cJ (args':=[.agg (bU eR),.int .i64 1,.af ft uR]) 1 _ 0 20 2 _ ft uR rfl rfl ⟨rfl,rfl,by decide⟩ (cE (.refl _) (cE (.refl _) (cE .here uw))) ?_;refine .mk [] _ (U8 _) ?_;rintro _ _ ⟨⟨e,j,rfl⟩,rfl⟩)
   |intro b
 rintro⟨b,e,j⟩ g
 refine aa 0 ?_
 refine aa 0 ?_
 refine aa 0 ?_
 refine aI.mk rfl ?_
 refine bL.mk ([1]:List Int) (by decide) rfl ?_
 refine aI.mk rfl ?_
 refine bL.mk (1:Int) (by decide) rfl ?_
 exact .drop 0 3 (.done ⟨rfl,rfl⟩)
theorem aeX{s:Sy}{k:Int}(hf:Fit s)(he:dv s k=0):∃n:Nat,k=(n:Int)∧1≤n∧n≤64:=by
 obtain⟨hs,_⟩:=Ay hf he
 have h1:=hs.k1
 have h2:=hs.k2
 rw[Li he]at h1 h2
 exact⟨k.toNat,by omega,by omega,by omega⟩
set_option maxHeartbeats 4000000
section
variable {s:Sy} {l:Lay} (hs:LS s l)
include hs
theorem YY(ws:List Int):ta l ws (nN s)=s7 s l ws:=by
 unfold ta s7 pA
 refine vR fun v hv=>vR fun i hi=>?_
 rw[hs.AI (gm.1 hv) (gm.1 hi),nX]
end
theorem abf(s:Sy)(σ:Hp)(hf:Fit s)(hg:Good s):ACalls Tryz.prog 23 [.agg (bU s)] σ (aE (.af (.slice (.int .u64)) (ke s).1) σ):=by
 have he:=Q6 hg
 have h0:0≤sV s:=he.2.1
 obtain⟨m,hm⟩:∃m:Nat,sV s=m:=⟨(sV s).toNat,by omega⟩
 have hE:=fun σ=>x8 (abj s σ) (aV (he.1.trans hm))
 have hS:=fun σ=>ZC s m σ hf hg (by omega)
 have afL:(ke s).1=(mI s m (nh s) 0).1:=by unfold ke;rw[hm,bM]
 rw[afL]
 refine az Tryz.func23 ?_
 intro aG
 refine .quiet (by kernel_rfl) ?_
 refine aa 0 ?_
 refine aa 0 ?_
 refine aL [] (hE _) ?_
 refine aL [] (hS _) ?_
 exact .drop 0 1 (.done ⟨rfl,rfl⟩)
theorem aeG(s:Sy)(aC:List (Int×Int×Unit))(σ:Hp):ACalls Tryz.prog 12 [.agg (bU s),.af ft aC] σ (Mt (LW s∧aC.length≤400) σ):=by
 refine az Tryz.func12 ?_
 intro aG
 refine aa 0 ?_
 refine U3 [] (abc s _) (fun oN=>?_) ?_
 ·refine aq (fun c1=>?_) (fun c1=>?_)
  ·have c1:(↑aC.length:Int)≤400:=c1
   exact .drop 0 1 (.done ⟨true,rfl,rfl,fun _=>⟨oN,by omega⟩⟩)
  ·exact .drop 0 1 (.done ⟨false,rfl,rfl,fun h=>by cases h⟩)
 ·exact .drop 0 1 (.done ⟨false,rfl,rfl,fun h=>by cases h⟩)
theorem As{z:Int}(h0:0≤z)(h1:z<9000000000000000000):IntKind.i64.wrap z=z:=by rw[IntKind.wrap_i64];omega
def wW(k:Int):Nat:=if k<1 then 1 else if 64<k then 64 else k.toNat
theorem aaU(k:Int):1≤wW k∧wW k≤64:=by
 unfold wW;split
 ·omega
 ·split <;> omega
theorem aaV(k:Int):(if 64<(if k<1 then 1 else k) then (64:Int) else (if k<1 then 1 else k))=(wW k:Int):=by
 unfold wW
 by_cases h:k<1
 ·rw[ah h,ah h];rfl
 ·rw[ag h,ag h]
  by_cases h2:64<k
  ·rw[ah h2,ah h2];rfl
  ·rw[ag h2,ag h2];omega
theorem aeH(k:Int)(σ:Hp):ACalls Tryz.prog 69 [.int .i64 k] σ (aE (.int .i64 (wW k)) σ):=by
 refine az Tryz.func69 ?_
 exact .done ⟨aV (aaV k),rfl⟩
end Go.Proofs.YtnikdflhefijbaaGreat
namespace Go.Proofs.YtnikdflhefijbaaGreat
open Go.Shelf
def WM:Go.Shelf.Ren:=⟨fun | 23=>71 | n=>n,fun | 22=>23 | 3=>3 | 4=>4 | 0=>0 | n=>n,fun | n=>n⟩
theorem acx:Go.Proofs.Lays2.n23 Tryz.prog WM:= {
 mixed:=by kernel_rfl
 f23:=Tryz.func71.trans (congrArg some (by kernel_rfl))
 t0:=Tryz.underlying0
 a0:=Tryz.isAgg0
 z0:=Tryz.sizeOf0
 v0:=Tryz.zeroValue0
 t3:=Tryz.underlying3
 a3:=Tryz.isAgg3
 z3:=Tryz.sizeOf3
 v3:=Tryz.zeroValue3
 t4:=Tryz.underlying4
 a4:=Tryz.isAgg4
 z4:=Tryz.sizeOf4
 v4:=Tryz.zeroValue4
 t22:=Tryz.underlying23
 a22:=Tryz.isAgg23
 z22:=Tryz.sizeOf23
 v22:=Tryz.zeroValue23
 i3:=by kernel_rfl }
set_option maxRecDepth 100000
theorem XP:Enters Tryz.prog 71:=enters_of Tryz.func71 (by kernel_rfl)
theorem Xh{vs:Array Value}(h:3=vs.size):∃a b c,vs = #[a,b,c]:=by
 refine⟨vs.getD 0 undef,vs.getD 1 undef,vs.getD 2 undef,Array.ext ?_ fun i h2 h3=>?_⟩
 ·simp[← h]
 ·have h3:i<3:=by simpa using h3
  match i,h3 with
  | 0,_=>simp[Array.getD,h2]
  | 1,_=>simp[Array.getD,h2]
  | 2,_=>simp[Array.getD,h2]
theorem XE{F:Nat→Prop}{w:World}{b:Nat}{zs ys:List Int}{σ:Hp}(h:bA F w ((b,an (zs++ys))::σ)):bA F w ((b,an zs)::σ):=by
 obtain⟨hF,c,T,hc,hle,mm⟩:=(h.holds _ (ck ..)).GM (KN _)
 refine⟨h.nodup,fun p hp=>?_,h.low⟩
 rcases eF.1 hp with rfl | hp
 ·refine⟨hF,.inl ⟨c,T,hc,?_,fun i x hx=>mm i x ?_⟩⟩
  ·have hle:(an (zs++ys)).length≤c.size:=hle
   rw[jy,bP]at hle
   show (an zs).length≤c.size
   rw[jy];omega
  ·have hx:(an zs)[i]?=some x:=hx
   have hi:=(cg.1 hx).1
   show (an (zs++ys))[i]?=some x
   unfold an at hx hi ⊢
   rw[cO,jY hi]
   exact hx
 ·exact h.holds p (cW _ hp)
theorem del_eq(zs:List Int)(i:Nat):zs.take i++zs.drop (i+1)=zs.eraseIdx i:=(List.eraseIdx_eq_take_drop_succ zs i).symm
theorem AM(b:Nat)(zs:List Int)(n i:Nat)(σ:Hp)(hz:zs.length=n)(hi:i<n)(hl:n≤1000000):ACalls Tryz.prog 71 [.ae b 0 n 1,.int .i64 i,.int .i64 ((i+1:Nat):Int)] ((b,an zs)::σ) (aE (.ae b 0 (n-1) 1) ((b,an (zs.eraseIdx i))::σ)):=by
 subst hz
 refine⟨XP,fun F w vs bS aF =>?_⟩
 obtain⟨v,v1,v2,rfl⟩:=Xh bS.1
 have hv:aA F w (.ae b 0 zs.length 1) v:=bS.2 0 _ rfl
 have hv1:aA F w (.int .i64 i) v1:=bS.2 1 _ rfl
 have vE:aA F w (.int .i64 ((i+1:Nat):Int)) v2:=bS.2 2 _ rfl
 have e1:=hv1.gh
 have e2:=vE.gh
 subst e1 e2
 obtain⟨a,cap,rfl,c,T,fz,m1,m2,m3,m4⟩:=hv.kY
 rcases m4 with ⟨rfl,m5⟩ | ⟨m5,m6,h0,m7⟩
 ·obtain⟨h1,h2⟩:=Gq aF
  have h:Calls Tryz.prog 71 #[.slice (some ⟨b,0,none⟩) zs.length cap,.int .i64 (i:Int),.int .i64 ((i+1:Nat):Int)] w fun e w'=>e=.returned (.slice (some ⟨b,0,none⟩) (zs.length-(i+1-i)) cap)∧∃q,w'=Go.Sort.putRow (Value.int .i64) (Go.Sort.ahead w q) b 0 (zs.take i++zs.drop (i+1)++List.replicate (i+1-i) 0).toArray:=Any.slices_Delete_int acx b 0 cap i (i+1) zs w h1 (by omega) (fx m3 (by decide)) (by omega) (by omega)
  refine h.mono ?_
  rintro e w' ⟨rfl,q,rfl⟩
  have e3:i+1-i=1:=by omega
  rw[e3,del_eq]
  have hlen:(zs.eraseIdx i).length=zs.length-1:=zw hi
  obtain⟨k1,k2⟩:=CD (n:=q) (zs':=zs.eraseIdx i++List.replicate 1 0) aF (by rw[bP,fZ,hlen];omega) #[]
  have hg:∀W:World,Go.Sort.grow W #[]=W:=fun W=>by unfold Go.Sort.grow;rw[Array.append_empty]
  rw[hg]at k1 k2
  obtain⟨c',pP,ju,dN⟩:=k1.rows b c T fz m1
  exact⟨.ae b 0 _ 1,_,_,F,rfl,k1,XE k2,.ae _ _ _ _ _ _ ⟨c',T,pP,ju,by omega,m3,.inl ⟨rfl,by omega⟩⟩,rfl,rfl⟩
 ·omega
def km(l:List ns):List AV:=l.flatMap fun p=>[.int .i64 p.1,.int .i64 p.2.1]
theorem zX:∀l:List ns,km l=l.flatMap (fun d:ns=>ft.cells d)
 | []=>rfl
 |(a,b,_)::l=>congrArg (fun r=>AV.int .i64 a::AV.int .i64 b::r) (zX l)
theorem zW(l:List ns)(a b:Int):km (l++[(a,b,())])=km l++[.int .i64 a,.int .i64 b]:=by
 unfold km;rw[vT];rfl
theorem PT(k:Nat):eT (k+1)=eT k++[(k:Int)]:=by
 unfold eT;rw[sH,cO];rfl
theorem QQ(l:List Int)(x:Int):an (l++[x])=an l++[.int .i64 x]:=by unfold an;rw[cO];rfl
theorem Ys{raw:List Int}{i:Nat}(h:0<raw.length):∃h2:i % raw.length<raw.length,rS raw i=raw[i % raw.length]:=by
 have h2:=mT i h
 refine⟨h2,?_⟩
 unfold rS
 rw[ag (by omega),bg,bF h2];rfl
theorem JY{raw:List Int}{i:Nat}(h:¬0<raw.length):rS raw i=0:=ah (by omega)
theorem ab4{e k:Nat}{v:AV}{acc:Hp}{cs:List AV}(h:Acc e k v acc cs):(v=.aj∧acc=[]∧k=0∧cs=[])∨∃b,v=.ae b 0 k e∧acc=[(b,cs)]:=by
 cases h with
 |nil=>exact .inl ⟨rfl,rfl,rfl,rfl⟩
 |ae b=>exact .inr ⟨b,rfl,rfl⟩
theorem z6{n:Nat}{raw:List Int}{i:Nat}{o:List ns}{w w1:List Int}{x:Int}(ho:(eS n raw i).1=o)(hw:(eS n raw i).2=w)(h1:sZ n w=w1)(hx:rS raw i=x):(eS n raw (i+1)).1=o++[(w1.getD (cb x w1.length) 0,x,())]∧(eS n raw (i+1)).2=w1.eraseIdx (cb x w1.length):=by
 subst ho hw h1 hx;exact⟨rfl,rfl⟩
theorem K9{raw:List Int}{i:Nat}{x:Int}(h:0<raw.length)(hx:rS raw i=x):0≤(i:Int).tmod (raw.length:Int)∧raw[((i:Int).tmod (raw.length:Int)).toNat]?=some x:=by
 obtain⟨h2,h3⟩:=Ys (i:=i) h
 have e:(i:Int).tmod (raw.length:Int)=((i % raw.length:Nat):Int):=by rw[sK (by omega)];rfl
 rw[e,bM,bF h2,← h3,hx]
 exact⟨by omega,rfl⟩
theorem XK{R:AV→Hp→Prop}{r:AV}(a:Hp){σ:Hp}(h:Fin R r σ):Fin R r (a++σ):=.drop 0 a.length (by rw[List.take_zero,ef,List.drop_left];exact h)
theorem zJ{P:Program}{f:FuncId}{xs:List AV}{σ σ':Hp}{x:AV}(hl:x.leaf=true)(h:ACalls P f xs σ (aE x σ')):ACalls P f xs σ (aE (.via x) σ'):=
 ⟨h.1,fun F w vs hv aF=>(h.2 F w vs hv aF).mono fun _e _w' ⟨_r,v,σ2,F',h1,h2,h3,h4,h5⟩=>⟨.via x,v,σ2,F',h1,h2,h3,.via x v hl (h5.1▸h4),rfl,h5.2⟩⟩
theorem Ql(n:Nat)(raw:List Int):∀i,(eS n raw i).2.length≤n
 | 0=>bD _
 |i+1=>by
  have ih:=Ql n raw i
  have h:(sZ n (eS n raw i).2).length≤n:=by
   unfold sZ;split
   ·rw[Km];exact a8 _
   ·exact ih
  exact fx (List.length_eraseIdx_le _ _) h
theorem Re{k:Nat}{v:AV}{acc:Hp}{cs:List AV}(h:Acc 1 k v acc cs)(hk:0<k):∃b,v=.ae b 0 k 1∧acc=[(b,cs)]:=by
 cases h with
 |nil=>omega
 |ae b k cs h=>exact⟨b,rfl,rfl⟩
theorem aej(k0:Int)(n m:Nat)(raw:List Int)(σ:Hp)(jI:wW k0=n)(hm:m≤1000000)(hr:raw.length≤100000):ACalls Tryz.prog 26 [.int .i64 k0,.int .i64 m,.af (.int .i64) raw] σ (aE (.af ft (eS n raw m).1) σ):=by
 refine az Tryz.func26 ?_
 obtain⟨h1,h2⟩:=aaU k0
 rw[jI]at h1 h2
 refine ay [] (jI▸aeH k0 _) ?_
 have hL:(if (1048576:Int)<(if (m:Int)<0 then 0 else (m:Int)) then (1048576:Int) else (if (m:Int)<0 then 0 else (m:Int)))=(m:Int):=by rw[ag (show ¬(m:Int)<0 by omega),ag (by omega)]
 refine .wrap 7 _ rfl rfl ?_
 refine .wrap 8 _ rfl rfl ?_
 refine cc (S:=Nat×AV×Hp×AV×Hp) (fun s=>[(0,.int .i64 n),(2,.af (.int .i64) raw),(7,.via s.2.1),(8,.via s.2.2.2.1),(17,.int .i64 m),(18,.int .i64 s.1)]) (fun s=>s.2.2.2.2++(s.2.2.1++σ)) (fun s=>s.1≤m∧Acc 2 s.1 s.2.1 s.2.2.1 (km (eS n raw s.1).1)∧Acc 1 (eS n raw s.1).2.length s.2.2.2.1 s.2.2.2.2 (an (eS n raw s.1).2)) (fun s=>m-s.1) (0,.aj,[],.aj,[]) ⟨⟨bD _,.nil,.nil⟩,⟨rfl,rfl,rfl,rfl,congrArg (AV.int .i64) hL,rfl,trivial⟩,rfl⟩ ?_
 rintro⟨i,v,acc,vw,M3⟩ g ⟨gk,Ev,Ek⟩
 have hi:i≤m:=gk
 have ho:Acc 2 i v acc (km (eS n raw i).1):=Ev
 have hw:Acc 1 (eS n raw i).2.length vw M3 (an (eS n raw i).2):=Ek
 clear gk Ev Ek
 refine aq (p:=(i:Int)<(m:Int)) (fun ab=>?_) (fun au=>?_)
 ·have ab:i<m:=by omega
  obtain⟨o,zc⟩:∃o,(eS n raw i).1=o:=⟨_,rfl⟩
  obtain⟨w,qv⟩:∃w,(eS n raw i).2=w:=⟨_,rfl⟩
  rw[zc]at ho
  rw[qv]at hw
  rcases ab4 hw with ⟨rfl,rfl,aP,iL⟩ | ⟨bw,rfl,rfl⟩
  ·refine cc (S:=Nat×AV×Hp) (fun s=>[(0,.int .i64 n),(2,.af (.int .i64) raw),(7,.via v),(8,.via s.2.1),(9,.int .i64 i),(17,.int .i64 m),(18,.int .i64 i),(24,.int .i64 n),(25,.int .i64 s.1)]) (fun s=>s.2.2++(acc++σ)) (fun s=>s.1≤n∧Acc 1 s.1 s.2.1 s.2.2 (an (eT s.1))) (fun s=>n-s.1) (0,.aj,[]) ⟨⟨bD _,.nil⟩,⟨rfl,rfl,rfl,rfl,rfl,rfl,rfl,rfl,rfl,trivial⟩,rfl⟩ ?_
   rintro⟨k,vk,ak⟩ g ⟨aP,lU⟩
   have hk:k≤n:=aP
   have hA:Acc 1 k vk ak (an (eT k)):=lU
   clear aP lU
   refine aq (p:=(k:Int)<(n:Int)) (fun dy=>?_) (fun ji=>?_)
   ·have dy:k<n:=by omega
    intro dw
    refine ic [_] hA (.ae 0 dw 0 1 _ rfl (cD rfl)) rfl (by omega) (by decide) (by decide) (fun v' aU h'=>?_)
    refine bj (k+1,v',aU) (by show n-(k+1)<n-k;omega) ⟨dy,?_⟩ ⟨rfl,rfl,rfl,rfl,rfl,rfl,rfl,rfl,aY (by omega),trivial⟩ (.drop 0 1 (aJ rfl))
    show Acc 1 (k+1) v' aU (an (eT (k+1)))
    rw[PT,QQ]
    exact h'
   ·have ji:k=n:=by omega
    subst ji
    obtain⟨bk,rfl,rfl⟩:=Re hA (by omega)
    have xc:sZ k w=eT k:=ah aP
    have eQ:(eT k).length=k:=Km k
    obtain⟨x,hx⟩:∃x,rS raw i=x:=⟨_,rfl⟩
    refine aq (p:=0<(raw.length:Int)) (fun cr=>?_) (fun cr=>?_)
    ·have cr:0<raw.length:=by omega
     obtain⟨vG,pH⟩:=K9 cr hx
     refine aI.mk (show ¬((raw.length:Int)=0) by omega) ?_
     refine aI.mk rfl ?_
     refine bL.mk x vG pH ?_
     refine ay [] (td x 0 k _ (by omega)) ?_
     have cx:=rN (p:=x) (show 0<k by omega)
     refine aM ?_
     refine aT 0 rfl (zQ rfl (by rw[eQ];exact cx)) ?_
     intro aG
     have sa:∀σ,ACalls Tryz.prog 71 [.ae bk 0 k 1,.int .i64 (cb x k),.int .i64 (IntKind.i64.wrap ((cb x k:Int)+1))] ((bk,an (eT k))::σ) (aE (.via (.ae bk 0 (k-1) 1)) ((bk,an (((eT k)).eraseIdx (cb x k)))::σ)):=fun σ=>by
      rw[show IntKind.i64.wrap ((cb x k:Int)+1)=((cb x k+1:Nat):Int) from As (by omega) (by omega)]
      exact zJ rfl (AM bk (eT k) k _ σ eQ cx (by omega))
     refine ic [_,_] ho (.ae 0 aG 0 1 _ rfl (cD rfl)) rfl (by omega) (by decide) (by decide) (fun v' aU ep=>?_)
     refine ay [1] (sa _) ?_
     obtain⟨e1,e2⟩:=z6 zc qv xc hx
     rw[eQ]at e1 e2
     have gE:(((eT k)).eraseIdx (cb x k)).length=k-1:=by rw[zw (by rw[eQ];exact cx),eQ]
     refine bj (i+1,v',aU,.ae bk 0 (k-1) 1,[(bk,an (((eT k)).eraseIdx (cb x k)))]) (by show m-(i+1)<m-i;omega) ⟨ab,?_,?_⟩ ⟨rfl,rfl,rfl,rfl,rfl,aY (by omega),trivial⟩ (.drop 1 1 (aJ rfl))
     ·show Acc 2 (i+1) v' aU (km (eS _ raw (i+1)).1)
      rw[e1,zW]
      exact ep
     ·show Acc 1 (eS _ raw (i+1)).2.length (.ae bk 0 (k-1) 1) [(bk,an (((eT k)).eraseIdx (cb x k)))] (an (eS _ raw (i+1)).2)
      rw[e2,gE]
      exact .ae _ _ _ (by rw[jy,gE,dO])
    ·have cr:¬0<raw.length:=by omega
     obtain rfl:(0:Int)=x:=(JY cr).symm.trans hx
     refine ay [] (td 0 0 k _ (by omega)) ?_
     have cx:=rN (p:=0) (show 0<k by omega)
     refine aM ?_
     refine aT 0 rfl (zQ rfl (by rw[eQ];exact cx)) ?_
     intro aG
     have sa:∀σ,ACalls Tryz.prog 71 [.ae bk 0 k 1,.int .i64 (cb 0 k),.int .i64 (IntKind.i64.wrap ((cb 0 k:Int)+1))] ((bk,an (eT k))::σ) (aE (.via (.ae bk 0 (k-1) 1)) ((bk,an (((eT k)).eraseIdx (cb 0 k)))::σ)):=fun σ=>by
      rw[show IntKind.i64.wrap ((cb 0 k:Int)+1)=((cb 0 k+1:Nat):Int) from As (by omega) (by omega)]
      exact zJ rfl (AM bk (eT k) k _ σ eQ cx (by omega))
     refine ic [_,_] ho (.ae 0 aG 0 1 _ rfl (cD rfl)) rfl (by omega) (by decide) (by decide) (fun v' aU ep=>?_)
     refine ay [1] (sa _) ?_
     obtain⟨e1,e2⟩:=z6 zc qv xc hx
     rw[eQ]at e1 e2
     have gE:(((eT k)).eraseIdx (cb 0 k)).length=k-1:=by rw[zw (by rw[eQ];exact cx),eQ]
     refine bj (i+1,v',aU,.ae bk 0 (k-1) 1,[(bk,an (((eT k)).eraseIdx (cb 0 k)))]) (by show m-(i+1)<m-i;omega) ⟨ab,?_,?_⟩ ⟨rfl,rfl,rfl,rfl,rfl,aY (by omega),trivial⟩ (.drop 1 1 (aJ rfl))
     ·show Acc 2 (i+1) v' aU (km (eS _ raw (i+1)).1)
      rw[e1,zW]
      exact ep
     ·show Acc 1 (eS _ raw (i+1)).2.length (.ae bk 0 (k-1) 1) [(bk,an (((eT k)).eraseIdx (cb 0 k)))] (an (eS _ raw (i+1)).2)
      rw[e2,gE]
      exact .ae _ _ _ (by rw[jy,gE,dO])
  ·refine aq (fun c1=>?_) (fun c1=>?_)
   ·have c1:w.length=0:=by omega
    obtain rfl:w=[]:=jv.1 c1
    refine cc (S:=Nat×AV×Hp) (fun s=>[(0,.int .i64 n),(2,.af (.int .i64) raw),(7,.via v),(8,.via s.2.1),(9,.int .i64 i),(17,.int .i64 m),(18,.int .i64 i),(24,.int .i64 n),(25,.int .i64 s.1)]) (fun s=>s.2.2++(acc++σ)) (fun s=>s.1≤n∧Acc 1 s.1 s.2.1 s.2.2 (an (eT s.1))) (fun s=>n-s.1) (0,(.ae bw 0 0 1),[(bw,[])]) ⟨⟨bD _,hw⟩,⟨rfl,rfl,rfl,rfl,rfl,rfl,rfl,rfl,rfl,trivial⟩,rfl⟩ ?_
    rintro⟨k,vk,ak⟩ g ⟨aP,lU⟩
    have hk:k≤n:=aP
    have hA:Acc 1 k vk ak (an (eT k)):=lU
    clear aP lU
    refine aq (p:=(k:Int)<(n:Int)) (fun dy=>?_) (fun ji=>?_)
    ·have dy:k<n:=by omega
     intro dw
     refine ic [_] hA (.ae 0 dw 0 1 _ rfl (cD rfl)) rfl (by omega) (by decide) (by decide) (fun v' aU h'=>?_)
     refine bj (k+1,v',aU) (by show n-(k+1)<n-k;omega) ⟨dy,?_⟩ ⟨rfl,rfl,rfl,rfl,rfl,rfl,rfl,rfl,aY (by omega),trivial⟩ (.drop 0 1 (aJ rfl))
     show Acc 1 (k+1) v' aU (an (eT (k+1)))
     rw[PT,QQ]
     exact h'
    ·have ji:k=n:=by omega
     subst ji
     obtain⟨bk,rfl,rfl⟩:=Re hA (by omega)
     have xc:sZ k []=eT k:=ah rfl
     have eQ:(eT k).length=k:=Km k
     obtain⟨x,hx⟩:∃x,rS raw i=x:=⟨_,rfl⟩
     refine aq (p:=0<(raw.length:Int)) (fun cr=>?_) (fun cr=>?_)
     ·have cr:0<raw.length:=by omega
      obtain⟨vG,pH⟩:=K9 cr hx
      refine aI.mk (show ¬((raw.length:Int)=0) by omega) ?_
      refine aI.mk rfl ?_
      refine bL.mk x vG pH ?_
      refine ay [] (td x 0 k _ (by omega)) ?_
      have cx:=rN (p:=x) (show 0<k by omega)
      refine aM ?_
      refine aT 0 rfl (zQ rfl (by rw[eQ];exact cx)) ?_
      intro aG
      have sa:∀σ,ACalls Tryz.prog 71 [.ae bk 0 k 1,.int .i64 (cb x k),.int .i64 (IntKind.i64.wrap ((cb x k:Int)+1))] ((bk,an (eT k))::σ) (aE (.via (.ae bk 0 (k-1) 1)) ((bk,an (((eT k)).eraseIdx (cb x k)))::σ)):=fun σ=>by
       rw[show IntKind.i64.wrap ((cb x k:Int)+1)=((cb x k+1:Nat):Int) from As (by omega) (by omega)]
       exact zJ rfl (AM bk (eT k) k _ σ eQ cx (by omega))
      refine ic [_,_] ho (.ae 0 aG 0 1 _ rfl (cD rfl)) rfl (by omega) (by decide) (by decide) (fun v' aU ep=>?_)
      refine ay [1] (sa _) ?_
      obtain⟨e1,e2⟩:=z6 zc qv xc hx
      rw[eQ]at e1 e2
      have gE:(((eT k)).eraseIdx (cb x k)).length=k-1:=by rw[zw (by rw[eQ];exact cx),eQ]
      refine bj (i+1,v',aU,.ae bk 0 (k-1) 1,[(bk,an (((eT k)).eraseIdx (cb x k)))]) (by show m-(i+1)<m-i;omega) ⟨ab,?_,?_⟩ ⟨rfl,rfl,rfl,rfl,rfl,aY (by omega),trivial⟩ (.drop 1 1 (aJ rfl))
      ·show Acc 2 (i+1) v' aU (km (eS _ raw (i+1)).1)
       rw[e1,zW]
       exact ep
      ·show Acc 1 (eS _ raw (i+1)).2.length (.ae bk 0 (k-1) 1) [(bk,an (((eT k)).eraseIdx (cb x k)))] (an (eS _ raw (i+1)).2)
       rw[e2,gE]
       exact .ae _ _ _ (by rw[jy,gE,dO])
     ·have cr:¬0<raw.length:=by omega
      obtain rfl:(0:Int)=x:=(JY cr).symm.trans hx
      refine ay [] (td 0 0 k _ (by omega)) ?_
      have cx:=rN (p:=0) (show 0<k by omega)
      refine aM ?_
      refine aT 0 rfl (zQ rfl (by rw[eQ];exact cx)) ?_
      intro aG
      have sa:∀σ,ACalls Tryz.prog 71 [.ae bk 0 k 1,.int .i64 (cb 0 k),.int .i64 (IntKind.i64.wrap ((cb 0 k:Int)+1))] ((bk,an (eT k))::σ) (aE (.via (.ae bk 0 (k-1) 1)) ((bk,an (((eT k)).eraseIdx (cb 0 k)))::σ)):=fun σ=>by
       rw[show IntKind.i64.wrap ((cb 0 k:Int)+1)=((cb 0 k+1:Nat):Int) from As (by omega) (by omega)]
       exact zJ rfl (AM bk (eT k) k _ σ eQ cx (by omega))
      refine ic [_,_] ho (.ae 0 aG 0 1 _ rfl (cD rfl)) rfl (by omega) (by decide) (by decide) (fun v' aU ep=>?_)
      refine ay [1] (sa _) ?_
      obtain⟨e1,e2⟩:=z6 zc qv xc hx
      rw[eQ]at e1 e2
      have gE:(((eT k)).eraseIdx (cb 0 k)).length=k-1:=by rw[zw (by rw[eQ];exact cx),eQ]
      refine bj (i+1,v',aU,.ae bk 0 (k-1) 1,[(bk,an (((eT k)).eraseIdx (cb 0 k)))]) (by show m-(i+1)<m-i;omega) ⟨ab,?_,?_⟩ ⟨rfl,rfl,rfl,rfl,rfl,aY (by omega),trivial⟩ (.drop 1 1 (aJ rfl))
      ·show Acc 2 (i+1) v' aU (km (eS _ raw (i+1)).1)
       rw[e1,zW]
       exact ep
      ·show Acc 1 (eS _ raw (i+1)).2.length (.ae bk 0 (k-1) 1) [(bk,an (((eT k)).eraseIdx (cb 0 k)))] (an (eS _ raw (i+1)).2)
       rw[e2,gE]
       exact .ae _ _ _ (by rw[jy,gE,dO])
   ·have c1:¬w.length=0:=by omega
    have xc:sZ n w=w:=ag c1
    have eQ:w.length=w.length:=rfl
    have NB:=Ql n raw i
    rw[qv]at NB
    obtain⟨x,hx⟩:∃x,rS raw i=x:=⟨_,rfl⟩
    refine aq (p:=0<(raw.length:Int)) (fun cr=>?_) (fun cr=>?_)
    ·have cr:0<raw.length:=by omega
     obtain⟨vG,pH⟩:=K9 cr hx
     refine aI.mk (show ¬((raw.length:Int)=0) by omega) ?_
     refine aI.mk rfl ?_
     refine bL.mk x vG pH ?_
     refine ay [] (td x 0 w.length _ (by omega)) ?_
     have cx:=rN (p:=x) (show 0<w.length by omega)
     refine aM ?_
     refine aT 0 rfl (zQ rfl (by rw[eQ];exact cx)) ?_
     intro aG
     have sa:∀σ,ACalls Tryz.prog 71 [.ae bw 0 w.length 1,.int .i64 (cb x w.length),.int .i64 (IntKind.i64.wrap ((cb x w.length:Int)+1))] ((bw,an w)::σ) (aE (.via (.ae bw 0 (w.length-1) 1)) ((bw,an ((w).eraseIdx (cb x w.length)))::σ)):=fun σ=>by
      rw[show IntKind.i64.wrap ((cb x w.length:Int)+1)=((cb x w.length+1:Nat):Int) from As (by omega) (by omega)]
      exact zJ rfl (AM bw w w.length _ σ eQ cx (by omega))
     refine ic [_,_] ho (.ae 0 aG 0 1 _ rfl (cD rfl)) rfl (by omega) (by decide) (by decide) (fun v' aU ep=>?_)
     refine ay [1] (sa _) ?_
     obtain⟨e1,e2⟩:=z6 zc qv xc hx
     rw[eQ]at e1 e2
     have gE:((w).eraseIdx (cb x w.length)).length=w.length-1:=by rw[zw (by rw[eQ];exact cx),eQ]
     refine bj (i+1,v',aU,.ae bw 0 (w.length-1) 1,[(bw,an ((w).eraseIdx (cb x w.length)))]) (by show m-(i+1)<m-i;omega) ⟨ab,?_,?_⟩ ⟨rfl,rfl,rfl,rfl,rfl,aY (by omega),trivial⟩ (.drop 1 1 (aJ rfl))
     ·show Acc 2 (i+1) v' aU (km (eS _ raw (i+1)).1)
      rw[e1,zW]
      exact ep
     ·show Acc 1 (eS _ raw (i+1)).2.length (.ae bw 0 (w.length-1) 1) [(bw,an ((w).eraseIdx (cb x w.length)))] (an (eS _ raw (i+1)).2)
      rw[e2,gE]
      exact .ae _ _ _ (by rw[jy,gE,dO])
    ·have cr:¬0<raw.length:=by omega
     obtain rfl:(0:Int)=x:=(JY cr).symm.trans hx
     refine ay [] (td 0 0 w.length _ (by omega)) ?_
     have cx:=rN (p:=0) (show 0<w.length by omega)
     refine aM ?_
     refine aT 0 rfl (zQ rfl (by rw[eQ];exact cx)) ?_
     intro aG
     have sa:∀σ,ACalls Tryz.prog 71 [.ae bw 0 w.length 1,.int .i64 (cb 0 w.length),.int .i64 (IntKind.i64.wrap ((cb 0 w.length:Int)+1))] ((bw,an w)::σ) (aE (.via (.ae bw 0 (w.length-1) 1)) ((bw,an ((w).eraseIdx (cb 0 w.length)))::σ)):=fun σ=>by
      rw[show IntKind.i64.wrap ((cb 0 w.length:Int)+1)=((cb 0 w.length+1:Nat):Int) from As (by omega) (by omega)]
      exact zJ rfl (AM bw w w.length _ σ eQ cx (by omega))
     refine ic [_,_] ho (.ae 0 aG 0 1 _ rfl (cD rfl)) rfl (by omega) (by decide) (by decide) (fun v' aU ep=>?_)
     refine ay [1] (sa _) ?_
     obtain⟨e1,e2⟩:=z6 zc qv xc hx
     rw[eQ]at e1 e2
     have gE:((w).eraseIdx (cb 0 w.length)).length=w.length-1:=by rw[zw (by rw[eQ];exact cx),eQ]
     refine bj (i+1,v',aU,.ae bw 0 (w.length-1) 1,[(bw,an ((w).eraseIdx (cb 0 w.length)))]) (by show m-(i+1)<m-i;omega) ⟨ab,?_,?_⟩ ⟨rfl,rfl,rfl,rfl,rfl,aY (by omega),trivial⟩ (.drop 1 1 (aJ rfl))
     ·show Acc 2 (i+1) v' aU (km (eS _ raw (i+1)).1)
      rw[e1,zW]
      exact ep
     ·show Acc 1 (eS _ raw (i+1)).2.length (.ae bw 0 (w.length-1) 1) [(bw,an ((w).eraseIdx (cb 0 w.length)))] (an (eS _ raw (i+1)).2)
      rw[e2,gE]
      exact .ae _ _ _ (by rw[jy,gE,dO])
 ·have au:i=m:=by omega
  subst au
  exact qU M3 (s:=ft) ho (J9 n raw i).symm (zX _) (by decide) (XK M3 (.done ⟨rfl,rfl⟩))
theorem Zz(s:Sy)(k:Nat)(aC:List ns)(σ:Hp)(hf:Fit s)(he:dv s k=0)(ov:aC.length≤100000):ACalls Tryz.prog 13 [.agg (bU s),.int .i64 k,.af ft aC] σ (fun r σ'=>((∃(e j:Int) (us:Nat),r=.tup [.agg (wU (ke s).1 e j us),.int .i64 0])∨r=.tup [.agg nm,.int .i64 11])∧σ'=σ):=by
 obtain⟨l,hl⟩:∃l,iB s k=l:=⟨_,rfl⟩
 obtain⟨hs,EO⟩:=Ay hf he
 rw[hl]at hs
 refine (Mp s k l hl aC σ hf he ov).mono ?_
 rintro _ _ ⟨hR,rfl,bO⟩
 have hX:=adx (hs:=hs) bO aC ov
 rcases hR with ⟨h1,rfl⟩ | ⟨h3,rfl⟩
 ·have hv:ta l (dL s l aC).a.ws (nN s)=(ke s).1:=(YY hs _).trans (hX.all h1)
  exact⟨.inl ⟨_,_,_,by rw[hv]⟩,rfl⟩
 ·exact⟨.inr rfl,rfl⟩
theorem Lc(l:List ns):(km l).length=l.length*2:=by
 induction l with
 |nil=>rfl
 |cons a l ih=>show (km l).length+1+1=(l.length+1)*2;omega
theorem Ts(a:List ns):(0+a.length)*2≤(List.take (0*2) ([]:List AV)++a.flatMap (fun d:ns=>ft.cells d)).length:=by
 rw[← zX]
 show _≤(km a).length
 rw[Lc];omega
theorem Tt(a b:List ns):(a++b).length=0+a.length+b.length:=by rw[bP,ef]
theorem Tq(a b:List ns):((List.take ((0+a.length)*2) (List.take (0*2) ([]:List AV)++a.flatMap (fun d:ns=>ft.cells d))++b.flatMap (fun d:ns=>ft.cells d)).drop 0).take ((0+a.length+b.length)*2)=(a++b).flatMap (fun d:ns=>ft.cells d):=by
 rw[← zX,← zX,← zX]
 have e:List.take (0*2) ([]:List AV)++km a=km a:=rfl
 have e3:List.take ((0+a.length)*2) (km a)=km a:=eG (by rw[Lc];omega)
 have e2:km (a++b)=km a++km b:=vT ..
 rw[e,e3,gM,← e2]
 exact eG (by rw[Lc,bP];omega)
def L0(s:Sy)(x:AV)(e:Int):Prop:=(x=.af (.slice (.int .u64)) (ke s).1∧e=0∧Good s)∨(x=.aj∧¬e=0)
set_option maxHeartbeats 8000000 in
theorem VQ(s:Sy)(w:Int)(aC:List ns)(raw:List Int)(hi:bc s.init)(ht:∀t∈s.T,bc t.1∧bc t.2.1):ACalls Tryz.prog 5 [.agg (bU s),.int .i64 w,.af ft aC,.af (.int .i64) raw] [] (fun r _=>r=.bool true):=by
 refine az Tryz.func5 ?_
 intro b3
 refine ay [] (abv _) ?_
 refine aa 0 ?_
 refine U3 [] (aeG s aC _) (fun ag7=>?_) ?_
 rotate_left
 ·exact .done rfl
 obtain⟨oN,hlen⟩:=ag7
 have hf:=ae9 oN hi ht
 refine aq (p:=100<(raw.length:Int)) (fun h1=>?_) (fun h1=>?_)
 ·exact .done rfl
 obtain⟨k',ec⟩:∃x,x=(if 5<w then 5 else w):=⟨_,rfl⟩
 have afQ:raw.length≤100000:=by omega
 have ov:aC.length≤400:=hlen
 obtain⟨wv,so⟩:∃wv,(eS (wW k') raw 1200).1=wv:=⟨_,rfl⟩
 have vC:wv.length=1200:=by rw[← so];exact J9 _ _ _
 have hW:∀σ,ACalls Tryz.prog 26 [.int .i64 (if 5<w then 5 else w),.int .i64 1200,.af (.int .i64) raw] σ (aE (.af ft wv) σ):=fun σ=>by
  rw[← ec,← so];exact aej k' _ 1200 raw σ rfl (by omega) afQ
 have VC:∀σ,ACalls Tryz.prog 13 [.agg (bU s),.int .i64 (if 5<w then 5 else w),.af ft (aC++wv)] σ (fun r σ'=>∃(x:AV) (a b c e:Int),r=.tup [.agg [x,.int .i64 a,.int .i64 b,.int .i64 c],.int .i64 e]∧L0 s x e∧σ'=σ):=fun σ=>by
  rw[← ec]
  by_cases he:dv s k'=0
  ·obtain⟨n,hn,ry,tJ⟩:=aeX hf he
   rw[hn]
   refine (Zz s n (aC++wv) σ hf (hn▸he) (by rw[bP];omega)).mono ?_
   rintro _ _ ⟨⟨e,j,us,rfl⟩ | rfl,rfl⟩
   ·exact⟨_,_,_,_,_,rfl,.inl ⟨rfl,rfl,(Ay hf (hn▸he)).1.iS⟩,rfl⟩
   ·exact⟨_,_,_,_,_,rfl,.inr ⟨rfl,by decide⟩,rfl⟩
  ·refine (ada s k' (aC++wv) σ hf he).mono ?_
   rintro _ _ ⟨rfl,rfl⟩
   exact⟨_,_,_,_,_,rfl,.inr ⟨rfl,he⟩,rfl⟩
 clear ec
 refine gz.Hz (S:= {q:Nat×AV×Int×Int×Int×Int // L0 s q.2.1 q.2.2.2.2.2}) [7] (.one 1 false (.one 3 false (.one 5 false (.one 6 false (.alt 0 (.alt 2 (.alt 4 (.A2 7 (.alt 8 (.alt 9 (.one 10 false (.one 11 false (.one 12 false (.one 13 false (.one 14 false (.one 15 false .stop)))))) (.one 13 false (.one 9 false (.one 10 false (.one 11 false (.one 12 false (.one 14 false (.one 15 false .stop)))))))) (.one 13 false (.one 8 false (.one 9 false (.one 10 false (.one 11 false (.one 12 false (.one 14 false (.one 15 false .stop))))))))) (.one 13 false (.one 7 true (.one 8 false (.one 9 false (.one 10 false (.one 11 false (.one 12 false (.one 14 false (.one 15 false .stop)))))))))) (.one 13 false (.one 4 false (.one 7 true (.one 8 false (.one 9 false (.one 10 false (.one 11 false (.one 12 false (.one 14 false (.one 15 false .stop))))))))))) (.one 13 false (.one 2 false (.one 4 false (.one 7 true (.one 8 false (.one 9 false (.one 10 false (.one 11 false (.one 12 false (.one 14 false (.one 15 false .stop)))))))))))) (.alt 2 (.alt 0 (.alt 4 (.A2 7 (.alt 8 (.alt 9 (.one 10 false (.one 11 false (.one 12 false (.one 13 false (.one 14 false (.one 15 false .stop)))))) (.one 13 false (.one 9 false (.one 10 false (.one 11 false (.one 12 false (.one 14 false (.one 15 false .stop)))))))) (.one 13 false (.one 8 false (.one 9 false (.one 10 false (.one 11 false (.one 12 false (.one 14 false (.one 15 false .stop))))))))) (.one 13 false (.one 7 true (.one 8 false (.one 9 false (.one 10 false (.one 11 false (.one 12 false (.one 14 false (.one 15 false .stop)))))))))) (.one 13 false (.one 4 false (.one 7 true (.one 8 false (.one 9 false (.one 10 false (.one 11 false (.one 12 false (.one 14 false (.one 15 false .stop))))))))))) (.alt 4 (.alt 0 (.A2 7 (.alt 8 (.alt 9 (.one 10 false (.one 11 false (.one 12 false (.one 13 false (.one 14 false (.one 15 false .stop)))))) (.one 13 false (.one 9 false (.one 10 false (.one 11 false (.one 12 false (.one 14 false (.one 15 false .stop)))))))) (.one 13 false (.one 8 false (.one 9 false (.one 10 false (.one 11 false (.one 12 false (.one 14 false (.one 15 false .stop))))))))) (.one 13 false (.one 7 true (.one 8 false (.one 9 false (.one 10 false (.one 11 false (.one 12 false (.one 14 false (.one 15 false .stop)))))))))) (.A2 7 (.alt 0 (.alt 8 (.alt 9 (.one 10 false (.one 11 false (.one 12 false (.one 13 false (.one 14 false (.one 15 false .stop)))))) (.one 13 false (.one 9 false (.one 10 false (.one 11 false (.one 12 false (.one 14 false (.one 15 false .stop)))))))) (.one 13 false (.one 8 false (.one 9 false (.one 10 false (.one 11 false (.one 12 false (.one 14 false (.one 15 false .stop))))))))) (.alt 8 (.one 0 false (.alt 9 (.one 10 false (.one 11 false (.one 12 false (.one 13 false (.one 14 false (.one 15 false .stop)))))) (.one 13 false (.one 9 false (.one 10 false (.one 11 false (.one 12 false (.one 14 false (.one 15 false .stop))))))))) (.one 13 false (.alt 0 (.one 8 false (.one 9 false (.one 10 false (.one 11 false (.one 12 false (.one 14 false (.one 15 false .stop))))))) (.one 8 false (.one 0 false (.one 9 false (.one 10 false (.one 11 false (.one 12 false (.one 14 false (.one 15 false .stop)))))))))))) (.one 13 false (.one 7 true (.alt 0 (.one 8 false (.one 9 false (.one 10 false (.one 11 false (.one 12 false (.one 14 false (.one 15 false .stop))))))) (.one 8 false (.one 0 false (.one 9 false (.one 10 false (.one 11 false (.one 12 false (.one 14 false (.one 15 false .stop))))))))))))) (.one 13 false (.alt 0 (.one 4 false (.one 7 true (.one 8 false (.one 9 false (.one 10 false (.one 11 false (.one 12 false (.one 14 false (.one 15 false .stop))))))))) (.one 4 false (.one 7 true (.alt 0 (.one 8 false (.one 9 false (.one 10 false (.one 11 false (.one 12 false (.one 14 false (.one 15 false .stop))))))) (.one 8 false (.one 0 false (.one 9 false (.one 10 false (.one 11 false (.one 12 false (.one 14 false (.one 15 false .stop))))))))))))))) (.one 13 false (.alt 0 (.one 2 false (.one 4 false (.one 7 true (.one 8 false (.one 9 false (.one 10 false (.one 11 false (.one 12 false (.one 14 false (.one 15 false .stop)))))))))) (.one 2 false (.alt 0 (.one 4 false (.one 7 true (.one 8 false (.one 9 false (.one 10 false (.one 11 false (.one 12 false (.one 14 false (.one 15 false .stop))))))))) (.one 4 false (.one 7 true (.alt 0 (.one 8 false (.one 9 false (.one 10 false (.one 11 false (.one 12 false (.one 14 false (.one 15 false .stop))))))) (.one 8 false (.one 0 false (.one 9 false (.one 10 false (.one 11 false (.one 12 false (.one 14 false (.one 15 false .stop))))))))))))))))))))) (fun q=>[(4,.ptr b3 0),(9,.ptr q.1.1 0),(10,.int .i64 q.1.2.2.2.2.2)]) (fun q=>(q.1.1,[q.1.2.1,.int .i64 q.1.2.2.1,.int .i64 q.1.2.2.2.1,.int .i64 q.1.2.2.2.2.1])::(b3,bU s)::[]) (by kernel_rfl) ?_ ?_
 ·repeat' first
   |refine And.intro ?_ ?_
   |refine aa 0 ?_
   |refine aa 1 ?_
   |refine aa 2 ?_
   |refine aL [] (hW _) ?_
   |refine AppendAt.more 0 _ 0 aC.length [] _ rfl rfl (bD _) (.af ft aC rfl) (by omega) (by decide) (by decide) (fun b'=>?_)
   |refine AppendAt.more 1 _ 0 aC.length [] _ rfl rfl (bD _) (.af ft aC rfl) (by omega) (by decide) (by decide) (fun b'=>?_)
   |refine AppendAt.more 0 _ (0+aC.length) wv.length _ _ rfl rfl (Ts aC) (.af ft wv rfl) (by omega) (by decide) (by decide) (fun b'=>?_)
   |refine AppendAt.more 1 _ (0+aC.length) wv.length _ _ rfl rfl (Ts aC) (.af ft wv rfl) (by omega) (by decide) (by decide) (fun b'=>?_)
   |(refine CallAt.cJ (args':=[.agg (bU s),.int .i64 (if 5<w then 5 else w),.af ft (aC++wv)]) 0 _ 0 (0+aC.length+wv.length) 2 _ ft (aC++wv) rfl (Tq aC wv) ⟨Tt aC wv,rfl,by decide⟩ (cE (.refl _) (cE (.refl _) (cE .here (.refl _)))) ?_
     refine .mk [] _ (VC _) ?_
     rintro _ _ ⟨x,a,b,c,e,rfl,⟨rfl,rfl,hg⟩ | ⟨rfl,he⟩,rfl⟩)
   |(refine CallAt.cJ (args':=[.agg (bU s),.int .i64 (if 5<w then 5 else w),.af ft (aC++wv)]) 1 _ 0 (0+aC.length+wv.length) 2 _ ft (aC++wv) rfl (Tq aC wv) ⟨Tt aC wv,rfl,by decide⟩ (cE (.refl _) (cE (.refl _) (cE .here (.refl _)))) ?_
     refine .mk [] _ (VC _) ?_
     rintro _ _ ⟨x,a,b,c,e,rfl,⟨rfl,rfl,hg⟩ | ⟨rfl,he⟩,rfl⟩)
   |refine ai 0 ?_
   |exact cS.mk ⟨(_,.af (.slice (.int .u64)) (ke s).1,a,b,c,0),.inl ⟨rfl,rfl,hg⟩⟩ ⟨rfl,rfl,rfl,trivial⟩ (aJ rfl)
   |exact cS.mk ⟨(_,.aj,a,b,c,e),.inr ⟨rfl,he⟩⟩ ⟨rfl,rfl,rfl,trivial⟩ (aJ rfl)
   |refine fun bl=>?_
 rintro⟨⟨bf,x,a,b,c,e⟩,hP⟩ g
 have hP:L0 s x e:=hP
 rcases hP with ⟨rfl,rfl,hg⟩ | ⟨rfl,he⟩
 ·have bO:yO (ke s).1:=(zO hf hg).1.ok hg
  have hL:=fun σ=>abf s σ hf hg
  have hS:∀σ,ACalls Tryz.prog 19 [.af (.slice (.int .u64)) (ke s).1,.af (.slice (.int .u64)) (ke s).1] σ (aE (.bool true) σ):=fun σ=>x8 (Sr _ (ke s).1 _ bO) (by rw[bu rfl])
  refine .quiet (by kernel_rfl) ?_
  refine aa 0 ?_
  refine aa 1 ?_
  refine aL [] (hL _) ?_
  refine aL [] (hS _) ?_
  exact .done rfl
 ·refine ew (fun c=>?_) (fun c=>?_)
  ·refine aa 0 ?_
   exact .done rfl
  ·have c:e=0:=by simpa using c
   exact absurd c he
end Go.Proofs.YtnikdflhefijbaaGreat
namespace Go.Proofs.YtnikdflhefijbaaGreat
open Go.ChangeShapes Go.WideShapes Go.ChangeAt Go.RowKit
theorem gA{a b:Bool}(ha:a=true)(hb:b=true):(a&&b)=true:=by rw[ha,hb];rfl
theorem Fc:laidOutB Tryz.prog=true:=by kernel_rfl
theorem fk3:mapsRowed Tryz.prog=true:=by kernel_rfl
theorem fk7:(Tryz.prog.stops == [])=true:=by kernel_rfl
theorem fk9:(Tryz.prog.stopKnobs == [])=true:=by kernel_rfl
theorem agp:(Rows.solveRunsRow.plainKeys == Tryz.prog.plainKeys)=true:=by kernel_rfl
theorem ago:Tryz.prog.stopsHeard=true:=by kernel_rfl
theorem agn:Tryz.prog.mayEnter=true:=by kernel_rfl
theorem agm:(Rows.solveRunsRow.lifted == Tryz.prog.liftsFinal)=true:=by kernel_rfl
theorem agl:(Tryz.prog.make == some Rows.solveRunsRow.make)=true:=by kernel_rfl
theorem agj:ownKnob Tryz.prog.godebug=none:=by kernel_rfl
theorem va{F:Nat→Prop}{w:World}{x:AV}{xs:List AV}{v:Value}{vs:List Value}(h:aA F w x v)(t:jf F w xs vs.toArray):jf F w (x::xs) (v::vs).toArray:=by
 refine⟨by have:=t.1;simp at this ⊢;exact this,fun i y hy=>?_⟩
 cases i with
 |zero=>simp at hy;subst hy;simpa [Array.getD]using h
 |succ i=>
  have:=t.2 i y (by simpa using hy)
  rw[jL]at this ⊢
  simpa using this
theorem vn{F:Nat→Prop}{w:World}:jf F w [] ([]:List Value).toArray:=⟨rfl,fun i y hy=>by simp at hy⟩
theorem vi{F:Nat→Prop}{w:World}{k:IntKind}{n:Int}:aA F w (.int k n) (.int k n):=.int k n
theorem vl{w:World}{e:Sh}{a:Option Addr}{n c:Nat}{l:List e.T}(hp:(Sh.slice e).pos=true)(h:Reads w (.slice e) (Value.slice a n c).cells.toList l):aA (fun b=>b<w.heap.size) w (.af e l) (.slice a n c):=
 .af e l _ (QX (.slice e) _ l hp h)
theorem vg{w:World}{s:Sh}{cs:Array Value}{d:s.T}(hp:s.pos=true)(h:Reads w s (Value.agg cs).cells.toList d):aA (fun b=>b<w.heap.size) w (.agg (s.cells d)) (.agg cs):=by
 obtain⟨h1,h2⟩:=kV.cells s _ d (QX s _ d hp h)
 refine .agg _ _ (by rw[h1];rfl) (fun i x hx=>(h2 i x hx).1) (fun i x hx=>?_)
 have:=(h2 i x hx).2
 rw[bg,BF,← jL]at this
 exact this
theorem PL{w:World}{e:Sh}{cs:List Value}{l:List e.T}(h:Reads w (.slice e) cs l):∀x∈l,∃cs',Reads w e cs' x:=by
 obtain⟨a,c,_,_,_,_,h3⟩:=h
 intro x hx
 obtain⟨i,hi,rfl⟩:=xI.1 hx
 obtain⟨b,o,_,h4⟩:=h3 (List.ne_nil_of_mem hx)
 obtain⟨cs',_,_,h5⟩:=h4 i hi
 exact⟨cs',h5⟩
theorem Kh{w:World}{cs:List Value}{l:List Int}(h:Reads w (.slice (.int .u64)) cs l):∀z∈l,0≤z∧z<18446744073709551616:=fun z hz=>by
 obtain⟨cs',h1,h2⟩:=PL h z hz
 exact wf_u64 h2
theorem Wx{w:World}{e:Sh}{cs:List Value}{x:List Int×List Int×e.T×Unit}(h:Reads w (.field (.slice (.int .u64)) (.field (.slice (.int .u64)) (.field e .nil))) cs x):(∀z∈x.1,0≤z∧z<18446744073709551616)∧(∀z∈x.2.1,0≤z∧z<18446744073709551616):=by
 obtain⟨c1,c2,_,_,h1,d1,d2,_,_,h2,_⟩:=h
 exact⟨Kh h1,Kh h2⟩
theorem Qy{w:World}{c1 e1:Sh}{cs:List Value}{x:Int×Int×Int×c1.slice.T×List Int×List Int×List (List Int×List Int×e1.T×Unit)×Unit}(h:Reads w (.field (.int .i64) (.field (.int .i64) (.field (.int .i64) (.field (.slice c1) (.field (.slice (.int .i64)) (.field (.slice (.int .u64)) (.field (.slice (.field (.slice (.int .u64)) (.field (.slice (.int .u64)) (.field e1 .nil)))) .nil))))))) cs x):(∀z∈x.2.2.2.2.2.1,0≤z∧z<18446744073709551616)∧∀t∈x.2.2.2.2.2.2.1,(∀z∈t.1,0≤z∧z<18446744073709551616)∧(∀z∈t.2.1,0≤z∧z<18446744073709551616):=by
 obtain⟨_,_,_,_,_,_,_,_,_,_,_,_,_,_,_,_,_,_,_,_,_,_,_,_,_,_,_,_,_,h6,_,_,_,_,h7,_⟩:=h
 refine⟨Kh h6,fun t ht=>?_⟩
 obtain⟨cs',h1⟩:=PL h7 t ht
 exact Wx h1
end Go.Proofs.YtnikdflhefijbaaGreat
