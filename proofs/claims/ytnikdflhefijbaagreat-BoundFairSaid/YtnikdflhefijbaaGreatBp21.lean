import Derived.Test.YtnikdflhefijbaaGreatBp20
import Derived.Test.YtnikdflhefijbaaGreatBp14
import Derived.Test.YtnikdflhefijbaaGreatBp19
import Derived.Test.YtnikdflhefijbaaGreatBp11
import Derived.Test.YtnikdflhefijbaaGreatBp7
import Derived.Test.YtnikdflhefijbaaGreatBp10
import Derived.Test.YtnikdflhefijbaaGreatBp8
import Derived.Test.YtnikdflhefijbaaGreatBp2
import Derived.Test.YtnikdflhefijbaaGreatBp15
import Derived.Shelf.Slices.Delete
import Derived.Below
import Derived.ChangeOld
import Derived.OpenShut
import Derived.ProofKit
import Derived.Test.YtnikdflhefijbaaGreatRows
import Derived.WalkKit
namespace Go.Proofs.YtnikdflhefijbaaGreat
open Go.RowKit
set_option maxRecDepth 100000
set_option maxHeartbeats 4000000
def Bm(s:Sy)(v i:Nat):Int:=((pF s).1.getD v []).getD i 0
theorem abW{a:List Int}{n:Nat}(h:a.length=n):(List.range n).map (fun i=>a.getD i 0)=a:=by
 subst h
 refine List.ext_getElem (by simp) fun i h1 h2=>?_
 rw[JU,J4,aR,bc h2];rfl
def tM(s:Sy)(l:Lay)(ws:List Int):List (List Int):=(List.range (nN s)).map fun v=>(List.range (nW l)).map fun i=>ws.getD (v*nW l+i) 0
theorem Gy{s:Sy}{l:Lay}{ws:List Int}{v:Nat}(h:v<nN s):(tM s l ws).getD v []=(List.range (nW l)).map fun i=>ws.getD (v*nW l+i) 0:=by
 unfold tM
 rw[aR,eU,wS h];rfl
theorem w8{f:Nat→Int}{n i:Nat}(h:i<n):((List.range n).map f).getD i 0=f i:=by
 rw[aR,eU,wS h];rfl
def pU(s:Sy):List Nat:=(List.range (nN s)).filter fun u=>s.aL.any fun e=>decide (e.2.1=(u:Int))
def yc(s:Sy)(l:Lay)(c:Nat→Int):Nat:=sr s.what s.w ((List.range (nW l)).map c)
section
variable {s:Sy} {l:Lay} (hs:LS s l)
include hs
theorem LS.GF{f:Nat→Int}(h:∀i,i<nW l→fL s.what s.w i (f i)):eF s.what s.w ((List.range (nW l)).map f):=
 (hs.rG).2 ⟨by simp,fun i hi=>by rw[w8 hi];exact h i hi⟩
theorem Qu{ws:List Int}(h:MV s l ws):mb s (tM s l ws):=by
 refine⟨by unfold tM;rw[cb,oY];exact hs.nn.1.symm,fun x hx=>?_⟩
 obtain⟨v,hv,rfl⟩:=cY.1 hx
 exact hs.GF fun i hi=>h.cells v i (fA.1 hv) hi
theorem L0{v:Nat}(hv:v<nN s):eF s.what s.w ((pF s).1.getD v []):=(CM hs.fit hs.ia).1.get (by have:=hs.nn;omega)
theorem aaI{v:Nat}(hv:v<nN s):SX.l6 (cJ s l hs) (Bm s) v=(pF s).1.getD v []:=abW ((hs.rG).1 (L0 hs hv)).1
theorem L8{v u:Nat}(hu:u∈wA s v):v<nN s∧u<nN s∧∃e∈s.aL,e.1=(v:Int)∧e.2.1=(u:Int):=by
 obtain⟨z,hz,rfl⟩:=cY.1 hu
 obtain⟨h1,h2,e,he,e1,e2⟩:=lu.1 hz
 have:=hs.nn
 exact⟨by omega,by omega,e,he,e1,by omega⟩
theorem aej{e:bg}(he:e∈s.aL):e.2.1.toNat∈wA s e.1.toNat:=by
 have h:=hs.ia.vW e he
 refine cY.2 ⟨e.2.1,lu.2 ⟨h.2,by omega,e,he,by omega,rfl⟩,rfl⟩
theorem R6:SX.N5 (cJ s l hs) (Bm s):=by
 obtain⟨hv,Ey,_,_⟩:=CM hs.fit hs.ia
 refine⟨fun v i cX hi=>((hs.rG).1 (L0 hs cX)).2 i hi,fun v cX u hu i hi=>?_⟩
 obtain⟨h1,h2,e,he,e1,e2⟩:=L8 hs hu
 have D3:=(KB hs.fit hs.ia hv u s.aL.length (aM _)).2 e (by rw[ig];exact he) e2
 rw[← CK s _ (show ((u:Nat):Int)<s.n by have:=hs.nn;omega),← Ey,show e.1.toNat=v by omega]at D3
 have:=(hs.yd D3.1 D3.2.1).1 D3 i hi
 rw[aaI hs cX]
 exact this
theorem Ua:SX.I1 (cJ s l hs) (pU s) (yc s l):=by
 refine⟨List.Pairwise.filter _ Cd,fun v hv u hu=>?_,fun c i x hi hc hx aO=>?_⟩
 ·obtain⟨h1,h2,e,he,e1,e2⟩:=L8 hs hu
  exact ki.2 ⟨fA.2 h2,nT.2 ⟨e,he,aY e2⟩⟩
 ·have hi:i<nW l:=hi
  have hw:=hs.vH
  have jU:∀j,j<nW l→fL s.what s.w j (if j=i then dx s.what (c i) x else c j):=fun j hj=>by
   by_cases e:j=i
   ·subst e;rw[ag rfl];exact Cx hw (hc j hj) hx
   ·rw[ah e];exact hc j hj
  have v1:=hs.GF (f:=c) hc
  have v2:=hs.GF (f:=fun j=>if j=i then dx s.what (c i) x else c j) jU
  have hle:dy s.what s.w ((List.range (nW l)).map c) ((List.range (nW l)).map fun j=>if j=i then dx s.what (c i) x else c j):=(hs.yd v1 v2).2 fun j hj=>by
   rw[w8 hj,w8 hj]
   by_cases e:j=i
   ·subst e;rw[ag rfl];exact SX.Ma (A:=cJ s l hs) (hc j hj) hx
   ·rw[ah e];exact Cw hw (hc j hj)
  obtain⟨h1,h2⟩:=L4 hle
  rcases wR h1 with h3 | h3
  ·exact h3
  ·have h4:=congrArg (fun a=>a.getD i 0) (h2 h3)
   rw[w8 hi,w8 hi,ag rfl]at h4
   exact absurd h4.symm aO
end
theorem PN{s:Sy}{a:List (List Int)}{y:List Int}(v:Nat)(h0:dy s.what s.w (ik s v) y)(he:∀(i:Nat) (hi:i<s.aL.length),s.aL[i].2.1=v→dy s.what s.w (jO s (a.getD s.aL[i].1.toNat []) s.aL[i].1.toNat) y):∀k,k≤s.aL.length→dy s.what s.w (og s a k v) y
 | 0,_=>h0
 |k+1,hk=>by
  have ih:=PN v h0 he k (by omega)
  rw[Ap s a (by omega)]
  unfold zm
  split
  ·next hc=>exact dy.join ih (he k (by omega) hc)
  ·exact ih
def pQ(s:Sy)(l:Lay)(ws ws':List Int):Prop:=∀v i,v<nN s→i<nW l→dx s.what (ws.getD (v*nW l+i) 0) (ws'.getD (v*nW l+i) 0)=ws'.getD (v*nW l+i) 0
structure WI(s:Sy)(l:Lay)(hs:LS s l)(a:WA)(us:Nat):Prop where
 free:tV s l a
 ref:∃D T,RJ s l hs a.W a.ws D T (us+1)∧SX.VI (cJ s l hs) (Bm s) (bO s l a.W a.ws D)∧(∀v,v<nN s→SX.yG (cJ s l hs) (bO s l a.W a.ws D) v)∧SX.Rest (bO s l a.W a.ws D)∧SX.EI (bO s l a.W a.ws D) (nN s)∧SX.JI (bO s l a.W a.ws D) (pU s) (yc s l)
 low:∀v i,v<nN s→i<nW l→dx s.what (wd (ik s v) i) (a.ws.getD (v*nW l+i) 0)=a.ws.getD (v*nW l+i) 0
section
variable {s:Sy} {l:Lay} {hs:LS s l}
theorem vc{W:List WS}{ws:List Int}{D:List (List Nat)}{v i:Nat}(hv:v<nN s)(hi:i<nW l):(bO s l W ws D).cell v i=ws.getD (v*nW l+i) 0:=ag ⟨hv,hi⟩
theorem WI.word{a:WA}{us:Nat}(h:WI s l hs a us){v i:Nat}(hv:v<nN s)(hi:i<nW l):fL s.what s.w i (a.ws.getD (v*nW l+i) 0):=h.free.fl.2.cells v i hv hi
theorem pQ.refl{a:WA}{us:Nat}(h:WI s l hs a us):pQ s l a.ws a.ws:=fun _ _ hv hi=>Cw hs.vH (h.word hv hi)
theorem pQ.trans{a b c:WA}{u1 u2 u3:Nat}(h1:WI s l hs a u1)(h2:WI s l hs b u2)(h3:WI s l hs c u3)(r1:pQ s l a.ws b.ws)(r2:pQ s l b.ws c.ws):pQ s l a.ws c.ws:=fun v i hv hi=>
 SX.le_trans (A:=cJ s l hs) (h1.word hv hi) (h2.word hv hi) (h3.word hv hi) (r1 v i hv hi) (r2 v i hv hi)
theorem WI.step{a:WA}{us:Nat}(h:WI s l hs a us)(hu:us<100000000)(i:Nat)(d:Int):WI s l hs (dQ s l a i d).1 (us+1)∧pQ s l a.ws (dQ s l a i d).1.ws:=by
 obtain⟨hF,⟨D,T,hR,hV,hC,B7,hE,hJ⟩,ff⟩:=h
 obtain⟨D',T',Fq,qL⟩:=hR.step (by omega) hF i d
 have hb:=R6 hs
 obtain⟨hV',Ia⟩:=hV.step hb hR.ti qL
 have hF':=hF.step hs i d
 have hr:pQ s l a.ws (dQ s l a i d).1.ws:=fun v j hv hj=>by
  have:=Ia v j hv hj
  rw[vc hv hj,vc hv hj]at this
  exact this
 refine⟨⟨hF',⟨D',T',Fq,hV',fun v hv=>?_,B7.step hR.ti qL,hE.step qL,hJ.step (Ua hs) hR.ti hV qL⟩,fun v j hv hj=>?_⟩,hr⟩
 ·exact SX.yG.step hR.ti hV qL hv (hC v hv)
 ·exact SX.le_trans (A:=cJ s l hs) (hs.Cz hj) (hF.fl.2.cells v j hv hj) (hF'.fl.2.cells v j hv hj) (ff v j hv hj) (hr v j hv hj)
theorem Rm(hs:LS s l){v i:Nat}(hv:v<nN s)(hi:i<nW l):dx s.what (wd (ik s v) i) (Bm s v i)=Bm s v i:=by
 obtain⟨bX,Ey,_,_⟩:=CM hs.fit hs.ia
 have h1:=(KB hs.fit hs.ia bX v s.aL.length (aM _)).1
 rw[← CK s _ (show ((v:Nat):Int)<s.n by have:=hs.nn;omega),← Ey]at h1
 have:=(hs.yd h1.1 h1.2.1).1 h1 i hi
 rw[sy (ik s v)]at this
 exact this
theorem wi0(bF:kp s l):WI s l hs ⟨W0 l,dE s l⟩ 0:=by
 obtain⟨gU,mU,B3⟩:=Lc hs
 have ke:∀p∈(bO s l (W0 l) (dE s l) (D0 s l)).ph,p=.idle 0 0:=fun p hp=>by
  obtain⟨x,hx,rfl⟩:=cY.1 hp
  rw[show x=nE from yC hx];rfl
 have k8:(bO s l (W0 l) (dE s l) (D0 s l)).ev=0:=TZ (f:=fun x:WS=>x.ev.toNat) (x:=nE) rfl _
 have mR:(bO s l (W0 l) (dE s l) (D0 s l)).jo=0:=TZ (f:=fun x:WS=>x.jo.toNat) (x:=nE) rfl _
 refine⟨MI bF hs,⟨D0 s l,fun _=>1,I9 bF,⟨fun v i hv hi=>?_,fun v i hv hi=>?_,fun p hp=>?_⟩,fun v hv=>.inl ?_,fun h=>?_,?_,?_⟩,fun v i hv hi=>?_⟩
 ·rw[vc hv hi,gU v i hv hi];exact hs.Cz hi
 ·rw[vc hv hi,gU v i hv hi];exact Rm hs hv hi
 ·rw[ke p hp];trivial
 ·exact aY ⟨hv,by rw[mU v hv];decide⟩
 ·exact absurd (ke _ h) (by intro h;cases h)
 ·show SX.AS.ev _+SX.aF List.length (D0 s l)+SX.aF SX.gX _≤nN s+SX.AS.jo _
  rw[k8,mR,VP bF,SX.qY fun p hp=>by rw[ke p hp];rfl];omega
 ·show SX.AS.jo _+SX.aF SX.fJ _≤_
  rw[mR,SX.qY fun p hp=>by rw[ke p hp];rfl];omega
 ·rw[gU v i hv hi];exact Cw hs.vH (hs.Cz hi)
theorem WI.aie{a:WA}{us:Nat}(h:WI s l hs a us):mg s (tM s l a.ws) (pF s).1:=by
 obtain⟨hF,⟨D,T,hR,hV,_⟩,_⟩:=h
 refine⟨Qu hs hF.fl.2,(CM hs.fit hs.ia).1,fun v hv=>?_⟩
 have hv:v<nN s:=by have:=hs.nn;omega
 rw[Gy hv]
 refine (hs.yd (hs.GF fun i hi=>hF.fl.2.cells v i hv hi) (L0 hs hv)).2 fun i hi=>?_
 rw[w8 hi]
 have:=hV.low v i hv hi
 rw[vc hv hi]at this
 exact this
theorem abY{a b:List (List Int)}(h1:mg s a b)(h2:mg s b a):a=b:=by
 have la:=h1.1.len
 have lb:=h1.2.1.len
 refine Cn (by omega) fun i hi yl=>?_
 have:=(h1.2.2 i (by omega)).aif (h2.2.2 i (by omega))
 rw[aR,aR,bc hi,bc yl]at this
 exact this
theorem WI.solved{a:WA}{us:Nat}(h:WI s l hs a us)(h0:(a.ws.getD (nN s*nW l+nN s) 0).toNat=0):tM s l a.ws=(pF s).1:=by
 have zp:=h.aie
 obtain⟨hF,⟨D,T,hR,hV,hC,B7,hE,hJ⟩,ff⟩:=h
 refine abY zp ?_
 obtain⟨h1,h2,h3⟩:=hR.ti.quiet h0
 have JC:=Qu hs hF.fl.2
 refine (CM hs.fit hs.ia).2.2.2 _ ⟨GB hs.fit hs.ia JC,JC,fun u hu=>?_⟩
 have BS:u<nN s:=by have:=hs.nn;omega
 rw[CK s _ hu]
 have DW:=JC.get hu
 refine PN u ?_ (fun i hi he=>?_) _ (aM _)
 ·rw[Gy BS]at DW ⊢
  refine (hs.yd (GD hs.fit hs.ia u) DW).2 fun i hi=>?_
  rw[sy (ik s u),w8 hi]
  exact ff u i BS hi
 ·have hem:=cD hi
  have D3:=hs.ia.vW _ hem
  have hn:=hs.nn
  have zR:s.aL[i].1.toNat<nN s:=by omega
  have cy:=aej hs hem
  rw[he,bU]at cy
  have Jg:=JC.get (i:=s.aL[i].1.toNat) (by omega)
  have hov:=hs.Wq zR Jg
  refine (hs.yd hov DW).2 fun j hj=>?_
  have ahV:=hC _ zR
  have hle:SX.BN (cJ s l hs) (bO s l a.W a.ws D).cell s.aL[i].1.toNat u:=by
   rcases ahV with h | ⟨p,hp,h⟩ | ⟨p,hp,h⟩ | h
   ·rw[h3]at h;cases h
   ·rcases h2 p hp with ⟨d,a,rfl⟩ | rfl <;> exact h.elim
   ·rcases h2 p hp with ⟨d,a,rfl⟩ | rfl <;> exact h.elim
   ·rcases h u cy with h | ⟨p,hp,h⟩
    ·exact h
    ·rcases h2 p hp with ⟨d,a,rfl⟩ | rfl <;> exact h.elim
  have:=hle j hj
  have e1:SX.l6 (cJ s l hs) (bO s l a.W a.ws D).cell s.aL[i].1.toNat=(tM s l a.ws).getD s.aL[i].1.toNat []:=by
   rw[Gy zR]
   exact wT fun k hk=>vc zR (fA.1 hk)
  rw[e1,vc BS hj]at this
  rw[Gy BS,w8 hj]
  exact this
theorem WI.rest{a:WA}{us:Nat}(h:WI s l hs a us){x:WS}(hx:x∈a.W)(he:x.en=true):(a.ws.getD (nN s*nW l+nN s) 0).toNat=0:=by
 obtain⟨hF,⟨D,T,hR,hV,hC,B7,hE,hJ⟩,ff⟩:=h
 refine B7 (cY.2 ⟨x,hx,?_⟩)
 unfold dw
 rw[ag he]
end
theorem Uy{A:Type}(step:A→Nat→Int→A×Bool)(tell:A→Nat→A)(n:Nat):∀(p q:List (Int×Int×Unit)) (x:ju A),jE step tell n (p++q) x=jE step tell n q (jE step tell n p x)
 | [],q,x=>rfl
 |a::p,q,x=>by
  show (if x.dn.all id=true then x else jE step tell n (p++q) _)=jE step tell n q (if x.dn.all id=true then x else _)
  by_cases h:x.dn.all id=true
  ·rw[ag h,ag h]
   cases q with
   |nil=>rfl
   |cons b q=>show x=if x.dn.all id=true then x else _;rw[ag h]
  ·rw[ah h,ah h,Uy step tell n p q]
section
variable {s:Sy} {l:Lay} {hs:LS s l}
structure XI(s:Sy)(l:Lay)(hs:LS s l)(x:ju WA):Prop where
 wi:WI s l hs x.a x.us
 dn:x.dn=x.a.W.map (·.en)
 st:x.st.length=l.k.toNat
theorem Zv{s:Sy}{l:Lay}{who:Int}{x:WS}{d:Int}{ws:List Int}:(dv bj s l who x d ws).2.2=(dv bj s l who x d ws).1.en:=by
 cases he:x.en with
 |true=>unfold dv;rw[ag he];exact he.symm
 |false=>exact aaZ (s:=s) (l:=l) (who:=who) (d:=d) (ws:=ws) he
theorem XI.pick{x:ju WA}(h:XI s l hs x)(hu:x.us<100000000)(p:Int×Int×Unit):XI s l hs (iF (dQ s l) (fun a _=>a) l.k.toNat x p)∧pQ s l x.a.ws (iF (dQ s l) (fun a _=>a) l.k.toNat x p).a.ws:=by
 have kF:=hs.k1
 have pM:=yZ (p:=p.1) (show 0<l.k.toNat by omega)
 have hlen:=h.wi.free.len
 unfold iF
 by_cases hd:x.dn.getD (df p.1 l.k.toNat) true=true
 ·rw[ag hd]
  obtain⟨hw,h2,h3⟩:=h
  obtain⟨hF,⟨D,T,hR,hV,hC,B7,hE,hJ⟩,ff⟩:=hw
  exact⟨⟨⟨hF,⟨D,T,⟨hR.len,hR.fl,hR.kK,hR.dl,hR.di,oa hR,fun y hy=>by have:=hR.ev y hy;show 0≤y.ev∧y.ev≤((x.us+1+1:Nat):Int)∧0≤y.jo∧y.jo≤((x.us+1+1:Nat):Int);omega,hR.jn,hR.pn,hR.ti⟩,hV,hC,B7,hE,hJ⟩,ff⟩,h2,h3⟩,fun v i hv hi=>Cw hs.vH (hF.fl.2.cells v i hv hi)⟩
 ·rw[ah hd]
  obtain⟨h1,h2⟩:=h.wi.step hu (df p.1 l.k.toNat) p.2.1
  refine⟨⟨h1,?_,by show (x.st.set _ _).length=_;rw[ck];exact h.st⟩,h2⟩
  show x.dn.set _ _=(dQ s l x.a _ _).1.W.map (·.en)
  have hW:x.a.W[df p.1 l.k.toNat]?=some x.a.W[df p.1 l.k.toNat]:=bc (by omega)
  rw[AF hW,h.dn,Zv]
  show _=(List.set _ _ _).map _
  rw[nS]
theorem XI.go:∀(af:List (Int×Int×Unit)) {x:ju WA},XI s l hs x→x.us+af.length<100000000→XI s l hs (oU s l af x)∧pQ s l x.a.ws (oU s l af x).a.ws
 | [],x,h,_=>⟨h,pQ.refl h.wi⟩
 |p::af,x,h,hu=>by
  show XI s l hs (if x.dn.all id=true then x else oU s l af (iF (dQ s l) (fun a _=>a) l.k.toNat x p))∧pQ s l x.a.ws (if x.dn.all id=true then x else oU s l af (iF (dQ s l) (fun a _=>a) l.k.toNat x p)).a.ws
  have hl:x.us+(af.length+1)<100000000:=hu
  by_cases hd:x.dn.all id=true
  ·rw[ag hd];exact⟨h,pQ.refl h.wi⟩
  ·rw[ah hd]
   obtain⟨h1,h2⟩:=h.pick (by omega) p
   have gi:(iF (dQ s l) (fun a _=>a) l.k.toNat x p).us=x.us+1:=by unfold iF;split <;> rfl
   obtain⟨h3,h4⟩:=XI.go af h1 (by rw[gi];omega)
   exact⟨h3,pQ.trans h.wi h1.wi h3.wi h2 h4⟩
theorem xi0(bF:kp s l):XI s l hs (zG s l):=⟨wi0 bF,by show List.replicate _ _=(List.replicate _ _).map _;rw[List.map_replicate];rfl,fZ⟩
theorem XI.all{x:ju WA}(h:XI s l hs x)(hd:x.dn.all id=true):tM s l x.a.ws=(pF s).1:=by
 have kF:=hs.k1
 have hlen:=h.wi.free.len
 have h0:0<x.a.W.length:=by omega
 refine h.wi.solved (h.wi.rest (cD h0) ?_)
 rw[h.dn,List.all_map]at hd
 exact fp.1 hd _ (cD h0)
end
set_option maxHeartbeats 4000000
section
variable {s:Sy} {l:Lay} {I:List (Nat×Nat)}
end
theorem acb{A:Type}(step:A→Nat→Int→A×Bool)(tell:A→Nat→A)(n:Nat){x:ju A}(h:x.dn.all id=true):∀af:List (Int×Int×Unit),jE step tell n af x=x
 | []=>rfl
 |p::af=>by show (if x.dn.all id=true then x else _)=x;rw[ag h]
theorem abj(s:Sy)(l:Lay){af:List (Int×Int×Unit)}{i:Nat}(hd:(cW s l (af.take i)).dn.all id=true):cW s l af=cW s l (af.take i):=by
 have e:cW s l af=oU s l (af.drop i) (cW s l (af.take i)):=by
  unfold cW oU
  rw[← Uy,yB]
 rw[e]
 exact acb _ _ _ hd _
theorem U4(s:Sy)(l:Lay):∀(af:List (Int×Int×Unit)) (x:ju WA),(oU s l af x).us≤x.us+af.length
 | [],x=>FN _ _
 |p::af,x=>by
  show (if x.dn.all id=true then x else oU s l af (iF (dQ s l) (fun a _=>a) l.k.toNat x p)).us≤x.us+(af.length+1)
  split
  ·omega
  ·have h:=U4 s l af (iF (dQ s l) (fun a _=>a) l.k.toNat x p)
   have gi:(iF (dQ s l) (fun a _=>a) l.k.toNat x p).us=x.us+1:=by unfold iF;split <;> rfl
   omega
theorem af8{s:Sy}{l:Lay}{hs:LS s l}(bF:kp s l)(af:List (Int×Int×Unit))(h:af.length≤100000):XI s l hs (cW s l af):=
 ((xi0 bF).go af (by show 0+af.length<_;omega)).1
theorem abA{s:Sy}{l:Lay}{hs:LS s l}{x:ju WA}(h:XI s l hs x)(p:Int×Int×Unit):(iF (dQ s l) (fun a _=>a) l.k.toNat x p).a=(dQ s l x.a (df p.1 l.k.toNat) p.2.1).1∧(iF (dQ s l) (fun a _=>a) l.k.toNat x p).dn=x.dn.set (df p.1 l.k.toNat) (dQ s l x.a (df p.1 l.k.toNat) p.2.1).2∧(iF (dQ s l) (fun a _=>a) l.k.toNat x p).us=x.us+1:=by
 have kF:=hs.k1
 have hlen:=h.wi.free.len
 have pM:=yZ (p:=p.1) (show 0<l.k.toNat by omega)
 have hW:x.a.W[df p.1 l.k.toNat]?=some x.a.W[df p.1 l.k.toNat]:=bc (by omega)
 unfold iF
 by_cases hd:x.dn.getD (df p.1 l.k.toNat) true=true
 ·rw[ag hd]
  have mj:=h.dn
  have he:x.a.W[df p.1 l.k.toNat].en=true:=by
   rw[mj,aR,eU,hW]at hd
   exact hd
  have e:dv bj s l (df p.1 l.k.toNat) x.a.W[df p.1 l.k.toNat] p.2.1 x.a.ws=(x.a.W[df p.1 l.k.toNat],x.a.ws,true):=ag he
  rw[AF hW,e]
  dsimp only
  rw[n0 hW]
  refine⟨rfl,?_,rfl⟩
  rw[n0]
  rw[mj,eU,hW]
  exact congrArg some he
 ·rw[ah hd]
  exact⟨rfl,rfl,rfl⟩
set_option maxHeartbeats 4000000
theorem Lo:∀(l m:List Nat),l.Nodup→(∀x∈l,x∈m)→l.length≤m.length
 | [],_,_,_=>bK _
 |a::l,m,hn,h=>by
  obtain⟨h1,h2⟩:=lp.1 hn
  have ha:=h a (bV ..)
  have h3:=Lo l (m.erase a) h2 fun x hx=>(FR (fun e:x=a=>h1 (by rw[← e];exact hx))).2 (h x (cE _ hx))
  rw[List.length_erase,ag ha]at h3
  have:=Co ha
  show l.length+1≤_
  omega
section
variable {s:Sy} {l:Lay} {hs:LS s l}
theorem afa(_:LS s l):(pU s).length≤nN s∧(pU s).length≤(fS s.aL).length:=by
 refine⟨?_,?_⟩
 ·have:=Cp (fun u:Nat=>s.aL.any fun e=>decide (e.2.1=(u:Int))) (List.range (nN s))
  rw[oY]at this
  exact this
 ·have:=Lo (pU s) ((fS s.aL).map fun e=>e.2.1.toNat) (List.Pairwise.filter _ Cd) fun u hu=>by
   obtain⟨_,h2⟩:=ki.1 hu
   obtain⟨e,he,h3⟩:=nT.1 h2
   refine cY.2 ⟨e,(Gh _ _).2 he,?_⟩
   rw[fP h3];exact bU _
  rw[cb]at this
  exact this
end
set_option maxHeartbeats 4000000
theorem abB{s:Sy}{l:Lay}(n:Nat)(x:ju WA)(p:Int×Int×Unit):(iF (dQ s l) (fun a _=>a) n x p).dn.length=x.dn.length∧(iF (dQ s l) (fun a _=>a) n x p).a.W.length=x.a.W.length:=by
 unfold iF
 split
 ·exact⟨rfl,rfl⟩
 ·refine⟨ck ..,?_⟩
  show (dQ s l x.a _ _).1.W.length=_
  unfold dQ
  split
  ·exact ck ..
  ·rfl
theorem Vl{s:Sy}{l:Lay}(n:Nat):∀(af:List (Int×Int×Unit)) (x:ju WA),(jE (dQ s l) (fun a _=>a) n af x).dn.length=x.dn.length∧(jE (dQ s l) (fun a _=>a) n af x).a.W.length=x.a.W.length
 | [],x=>⟨rfl,rfl⟩
 |p::af,x=>by
  show (if x.dn.all id=true then x else jE (dQ s l) (fun a _=>a) n af (iF (dQ s l) (fun a _=>a) n x p)).dn.length=_∧(if x.dn.all id=true then x else jE (dQ s l) (fun a _=>a) n af (iF (dQ s l) (fun a _=>a) n x p)).a.W.length=_
  split
  ·exact⟨rfl,rfl⟩
  ·have h1:=Vl (s:=s) (l:=l) n af (iF (dQ s l) (fun a _=>a) n x p)
   have h2:=abB (s:=s) (l:=l) n x p
   exact⟨h1.1.trans h2.1,h1.2.trans h2.2⟩
theorem adt(s:Sy)(l:Lay)(af:List (Int×Int×Unit)):(cW s l af).dn.length=l.k.toNat∧(cW s l af).a.W.length=l.k.toNat:=by
 have h:=Vl (s:=s) (l:=l) l.k.toNat af (zG s l)
 exact⟨h.1.trans fZ,h.2.trans fZ⟩
def agq(s:Sy)(l:Lay)(af:List (Int×Int×Unit))(r:AV):Prop:=
 ((cW s l af).dn.all id=true∧r=.tup [.agg (zf (vM l (cW s l af).a.ws (nN s)) (Ae (cW s l af).a.W) (zP (cW s l af).a.W) (cW s l af).us),.int .i64 0])∨((cW s l af).dn.all id=false∧r=.tup [.agg qh,.int .i64 11])
theorem ahb(s:Sy)(k:Nat)(l:Lay)(hl:iI s k=l)(af:List (Int×Int×Unit))(σ:Hp)(hf:Fit s)(he:cx s k=0)(oG:af.length≤100000):ACalls Tryz.prog 13 [.agg (cd s),.int .i64 k,.ai ec af] σ (fun r σ'=>agq s l af r∧σ'=σ∧kp s l):=by
 obtain⟨hs,Ft⟩:=A9 hf he
 have hk:l.k=k:=by rw[← hl];exact Hu he
 rw[hl]at hs
 have ef:=hs.k2
 have hnn:=hs.nn
 have hn:=hs.n
 obtain⟨zX,rW⟩:=adt s l af
 have e:l.k.toNat=k:=by omega
 rw[e]at zX rW
 cases hd:(cW s l af).dn.all id with
 |true=>
  refine (ag7 s k l hl af σ hf he oG (by omega) (by omega) (by omega) zX rW hd).mono ?_
  rintro _ _ ⟨rfl,rfl,bF⟩
  exact⟨.inl ⟨hd,rfl⟩,rfl,bF⟩
 |false=>
  refine (aaT s k l hl af σ hf he oG (by omega) zX hd).mono ?_
  rintro _ _ ⟨rfl,rfl,bF⟩
  exact⟨.inr ⟨hd,rfl⟩,rfl,bF⟩
theorem agH{s:Sy}{k:Int}(hf:Fit s)(he:cx s k=0):∃n:Nat,k=(n:Int)∧1≤n∧n≤64:=by
 obtain⟨hs,_⟩:=A9 hf he
 have h1:=hs.k1
 have h2:=hs.k2
 rw[Hu he]at h1 h2
 exact⟨k.toNat,by omega,by omega,by omega⟩
set_option maxHeartbeats 4000000
section
variable {s:Sy} {l:Lay} (hs:LS s l)
include hs
theorem aaf(ws:List Int):vM l ws (nN s)=tM s l ws:=by
 unfold vM tM pP
 refine wT fun v hv=>wT fun i hi=>?_
 rw[hs.Bk (fA.1 hv) (fA.1 hi),n5]
end
set_option maxHeartbeats 4000000
def vN(s:Sy)(l:Lay)(n:Nat):List fE→WA→WA
 | [],a=>a
 |p::af,a=>vN s l n af (dQ s l a (df p.1 n) p.2.1).1
section
variable {s:Sy} {l:Lay} {hs:LS s l}
theorem RP(n:Nat):∀(af:List fE) {a:WA} {D:List (List Nat)} {T:Nat→Nat} {M:Nat},RJ s l hs a.W a.ws D T M→tV s l a→M+af.length<1000000000→∃D' T',RJ s l hs (vN s l n af a).W (vN s l n af a).ws D' T' (M+af.length)∧SX.oM (cJ s l hs) (gb n af) (bO s l a.W a.ws D) (bO s l (vN s l n af a).W (vN s l n af a).ws D')
 | [],a,D,T,M,hR,_,_=>⟨D,T,hR,.nil _⟩
 |p::af,a,D,T,M,hR,hF,hM=>by
  have hM:M+(af.length+1)<1000000000:=hM
  obtain⟨D1,T1,hR1,qL⟩:=hR.step (by omega) hF (df p.1 n) p.2.1
  obtain⟨D2,T2,JD,hg⟩:=RP n af hR1 (hF.step hs _ _) (by omega)
  refine⟨D2,T2,?_,.cons qL hg⟩
  rw[show M+1+af.length=M+(p::af).length by rw[fO];omega]at JD
  exact JD
theorem RU{n:Nat}:∀(af:List fE) {a:WA},(∀x∈a.W,x.en=true)→vN s l n af a=a
 | [],_,_=>rfl
 |p::af,a,h=>by
  have e:(dQ s l a (df p.1 n) p.2.1).1=a:=by
   cases hx:a.W[df p.1 n]? with
   |none=>unfold dQ;rw[hx]
   |some x=>
    rw[AF hx]
    have e:dv bj s l (df p.1 n) x p.2.1 a.ws=(x,a.ws,true):=ag (h x (bH hx))
    rw[e]
    dsimp only
    rw[n0 hx]
  show vN s l n af (dQ s l a (df p.1 n) p.2.1).1=a
  rw[e]
  exact RU af h
theorem XI.acx{x:ju WA}(h:XI s l hs x)(hd:x.dn.all id=true):∀y∈x.a.W,y.en=true:=fun y hy=>by
 rw[h.dn,List.all_map]at hd
 exact fp.1 hd y hy
theorem Ux:∀(af:List fE) {x:ju WA},XI s l hs x→x.us+af.length<100000000→(oU s l af x).a=vN s l l.k.toNat af x.a
 | [],_,_,_=>rfl
 |p::af,x,h,hu=>by
  have hu:x.us+(af.length+1)<100000000:=hu
  by_cases hd:x.dn.all id=true
  ·rw[show oU s l (p::af) x=x from ag hd]
   exact (RU _ (h.acx hd)).symm
  ·rw[show oU s l (p::af) x=oU s l af (iF (dQ s l) (fun a _=>a) l.k.toNat x p) from ah hd]
   obtain⟨ha,_,gi⟩:=abA h p
   rw[Ux af (h.pick (by omega) p).1 (by rw[gi];omega),ha]
   rfl
theorem abD{does:Int}{node:Nat}{out:List Int}{u:Nat}{r:List Nat}{n:Nw}:phN does node out u r n≠.done:=by
 cases n with
 |none=>
  show zN does node out u r≠.done
  unfold zN
  repeat' split
  all_goals exact fun h=>by cases h
 |pop q=>show (if q.at_=5∧q.ok=true then SX.Ph.held q.x.toNat else .idle 0 q.at_)≠.done;split <;> exact fun h=>by cases h
 |take t=>show (if t.jH=true then SX.Ph.add node out u r else .take node out u r)≠.done;split <;> exact fun h=>by cases h
 |_=>exact fun h=>by cases h
theorem adL{x:WS}(h:dw x=.done):x.en=true:=by
 unfold dw at h
 split at h
 ·assumption
 ·exact absurd h abD
theorem Qw(f:Nat→Nat):∀{m:List Nat} {a:Nat},a∈m→SX.aF f m=f a+SX.aF f (m.erase a)
 |b::m,a,h=>by
  by_cases e:b=a
  ·subst e;rw[List.erase_cons_head];rfl
  ·rw[List.erase_cons_tail (by simpa using e)]
   have h2:a∈m:=by
    rcases da.1 h with h | h
    ·exact absurd h.symm e
    ·exact h
   have:=Qw f h2
   show f b+SX.aF f m=f a+(f b+SX.aF f (m.erase a))
   omega
theorem Lk(f:Nat→Nat):∀(l m:List Nat),l.Nodup→(∀x∈l,x∈m)→SX.aF f l≤SX.aF f m
 | [],_,_,_=>bK _
 |a::l,m,hn,h=>by
  obtain⟨h1,h2⟩:=lp.1 hn
  have ha:=h a (bV ..)
  have h3:=Lk f l (m.erase a) h2 fun x hx=>(FR (fun e:x=a=>h1 (by rw[← e];exact hx))).2 (h x (cE _ hx))
  rw[Qw f ha]
  show f a+SX.aF f l≤_
  omega
theorem Zz(n:Int)(es:List bg)(v:Int):(ar n es v).Nodup:=by
 unfold ar
 refine List.Pairwise.filter _ (uP.2 (List.Pairwise.imp (fun {a b} nQ e=>nQ ?_) Cd))
 have e:(a:Int)=b:=e
 omega
theorem Z4(s:Sy)(v:Nat):(wA s v).Nodup:=by
 refine uP.2 (List.Pairwise.imp_of_mem (fun {a b} ha hb aO e=>aO ?_) (Zz s.n s.aL v))
 obtain⟨x,rfl,_⟩:=UZ ha
 obtain⟨y,rfl,_⟩:=UZ hb
 have e:((x:Int)).toNat=((y:Int)).toNat:=e
 omega
theorem afB(hs:LS s l):SX.aF (fun v=>(wA s v).length) (List.range (nN s))≤(fS s.aL).length:=by
 have h1:=LY (fun _:bg=>1) (fun e:bg=>e.1.toNat) (nN s) (fS s.aL) fun e he=>by
  have:=hs.ia.vW e ((Gh _ _).1 he)
  have:=hs.nn
  omega
 rw[G1]at h1
 rw[← h1]
 refine SX.LZ fun v hv=>?_
 rw[G1]
 have:=Lo (wA s v) (((fS s.aL).filter fun e:bg=>decide (e.1.toNat=v)).map fun e=>e.2.1.toNat) (Z4 s v) fun u hu=>by
  obtain⟨_,_,e,he,h3,h4⟩:=L8 hs hu
  refine cY.2 ⟨e,ki.2 ⟨(Gh _ _).2 he,aY (by omega)⟩,by omega⟩
 rw[cb]at this
 exact this
theorem Sp{α:Type}(f:α→Nat)(h:Nat):∀l:List α,SX.aF (fun x=>h*f x) l=h*SX.aF f l
 | []=>rfl
 |a::l=>by
  show h*f a+SX.aF (fun x=>h*f x) l=h*(f a+SX.aF f l)
  rw[Sp f h l,FD]
theorem KT(A:SX.AP)(c:Nat):∀l:List Nat,SX.aF (fun u=>c+SX.dR A u) l=l.length*(c+SX.W1 A+9)+SX.aF (fun v=>(A.nx v).length) l*SX.W1 A
 | []=>by show 0=0*_+0*_;rw[qR,qR,uN]
 |a::l=>by
  show c+(SX.W1 A+9+(A.nx a).length*SX.W1 A)+SX.aF (fun u=>c+SX.dR A u) l=(l.length+1)*(c+SX.W1 A+9)+((A.nx a).length+SX.aF (fun v=>(A.nx v).length) l)*SX.W1 A
  rw[KT A c l,lh,lh]
  omega
theorem ZU(hs:LS s l)(bF:kp s l)(h:Nat):SX.mr (cJ s l hs) (pU s) (yc s l) h (bO s l (W0 l) (dE s l) (D0 s l))≤h*((pU s).length*(2*l.k.toNat+5+SX.W1 (cJ s l hs)+9)+(fS s.aL).length*SX.W1 (cJ s l hs))+(nN s*(SX.W1 (cJ s l hs)+9)+(fS s.aL).length*SX.W1 (cJ s l hs))+7*l.k.toNat:=by
 have cy:=afB hs
 have eP:(pU s).Nodup:=List.Pairwise.filter _ Cd
 have hu:SX.aF (fun v=>(wA s v).length) (pU s)≤SX.aF (fun v=>(wA s v).length) (List.range (nN s)):=Lk _ _ _ eP fun x hx=>(ki.1 hx).1
 have h1:SX.aF (fun u=>(h-yc s l ((bO s l (W0 l) (dE s l) (D0 s l)).cell u))*(2*(cJ s l hs).k+5+SX.dR (cJ s l hs) u)) (pU s)≤h*((pU s).length*(2*l.k.toNat+5+SX.W1 (cJ s l hs)+9)+(fS s.aL).length*SX.W1 (cJ s l hs)):=by
  refine fy (SX.LZ (g:=fun u=>h*(2*l.k.toNat+5+SX.dR (cJ s l hs) u)) fun u _=>iR _ (Nat.sub_le _ _)) ?_
  rw[Sp,KT]
  refine Pa _ (Nat.add_le_add_left (iR _ ?_) _)
  exact fy hu cy
 have h2:SX.aF (SX.kR (cJ s l hs)) (D0 s l)≤nN s*(SX.W1 (cJ s l hs)+9)+(fS s.aL).length*SX.W1 (cJ s l hs):=by
  have e:=MX bF (SX.dR (cJ s l hs))
  have e2:SX.aF (SX.kR (cJ s l hs)) (D0 s l)=SX.aF (fun c=>SX.aF (SX.dR (cJ s l hs)) c) (D0 s l):=rfl
  rw[e2,e,← Ll]
  have zS:∀x∈(nD (nN s) s.aL s.entry).reverse,0≤x∧x<(nN s:Int):=fun x hx=>bF.all.rg x (wP.1 hx)
  have bZ:((nD (nN s) s.aL s.entry).reverse.map Int.toNat).Nodup:=by
   refine uP.2 (List.Pairwise.imp_of_mem (fun {a b} ha hb aO e=>aO ?_) ((List.reverse_perm _).nodup_iff.2 bF.all.nd))
   have h3:=zS a ha
   have h4:=zS b hb
   omega
  refine fy (Lk _ _ (List.range (nN s)) bZ fun v hv=>?_) ?_
  ·obtain⟨z,hz,rfl⟩:=cY.1 hv
   have:=zS z hz
   exact fA.2 (by omega)
  ·have:=KT (cJ s l hs) 0 (List.range (nN s))
   rw[oY,dK]at this
   have e3:SX.aF (fun u=>0+SX.dR (cJ s l hs) u) (List.range (nN s))=SX.aF (SX.dR (cJ s l hs)) (List.range (nN s)):=SX.Au fun x _=>dK _
   rw[← e3,this]
   exact Nat.add_le_add_left (iR _ cy) _
 have h3:SX.aF (SX.cQ (cJ s l hs) (bO s l (W0 l) (dE s l) (D0 s l)).cell) (bO s l (W0 l) (dE s l) (D0 s l)).ph≤7*l.k.toNat:=by
  refine fy (Hi _ 7 fun p hp=>?_) ?_
  ·obtain⟨x,hx,rfl⟩:=cY.1 hp
   rw[show x=nE from yC hx]
   exact aM _
  ·show ((W0 l).map dw).length*7≤_
   rw[cb,show (W0 l).length=l.k.toNat from fZ]
   omega
 unfold SX.mr
 have h2:SX.aF (SX.kR (cJ s l hs)) (bO s l (W0 l) (dE s l) (D0 s l)).dq≤_:=h2
 omega
def rq(s:Sy)(W k:Nat):Nat:=
 (nN s+(fS s.aL).length*(dZ s.what s.w).toNat)*(W+2)+6*(2*(nN s+(fS s.aL).length*(dZ s.what s.w).toNat)+k)+(1+(dZ s.what s.w).toNat)*(fS s.aL).length*W+nN s*(dZ s.what s.w).toNat*(2*k+5)
theorem abC(hs:LS s l)(bF:kp s l)(hk:l.k≤5):SX.mr (cJ s l hs) (pU s) (yc s l) (dZ s.what s.w).toNat (bO s l (W0 l) (dE s l) (D0 s l))≤rq s (SX.W1 (cJ s l hs)) l.k.toNat:=by
 refine fy (ZU hs bF _) ?_
 obtain⟨h1,h2⟩:=afa hs
 have hn:=hs.nn
 have kF:=hs.k1
 unfold rq
 generalize SX.W1 (cJ s l hs)=W
 generalize (dZ s.what s.w).toNat=h
 generalize (fS s.aL).length=e at *
 generalize (pU s).length=u at *
 generalize yj:l.k.toNat=k at *
 generalize nN s=n at *
 have a1:h*(u*(2*k+5))≤n*h*(2*k+5):=by
  rw[← wO,uO n h]
  exact iR _ (Pa _ h1)
 have a2:h*(u*(W+9))≤(e*h)*(W+9):=by
  rw[← wO,uO e h]
  exact iR _ (Pa _ h2)
 have e1:h*(u*(2*k+5+W+9)+e*W)=h*(u*(2*k+5))+h*(u*(W+9))+h*(e*W):=by
  rw[show 2*k+5+W+9=(2*k+5)+(W+9) by omega,FD u,FD,FD]
 have e2:(1+h)*e*W=e*W+h*(e*W):=by rw[lh,lh,FE,wO]
 have e3:(n+e*h)*(W+2)+7*(n+e*h)=n*(W+9)+(e*h)*(W+9):=by
  rw[← lh,uO 7,← FD]
 rw[e1,e2]
 have a3:1≤n:=hn.2.1
 generalize e*h=eh at *
 generalize (n+eh)*(W+2)=x1 at *
 omega
theorem abk(hs:LS s l)(bF:kp s l)(hk:l.k≤5)(af:List fE){K:Nat}(hF:qt l.k.toNat K (gb l.k.toNat af))(hl:(rq s (SX.W1 (cJ s l hs)) l.k.toNat+12)*K≤af.length)(oG:af.length≤10000000):
  (cW s l af).dn.all id=true∧(cW s l af).us≤(rq s (SX.W1 (cJ s l hs)) l.k.toNat+12)*K:=by
 obtain⟨m,hm⟩:∃m,m=rq s (SX.W1 (cJ s l hs)) l.k.toNat+12:=⟨_,rfl⟩
 rw[← hm]at hl ⊢
 have wD:=xi0 (hs:=hs) bF
 have ht:(af.take (m*K)).length=m*K:=by rw[sb];omega
 have hxi:XI s l hs (cW s l (af.take (m*K))):=(wD.go _ (by show 0+(af.take (m*K)).length<_;omega)).1
 have agS:(cW s l (af.take (m*K))).a=vN s l l.k.toNat (af.take (m*K)) ⟨W0 l,dE s l⟩:=Ux _ wD (by show 0+(af.take (m*K)).length<_;omega)
 obtain⟨D',T',Fq,Ff⟩:=RP (hs:=hs) l.k.toNat (af.take (m*K)) (I9 bF) (MI bF hs) (by omega)
 have pM:(gb l.k.toNat (af.take (m*K)))=(gb l.k.toNat af).take (m*K):=by unfold gb;rw[List.map_take]
 have sR:(gb l.k.toNat (af.take (m*K))).length=m*K:=by unfold gb;rw[cb,ht]
 obtain⟨oT,⟨D1,T1,_⟩,_⟩:=wi0 (hs:=hs) bF
 have hb:=R6 hs
 have hr:=Ua hs
 have hh:∀c,yc s l c≤(dZ s.what s.w).toNat:=fun c=>by
  have:=Qa (what:=s.what) (w:=s.w) ((List.range (nW l)).map c) hs.ia.uu
  unfold yc
  omega
 have uI:(W0 l).length=l.k.toNat:=fZ
 have ke:∀p∈(bO s l (W0 l) (dE s l) (D0 s l)).ph,p=.idle 0 0:=fun p hp=>by
  obtain⟨x,hx,rfl⟩:=cY.1 hp
  rw[show x=nE from yC hx];rfl
 obtain⟨gU,mU,B3⟩:=Lc hs
 have hI:SX.qE (cJ s l hs) (Bm s) (bO s l (W0 l) (dE s l) (D0 s l)):=by
  refine⟨(I9 (hs:=hs) bF).ti,⟨fun v i hv hi=>?_,fun v i hv hi=>?_,fun p hp=>?_⟩,?_,?_,fun i p c hp hc hb=>?_,fun p hp a ea=>?_⟩
  ·rw[vc hv hi,gU v i hv hi];exact hs.Cz hi
  ·rw[vc hv hi,gU v i hv hi];exact Rm hs hv hi
  ·rw[ke p hp];trivial
  ·show ((W0 l).map dw).length=l.k.toNat
   rw[cb,uI]
  ·show (D0 s l).length=l.k.toNat
   rw[(I9 (hs:=hs) bF).dl,uI]
  ·exact absurd (by rw[ke p (bH hp)];rfl) hb
  ·rw[ke p hp]at ea;cases ea;omega
 have hB:SX.Bd (cJ s l hs) (pU s) (yc s l) (dZ s.what s.w).toNat (0+m) (bO s l (W0 l) (dE s l) (D0 s l)):=by
  have hp:=abC hs bF hk
  rw[dK]
  by_cases hc:(bO s l (W0 l) (dE s l) (D0 s l)).aD=0
  ·exact .inr ⟨hc,fun p hp=>by rw[ke p hp];show 11≤m;omega⟩
  ·exact .inl ⟨hc,by omega⟩
 have j8:=SX.Bd.TM hb hr hh (K:=K) m hI hB (by rw[sR];exact aM _) (fun i hi j hj=>by
  rw[pM]at hi ⊢
  exact hF.take (m*K) i hi j hj) Ff
 have hz:=SX.Bd.zero Fq.ti j8
 have cf:(cW s l (af.take (m*K))).dn.all id=true:=by
  rw[hxi.dn,List.all_map]
  refine fp.2 fun x hx=>?_
  rw[agS]at hx
  exact adL (hz (dw x) (cY.2 ⟨x,hx,rfl⟩))
 rw[abj s l cf]
 refine⟨cf,?_⟩
 have:=U4 s l (af.take (m*K)) (zG s l)
 have h0:(zG s l).us=0:=rfl
 show (oU s l (af.take (m*K)) (zG s l)).us≤_
 omega
end
theorem mc{n:Nat}(h:n<9000000000000000000):IntKind.i64.wrap (n:Int)=n:=pv h
theorem Si{s:Sy}{l:Lay}(hs:LS s l){k:Nat}(hk:k≤64):zh s k=(rq s (SX.W1 (cJ s l hs)) k:Int)∧rq s (SX.W1 (cJ s l hs)) k≤1000000000000:=by
 have hn:=hs.nn
 have hw:=hs.Nv
 have uz:=hs.ww
 have hh:=GN s.what s.w
 have Jw:=hs.fit.x5
 have cH:(fS s.aL).length≤s.aL.length:=by rw[← Te];exact LC _ _ (aM _)
 have hc:=Lb hs.ia
 have hW:wM s=(SX.W1 (cJ s l hs):Int):=by
  unfold wM
  rw[hw]
  show _=((max (nW l) 1:Nat):Int)
  split <;> omega
 have JB:1≤SX.W1 (cJ s l hs)∧SX.W1 (cJ s l hs)≤1024:=by
  show 1≤max (nW l) 1∧max (nW l) 1≤1024
  omega
 have hH:dZ s.what s.w=((dZ s.what s.w).toNat:Int):=by omega
 have B8:(dZ s.what s.w).toNat≤2048:=by omega
 have hE:xI s=((nN s+(fS s.aL).length*(dZ s.what s.w).toNat:Nat):Int):=by
  unfold xI
  rw[ag hc,hH,hn.1]
  have b1:(fS s.aL).length*(dZ s.what s.w).toNat≤100000*2048:=jm (by omega) B8
  rw[bU,← r8,mc (by omega),← p8]
  exact mc (by omega)
 unfold zh w1 w2 w3 w4
 rw[hW,hH,hn.1,hE]
 unfold rq
 have kD:=hn.2
 generalize SX.W1 (cJ s l hs)=W at *
 generalize (dZ s.what s.w).toNat=h at *
 generalize nN s=n at *
 have he:(fS s.aL).length≤100000:=by omega
 generalize (fS s.aL).length=e at *
 have b1:e*h≤100000*2048:=jm he B8
 have b2:(n+e*h)*(W+2)≤205000000*1026:=jm (by omega) (by omega)
 have b3:(1+h)*e≤2049*100000:=jm (by omega) he
 have b4:(1+h)*e*W≤204900000*1024:=jm (by omega) JB.2
 have b5:n*h≤256*2048:=jm kD.2 B8
 have b6:n*h*(2*k+5)≤524288*133:=jm (by omega) (by omega)
 generalize hEE:n+e*h=E at *
 have c1:IntKind.i64.wrap ((W:Int)+2)=((W+2:Nat):Int):=mc (n:=W+2) (by omega)
 have c2:IntKind.i64.wrap ((E:Int)*((W+2:Nat):Int))=((E*(W+2):Nat):Int):=by rw[← r8];exact mc (by omega)
 have c3:IntKind.i64.wrap (2*(E:Int))=((2*E:Nat):Int):=by rw[show 2*(E:Int)=((2*E:Nat):Int) by omega];exact mc (by omega)
 have c4:IntKind.i64.wrap (((2*E:Nat):Int)+(k:Int))=((2*E+k:Nat):Int):=mc (n:=2*E+k) (by omega)
 have c5:IntKind.i64.wrap (6*((2*E+k:Nat):Int))=((6*(2*E+k):Nat):Int):=by rw[show 6*((2*E+k:Nat):Int)=((6*(2*E+k):Nat):Int) by omega];exact mc (by omega)
 have c6:IntKind.i64.wrap (1+(h:Int))=((1+h:Nat):Int):=mc (n:=1+h) (by omega)
 have c7:IntKind.i64.wrap (((1+h:Nat):Int)*(e:Int))=(((1+h)*e:Nat):Int):=by rw[← r8];exact mc (by omega)
 have c8:IntKind.i64.wrap ((((1+h)*e:Nat):Int)*(W:Int))=(((1+h)*e*W:Nat):Int):=by rw[← r8];exact mc (by omega)
 have c9:IntKind.i64.wrap ((n:Int)*(h:Int))=((n*h:Nat):Int):=by rw[← r8];exact mc (by omega)
 have d1:IntKind.i64.wrap (2*(k:Int))=((2*k:Nat):Int):=by rw[show 2*(k:Int)=((2*k:Nat):Int) by omega];exact mc (by omega)
 have d2:IntKind.i64.wrap (((2*k:Nat):Int)+5)=((2*k+5:Nat):Int):=mc (n:=2*k+5) (by omega)
 have d3:IntKind.i64.wrap (((n*h:Nat):Int)*((2*k+5:Nat):Int))=((n*h*(2*k+5):Nat):Int):=by rw[← r8];exact mc (by omega)
 rw[c1,c2,c3,c4,c5,c6,c7,c8,c9,d1,d2,d3]
 generalize E*(W+2)=x1 at *
 generalize (1+h)*e*W=x3 at *
 generalize n*h*(2*k+5)=x4 at *
 refine⟨?_,by omega⟩
 show IntKind.i64.wrap (IntKind.i64.wrap (IntKind.i64.wrap (IntKind.i64.wrap (0+(x1:Int))+((6*(2*E+k):Nat):Int))+(x3:Int))+(x4:Int))=_
 rw[show (0:Int)+(x1:Int)=((x1:Nat):Int) by omega,mc (n:=x1) (by omega),← p8,mc (n:=x1+6*(2*E+k)) (by omega),← p8,mc (n:=x1+6*(2*E+k)+x3) (by omega),← p8,mc (n:=x1+6*(2*E+k)+x3+x4) (by omega)]
theorem agt{k:IntKind}{a a' b b':Int}(h1:a=a')(h2:b=b'):AV.tup [.int k a,.int k b]=AV.tup [.int k a',.int k b']:=by rw[h1,h2]
theorem aeT(n:Nat)(σ:Hp)(hn:n≤256):ACalls Tryz.prog 236 [.int .u64 1,.int .u64 n] σ (aE (.tup [.int .u64 0,.int .u64 n]) σ):=by
 refine aA Tryz.func236 ?_
 refine iJ ?_
 refine iJ ?_
 refine iJ ?_
 refine iJ ?_
 refine iJ ?_
 refine .done ⟨agt ?_ ?_,rfl⟩
 ·revert hn;revert n;decide +kernel
 ·revert hn;revert n;decide +kernel
theorem ahg(n:Nat)(σ:Hp)(hn:n≤256):ACalls Tryz.prog 188 [.int .u64 1,.int .u64 n] σ (aE (.tup [.int .u64 0,.int .u64 n]) σ):=by
 refine aA Tryz.func188 ?_
 refine aB [] (aeT n _ hn) ?_
 exact .done ⟨rfl,rfl⟩
def lZ(x:Int)(n m:Nat):List Int:=List.replicate m x++List.replicate (n-m) 0
theorem XA{x:Int}{n m:Nat}(h:m≤n):(lZ x n m).length=n:=by unfold lZ;simp;omega
theorem PU{x:Int}{n m k:Nat}(hk:k≤m)(h:m+k≤n):e8 (ak (lZ x n m)) m (((ak (lZ x n m)).drop 0).take (k*1))=ak (lZ x n (m+k)):=by
 have h2:((ak (lZ x n m)).drop 0).take (k*1)=ak (List.replicate k x):=by
  rw[iB,eo]
  unfold lZ ak
  rw[← List.map_take,List.take_append_of_le_length (by simp;omega),List.take_replicate,Nat.min_eq_left hk]
 have e:ak (lZ x n m)=ak (List.replicate m x)++(ak (List.replicate k 0)++ak (List.replicate (n-(m+k)) 0)):=by
  unfold lZ ak
  rw[cM,show n-m=k+(n-(m+k)) by omega,← List.replicate_append_replicate,cM]
 have e2:ak (lZ x n (m+k))=ak (List.replicate m x)++(ak (List.replicate k x)++ak (List.replicate (n-(m+k)) 0)):=by
  unfold lZ ak
  rw[← List.replicate_append_replicate,cM,cM,dN]
 have h3:=Gn (ak (List.replicate k x)) (ak (List.replicate m x)) (ak (List.replicate k 0)) (ak (List.replicate (n-(m+k)) 0)) (by simp[ak])
 rw[show (ak (List.replicate m x)).length=m by simp[ak]]at h3
 rw[h2,e,h3,e2]
theorem SD:∀n:Nat,cz [.int .i64 0] n=ak (List.replicate n 0)
 | 0=>rfl
 |n+1=>by
  show [AV.int .i64 0]++cz [.int .i64 0] n=_
  rw[SD n];rfl
theorem X2{x:Int}{n:Nat}(h:1≤n):e8 (cz [.int .i64 0] n) 0 ([.int .i64 x]:List AV)=ak (lZ x n 1):=by
 obtain⟨k,rfl⟩:∃k,n=k+1:=⟨n-1,by omega⟩
 rw[SD]
 rfl
theorem ZY(x:Int)(n:Nat):lZ x n n=List.replicate n x:=by unfold lZ;rw[Nat.sub_self];simp
theorem ahd(x:Int)(n:Nat)(σ:Hp)(hn:n≤256)(h0:1≤n):ACalls Tryz.prog 135 [.ai (.int .i64) ([x]:List Int),.int .i64 n] σ (fun r σ'=>∃b,r=.ae b 0 n 1∧σ'=(b,ak (List.replicate n x))::σ):=by
 refine aA Tryz.func135 ?_
 have hw:∀σ,ACalls Tryz.prog 188 [.int .u64 (IntKind.u64.wrap (([x]:List Int).length:Int)),.int .u64 (IntKind.u64.wrap (n:Int))] σ (aE (.tup [.int .u64 0,.int .u64 n]) σ):=fun σ=>by
  rw[show IntKind.u64.wrap (n:Int)=n by revert hn h0;revert n;decide +kernel]
  exact ahg n σ hn
 refine aB [] (hw _) ?_
 refine aq (fun c1=>?_) (fun c1=>?_)
 ·have c1:9223372036854775807<(↑n:Int):=c1
  omega
 ·generalize hm:IntKind.i64.wrap (n:Int)=m
  obtain rfl:m=(n:Int):=by rw[← hm,IntKind.wrap_i64];omega
  refine aU ?_
  intro aG
  generalize rT:IntKind.i64.wrap (n:Int)=m2
  obtain rfl:m2=(n:Int):=by rw[← rT,IntKind.wrap_i64];omega
  refine .ae 0 aG 0 n 1 _ _ rfl rfl (by simp[u0]) (.ai (.int .i64) ([x]:List Int) rfl) h0 ?_
  refine cj (S:=Nat) (fun m=>[(7,.ae aG 0 n 1),(8,.int .i64 m)]) (fun m=>(aG,ak (lZ x n m))::σ) (fun m=>1≤m∧m≤n) (fun m=>n-m) 1 ⟨⟨aM _,h0⟩,⟨rfl,rfl,trivial⟩,by rw[← X2 h0];rfl⟩ ?_
  rintro m g ⟨FB,h20⟩
  have h1:1≤m:=FB
  have h2:m≤n:=h20
  clear FB h20
  have hlen:(ak (lZ x n m)).length=n:=by unfold ak;rw[cb,XA h2]
  refine aq (fun ab=>?_) (fun ay=>?_)
  ·have ab:m<n:=by have ab:(m:Int)<n:=ab;omega
   refine .sched [] (upto [] 10 0) (by kernel_rfl) ?_
   refine aH.mk ⟨by omega,by omega,by omega,rfl⟩ ?_
   refine aH.mk ⟨by omega,by omega,by omega,rfl⟩ ?_
   have WU:∀k:Nat,k≤n→AV.int .i64 (IntKind.i64.wrap ((m:Int)+(k:Int)))=AV.int .i64 ((m+k:Nat):Int):=fun k hk=>aW (by rw[IntKind.wrap_i64];omega)
   by_cases hk:m≤n-m
   ·refine .ae 0 aG (0+m*1) (n-m) m _ _ rfl rfl (by show 0+m*1+(n-m)*1≤_;rw[hlen];omega) (.ae 0 aG 0 m _ rfl (by show 0+m*1≤_;rw[hlen];omega)) hk ?_
    have e:=PU (x:=x) (n:=n) (aM m) (by omega)
    refine aZ (m+m) (by show n-(m+m)<n-m;omega) ⟨by show 1≤m+m;omega,by show m+m≤n;omega⟩ ⟨rfl,WU m (by omega),trivial⟩ (aJ ?_)
    show (aG,e8 (ak (lZ x n m)) (0+m*1) _)::σ=_
    rw[show 0+m*1=m by omega]
    exact congrArg (fun c=>(aG,c)::σ) e
   ·refine .part 0 aG (0+m*1) (n-m) _ rfl rfl (by show 0+m*1+(n-m)*1≤_;rw[hlen];omega) 0 aG 0 m _ rfl rfl (by show 0+m*1≤_;rw[hlen];omega) (by omega) ?_
    have e:=PU (x:=x) (n:=n) (m:=m) (k:=n-m) (by omega) (by omega)
    refine aZ (m+(n-m)) (by show n-(m+(n-m))<n-m;omega) ⟨by show 1≤m+(n-m);omega,by show m+(n-m)≤n;omega⟩ ⟨rfl,WU (n-m) (by omega),trivial⟩ (aJ ?_)
    show (aG,e8 (ak (lZ x n m)) (0+m*1) _)::σ=_
    rw[show 0+m*1=m by omega]
    exact congrArg (fun c=>(aG,c)::σ) e
  ·have ay:m=n:=by have ay:¬(m:Int)<n:=ay;omega
   subst ay
   exact .done ⟨aG,rfl,by rw[ZY]⟩
theorem tK{z:Int}(h0:0≤z)(h1:z<9000000000000000000):IntKind.i64.wrap z=z:=by rw[IntKind.wrap_i64];omega
def pt(k:Int):Nat:=if k<1 then 1 else if 64<k then 64 else k.toNat
theorem acF(k:Int):1≤pt k∧pt k≤64:=by
 unfold pt;split
 ·omega
 ·split <;> omega
theorem Q1{n:Nat}(h1:1≤n)(h2:n≤64):pt n=n:=by
 unfold pt;rw[ah (by omega),ah (by omega)];exact bU _
theorem Tu(k:Int):(if 64<(if k<1 then 1 else k) then (64:Int) else (if k<1 then 1 else k))=(pt k:Int):=by
 unfold pt
 by_cases h:k<1
 ·rw[ag h,ag h];rfl
 ·rw[ah h,ah h]
  by_cases h2:64<k
  ·rw[ag h2,ag h2];rfl
  ·rw[ah h2,ah h2];omega
theorem agi(k:Int)(σ:Hp):ACalls Tryz.prog 69 [.int .i64 k] σ (aE (.int .i64 (pt k)) σ):=by
 refine aA Tryz.func69 ?_
 exact .done ⟨aW (Tu k),rfl⟩
theorem ahi(n:Nat)(σ:Hp)(h1:1≤n)(h2:n≤64):ACalls Tryz.prog 69 [.int .i64 n] σ (aE (.int .i64 n) σ):=vf (agi n σ) (by rw[Q1 h1 h2])
theorem acX(k:Int)(σ:Hp):ACalls Tryz.prog 130 [.int .i64 k] σ (aE (.int .i64 (pt k)) σ):=by
 refine aA Tryz.func130 ?_
 exact .done ⟨aW (Tu k),rfl⟩
theorem Sj{n:Nat}{af:List fE}{i:Nat}{d:fE}(h:af[i]?=some d):(gb n af)[i]?=some (df d.1 n):=by
 unfold gb;rw[eU,h];rfl
theorem yW(n:Nat)(af:List fE):(gb n af).length=af.length:=cb _
theorem aeC(n K:Nat)(af:List fE)(σ:Hp)(h1:1≤n)(h2:n≤64)(hlen:af.length≤10000000)(hF:qt n K (gb n af)):ACalls Tryz.prog 74 [.ai ec af,.int .i64 n] σ (fun r σ'=>∃z:Int,r=.int .i64 z∧z≤K∧σ'=σ):=by
 refine aA Tryz.func74 ?_
 refine aB [] (ahi n _ h1 h2) ?_
 intro b1
 refine .cI (args':=[.ai (.int .i64) ([-1]:List Int),.int .i64 n]) 0 b1 0 1 1 _ (.int .i64) ([-1]:List Int) rfl rfl ⟨rfl,rfl,by decide⟩ (eH .here (.refl _)) ?_
 refine .mk [] _ (ahd (-1) n _ (by omega) h1) ?_
 rintro _ _ ⟨bl,rfl,rfl⟩
 refine cj (S:=Nat×List Int×Int) (fun s=>[(0,.ai ec af),(1,.int .i64 n),(5,.ae bl 0 n 1),(6,.int .i64 s.2.2),(17,.ai ec af),(18,.int .i64 af.length),(19,.int .i64 s.1)]) (fun s=>(bl,ak s.2.1)::σ) (fun s=>s.1≤af.length∧xK n (gb n af) s.1 s.2.1∧s.2.2≤K) (fun s=>af.length-s.1) (0,List.replicate n (-1),0) ⟨⟨bK _,agG n _,FP K⟩,⟨rfl,rfl,rfl,rfl,rfl,rfl,rfl,trivial⟩,rfl⟩ ?_
 rintro⟨i,last,wide⟩ g ⟨fi,Fu,E1⟩
 have hi:i≤af.length:=fi
 have hL:xK n (gb n af) i last:=Fu
 have hw:wide≤K:=E1
 clear fi Fu E1
 have BW:=hL.1
 refine aq (p:=(i:Int)<(af.length:Int)) (fun ab=>?_) (fun ay=>?_)
 ·have ab:i<af.length:=by omega
  obtain⟨d,hd⟩:∃d:fE,af[i]=d:=⟨_,rfl⟩
  have OD:=Sj (n:=n) (show af[i]?=some d from (bc ab).trans (congrArg some hd))
  obtain⟨d1,d2,du⟩:=d
  have E0:=yZ (p:=d1) (show 0<n by omega)
  have NO:=hL.gap hF E0 (by rw[yW];exact hi)
  refine aH.mk rfl (cg.mk (d1,d2,du) (by omega) ((get_some ab).trans (congrArg some hd)) ?_)
  intro aG
  refine an 0 ?_
  refine aa 0 ?_
  refine aB [] (Ec d1 d2 n _ (by omega)) ?_
  refine aK ?_
  refine aT 1 rfl (RO rfl (by rw[BW];exact E0)) ?_
  refine aK ?_
  refine cU 1 rfl (YX rfl (k:=df d1 n) _ rfl (by rw[BW];exact E0)) ?_
  have hx:IntKind.i64.wrap ((i:Int)-last.getD (df d1 n) 0)=(i:Int)-last.getD (df d1 n) 0:=tK NO.1 (by omega)
  refine aZ (i+1,last.set (df d1 n) (i:Int),if wide<IntKind.i64.wrap ((i:Int)-last.getD (df d1 n) 0) then IntKind.i64.wrap ((i:Int)-last.getD (df d1 n) 0) else wide) (by show af.length-(i+1)<af.length-i;omega) ⟨ab,hL.set OD,?_⟩ ⟨rfl,rfl,rfl,rfl,rfl,rfl,bu (by omega),trivial⟩ (.drop 0 1 (.refl _))
  show (if wide<IntKind.i64.wrap ((i:Int)-last.getD (df d1 n) 0) then IntKind.i64.wrap ((i:Int)-last.getD (df d1 n) 0) else wide)≤K
  rw[hx]
  split <;> omega
 ·have ay:i=af.length:=by omega
  subst ay
  refine cj (S:=Nat×Int) (fun s=>[(0,.ai ec af),(6,.int .i64 s.2),(40,.ae bl 0 n 1),(41,.int .i64 n),(42,.int .i64 s.1)]) (fun _=>(bl,ak last)::σ) (fun s=>s.1≤n∧s.2≤K) (fun s=>n-s.1) (0,wide) ⟨⟨bK _,hw⟩,⟨rfl,rfl,rfl,rfl,rfl,trivial⟩,rfl⟩ ?_
  rintro⟨j,wd⟩ g ⟨mS,Wx⟩
  have hj:j≤n:=mS
  have hwd:wd≤K:=Wx
  clear mS Wx
  refine aq (p:=(j:Int)<(n:Int)) (fun ab=>?_) (fun ay=>?_)
  ·have ab:j<n:=by omega
   have NO:=hL.gap hF ab (by rw[yW];exact aM _)
   refine aK ?_
   refine aT 0 rfl (RO rfl (by rw[BW];exact ab)) ?_
   have hx:IntKind.i64.wrap ((af.length:Int)-last.getD j 0)=(af.length:Int)-last.getD j 0:=tK NO.1 (by omega)
   refine aZ (j+1,if wd<IntKind.i64.wrap ((af.length:Int)-last.getD j 0) then IntKind.i64.wrap ((af.length:Int)-last.getD j 0) else wd) (by show n-(j+1)<n-j;omega) ⟨ab,?_⟩ ⟨rfl,rfl,rfl,rfl,bu (by omega),trivial⟩ (.refl _)
   show (if wd<IntKind.i64.wrap ((af.length:Int)-last.getD j 0) then IntKind.i64.wrap ((af.length:Int)-last.getD j 0) else wd)≤K
   rw[hx]
   split <;> omega
  ·have ay:j=n:=by omega
   subst ay
   refine .drop 0 1 (.done ⟨_,rfl,?_,rfl⟩)
   have hx:IntKind.i64.wrap ((af.length:Int)+1)=(af.length:Int)+1:=tK (by omega) (by omega)
   show (if IntKind.i64.wrap ((af.length:Int)+1)<wd then IntKind.i64.wrap ((af.length:Int)+1) else wd)≤K
   rw[hx]
   split <;> omega
theorem af0(n K:Nat)(af:List fE)(σ:Hp)(h1:1≤n)(h2:n≤64)(hK:1≤K)(hlen:af.length≤10000000)(hF:qt n K (gb n af)):ACalls Tryz.prog 31 [.ai ec af,.int .i64 n,.int .i64 K] σ (aE (.bool true) σ):=by
 refine aA Tryz.func31 ?_
 refine aq (fun c1=>?_) (fun c1=>?_)
 ·refine aq (fun c2=>?_) (fun c2=>?_)
  ·exact .done ⟨rfl,rfl⟩
  ·refine .mk [] _ (aeC n K af _ h1 h2 hlen hF) ?_
   rintro _ _ ⟨z,rfl,hz,rfl⟩
   refine aq (fun c3=>?_) (fun c3=>?_)
   ·exact .done ⟨rfl,rfl⟩
   ·have c3:¬(z≤(↑K:Int)):=c3
    exact absurd hz c3
 ·have c1:¬(1≤(↑K:Int)):=c1
  omega
theorem aga(k:Int)(K:Nat)(af:List fE)(σ:Hp)(hlen:af.length≤10000000)(hK:1≤K)(uK:K≤af.length):ACalls Tryz.prog 72 [.ai ec af,.int .i64 k,.int .i64 K] σ (Nt (qt (pt k) K (gb (pt k) af)) σ):=by
 refine aA Tryz.func72 ?_
 obtain⟨n,hn⟩:∃n,n=pt k:=⟨_,rfl⟩
 obtain⟨rR,kD⟩:=acF k
 have hW:=fun σ=>acX k σ
 rw[← hn]at hW rR kD ⊢
 refine aB [] (hW _) ?_
 refine aq (fun c1=>?_) (fun c1=>?_)
 ·have c1:(↑K:Int)<1:=c1
  omega
 ·have c1:¬((↑K:Int)<1):=c1
  refine cj (S:=Nat) (fun s=>[(0,.ai ec af),(1,.int .i64 n),(2,.int .i64 K),(7,.int .i64 s)]) (fun _=>σ) (fun s=>s≤af.length∧∀i,i<s→i+K≤af.length→∀j,j<n→j∈((gb n af).drop i).take K) (fun s=>af.length-s) 0 ⟨⟨bK _,fun i h=>absurd h (ml _)⟩,⟨rfl,rfl,rfl,rfl,trivial⟩,by rfl⟩ ?_
  rintro i g ⟨fi,uI⟩
  have hi:i≤af.length:=fi
  have hW:∀a,a<i→a+K≤af.length→∀j,j<n→j∈((gb n af).drop a).take K:=uI
  clear fi uI
  refine aq (fun c1=>?_) (fun c1=>?_)
  ·have c1:(↑i:Int)<(↑af.length:Int):=c1
   refine aq (fun c2=>?_) (fun c2=>?_)
   ·have c2:(↑K:Int)≤IntKind.i64.wrap ((↑af.length:Int)-(↑i:Int)):=c2
    refine cj (S:=Nat) (fun s=>[(0,.ai ec af),(1,.int .i64 n),(2,.int .i64 K),(7,.int .i64 i),(8,.int .i64 s)]) (fun _=>σ) (fun s=>s≤n∧∀j,j<s→j∈((gb n af).drop i).take K) (fun s=>n-s) 0 ⟨⟨bK _,fun j h=>absurd h (ml _)⟩,⟨rfl,rfl,rfl,rfl,rfl,trivial⟩,rfl⟩ ?_
    rintro j g ⟨mS,hV0⟩
    have hj:j≤n:=mS
    have hV:∀a,a<j→a∈((gb n af).drop i).take K:=hV0
    clear mS hV0
    refine aq (p:=(j:Int)<(n:Int)) (fun ab=>?_) (fun ay=>?_)
    ·have ab:j<n:=by omega
     have c2:(K:Int)≤(af.length:Int)-i:=by rw[tK (by omega) (by omega)]at c2;exact c2
     have wH:IntKind.i64.wrap ((i:Int)+(K:Int))=((i+K:Nat):Int):=tK (by omega) (by omega)
     have O0:(af.drop (i:Int).toNat).take ((IntKind.i64.wrap ((i:Int)+(K:Int))).toNat-(i:Int).toNat)=(af.drop i).take K:=by
      rw[wH,bU,bU,FY]
     have k9:(i:Int)≤((i+K:Nat):Int):=by omega
     have p7:((i+K:Nat):Int)≤(af.length:Int):=by omega
     refine aH.mk ⟨FP _,by rw[wH];exact k9,by rw[wH];exact p7,rfl⟩ ?_
     obtain⟨V,OR⟩:∃V,(af.drop i).take K=V:=⟨_,rfl⟩
     rw[OR]at O0
     have hVl:V.length=K:=by rw[← OR,sb,JW];omega
     have hVw:gb n V=((gb n af).drop i).take K:=by rw[← OR];unfold gb;rw[List.map_take,List.map_drop]
     refine cj (S:=Nat×Bool) (fun s=>[(0,.ai ec af),(1,.int .i64 n),(2,.int .i64 K),(7,.int .i64 i),(8,.int .i64 j),(9,.bool s.2),(40,.ai ec V),(41,.int .i64 V.length),(42,.int .i64 s.1)]) (fun _=>σ) (fun s=>s.1≤V.length∧(s.2=true→j∈gb n V)) (fun s=>V.length-s.1) (0,false) ⟨⟨bK _,fun h=>by cases h⟩,⟨rfl,rfl,rfl,rfl,rfl,rfl,congrArg (AV.ai ec) O0,congrArg (fun l:List fE=>AV.int .i64 l.length) O0,rfl,trivial⟩,rfl⟩ ?_
     rintro⟨m,met⟩ g ⟨uC,V3⟩
     have hm:m≤V.length:=uC
     have WN:met=true→j∈gb n V:=V3
     clear uC V3
     refine aq (p:=(m:Int)<(V.length:Int)) (fun ab=>?_) (fun ay=>?_)
     ·have ab:m<V.length:=by omega
      obtain⟨d,hd⟩:∃d:fE,V[m]=d:=⟨_,rfl⟩
      have OD:=Sj (n:=n) (show V[m]?=some d from (bc ab).trans (congrArg some hd))
      obtain⟨d1,d2,du⟩:=d
      refine aH.mk rfl (cg.mk (d1,d2,du) (by omega) ((get_some ab).trans (congrArg some hd)) ?_)
      intro aG
      refine an 0 ?_
      cases met with
      |true=>
       refine aZ (m+1,true) (by show V.length-(m+1)<V.length-m;omega) ⟨ab,fun _=>WN rfl⟩ ⟨rfl,rfl,rfl,rfl,rfl,rfl,rfl,rfl,bu (by omega),trivial⟩ (.drop 0 1 (.refl _))
      |false=>
       refine aa 0 ?_
       refine aB [] (ah9 d1 d2 n _ (by omega)) ?_
       refine aq (fun c1=>?_) (fun c1=>?_)
       ·have c1:(↑(df d1 n):Int)=(↑j:Int):=c1
        refine aZ (m+1,true) (by show V.length-(m+1)<V.length-m;omega) ⟨ab,fun _=>by (obtain rfl:df d1 n=j:=by omega);exact bH OD⟩ ⟨rfl,rfl,rfl,rfl,rfl,rfl,rfl,rfl,bu (by omega),trivial⟩ (.drop 0 1 (.refl _))
       ·have c1:¬((↑(df d1 n):Int)=(↑j:Int)):=c1
        refine aZ (m+1,false) (by show V.length-(m+1)<V.length-m;omega) ⟨ab,fun h=>by cases h⟩ ⟨rfl,rfl,rfl,rfl,rfl,rfl,rfl,rfl,bu (by omega),trivial⟩ (.drop 0 1 (.refl _))
     ·cases met with
      |true=>exact aZ (j+1) (by show n-(j+1)<n-j;omega) ⟨by show j+1≤n;omega,fun b hb=>by (rcases wR (yz hb) with h | rfl);exact hV b h;rw[← hVw];exact WN rfl⟩ ⟨rfl,rfl,rfl,rfl,bu (by omega),trivial⟩ (.refl _)
      |false=>exact .done ⟨false,rfl,rfl,fun h=>by cases h⟩
    ·have ay:j=n:=by omega
     subst ay
     have c2:(K:Int)≤(af.length:Int)-i:=by rw[tK (by omega) (by omega)]at c2;exact c2
     refine aZ (i+1) (by show af.length-(i+1)<af.length-i;omega) ⟨by show i+1≤_;omega,fun a ha hk b hb=>?_⟩ ⟨rfl,rfl,rfl,bu (by omega),trivial⟩ (.refl _)
     rcases wR (yz ha) with h | rfl
     ·exact hW a h hk b hb
     ·exact hV b hb
   ·have c2:¬((↑K:Int)≤IntKind.i64.wrap ((↑af.length:Int)-(↑i:Int))):=c2
    have c2:¬((K:Int)≤(af.length:Int)-i):=by rw[tK (by omega) (by omega)]at c2;exact c2
    exact .done ⟨true,rfl,rfl,fun _ a ha j hj=>hW a (by rw[yW]at ha;omega) (by rw[yW]at ha;exact ha) j hj⟩
  ·have c1:¬((↑i:Int)<(↑af.length:Int)):=c1
   exact .done ⟨true,rfl,rfl,fun _ a ha j hj=>hW a (by rw[yW]at ha;omega) (by rw[yW]at ha;exact ha) j hj⟩
theorem Zk(k:Int)(af:List fE)(σ:Hp)(hlen:af.length≤1000000):ACalls Tryz.prog 29 [.ai ec af,.int .i64 k] σ (fun r σ'=>∃K:Nat,r=.int .i64 K∧1≤K∧K≤af.length+1∧(K≤af.length→qt (pt k) K (gb (pt k) af))∧σ'=σ):=by
 refine aA Tryz.func29 ?_
 refine cj (S:=Nat) (fun s=>[(0,.ai ec af),(1,.int .i64 k),(5,.int .i64 s)]) (fun _=>σ) (fun s=>1≤s∧s≤af.length+1) (fun s=>af.length+1-s) 1 ⟨⟨aM _,by omega⟩,⟨rfl,rfl,rfl,trivial⟩,by rfl⟩ ?_
 rintro K g ⟨Fx,yw⟩
 have hK:1≤K:=Fx
 have uK:K≤af.length+1:=yw
 clear Fx yw
 refine aq (p:=(K:Int)≤(af.length:Int)) (fun hle=>?_) (fun hgt=>?_)
 ·have hle:K≤af.length:=by omega
  refine We [] (aga k K af _ (by omega) hK hle) (fun hF=>?_) ?_
  ·exact .done ⟨K,rfl,hK,uK,fun _=>hF,rfl⟩
  ·exact aZ (K+1) (by show af.length+1-(K+1)<af.length+1-K;omega) ⟨by show 1≤K+1;omega,by show K+1≤_;omega⟩ ⟨rfl,rfl,bu (by omega),trivial⟩ (.refl _)
 ·have ay:K=af.length+1:=by omega
  subst ay
  have e:IntKind.i64.wrap ((af.length:Int)+1)=((af.length+1:Nat):Int):=tK (by omega) (by omega)
  exact .done ⟨af.length+1,aW e,hK,uK,fun h=>absurd h (by omega),rfl⟩
def ky(l:List fE):List AV:=l.flatMap fun p=>[.int .i64 p.1,.int .i64 p.2.1]
theorem vk:∀l:List fE,ky l=l.flatMap (fun d:fE=>ec.cells d)
 | []=>rfl
 |(a,b,_)::l=>congrArg (fun r=>AV.int .i64 a::AV.int .i64 b::r) (vk l)
theorem LO{e k:Nat}{v:AV}{acc:Hp}{cs:List AV}(h:Acc e k v acc cs):(v=.aj∧acc=[]∧k=0∧cs=[])∨∃b,v=.ae b 0 k e∧acc=[(b,cs)]:=by
 cases h with
 |nil=>exact .inl ⟨rfl,rfl,rfl,rfl⟩
 |ae b=>exact .inr ⟨b,rfl,rfl⟩
theorem acV(s:Sy)(k:Nat)(af:List fE)(K:Nat)(σ:Hp)(hf:Fit s)(he:cx s k=0)(hk5:k≤5)(hF:qt k K (gb k af))(W:Nat)(hW:zh s k=(W:Int))(hlen:(W+12)*K≤af.length)(oG:af.length≤100000):ACalls Tryz.prog 13 [.agg (cd s),.int .i64 k,.ai ec af] σ (fun r σ'=>∃(e j:Int) (us:Nat),r=.tup [.agg (zf (pF s).1 e j us),.int .i64 0]∧us≤(W+12)*K∧σ'=σ):=by
 obtain⟨l,hl⟩:∃l,iI s k=l:=⟨_,rfl⟩
 obtain⟨hs,Ft⟩:=A9 hf he
 have hk:l.k=k:=by rw[← hl];exact Hu he
 rw[hl]at hs
 have yj:l.k.toNat=k:=by omega
 refine (ahb s k l hl af σ hf he oG).mono ?_
 rintro _ _ ⟨hR,rfl,bF⟩
 have rQ:=(Si hs (k:=k) (by omega)).1
 have hWW:rq s (SX.W1 (cJ s l hs)) l.k.toNat=W:=by rw[yj];omega
 obtain⟨h1,h2⟩:=abk hs bF (by omega) af (K:=K) (by rw[yj];exact hF) (by rw[hWW];exact hlen) (by omega)
 rw[hWW]at h2
 have hX:=af8 (hs:=hs) bF af oG
 have hv:vM l (cW s l af).a.ws (nN s)=(pF s).1:=(aaf hs _).trans (hX.all h1)
 rcases hR with ⟨_,rfl⟩ | ⟨h3,_⟩
 ·exact⟨_,_,_,by rw[hv],h2,rfl⟩
 ·rw[h1]at h3;cases h3
theorem Dk(l:List fE):(ky l).length=l.length*2:=by
 induction l with
 |nil=>rfl
 |cons a l ih=>show (ky l).length+1+1=(l.length+1)*2;omega
theorem aev(a:List fE):(0+a.length)*2≤(List.take (0*2) ([]:List AV)++a.flatMap (fun d:fE=>ec.cells d)).length:=by
 rw[← vk]
 show _≤(ky a).length
 rw[Dk];omega
theorem aew(a b:List fE):(a++b).length=0+a.length+b.length:=by rw[bG,dK]
theorem aeu(a b:List fE):((List.take ((0+a.length)*2) (List.take (0*2) ([]:List AV)++a.flatMap (fun d:fE=>ec.cells d))++b.flatMap (fun d:fE=>ec.cells d)).drop 0).take ((0+a.length+b.length)*2)=(a++b).flatMap (fun d:fE=>ec.cells d):=by
 rw[← vk,← vk,← vk]
 have e:List.take (0*2) ([]:List AV)++ky a=ky a:=rfl
 have e3:List.take ((0+a.length)*2) (ky a)=ky a:=eZ (by rw[Dk];omega)
 have e2:ky (a++b)=ky a++ky b:=tc ..
 rw[e,e3,iB,← e2]
 exact eZ (by rw[Dk,bG];omega)
def uU:Sy:=⟨1,1,1,[],[],[0],[([0],[0],[],())]⟩
theorem aeg:Fit uU:=⟨M3 (by unfold bM;omega),by decide,by decide,by decide,by decide,fun t ht=>by
 rw[a8.1 ht];exact⟨M3 (by unfold bM;omega),M3 (by unfold bM;omega),by decide,by decide,by decide⟩⟩
theorem aaq:AV.tup [.int .i64 (om uU 1 1),.int .i64 (qn uU 1 1)]=AV.tup [.int .i64 40,.int .i64 0]:=by
 rw[show om uU 1 1=40 by decide +kernel,show qn uU 1 1=0 by decide +kernel]
theorem ad9(σ:Hp):ACalls Tryz.prog 27 [] σ (aE (.bool true) σ):=by
 refine aA Tryz.func27 ?_
 intro aG
 intro eV
 intro uW
 intro yD
 intro bl6
 refine an 0 ?_
 refine aa 0 ?_
 refine .ku 3 eV 0 1 1 _ (.int .u64) ([0]:List Int) rfl rfl ⟨rfl,rfl,by decide⟩ 1 0 yD _ rfl rfl ?_
 refine .ku 2 uW 0 1 1 _ (.int .u64) ([0]:List Int) rfl rfl ⟨rfl,rfl,by decide⟩ 1 1 yD _ rfl rfl ?_
 refine Mo 1 2 yD _ jL rfl rfl ?_
 refine .cI (args':=[.agg [.int .i64 1,.int .i64 1,.int .i64 1,.aj,.aj,.ae aG 0 1 1,.ai lX uU.T],.int .i64 1,.int .i64 1]) 1 yD 0 1 3 _ lX uU.T rfl rfl ⟨rfl,rfl,by decide⟩ (eH (Mk (eH (.refl _) (eH (.refl _) (eH (.refl _) (eH (.refl _) (eH (.refl _) (eH (.refl _) (eH .here Ds))))))) rfl) (.refl _)) ?_
 refine .cI (args':=[.agg (cd uU),.int .i64 1,.int .i64 1]) 1 aG 0 1 1 _ (.int .u64) uU.init rfl rfl ⟨rfl,rfl,by decide⟩ (eH (Mk (eH (.refl _) (eH (.refl _) (eH (.refl _) (eH (.nil dG) (eH (.nil (.int .i64)) (eH .here (.refl _))))))) rfl) (.refl _)) ?_
 refine aB [] (vf (HZ uU 1 1 _ aeg) aaq) ?_
 exact .drop 0 1 (.done ⟨rfl,rfl⟩)
theorem Yw{s:Sy}{l:Lay}(hs:LS s l)(hn:s.n≤4)(he:s.aL.length≤6)(hw:s.w≤3){k:Nat}(hk:k≤3):rq s (SX.W1 (cJ s l hs)) k≤1100:=by
 have hnn:=hs.nn
 have sR:=hs.Nv
 have cH:(fS s.aL).length≤s.aL.length:=by rw[← Te];exact LC _ _ (aM _)
 have hh:=GN s.what s.w
 have hH:dZ s.what s.w≤6:=by
  unfold dZ
  split
  ·split <;> omega
  ·omega
 have hW:ft s.what s.w≤3:=by
  unfold ft
  split
  ·split
   ·exact hw
   ·have:eX s.w≤3:=by unfold eX eS;omega
    omega
  ·omega
 have JB:SX.W1 (cJ s l hs)≤3:=by
  show max (nW l) 1≤3
  omega
 have B8:(dZ s.what s.w).toNat≤6:=by omega
 unfold rq
 generalize SX.W1 (cJ s l hs)=W at *
 generalize (dZ s.what s.w).toNat=h at *
 have kD:nN s≤4:=by omega
 generalize nN s=n at *
 have Fg:(fS s.aL).length≤6:=by omega
 generalize (fS s.aL).length=e at *
 have b1:e*h≤6*6:=jm Fg B8
 have b2:(n+e*h)*(W+2)≤40*5:=jm (by omega) (by omega)
 have b3:(1+h)*e≤7*6:=jm (by omega) Fg
 have b4:(1+h)*e*W≤42*3:=jm (by omega) JB
 have b5:n*h≤4*6:=jm kD B8
 have b6:n*h*(2*k+5)≤24*11:=jm (by omega) (by omega)
 omega
theorem X1{s:Sy}{k:Nat}(hf:Fit s)(he:cx s k=0)(hn:s.n≤4)(Jw:s.aL.length≤6)(hw:s.w≤3)(hk:k≤3){K:Nat}(yw:1≤K)(uK:K≤24):∃W:Nat,zh s k=(W:Int)∧W≤1100∧om s k K=((K*(W+12):Nat):Int)∧qn s k K=0∧K*(W+12)≤27000:=by
 obtain⟨hs,_⟩:=A9 hf he
 have h1:=Si hs (k:=k) (by omega)
 have h2:=Yw hs hn Jw hw hk
 generalize rq s (SX.W1 (cJ s (iI s k) hs)) k=W at h1 h2
 refine⟨W,h1.1,h2,?_,?_,?_⟩
 ·have h3:K*(W+12)≤24*1112:=jm uK (by omega)
  unfold om
  rw[ag he,ag ⟨by omega,by omega⟩,h1.1,tK (z:=(W:Int)+12) (by omega) (by omega),show (W:Int)+12=((W+12:Nat):Int) by omega,← r8]
  exact tK (by omega) (by omega)
 ·unfold qn
  rw[ag he,ag ⟨by omega,by omega⟩]
 ·have h3:K*(W+12)≤24*1112:=jm uK (by omega)
  omega
theorem Wa{t t':Tm}{b off len es:Nat}{e:Sh}{l:List e.T}(k:Nat)(h:t k=.via (.ae b off len es))(h':t'=dm t [(k,.ai e l)])(i:Nat):eI b off len es e l (t i) (t' i):=ai5 k h h' i
theorem Ug(l:List fE):(l.flatMap (fun d:fE=>ec.cells d)).length=l.length*2:=by rw[← vk,Dk]
theorem Uh{l:List fE}{k:Nat}(h:l.length=k):((ky l).drop 0).take (k*2)=l.flatMap (fun d:fE=>ec.cells d):=by
 rw[← vk,iB]
 exact eZ (by rw[Dk];omega)
set_option maxHeartbeats 4000000 in
theorem Xj(s:Sy)(w:Int)(af:List fE)(hi:bA s.init)(ht:∀t∈s.T,bA t.1∧bA t.2.1):ACalls Tryz.prog 6 [.agg (cd s),.int .i64 w,.ai ec af] [] (fun r _=>r=.bool true):=by
 refine aA Tryz.func6 ?_
 intro b3
 refine aB [] (ad9 _) ?_
 refine aa 0 ?_
 refine We [] (acU s _) (fun qM=>?_) ?_
 rotate_left
 ·exact .done rfl
 have hf:=afP qM hi ht
 refine aa 0 ?_
 refine aq (fun c1=>?_) (fun c1=>?_)
 ·exact .done rfl
 ·have c1:¬(3<s.n):=c1
  refine aa 0 ?_
  refine aq (fun c2=>?_) (fun c2=>?_)
  ·exact .done rfl
  ·have c2:¬(5<(↑s.aL.length:Int)):=c2
   refine aa 0 ?_
   refine aq (fun c3=>?_) (fun c3=>?_)
   ·exact .done rfl
   ·have c3:¬(2<s.w):=c3
    refine aq (fun c4=>?_) (fun c4=>?_)
    ·exact .done rfl
    ·have c4:¬(24<(↑af.length:Int)):=c4
     refine aq (fun c5=>?_) (fun c5=>?_)
     ·exact .done rfl
     ·have c5:¬((↑af.length:Int)=0):=c5
      intro bl6
      obtain⟨k',eN⟩:∃x,x=(if 3<w then 3 else w):=⟨_,rfl⟩
      have cH:af.length≤24:=by omega
      have sT:1≤af.length:=by omega
      refine AppendAt.more 0 _ 0 af.length [] _ rfl rfl (bK _) (.ai ec af rfl) (by omega) (by decide) (by decide) (fun b1=>?_)
      refine AppendAt.more 0 _ (0+af.length) af.length _ _ rfl rfl (aev af) (.ai ec af rfl) (by omega) (by decide) (by decide) (fun b2=>?_)
      refine CallAt.cI (args':=[.ai ec (af++af),.int .i64 (if 3<w then 3 else w)]) 0 _ 0 (0+af.length+af.length) 2 _ ec (af++af) rfl (aeu af af) ⟨aew af af,rfl,by decide⟩ (eH .here (.refl _)) ?_
      refine .mk [] _ (Zk (if 3<w then 3 else w) (af++af) _ (by rw[bG];omega)) ?_
      rintro _ _ ⟨K,rfl,yw,uK,Fw,rfl⟩
      rw[bG]at uK Fw
      refine aa 0 ?_
      by_cases he:cx s k'=0
      rotate_left
      ·have hP:∀σ,ACalls Tryz.prog 30 [.agg (cd s),.int .i64 (if 3<w then 3 else w),.int .i64 (K:Nat)] σ (aE (.tup [.int .i64 0,.int .i64 (cx s k')]) σ):=fun σ=>by
        rw[← eN]
        refine vf (HZ s k' _ σ hf) ?_
        unfold om qn;rw[ah he,ah he]
       clear eN Fw
       refine aB [] (hP _) ?_
       refine eG (fun c1=>?_) (fun c1=>?_)
       ·have c1:¬(cx s k'=0):=by simpa using c1
        refine aq (fun c2=>?_) (fun c2=>?_)
        ·exact .done rfl
        ·exact .done rfl
       ·have c1:cx s k'=0:=by simpa using c1
        refine aq (fun c3=>?_) (fun c3=>?_)
        ·refine aq (fun c4=>?_) (fun c4=>?_)
         ·exact .done rfl
         ·exact .done rfl
        ·have c3:¬((↑af.length:Int)<(↑K:Int)):=c3
         exact absurd (by assumption) he
      obtain⟨n,hn,rR,kD⟩:=agH hf he
      have hk3:n≤3:=by rw[hn]at eN;split at eN <;> omega
      obtain⟨z,hz⟩:∃z:Int,z=0:=⟨0,rfl⟩
      by_cases Fv:K≤af.length
      rotate_left
      ·have hP:∀σ,ACalls Tryz.prog 30 [.agg (cd s),.int .i64 (if 3<w then 3 else w),.int .i64 (K:Nat)] σ (aE (.tup [.int .i64 (om s n K),.int .i64 z]) σ):=fun σ=>by
        rw[← eN,hn]
        refine vf (HZ s n _ σ hf) ?_
        unfold qn
        rw[ag (hn▸he),ag ⟨by omega,by omega⟩,hz]
       clear eN Fw
       refine aB [] (hP _) ?_
       refine eG (fun c1=>?_) (fun c1=>?_)
       ·have c1:¬(z=0):=by simpa using c1
        refine aq (fun c2=>?_) (fun c2=>?_)
        ·exact .done rfl
        ·have c2:¬(z=0):=c2
         refine aq (fun c3=>?_) (fun c3=>?_)
         ·exact .done rfl
         ·have c3:¬(om s (↑n:Int) (↑K:Int)=0):=c3
          omega
       ·have c1:z=0:=by simpa using c1
        refine aq (fun c4=>?_) (fun c4=>?_)
        ·have c4:(↑af.length:Int)<(↑K:Int):=c4
         refine aq (fun c5=>?_) (fun c5=>?_)
         ·exact .done rfl
         ·have c5:¬(z=0):=c5
          refine aq (fun c6=>?_) (fun c6=>?_)
          ·exact .done rfl
          ·have c6:¬(om s (↑n:Int) (↑K:Int)=0):=c6
           omega
        ·have c4:¬((↑af.length:Int)<(↑K:Int)):=c4
         omega
      rw[← eN,hn,Q1 rR kD]at Fw
      obtain⟨W,s8,JB,hW3,hW4,hW5⟩:=X1 (k:=n) hf (hn▸he) (by omega) (by omega) (by omega) hk3 (K:=K) yw (by omega)
      generalize hNN:K*(W+12)=N at hW3 hW5
      rw[uO]at hNN
      have hP:∀σ,ACalls Tryz.prog 30 [.agg (cd s),.int .i64 (if 3<w then 3 else w),.int .i64 (K:Nat)] σ (aE (.tup [.int .i64 (N:Nat),.int .i64 z]) σ):=fun σ=>by
       rw[← eN,hn]
       exact vf (HZ s n _ σ hf) (by rw[hW3,hW4,hz])
      refine aB [] (hP _) ?_
      refine eG (fun c1=>?_) (fun c1=>?_)
      ·have c1:¬(z=0):=by simpa using c1
       refine aq (fun c2=>?_) (fun c2=>?_)
       ·exact .done rfl
       ·have c2:¬(z=0):=c2
        refine aq (fun c3=>?_) (fun c3=>?_)
        ·exact .done rfl
        ·have c3:¬((↑N:Int)=0):=c3
         omega
      ·have c1:z=0:=by simpa using c1
       refine aq (fun c4=>?_) (fun c4=>?_)
       ·have c4:(↑af.length:Int)<(↑K:Int):=c4
        refine aq (fun c5=>?_) (fun c5=>?_)
        ·exact .done rfl
        ·have c5:¬(z=0):=c5
         refine aq (fun c6=>?_) (fun c6=>?_)
         ·exact .done rfl
         ·have c6:¬((↑N:Int)=0):=c6
          omega
       ·have c4:¬((↑af.length:Int)<(↑K:Int)):=c4
        refine .wrap 10 _ rfl rfl ?_
        refine cj (S:=Nat×AV×Hp) (fun s=>[(1,.int .i64 (if 3<w then 3 else w)),(2,.ai ec af),(3,.ptr b3 0),(7,.int .i64 K),(8,.int .i64 N),(10,s.2.1)]) (fun q=>q.2.2++((b3,cd s)::[])) (fun q=>q.1*af.length≤N+af.length∧((∃v,q.2.1=.via v∧Acc 2 (q.1*af.length) v q.2.2 (ky (fK af q.1))∧q.1*af.length≤N)∨(q.2.1=.ai ec (fK af q.1)∧q.2.2=[]∧N<q.1*af.length))) (fun q=>N+af.length-q.1*af.length) (0,.via .aj,[]) ⟨⟨by omega,.inl ⟨.aj,rfl,by rw[qR];exact .nil,by omega⟩⟩,⟨rfl,rfl,rfl,rfl,rfl,rfl,trivial⟩,rfl⟩ ?_
        rintro⟨m,tv,acc⟩ g ⟨uC,oP⟩
        have hm:m*af.length≤N+af.length:=uC
        have hv:(∃v,tv=.via v∧Acc 2 (m*af.length) v acc (ky (fK af m))∧m*af.length≤N)∨(tv=.ai ec (fK af m)∧acc=[]∧N<m*af.length):=oP
        clear uC oP
        have rS:=xe af m
        have uB:(m+1)*af.length=m*af.length+af.length:=lR _ _
        rcases hv with ⟨v,rfl,hA,hle⟩ | ⟨rfl,rfl,hgt⟩
        ·rcases LO hA with ⟨rfl,rfl,bD,gV⟩ | ⟨bw,rfl,rfl⟩
         ·refine my (i:=_) (k:=m*af.length) (acc:=[]) (σ:=[(b3,cd s)]) [] hA (.ai ec af rfl) (Ug af) (by omega) (by decide) (by decide) (fun v' bN h'=>?_)
          have h':Acc 2 (m*af.length+af.length) v' bN (ky (fK af (m+1))):=by
           have e:ky (fK af (m+1))=ky (fK af m)++af.flatMap (fun d:fE=>ec.cells d):=by
            rw[← vk];exact tc ..
           rw[e];exact h'
          by_cases hN:(m+1)*af.length≤N
          ·exact aZ (m+1,.via v',bN) (by show N+af.length-(m+1)*af.length<N+af.length-m*af.length;omega) ⟨by show (m+1)*af.length≤_;omega,.inl ⟨v',rfl,by show Acc 2 ((m+1)*af.length) v' bN _;rw[uB];exact h',hN⟩⟩ ⟨rfl,rfl,rfl,rfl,rfl,rfl,trivial⟩ (aJ rfl)
          ·rcases LO h' with ⟨rfl,rfl,kF,gU⟩ | ⟨bn,rfl,rfl⟩
           ·omega
           ·refine ou.cI 0 bn 0 (m*af.length+af.length) 2 _ ec (fK af (m+1)) rfl (Uh (by rw[xe,uB])) ⟨(xe af (m+1)).trans uB,rfl,by decide⟩ (Wa 10 rfl rfl) ?_
            exact aZ (m+1,.ai ec (fK af (m+1)),[]) (by show N+af.length-(m+1)*af.length<N+af.length-m*af.length;omega) ⟨by show (m+1)*af.length≤_;omega,.inr ⟨rfl,rfl,by show N<(m+1)*af.length;omega⟩⟩ ⟨rfl,rfl,rfl,rfl,rfl,rfl,trivial⟩ (aJ rfl)
         ·refine aq (fun c1=>?_) (fun c1=>?_)
          ·have c1:(↑(m*af.length):Int)≤(↑N:Int):=c1
           refine my (i:=_) (k:=m*af.length) (acc:=[(bw,ky (fK af m))]) (σ:=[(b3,cd s)]) [] hA (.ai ec af rfl) (Ug af) (by omega) (by decide) (by decide) (fun v' bN h'=>?_)
           have h':Acc 2 (m*af.length+af.length) v' bN (ky (fK af (m+1))):=by
            have e:ky (fK af (m+1))=ky (fK af m)++af.flatMap (fun d:fE=>ec.cells d):=by
             rw[← vk];exact tc ..
            rw[e];exact h'
           by_cases hN:(m+1)*af.length≤N
           ·exact aZ (m+1,.via v',bN) (by show N+af.length-(m+1)*af.length<N+af.length-m*af.length;omega) ⟨by show (m+1)*af.length≤_;omega,.inl ⟨v',rfl,by show Acc 2 ((m+1)*af.length) v' bN _;rw[uB];exact h',hN⟩⟩ ⟨rfl,rfl,rfl,rfl,rfl,rfl,trivial⟩ (aJ rfl)
           ·rcases LO h' with ⟨rfl,rfl,kF,gU⟩ | ⟨bn,rfl,rfl⟩
            ·omega
            ·refine ou.cI 0 bn 0 (m*af.length+af.length) 2 _ ec (fK af (m+1)) rfl (Uh (by rw[xe,uB])) ⟨(xe af (m+1)).trans uB,rfl,by decide⟩ (Wa 10 rfl rfl) ?_
             exact aZ (m+1,.ai ec (fK af (m+1)),[]) (by show N+af.length-(m+1)*af.length<N+af.length-m*af.length;omega) ⟨by show (m+1)*af.length≤_;omega,.inr ⟨rfl,rfl,by show N<(m+1)*af.length;omega⟩⟩ ⟨rfl,rfl,rfl,rfl,rfl,rfl,trivial⟩ (aJ rfl)
          ·have c1:¬((↑(m*af.length):Int)≤(↑N:Int)):=c1
           refine aa 1 ?_
           omega
        ·refine aq (fun c1=>?_) (fun c1=>?_)
         ·have c1:(↑(fK af m).length:Int)≤(↑N:Int):=c1
          omega
         ·have c1:¬((↑(fK af m).length:Int)≤(↑N:Int)):=c1
          refine aa 0 ?_
          have hlF:qt n K (gb n (fK af m)):=by
           have e:gb n (fK af m)=fK (gb n af) m:=RF _ af m
           rw[e]
           have h2:=Fw (by omega)
           have e2:gb n (af++af)=gb n af++gb n af:=cM
           rw[e2]at h2
           exact YA h2 (by rw[yW];exact Fv) m
          have hR:∀σ,ACalls Tryz.prog 13 [.agg (cd s),.int .i64 (if 3<w then 3 else w),.ai ec (fK af m)] σ (fun r σ'=>∃(e j:Int) (us:Nat),r=.tup [.agg (zf (pF s).1 e j us),.int .i64 z]∧σ'=σ):=fun σ=>by
           rw[← eN,hn,hz]
           refine (acV s n (fK af m) K σ hf (hn▸he) (by omega) hlF W s8 (by rw[hNN,rS];omega) (by rw[rS];omega)).mono ?_
           rintro _ _ ⟨e,j,us,rfl,h,rfl⟩
           exact⟨e,j,us,rfl,rfl⟩
          have hI:∀σ,ACalls Tryz.prog 31 [.ai ec (fK af m),.int .i64 (if 3<w then 3 else w),.int .i64 (K:Nat)] σ (aE (.bool true) σ):=fun σ=>by
           rw[← eN,hn]
           exact af0 n K (fK af m) σ rR kD yw (by rw[rS];omega) hlF
          refine .mk [] _ (hR _) ?_
          rintro _ _ ⟨e,j,us,rfl,rfl⟩
          intro aG
          refine an 0 ?_
          refine aq (fun c2=>?_) (fun c2=>?_)
          ·refine aB [] (hI _) ?_
           exact .done rfl
          ·have c2:¬(z=0):=c2
           omega
end Go.Proofs.YtnikdflhefijbaaGreat
namespace Go.Proofs.YtnikdflhefijbaaGreat
open Go.ChangeShapes Go.WideShapes Go.ChangeAt Go.RowKit
theorem gv{a b:Bool}(ha:a=true)(hb:b=true):(a&&b)=true:=by rw[ha,hb];rfl
theorem Kn:laidOutB Tryz.prog=true:=by kernel_rfl
theorem fk3:mapsRowed Tryz.prog=true:=by kernel_rfl
theorem fk7:(Tryz.prog.stops == [])=true:=by kernel_rfl
theorem fk9:(Tryz.prog.stopKnobs == [])=true:=by kernel_rfl
theorem aic:(Rows.solveRunsRow.plainKeys == Tryz.prog.plainKeys)=true:=by kernel_rfl
theorem aib:Tryz.prog.stopsHeard=true:=by kernel_rfl
theorem aia:Tryz.prog.mayEnter=true:=by kernel_rfl
theorem ai9:(Rows.solveRunsRow.lifted == Tryz.prog.liftsFinal)=true:=by kernel_rfl
theorem ai8:(Tryz.prog.make == some Rows.solveRunsRow.make)=true:=by kernel_rfl
theorem ai6:ownKnob Tryz.prog.godebug=none:=by kernel_rfl
theorem va{F:Nat→Prop}{w:World}{x:AV}{xs:List AV}{v:Value}{vs:List Value}(h:ax F w x v)(t:jb F w xs vs.toArray):jb F w (x::xs) (v::vs).toArray:=by
 refine⟨by have:=t.1;simp at this ⊢;exact this,fun i y hy=>?_⟩
 cases i with
 |zero=>simp at hy;subst hy;simpa [Array.getD]using h
 |succ i=>
  have:=t.2 i y (by simpa using hy)
  rw[gW]at this ⊢
  simpa using this
theorem vn{F:Nat→Prop}{w:World}:jb F w [] ([]:List Value).toArray:=⟨rfl,fun i y hy=>by simp at hy⟩
theorem vi{F:Nat→Prop}{w:World}{k:IntKind}{n:Int}:ax F w (.int k n) (.int k n):=.int k n
theorem vl{w:World}{e:Sh}{a:Option Addr}{n c:Nat}{l:List e.T}(hp:(Sh.slice e).pos=true)(h:Reads w (.slice e) (Value.slice a n c).cells.toList l):ax (fun b=>b<w.heap.size) w (.ai e l) (.slice a n c):=
 .ai e l _ (RT (.slice e) _ l hp h)
theorem vg{w:World}{s:Sh}{cs:Array Value}{d:s.T}(hp:s.pos=true)(h:Reads w s (Value.agg cs).cells.toList d):ax (fun b=>b<w.heap.size) w (.agg (s.cells d)) (.agg cs):=by
 obtain⟨h1,h2⟩:=kP.cells s _ d (RT s _ d hp h)
 refine .agg _ _ (by rw[h1];rfl) (fun i x hx=>(h2 i x hx).1) (fun i x hx=>?_)
 have:=(h2 i x hx).2
 rw[aR,Cl,← gW]at this
 exact this
theorem QH{w:World}{e:Sh}{cs:List Value}{l:List e.T}(h:Reads w (.slice e) cs l):∀x∈l,∃cs',Reads w e cs' x:=by
 obtain⟨a,c,_,_,_,_,h3⟩:=h
 intro x hx
 obtain⟨i,hi,rfl⟩:=wW.1 hx
 obtain⟨b,o,_,h4⟩:=h3 (List.ne_nil_of_mem hx)
 obtain⟨cs',_,_,h5⟩:=h4 i hi
 exact⟨cs',h5⟩
theorem K3{w:World}{cs:List Value}{l:List Int}(h:Reads w (.slice (.int .u64)) cs l):∀z∈l,0≤z∧z<18446744073709551616:=fun z hz=>by
 obtain⟨cs',h1,h2⟩:=QH h z hz
 exact wf_u64 h2
theorem XX{w:World}{e:Sh}{cs:List Value}{x:List Int×List Int×e.T×Unit}(h:Reads w (.field (.slice (.int .u64)) (.field (.slice (.int .u64)) (.field e .nil))) cs x):(∀z∈x.1,0≤z∧z<18446744073709551616)∧(∀z∈x.2.1,0≤z∧z<18446744073709551616):=by
 obtain⟨c1,c2,_,_,h1,d1,d2,_,_,h2,_⟩:=h
 exact⟨K3 h1,K3 h2⟩
theorem Rt{w:World}{c1 e1:Sh}{cs:List Value}{x:Int×Int×Int×c1.slice.T×List Int×List Int×List (List Int×List Int×e1.T×Unit)×Unit}(h:Reads w (.field (.int .i64) (.field (.int .i64) (.field (.int .i64) (.field (.slice c1) (.field (.slice (.int .i64)) (.field (.slice (.int .u64)) (.field (.slice (.field (.slice (.int .u64)) (.field (.slice (.int .u64)) (.field e1 .nil)))) .nil))))))) cs x):(∀z∈x.2.2.2.2.2.1,0≤z∧z<18446744073709551616)∧∀t∈x.2.2.2.2.2.2.1,(∀z∈t.1,0≤z∧z<18446744073709551616)∧(∀z∈t.2.1,0≤z∧z<18446744073709551616):=by
 obtain⟨_,_,_,_,_,_,_,_,_,_,_,_,_,_,_,_,_,_,_,_,_,_,_,_,_,_,_,_,_,h6,_,_,_,_,h7,_⟩:=h
 refine⟨K3 h6,fun t ht=>?_⟩
 obtain⟨cs',h1⟩:=QH h7 t ht
 exact XX h1
end Go.Proofs.YtnikdflhefijbaaGreat
