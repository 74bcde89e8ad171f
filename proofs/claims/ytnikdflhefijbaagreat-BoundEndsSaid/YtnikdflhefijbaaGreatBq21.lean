import Derived.Test.YtnikdflhefijbaaGreatBq20
import Derived.Test.YtnikdflhefijbaaGreatBq14
import Derived.Test.YtnikdflhefijbaaGreatBq19
import Derived.Test.YtnikdflhefijbaaGreatBq12
import Derived.Test.YtnikdflhefijbaaGreatBq11
import Derived.Test.YtnikdflhefijbaaGreatBq8
import Derived.Test.YtnikdflhefijbaaGreatBq2
import Derived.Test.YtnikdflhefijbaaGreatBq15
import Derived.Shelf.Slices.Delete
import Derived.Test.YtnikdflhefijbaaGreatBq6
import Derived.Test.YtnikdflhefijbaaGreatBq10
import Derived.Below
import Derived.ChangeOld
import Derived.OpenShut
import Derived.ProofKit
import Derived.Test.YtnikdflhefijbaaGreatRows
import Derived.WalkKit
namespace Go.Proofs.YtnikdflhefijbaaGreat
open Go.RowKit
set_option maxRecDepth 100000
set_option maxHeartbeats 4000000
def B2(s:Sy)(v i:Nat):Int:=((kU s).1.getD v []).getD i 0
theorem adm{a:List Int}{n:Nat}(h:a.length=n):(List.range n).map (fun i=>a.getD i 0)=a:=by
 subst h;refine List.ext_getElem (by simp) fun i h1 h2=>?_;rw[KQ,KX,aZ,bB h2];rfl
def uq(s:Sy)(l:Lay)(ws:List Int):List (List Int):=(List.range (nN s)).map fun v=>(List.range (nW l)).map fun i=>ws.getD (v*nW l+i) 0
theorem Hq{s:Sy}{l:Lay}{ws:List Int}{v:Nat}(h:v<nN s):(uq s l ws).getD v []=(List.range (nW l)).map fun i=>ws.getD (v*nW l+i) 0:=by
 unfold uq;rw[aZ,fk,vH h];rfl
theorem xI{f:Nat→Int}{n i:Nat}(h:i<n):((List.range n).map f).getD i 0=f i:=by
 rw[aZ,fk,vH h];rfl
def qt(s:Sy):List Nat:=(List.range (nN s)).filter fun u=>s.aN.any fun e=>decide (e.2.1=(u:Int))
def yL(s:Sy)(l:Lay)(c:Nat→Int):Nat:=sZ s.what s.w ((List.range (nW l)).map c)
section
variable {s:Sy} {l:Lay} (hs:LS s l)
include hs
theorem LS.Hw{f:Nat→Int}(h:∀i,i<nW l→gd s.what s.w i (f i)):eS s.what s.w ((List.range (nW l)).map f):=
 (hs.sh).2 ⟨by simp,fun i hi=>by rw[xI hi];exact h i hi⟩
theorem Rv{ws:List Int}(h:MV s l ws):kW s (uq s l ws):=by
 refine⟨by unfold uq;rw[bX,oL];exact hs.nn.1.symm,fun x hx=>?_⟩;obtain⟨v,hv,rfl⟩:=cX.1 hx;exact hs.Hw fun i hi=>h.cells v i (fF.1 hv) hi
theorem MR{v:Nat}(hv:v<nN s):eS s.what s.w ((kU s).1.getD v []):=(Be hs.fit hs.im).1.get (by have:=hs.nn;omega)
theorem abU{v:Nat}(hv:v<nN s):SX.mJ (cS s l hs) (B2 s) v=(kU s).1.getD v []:=adm ((hs.sh).1 (MR hs hv)).1
theorem M0{v u:Nat}(hu:u∈xb s v):v<nN s∧u<nN s∧∃e∈s.aN,e.1=(v:Int)∧e.2.1=(u:Int):=by
 obtain⟨z,hz,rfl⟩:=cX.1 hu;obtain⟨h1,h2,e,he,e1,e2⟩:=lZ.1 hz;have:=hs.nn;exact⟨by omega,by omega,e,he,e1,by omega⟩
theorem afK{e:bE}(he:e∈s.aN):e.2.1.toNat∈xb s e.1.toNat:=by
 have h:=hs.im.uT e he;refine cX.2 ⟨e.2.1,lZ.2 ⟨h.2,by omega,e,he,by omega,rfl⟩,rfl⟩
theorem Ts:SX.O2 (cS s l hs) (B2 s):=by
 obtain⟨hv,Fq,_,_⟩:=Be hs.fit hs.im;refine⟨fun v i dv hi=>((hs.sh).1 (MR hs dv)).2 i hi,fun v dv u hu i hi=>?_⟩;obtain⟨h1,h2,e,he,e1,e2⟩:=M0 hs hu;have EV:=(Ly hs.fit hs.im hv u s.aN.length (aQ _)).2 e (by rw[ga];exact he) e2;rw[← Dw s _ (show ((u:Nat):Int)<s.n by have:=hs.nn;omega),← Fq,show e.1.toNat=v by omega]at EV;have:=(hs.yM EV.1 EV.2.1).1 EV i hi;rw[abU hs dv];exact this
theorem Vk:SX.J3 (cS s l hs) (qt s) (yL s l):=by
 refine⟨List.Pairwise.filter _ CY,fun v hv u hu=>?_,fun c i x hi hc hx aS=>?_⟩
 ·obtain⟨h1,h2,e,he,e1,e2⟩:=M0 hs hu;exact kL.2 ⟨fF.2 h2,mW.2 ⟨e,he,bu e2⟩⟩
 ·have hi:i<nW l:=hi;have hw:=hs.wz
  have jM:∀j,j<nW l→gd s.what s.w j (if j=i then da s.what (c i) x else c j):=fun j hj=>by
   by_cases e:j=i
   ·subst e;rw[af rfl];exact Dh hw (hc j hj) hx
   ·rw[ag e];exact hc j hj
  have v1:=hs.Hw (f:=c) hc;have v2:=hs.Hw (f:=fun j=>if j=i then da s.what (c i) x else c j) jM
  have hle:dG s.what s.w ((List.range (nW l)).map c) ((List.range (nW l)).map fun j=>if j=i then da s.what (c i) x else c j):=(hs.yM v1 v2).2 fun j hj=>by
   rw[xI hj,xI hj]
   by_cases e:j=i
   ·subst e;rw[af rfl];exact SX.M1 (A:=cS s l hs) (hc j hj) hx
   ·rw[ag e];exact Dg hw (hc j hj)
  obtain⟨h1,h2⟩:=MW hle
  rcases AM h1 with h3 | h3
  ·exact h3
  ·have h4:=congrArg (fun a=>a.getD i 0) (h2 h3);rw[xI hi,xI hi,af rfl]at h4;exact absurd h4.symm aS
end
theorem QR{s:Sy}{a:List (List Int)}{y:List Int}(v:Nat)(h0:dG s.what s.w (gJ s v) y)(he:∀(i:Nat) (hi:i<s.aN.length),s.aN[i].2.1=v→dG s.what s.w (iS s (a.getD s.aN[i].1.toNat []) s.aN[i].1.toNat) y):∀k,k≤s.aN.length→dG s.what s.w (jT s a k v) y
 | 0,_=>h0
 |k+1,hk=>by
  have ih:=QR v h0 he k (by omega);rw[zk s a (by omega)];unfold wD;split
  ·next hc=>exact dG.join ih (he k (by omega) hc)
  ·exact ih
def qp(s:Sy)(l:Lay)(ws ws':List Int):Prop:=∀v i,v<nN s→i<nW l→da s.what (ws.getD (v*nW l+i) 0) (ws'.getD (v*nW l+i) 0)=ws'.getD (v*nW l+i) 0
structure WI(s:Sy)(l:Lay)(hs:LS s l)(a:WA)(us:Nat):Prop where
 free:uD s l a
 ref:∃D T,RJ s l hs a.W a.ws D T (us+1)∧SX.VI (cS s l hs) (B2 s) (bV s l a.W a.ws D)∧(∀v,v<nN s→SX.zc (cS s l hs) (bV s l a.W a.ws D) v)∧SX.Rest (bV s l a.W a.ws D)∧SX.EI (bV s l a.W a.ws D) (nN s)∧SX.JI (bV s l a.W a.ws D) (qt s) (yL s l)
 low:∀v i,v<nN s→i<nW l→da s.what (wd (gJ s v) i) (a.ws.getD (v*nW l+i) 0)=a.ws.getD (v*nW l+i) 0
section
variable {s:Sy} {l:Lay} {hs:LS s l}
theorem vQ{W:List WS}{ws:List Int}{D:List (List Nat)}{v i:Nat}(hv:v<nN s)(hi:i<nW l):(bV s l W ws D).cell v i=ws.getD (v*nW l+i) 0:=af ⟨hv,hi⟩
theorem WI.word{a:WA}{us:Nat}(h:WI s l hs a us){v i:Nat}(hv:v<nN s)(hi:i<nW l):gd s.what s.w i (a.ws.getD (v*nW l+i) 0):=h.free.fl.2.cells v i hv hi
theorem qp.refl{a:WA}{us:Nat}(h:WI s l hs a us):qp s l a.ws a.ws:=fun _ _ hv hi=>Dg hs.wz (h.word hv hi)
theorem qp.trans{a b c:WA}{u1 u2 u3:Nat}(h1:WI s l hs a u1)(h2:WI s l hs b u2)(h3:WI s l hs c u3)(r1:qp s l a.ws b.ws)(r2:qp s l b.ws c.ws):qp s l a.ws c.ws:=fun v i hv hi=>
 SX.le_trans (A:=cS s l hs) (h1.word hv hi) (h2.word hv hi) (h3.word hv hi) (r1 v i hv hi) (r2 v i hv hi)
theorem WI.step{a:WA}{us:Nat}(h:WI s l hs a us)(hu:us<100000000)(i:Nat)(d:Int):WI s l hs (ej s l a i d).1 (us+1)∧qp s l a.ws (ej s l a i d).1.ws:=by
 obtain⟨hF,⟨D,T,hR,hV,hC,CQ,hE,hJ⟩,fB⟩:=h;obtain⟨D',T',Gq,rG⟩:=hR.step (by omega) hF i d;have hb:=Ts hs;obtain⟨hV',Jc⟩:=hV.step hb hR.ti rG;have hF':=hF.step hs i d
 have hr:qp s l a.ws (ej s l a i d).1.ws:=fun v j hv hj=>by
  have:=Jc v j hv hj;rw[vQ hv hj,vQ hv hj]at this;exact this
 refine⟨⟨hF',⟨D',T',Gq,hV',fun v hv=>?_,CQ.step hR.ti rG,hE.step rG,hJ.step (Vk hs) hR.ti hV rG⟩,fun v j hv hj=>?_⟩,hr⟩
 ·exact SX.zc.step hR.ti hV rG hv (hC v hv)
 ·exact SX.le_trans (A:=cS s l hs) (hs.Dj hj) (hF.fl.2.cells v j hv hj) (hF'.fl.2.cells v j hv hj) (fB v j hv hj) (hr v j hv hj)
theorem Sx(hs:LS s l){v i:Nat}(hv:v<nN s)(hi:i<nW l):da s.what (wd (gJ s v) i) (B2 s v i)=B2 s v i:=by
 obtain⟨bP,Fq,_,_⟩:=Be hs.fit hs.im;have h1:=(Ly hs.fit hs.im bP v s.aN.length (aQ _)).1;rw[← Dw s _ (show ((v:Nat):Int)<s.n by have:=hs.nn;omega),← Fq]at h1;have:=(hs.yM h1.1 h1.2.1).1 h1 i hi;rw[s7 (gJ s v)]at this;exact this
theorem wi0(bM:kQ s l):WI s l hs ⟨W0 l,dP s l⟩ 0:=by
 obtain⟨iY,nH,CM⟩:=L7 hs
 have kH:∀p∈(bV s l (W0 l) (dP s l) (D0 s l)).ph,p=.idle 0 0:=fun p hp=>by
  obtain⟨x,hx,rfl⟩:=cX.1 hp;rw[show x=oh from y8 hx];rfl
 have lT:(bV s l (W0 l) (dP s l) (D0 s l)).ev=0:=Vf (f:=fun x:WS=>x.ev.toNat) (x:=oh) rfl _;have nF:(bV s l (W0 l) (dP s l) (D0 s l)).jo=0:=Vf (f:=fun x:WS=>x.jo.toNat) (x:=oh) rfl _;refine⟨NA bM hs,⟨D0 s l,fun _=>1,Ka bM,⟨fun v i hv hi=>?_,fun v i hv hi=>?_,fun p hp=>?_⟩,fun v hv=>.inl ?_,fun h=>?_,?_,?_⟩,fun v i hv hi=>?_⟩
 ·rw[vQ hv hi,iY v i hv hi];exact hs.Dj hi
 ·rw[vQ hv hi,iY v i hv hi];exact Sx hs hv hi
 ·rw[kH p hp];trivial
 ·exact bu ⟨hv,by rw[nH v hv];decide⟩
 ·exact absurd (kH _ h) (by intro h;cases h)
 ·show SX.AS.ev _+SX.aI List.length (D0 s l)+SX.aI SX.iA _≤nN s+SX.AS.jo _;rw[lT,nF,W9 bM,SX.rO fun p hp=>by rw[kH p hp];rfl];omega
 ·show SX.AS.jo _+SX.aI SX.gb _≤_;rw[nF,SX.rO fun p hp=>by rw[kH p hp];rfl];omega
 ·rw[iY v i hv hi];exact Dg hs.wz (hs.Dj hi)
theorem WI.ajJ{a:WA}{us:Nat}(h:WI s l hs a us):mP s (uq s l a.ws) (kU s).1:=by
 obtain⟨hF,⟨D,T,hR,hV,_⟩,_⟩:=h;refine⟨Rv hs hF.fl.2,(Be hs.fit hs.im).1,fun v hv=>?_⟩;have hv:v<nN s:=by have:=hs.nn;omega
 rw[Hq hv];refine (hs.yM (hs.Hw fun i hi=>hF.fl.2.cells v i hv hi) (MR hs hv)).2 fun i hi=>?_;rw[xI hi];have:=hV.low v i hv hi;rw[vQ hv hi]at this;exact this
theorem ado{a b:List (List Int)}(h1:mP s a b)(h2:mP s b a):a=b:=by
 have la:=h1.1.len;have lb:=h1.2.1.len;refine C8 (by omega) fun i hi qz=>?_;have:=(h1.2.2 i (by omega)).ajK (h2.2.2 i (by omega));rw[aZ,aZ,bB hi,bB qz]at this;exact this
theorem WI.solved{a:WA}{us:Nat}(h:WI s l hs a us)(h0:(a.ws.getD (nN s*nW l+nN s) 0).toNat=0):uq s l a.ws=(kU s).1:=by
 have zW:=h.ajJ;obtain⟨hF,⟨D,T,hR,hV,hC,CQ,hE,hJ⟩,fB⟩:=h;refine ado zW ?_;obtain⟨h1,h2,h3⟩:=hR.ti.quiet h0;have Ky:=Rv hs hF.fl.2;refine (Be hs.fit hs.im).2.2.2 _ ⟨Dv hs.fit hs.im Ky,Ky,fun u hu=>?_⟩;have CB:u<nN s:=by have:=hs.nn;omega
 rw[Dw s _ hu];have ER:=Ky.get hu;refine QR u ?_ (fun i hi he=>?_) _ (aQ _)
 ·rw[Hq CB]at ER ⊢;refine (hs.yM (Hv hs.fit hs.im u) ER).2 fun i hi=>?_;rw[s7 (gJ s u),xI hi];exact fB u i CB hi
 ·have hem:=cq hi;have EV:=hs.im.uT _ hem;have hn:=hs.nn;have xg:s.aN[i].1.toNat<nN s:=by omega
  have cP:=afK hs hem;rw[he,bG]at cP;have FX:=Ky.get (i:=s.aN[i].1.toNat) (by omega);have hov:=hs.XJ xg FX;refine (hs.yM hov ER).2 fun j hj=>?_;have ajr:=hC _ xg
  have hle:SX.Cw (cS s l hs) (bV s l a.W a.ws D).cell s.aN[i].1.toNat u:=by
   rcases ajr with h | ⟨p,hp,h⟩ | ⟨p,hp,h⟩ | h
   ·rw[h3]at h;cases h
   ·rcases h2 p hp with ⟨d,a,rfl⟩ | rfl <;> exact h.elim
   ·rcases h2 p hp with ⟨d,a,rfl⟩ | rfl <;> exact h.elim
   ·rcases h u cP with h | ⟨p,hp,h⟩
    ·exact h
    ·rcases h2 p hp with ⟨d,a,rfl⟩ | rfl <;> exact h.elim
  have:=hle j hj
  have e1:SX.mJ (cS s l hs) (bV s l a.W a.ws D).cell s.aN[i].1.toNat=(uq s l a.ws).getD s.aN[i].1.toNat []:=by
   rw[Hq xg];exact xv fun k hk=>vQ xg (fF.1 hk)
  rw[e1,vQ CB hj]at this;rw[Hq CB,xI hj];exact this
theorem WI.rest{a:WA}{us:Nat}(h:WI s l hs a us){x:WS}(hx:x∈a.W)(he:x.en=true):(a.ws.getD (nN s*nW l+nN s) 0).toNat=0:=by
 obtain⟨hF,⟨D,T,hR,hV,hC,CQ,hE,hJ⟩,fB⟩:=h;refine CQ (cX.2 ⟨x,hx,?_⟩);unfold dC;rw[af he]
end
theorem VE{A:Type}(step:A→Nat→Int→A×Bool)(tell:A→Nat→A)(n:Nat):∀(p q:List (Int×Int×Unit)) (x:jQ A),j4 step tell n (p++q) x=j4 step tell n q (j4 step tell n p x)
 | [],q,x=>rfl
 |a::p,q,x=>by
  show (if x.dn.all id=true then x else j4 step tell n (p++q) _)=j4 step tell n q (if x.dn.all id=true then x else _)
  by_cases h:x.dn.all id=true
  ·rw[af h,af h];cases q with
   |nil=>rfl
   |cons b q=>show x=if x.dn.all id=true then x else _;rw[af h]
  ·rw[ag h,ag h,VE step tell n p q]
section
variable {s:Sy} {l:Lay} {hs:LS s l}
structure XI(s:Sy)(l:Lay)(hs:LS s l)(x:jQ WA):Prop where
 wi:WI s l hs x.a x.us
 dn:x.dn=x.a.W.map (·.en)
 st:x.st.length=l.k.toNat
theorem aaz{s:Sy}{l:Lay}{who:Int}{x:WS}{d:Int}{ws:List Int}:(dB bJ s l who x d ws).2.2=(dB bJ s l who x d ws).1.en:=by
 cases he:x.en with
 |true=>unfold dB;rw[af he];exact he.symm
 |false=>exact acm (s:=s) (l:=l) (who:=who) (d:=d) (ws:=ws) he
theorem XI.pick{x:jQ WA}(h:XI s l hs x)(hu:x.us<100000000)(p:Int×Int×Unit):XI s l hs (jc (ej s l) (fun a _=>a) l.k.toNat x p)∧qp s l x.a.ws (jc (ej s l) (fun a _=>a) l.k.toNat x p).a.ws:=by
 have mr:=hs.k1;have qm:=pT (p:=p.1) (show 0<l.k.toNat by omega);have hlen:=h.wi.free.len;unfold jc
 by_cases hd:x.dn.getD (bg p.1 l.k.toNat) true=true
 ·rw[af hd];obtain⟨hw,h2,h3⟩:=h;obtain⟨hF,⟨D,T,hR,hV,hC,CQ,hE,hJ⟩,fB⟩:=hw;exact⟨⟨⟨hF,⟨D,T,⟨hR.len,hR.fl,hR.lu,hR.dl,hR.di,oU hR,fun y hy=>by have:=hR.ev y hy;show 0≤y.ev∧y.ev≤((x.us+1+1:Nat):Int)∧0≤y.jo∧y.jo≤((x.us+1+1:Nat):Int);omega,hR.jn,hR.pn,hR.ti⟩,hV,hC,CQ,hE,hJ⟩,fB⟩,h2,h3⟩,fun v i hv hi=>Dg hs.wz (hF.fl.2.cells v i hv hi)⟩
 ·rw[ag hd];obtain⟨h1,h2⟩:=h.wi.step hu (bg p.1 l.k.toNat) p.2.1;refine⟨⟨h1,?_,by show (x.st.set _ _).length=_;rw[cz];exact h.st⟩,h2⟩;show x.dn.set _ _=(ej s l x.a _ _).1.W.map (·.en);have hW:x.a.W[bg p.1 l.k.toNat]?=some x.a.W[bg p.1 l.k.toNat]:=bB (by omega);rw[Bm hW,h.dn,aaz];show _=(List.set _ _ _).map _;rw[oI]
theorem XI.go:∀(ar:List (Int×Int×Unit)) {x:jQ WA},XI s l hs x→x.us+ar.length<100000000→XI s l hs (pH s l ar x)∧qp s l x.a.ws (pH s l ar x).a.ws
 | [],x,h,_=>⟨h,qp.refl h.wi⟩
 |p::ar,x,h,hu=>by
  show XI s l hs (if x.dn.all id=true then x else pH s l ar (jc (ej s l) (fun a _=>a) l.k.toNat x p))∧qp s l x.a.ws (if x.dn.all id=true then x else pH s l ar (jc (ej s l) (fun a _=>a) l.k.toNat x p)).a.ws;have hl:x.us+(ar.length+1)<100000000:=hu
  by_cases hd:x.dn.all id=true
  ·rw[af hd];exact⟨h,qp.refl h.wi⟩
  ·rw[ag hd];obtain⟨h1,h2⟩:=h.pick (by omega) p;have gv:(jc (ej s l) (fun a _=>a) l.k.toNat x p).us=x.us+1:=by unfold jc;split <;> rfl
   obtain⟨h3,h4⟩:=XI.go ar h1 (by rw[gv];omega);exact⟨h3,qp.trans h.wi h1.wi h3.wi h2 h4⟩
theorem xi0(bM:kQ s l):XI s l hs (Aj s l):=⟨wi0 bM,by show List.replicate _ _=(List.replicate _ _).map _;rw[List.map_replicate];rfl,fQ⟩
theorem XI.all{x:jQ WA}(h:XI s l hs x)(hd:x.dn.all id=true):uq s l x.a.ws=(kU s).1:=by
 have mr:=hs.k1;have hlen:=h.wi.free.len;have h0:0<x.a.W.length:=by omega
 refine h.wi.solved (h.wi.rest (cq h0) ?_);rw[h.dn,List.all_map]at hd;exact fG.1 hd _ (cq h0)
end
set_option maxHeartbeats 4000000
section
variable {s:Sy} {l:Lay} {I:List (Nat×Nat)}
end
theorem adz{A:Type}(step:A→Nat→Int→A×Bool)(tell:A→Nat→A)(n:Nat){x:jQ A}(h:x.dn.all id=true):∀ar:List (Int×Int×Unit),j4 step tell n ar x=x
 | []=>rfl
 |p::ar=>by show (if x.dn.all id=true then x else _)=x;rw[af h]
theorem acI(s:Sy)(l:Lay){ar:List (Int×Int×Unit)}{i:Nat}(hd:(dr s l (ar.take i)).dn.all id=true):dr s l ar=dr s l (ar.take i):=by
 have e:dr s l ar=pH s l (ar.drop i) (dr s l (ar.take i)):=by
  unfold dr pH;rw[← VE,y7]
 rw[e];exact adz _ _ _ hd _
theorem Wc(s:Sy)(l:Lay):∀(ar:List (Int×Int×Unit)) (x:jQ WA),(pH s l ar x).us≤x.us+ar.length
 | [],x=>GG _ _
 |p::ar,x=>by
  show (if x.dn.all id=true then x else pH s l ar (jc (ej s l) (fun a _=>a) l.k.toNat x p)).us≤x.us+(ar.length+1);split
  ·omega
  ·have h:=Wc s l ar (jc (ej s l) (fun a _=>a) l.k.toNat x p);have gv:(jc (ej s l) (fun a _=>a) l.k.toNat x p).us=x.us+1:=by unfold jc;split <;> rfl
   omega
theorem agB{s:Sy}{l:Lay}{hs:LS s l}(bM:kQ s l)(ar:List (Int×Int×Unit))(h:ar.length≤100000):XI s l hs (dr s l ar):=
 ((xi0 bM).go ar (by show 0+ar.length<_;omega)).1
theorem acW{s:Sy}{l:Lay}{hs:LS s l}{x:jQ WA}(h:XI s l hs x)(p:Int×Int×Unit):(jc (ej s l) (fun a _=>a) l.k.toNat x p).a=(ej s l x.a (bg p.1 l.k.toNat) p.2.1).1∧(jc (ej s l) (fun a _=>a) l.k.toNat x p).dn=x.dn.set (bg p.1 l.k.toNat) (ej s l x.a (bg p.1 l.k.toNat) p.2.1).2∧(jc (ej s l) (fun a _=>a) l.k.toNat x p).us=x.us+1:=by
 have mr:=hs.k1;have hlen:=h.wi.free.len;have qm:=pT (p:=p.1) (show 0<l.k.toNat by omega);have hW:x.a.W[bg p.1 l.k.toNat]?=some x.a.W[bg p.1 l.k.toNat]:=bB (by omega);unfold jc
 by_cases hd:x.dn.getD (bg p.1 l.k.toNat) true=true
 ·rw[af hd];have mS:=h.dn
  have he:x.a.W[bg p.1 l.k.toNat].en=true:=by
   rw[mS,aZ,fk,hW]at hd;exact hd
  have e:dB bJ s l (bg p.1 l.k.toNat) x.a.W[bg p.1 l.k.toNat] p.2.1 x.a.ws=(x.a.W[bg p.1 l.k.toNat],x.a.ws,true):=af he;rw[Bm hW,e];dsimp only;rw[oR hW];refine⟨rfl,?_,rfl⟩;rw[oR];rw[mS,fk,hW];exact congrArg some he
 ·rw[ag hd];exact⟨rfl,rfl,rfl⟩
set_option maxHeartbeats 4000000
theorem Mj:∀(l m:List Nat),l.Nodup→(∀x∈l,x∈m)→l.length≤m.length
 | [],_,_,_=>bC _
 |a::l,m,hn,h=>by
  obtain⟨h1,h2⟩:=lV.1 hn;have ha:=h a (b9 ..);have h3:=Mj l (m.erase a) h2 fun x hx=>(GL (fun e:x=a=>h1 (by rw[← e];exact hx))).2 (h x (cQ _ hx));rw[List.length_erase,af ha]at h3;have:=C9 ha;show l.length+1≤_;omega
section
variable {s:Sy} {l:Lay} {hs:LS s l}
theorem agD(_:LS s l):(qt s).length≤nN s∧(qt s).length≤(gl s.aN).length:=by
 refine⟨?_,?_⟩
 ·have:=Da (fun u:Nat=>s.aN.any fun e=>decide (e.2.1=(u:Int))) (List.range (nN s));rw[oL]at this;exact this
 ·have:=Mj (qt s) ((gl s.aN).map fun e=>e.2.1.toNat) (List.Pairwise.filter _ CY) fun u hu=>by
   obtain⟨_,h2⟩:=kL.1 hu;obtain⟨e,he,h3⟩:=mW.1 h2;refine cX.2 ⟨e,(G5 _ _).2 he,?_⟩;rw[fP h3];exact bG _
  rw[bX]at this;exact this
end
set_option maxHeartbeats 4000000
theorem acX{s:Sy}{l:Lay}(n:Nat)(x:jQ WA)(p:Int×Int×Unit):(jc (ej s l) (fun a _=>a) n x p).dn.length=x.dn.length∧(jc (ej s l) (fun a _=>a) n x p).a.W.length=x.a.W.length:=by
 unfold jc;split
 ·exact⟨rfl,rfl⟩
 ·refine⟨cz ..,?_⟩;show (ej s l x.a _ _).1.W.length=_;unfold ej;split
  ·exact cz ..
  ·rfl
theorem Wv{s:Sy}{l:Lay}(n:Nat):∀(ar:List (Int×Int×Unit)) (x:jQ WA),(j4 (ej s l) (fun a _=>a) n ar x).dn.length=x.dn.length∧(j4 (ej s l) (fun a _=>a) n ar x).a.W.length=x.a.W.length
 | [],x=>⟨rfl,rfl⟩
 |p::ar,x=>by
  show (if x.dn.all id=true then x else j4 (ej s l) (fun a _=>a) n ar (jc (ej s l) (fun a _=>a) n x p)).dn.length=_∧(if x.dn.all id=true then x else j4 (ej s l) (fun a _=>a) n ar (jc (ej s l) (fun a _=>a) n x p)).a.W.length=_;split
  ·exact⟨rfl,rfl⟩
  ·have h1:=Wv (s:=s) (l:=l) n ar (jc (ej s l) (fun a _=>a) n x p);have h2:=acX (s:=s) (l:=l) n x p;exact⟨h1.1.trans h2.1,h1.2.trans h2.2⟩
theorem aeT(s:Sy)(l:Lay)(ar:List (Int×Int×Unit)):(dr s l ar).dn.length=l.k.toNat∧(dr s l ar).a.W.length=l.k.toNat:=by
 have h:=Wv (s:=s) (l:=l) l.k.toNat ar (Aj s l);exact⟨h.1.trans fQ,h.2.trans fQ⟩
def ahW(s:Sy)(l:Lay)(ar:List (Int×Int×Unit))(r:AV):Prop:=
 ((dr s l ar).dn.all id=true∧r=.tup [.agg (zM (wG l (dr s l ar).a.ws (nN s)) (AT (dr s l ar).a.W) (Ar (dr s l ar).a.W) (dr s l ar).us),.int .i64 0])∨((dr s l ar).dn.all id=false∧r=.tup [.agg qQ,.int .i64 11])
theorem aiF(s:Sy)(k:Nat)(l:Lay)(hl:je s k=l)(ar:List (Int×Int×Unit))(σ:Hp)(hf:Fit s)(he:cM s k=0)(pj:ar.length≤100000):ACalls Tryz.prog 13 [.agg (cc s),.int .i64 k,.ah l4 ar] σ (fun r σ'=>ahW s l ar r∧σ'=σ∧kQ s l):=by
 obtain⟨hs,Gs⟩:=zS hf he;have hk:l.k=k:=by rw[← hl];exact It he
 rw[hl]at hs;have eD:=hs.k2;have hnn:=hs.nn;have hn:=hs.n;obtain⟨AB,sD⟩:=aeT s l ar;have e:l.k.toNat=k:=by omega
 rw[e]at AB sD;cases hd:(dr s l ar).dn.all id with
 |true=>
  refine (ahC s k l hl ar σ hf he pj (by omega) (by omega) (by omega) AB sD hd).mono ?_;rintro _ _ ⟨rfl,rfl,bM⟩;exact⟨.inl ⟨hd,rfl⟩,rfl,bM⟩
 |false=>
  refine (ac7 s k l hl ar σ hf he pj (by omega) AB hd).mono ?_;rintro _ _ ⟨rfl,rfl,bM⟩;exact⟨.inr ⟨hd,rfl⟩,rfl,bM⟩
theorem aib{s:Sy}{k:Int}(hf:Fit s)(he:cM s k=0):∃n:Nat,k=(n:Int)∧1≤n∧n≤64:=by
 obtain⟨hs,_⟩:=zS hf he;have h1:=hs.k1;have h2:=hs.k2;rw[It he]at h1 h2;exact⟨k.toNat,by omega,by omega,by omega⟩
set_option maxHeartbeats 4000000
section
variable {s:Sy} {l:Lay} (hs:LS s l)
include hs
theorem abt(ws:List Int):wG l ws (nN s)=uq s l ws:=by
 unfold wG uq qo;refine xv fun v hv=>xv fun i hi=>?_;rw[hs.B0 (fF.1 hv) (fF.1 hi),oS]
end
set_option maxHeartbeats 4000000
def wH(s:Sy)(l:Lay)(n:Nat):List lJ→WA→WA
 | [],a=>a
 |p::ar,a=>wH s l n ar (ej s l a (bg p.1 n) p.2.1).1
section
variable {s:Sy} {l:Lay} {hs:LS s l}
theorem S6(n:Nat):∀(ar:List lJ) {a:WA} {D:List (List Nat)} {T:Nat→Nat} {M:Nat},RJ s l hs a.W a.ws D T M→uD s l a→M+ar.length<1000000000→∃D' T',RJ s l hs (wH s l n ar a).W (wH s l n ar a).ws D' T' (M+ar.length)∧SX.py (cS s l hs) (gA n ar) (bV s l a.W a.ws D) (bV s l (wH s l n ar a).W (wH s l n ar a).ws D')
 | [],a,D,T,M,hR,_,_=>⟨D,T,hR,.nil _⟩
 |p::ar,a,D,T,M,hR,hF,hM=>by
  have hM:M+(ar.length+1)<1000000000:=hM;obtain⟨D1,T1,hR1,rG⟩:=hR.step (by omega) hF (bg p.1 n) p.2.1;obtain⟨D2,T2,Kz,hg⟩:=S6 n ar hR1 (hF.step hs _ _) (by omega);refine⟨D2,T2,?_,.cons rG hg⟩;rw[show M+1+ar.length=M+(p::ar).length by rw[gj];omega]at Kz;exact Kz
theorem Tc{n:Nat}:∀(ar:List lJ) {a:WA},(∀x∈a.W,x.en=true)→wH s l n ar a=a
 | [],_,_=>rfl
 |p::ar,a,h=>by
  have e:(ej s l a (bg p.1 n) p.2.1).1=a:=by
   cases hx:a.W[bg p.1 n]? with
   |none=>unfold ej;rw[hx]
   |some x=>
    rw[Bm hx];have e:dB bJ s l (bg p.1 n) x p.2.1 a.ws=(x,a.ws,true):=af (h x (bU hx));rw[e];dsimp only;rw[oR hx]
  show wH s l n ar (ej s l a (bg p.1 n) p.2.1).1=a;rw[e];exact Tc ar h
theorem XI.adR{x:jQ WA}(h:XI s l hs x)(hd:x.dn.all id=true):∀y∈x.a.W,y.en=true:=fun y hy=>by
 rw[h.dn,List.all_map]at hd;exact fG.1 hd y hy
theorem VD:∀(ar:List lJ) {x:jQ WA},XI s l hs x→x.us+ar.length<100000000→(pH s l ar x).a=wH s l l.k.toNat ar x.a
 | [],_,_,_=>rfl
 |p::ar,x,h,hu=>by
  have hu:x.us+(ar.length+1)<100000000:=hu
  by_cases hd:x.dn.all id=true
  ·rw[show pH s l (p::ar) x=x from af hd];exact (Tc _ (h.adR hd)).symm
  ·rw[show pH s l (p::ar) x=pH s l ar (jc (ej s l) (fun a _=>a) l.k.toNat x p) from ag hd];obtain⟨ha,_,gv⟩:=acW h p;rw[VD ar (h.pick (by omega) p).1 (by rw[gv];omega),ha];rfl
theorem acZ{does:Int}{node:Nat}{out:List Int}{u:Nat}{r:List Nat}{n:Nw}:phN does node out u r n≠.done:=by
 cases n with
 |none=>
  show Aq does node out u r≠.done;unfold Aq
  repeat' split
  all_goals exact fun h=>by cases h
 |pop q=>show (if q.at_=5∧q.ok=true then SX.Ph.held q.x.toNat else .idle 0 q.at_)≠.done;split <;> exact fun h=>by cases h
 |take t=>show (if t.j7=true then SX.Ph.add node out u r else .take node out u r)≠.done;split <;> exact fun h=>by cases h
 |_=>exact fun h=>by cases h
theorem afa{x:WS}(h:dC x=.done):x.en=true:=by
 unfold dC at h;split at h
 ·assumption
 ·exact absurd h acZ
theorem RA(f:Nat→Nat):∀{m:List Nat} {a:Nat},a∈m→SX.aI f m=f a+SX.aI f (m.erase a)
 |b::m,a,h=>by
  by_cases e:b=a
  ·subst e;rw[List.erase_cons_head];rfl
  ·rw[List.erase_cons_tail (by simpa using e)]
   have h2:a∈m:=by
    rcases dm.1 h with h | h
    ·exact absurd h.symm e
    ·exact h
   have:=RA f h2;show f b+SX.aI f m=f a+(f b+SX.aI f (m.erase a));omega
theorem Mf(f:Nat→Nat):∀(l m:List Nat),l.Nodup→(∀x∈l,x∈m)→SX.aI f l≤SX.aI f m
 | [],_,_,_=>bC _
 |a::l,m,hn,h=>by
  obtain⟨h1,h2⟩:=lV.1 hn;have ha:=h a (b9 ..);have h3:=Mf f l (m.erase a) h2 fun x hx=>(GL (fun e:x=a=>h1 (by rw[← e];exact hx))).2 (h x (cQ _ hx));rw[RA f ha];show f a+SX.aI f l≤_;omega
theorem aaC(n:Int)(es:List bE)(v:Int):(aw n es v).Nodup:=by
 unfold aw;refine List.Pairwise.filter _ (vF.2 (List.Pairwise.imp (fun {a b} oF e=>oF ?_) CY));have e:(a:Int)=b:=e;omega
theorem ab7(s:Sy)(v:Nat):(xb s v).Nodup:=by
 refine vF.2 (List.Pairwise.imp_of_mem (fun {a b} ha hb aS e=>aS ?_) (aaC s.n s.aN v));obtain⟨x,rfl,_⟩:=V7 ha;obtain⟨y,rfl,_⟩:=V7 hb;have e:((x:Int)).toNat=((y:Int)).toNat:=e;omega
theorem ah5(hs:LS s l):SX.aI (fun v=>(xb s v).length) (List.range (nN s))≤(gl s.aN).length:=by
 have h1:=MP (fun _:bE=>1) (fun e:bE=>e.1.toNat) (nN s) (gl s.aN) fun e he=>by
  have:=hs.im.uT e ((G5 _ _).1 he);have:=hs.nn;omega
 rw[HP]at h1;rw[← h1];refine SX.MQ fun v hv=>?_;rw[HP]
 have:=Mj (xb s v) (((gl s.aN).filter fun e:bE=>decide (e.1.toNat=v)).map fun e=>e.2.1.toNat) (ab7 s v) fun u hu=>by
  obtain⟨_,_,e,he,h3,h4⟩:=M0 hs hu;refine cX.2 ⟨e,kL.2 ⟨(G5 _ _).2 he,bu (by omega)⟩,by omega⟩
 rw[bX]at this;exact this
theorem TM{α:Type}(f:α→Nat)(h:Nat):∀l:List α,SX.aI (fun x=>h*f x) l=h*SX.aI f l
 | []=>rfl
 |a::l=>by
  show h*f a+SX.aI (fun x=>h*f x) l=h*(f a+SX.aI f l);rw[TM f h l,CS]
theorem LP(A:SX.AP)(c:Nat):∀l:List Nat,SX.aI (fun u=>c+SX.ek A u) l=l.length*(c+SX.W1 A+9)+SX.aI (fun v=>(A.nx v).length) l*SX.W1 A
 | []=>by show 0=0*_+0*_;rw[vC,vC,vA]
 |a::l=>by
  show c+(SX.W1 A+9+(A.nx a).length*SX.W1 A)+SX.aI (fun u=>c+SX.ek A u) l=(l.length+1)*(c+SX.W1 A+9)+((A.nx a).length+SX.aI (fun v=>(A.nx v).length) l)*SX.W1 A;rw[LP A c l,lU,lU];omega
theorem aaX(hs:LS s l)(bM:kQ s l)(h:Nat):SX.nf (cS s l hs) (qt s) (yL s l) h (bV s l (W0 l) (dP s l) (D0 s l))≤h*((qt s).length*(2*l.k.toNat+5+SX.W1 (cS s l hs)+9)+(gl s.aN).length*SX.W1 (cS s l hs))+(nN s*(SX.W1 (cS s l hs)+9)+(gl s.aN).length*SX.W1 (cS s l hs))+7*l.k.toNat:=by
 have cP:=ah5 hs;have fh:(qt s).Nodup:=List.Pairwise.filter _ CY;have hu:SX.aI (fun v=>(xb s v).length) (qt s)≤SX.aI (fun v=>(xb s v).length) (List.range (nN s)):=Mf _ _ _ fh fun x hx=>(kL.1 hx).1
 have h1:SX.aI (fun u=>(h-yL s l ((bV s l (W0 l) (dP s l) (D0 s l)).cell u))*(2*(cS s l hs).k+5+SX.ek (cS s l hs) u)) (qt s)≤h*((qt s).length*(2*l.k.toNat+5+SX.W1 (cS s l hs)+9)+(gl s.aN).length*SX.W1 (cS s l hs)):=by
  refine ff (SX.MQ (g:=fun u=>h*(2*l.k.toNat+5+SX.ek (cS s l hs) u)) fun u _=>jm _ (Nat.sub_le _ _)) ?_;rw[TM,LP];refine Qe _ (Nat.add_le_add_left (jm _ ?_) _);exact ff hu cP
 have h2:SX.aI (SX.lI (cS s l hs)) (D0 s l)≤nN s*(SX.W1 (cS s l hs)+9)+(gl s.aN).length*SX.W1 (cS s l hs):=by
  have e:=NR bM (SX.ek (cS s l hs));have e2:SX.aI (SX.lI (cS s l hs)) (D0 s l)=SX.aI (fun c=>SX.aI (SX.ek (cS s l hs)) c) (D0 s l):=rfl;rw[e2,e,← Mg];have Au:∀x∈(og (nN s) s.aN s.entry).reverse,0≤x∧x<(nN s:Int):=fun x hx=>bM.all.rg x (xr.1 hx)
  have cg:((og (nN s) s.aN s.entry).reverse.map Int.toNat).Nodup:=by
   refine vF.2 (List.Pairwise.imp_of_mem (fun {a b} ha hb aS e=>aS ?_) ((List.reverse_perm _).nodup_iff.2 bM.all.nd));have h3:=Au a ha;have h4:=Au b hb;omega
  refine ff (Mf _ _ (List.range (nN s)) cg fun v hv=>?_) ?_
  ·obtain⟨z,hz,rfl⟩:=cX.1 hv;have:=Au z hz;exact fF.2 (by omega)
  ·have:=LP (cS s l hs) 0 (List.range (nN s));rw[oL,dI]at this;have e3:SX.aI (fun u=>0+SX.ek (cS s l hs) u) (List.range (nN s))=SX.aI (SX.ek (cS s l hs)) (List.range (nN s)):=SX.Bb fun x _=>dI _;rw[← e3,this];exact Nat.add_le_add_left (jm _ cP) _
 have h3:SX.aI (SX.df (cS s l hs) (bV s l (W0 l) (dP s l) (D0 s l)).cell) (bV s l (W0 l) (dP s l) (D0 s l)).ph≤7*l.k.toNat:=by
  refine ff (Ie _ 7 fun p hp=>?_) ?_
  ·obtain⟨x,hx,rfl⟩:=cX.1 hp;rw[show x=oh from y8 hx];exact aQ _
  ·show ((W0 l).map dC).length*7≤_;rw[bX,show (W0 l).length=l.k.toNat from fQ];omega
 unfold SX.nf;have h2:SX.aI (SX.lI (cS s l hs)) (bV s l (W0 l) (dP s l) (D0 s l)).dq≤_:=h2;omega
def rZ(s:Sy)(W k:Nat):Nat:=
 (nN s+(gl s.aN).length*(dN s.what s.w).toNat)*(W+2)+6*(2*(nN s+(gl s.aN).length*(dN s.what s.w).toNat)+k)+(1+(dN s.what s.w).toNat)*(gl s.aN).length*W+nN s*(dN s.what s.w).toNat*(2*k+5)
theorem acY(hs:LS s l)(bM:kQ s l)(hk:l.k≤5):SX.nf (cS s l hs) (qt s) (yL s l) (dN s.what s.w).toNat (bV s l (W0 l) (dP s l) (D0 s l))≤rZ s (SX.W1 (cS s l hs)) l.k.toNat:=by
 refine ff (aaX hs bM _) ?_;obtain⟨h1,h2⟩:=agD hs;have hn:=hs.nn;have mr:=hs.k1;unfold rZ;generalize SX.W1 (cS s l hs)=W;generalize (dN s.what s.w).toNat=h;generalize (gl s.aN).length=e at *;generalize (qt s).length=u at *;generalize yS:l.k.toNat=k at *;generalize nN s=n at *
 have a1:h*(u*(2*k+5))≤n*h*(2*k+5):=by
  rw[← xq,vB n h];exact jm _ (Qe _ h1)
 have a2:h*(u*(W+9))≤(e*h)*(W+9):=by
  rw[← xq,vB e h];exact jm _ (Qe _ h2)
 have e1:h*(u*(2*k+5+W+9)+e*W)=h*(u*(2*k+5))+h*(u*(W+9))+h*(e*W):=by
  rw[show 2*k+5+W+9=(2*k+5)+(W+9) by omega,CS u,CS,CS]
 have e2:(1+h)*e*W=e*W+h*(e*W):=by rw[lU,lU,Gx,xq]
 have e3:(n+e*h)*(W+2)+7*(n+e*h)=n*(W+9)+(e*h)*(W+9):=by
  rw[← lU,vB 7,← CS]
 rw[e1,e2];have a3:1≤n:=hn.2.1;generalize e*h=eh at *;generalize (n+eh)*(W+2)=x1 at *;omega
theorem acJ(hs:LS s l)(bM:kQ s l)(hk:l.k≤5)(ar:List lJ){K:Nat}(hF:uE l.k.toNat K (gA l.k.toNat ar))(hl:(rZ s (SX.W1 (cS s l hs)) l.k.toNat+12)*K≤ar.length)(pj:ar.length≤10000000):
  (dr s l ar).dn.all id=true∧(dr s l ar).us≤(rZ s (SX.W1 (cS s l hs)) l.k.toNat+12)*K:=by
 obtain⟨m,hm⟩:∃m,m=rZ s (SX.W1 (cS s l hs)) l.k.toNat+12:=⟨_,rfl⟩
 rw[← hm]at hl ⊢;have xe:=xi0 (hs:=hs) bM;have ht:(ar.take (m*K)).length=m*K:=by rw[tO];omega
 have hxi:XI s l hs (dr s l (ar.take (m*K))):=(xe.go _ (by show 0+(ar.take (m*K)).length<_;omega)).1;have ain:(dr s l (ar.take (m*K))).a=wH s l l.k.toNat (ar.take (m*K)) ⟨W0 l,dP s l⟩:=VD _ xe (by show 0+(ar.take (m*K)).length<_;omega);obtain⟨D',T',Gq,Gg⟩:=S6 (hs:=hs) l.k.toNat (ar.take (m*K)) (Ka bM) (NA bM hs) (by omega);have qm:(gA l.k.toNat (ar.take (m*K)))=(gA l.k.toNat ar).take (m*K):=by unfold gA;rw[List.map_take]
 have pA:(gA l.k.toNat (ar.take (m*K))).length=m*K:=by unfold gA;rw[bX,ht]
 obtain⟨pG,⟨D1,T1,_⟩,_⟩:=wi0 (hs:=hs) bM;have hb:=Ts hs;have hr:=Vk hs
 have hh:∀c,yL s l c≤(dN s.what s.w).toNat:=fun c=>by
  have:=Rc (what:=s.what) (w:=s.w) ((List.range (nW l)).map c) hs.im.sr;unfold yL;omega
 have AH:(W0 l).length=l.k.toNat:=fQ
 have kH:∀p∈(bV s l (W0 l) (dP s l) (D0 s l)).ph,p=.idle 0 0:=fun p hp=>by
  obtain⟨x,hx,rfl⟩:=cX.1 hp;rw[show x=oh from y8 hx];rfl
 obtain⟨iY,nH,CM⟩:=L7 hs
 have hI:SX.rp (cS s l hs) (B2 s) (bV s l (W0 l) (dP s l) (D0 s l)):=by
  refine⟨(Ka (hs:=hs) bM).ti,⟨fun v i hv hi=>?_,fun v i hv hi=>?_,fun p hp=>?_⟩,?_,?_,fun i p c hp hc hb=>?_,fun p hp a ea=>?_⟩
  ·rw[vQ hv hi,iY v i hv hi];exact hs.Dj hi
  ·rw[vQ hv hi,iY v i hv hi];exact Sx hs hv hi
  ·rw[kH p hp];trivial
  ·show ((W0 l).map dC).length=l.k.toNat;rw[bX,AH]
  ·show (D0 s l).length=l.k.toNat;rw[(Ka (hs:=hs) bM).dl,AH]
  ·exact absurd (by rw[kH p (bU hp)];rfl) hb
  ·rw[kH p hp]at ea;cases ea;omega
 have hB:SX.Bd (cS s l hs) (qt s) (yL s l) (dN s.what s.w).toNat (0+m) (bV s l (W0 l) (dP s l) (D0 s l)):=by
  have hp:=acY hs bM hk;rw[dI]
  by_cases hc:(bV s l (W0 l) (dP s l) (D0 s l)).aH=0
  ·exact .inr ⟨hc,fun p hp=>by rw[kH p hp];show 11≤m;omega⟩
  ·exact .inl ⟨hc,by omega⟩
 have kB:=SX.Bd.U7 hb hr hh (K:=K) m hI hB (by rw[pA];exact aQ _) (fun i hi j hj=>by
  rw[qm]at hi ⊢
  exact hF.take (m*K) i hi j hj) Gg
 have hz:=SX.Bd.zero Gq.ti kB
 have cx:(dr s l (ar.take (m*K))).dn.all id=true:=by
  rw[hxi.dn,List.all_map];refine fG.2 fun x hx=>?_;rw[ain]at hx;exact afa (hz (dC x) (cX.2 ⟨x,hx,rfl⟩))
 rw[acI s l cx];refine⟨cx,?_⟩;have:=Wc s l (ar.take (m*K)) (Aj s l);have h0:(Aj s l).us=0:=rfl;show (pH s l (ar.take (m*K)) (Aj s l)).us≤_;omega
end
theorem mN{n:Nat}(h:n<9000000000000000000):IntKind.i64.wrap (n:Int)=n:=qa h
theorem TE{s:Sy}{l:Lay}(hs:LS s l){k:Nat}(hk:k≤64):zO s k=(rZ s (SX.W1 (cS s l hs)) k:Int)∧rZ s (SX.W1 (cS s l hs)) k≤1000000000000:=by
 have hn:=hs.nn;have hw:=hs.On;have vd:=hs.ww;have hh:=HE s.what s.w;have AA:=hs.fit.yE;have cT:(gl s.aN).length≤s.aN.length:=by rw[← UC];exact My _ _ (aQ _)
 have hc:=L6 hs.im
 have hW:wM s=(SX.W1 (cS s l hs):Int):=by
  unfold wM;rw[hw];show _=((max (nW l) 1:Nat):Int);split <;> omega
 have Kx:1≤SX.W1 (cS s l hs)∧SX.W1 (cS s l hs)≤1024:=by
  show 1≤max (nW l) 1∧max (nW l) 1≤1024;omega
 have hH:dN s.what s.w=((dN s.what s.w).toNat:Int):=by omega
 have CR:(dN s.what s.w).toNat≤2048:=by omega
 have hE:yi s=((nN s+(gl s.aN).length*(dN s.what s.w).toNat:Nat):Int):=by
  unfold yi;rw[af hc,hH,hn.1];have b1:(gl s.aN).length*(dN s.what s.w).toNat≤100000*2048:=jN (by omega) CR;rw[bG,← sJ,mN (by omega),← qC];exact mN (by omega)
 unfold zO w1 w2 w3 w4;rw[hW,hH,hn.1,hE];unfold rZ;have mq:=hn.2;generalize SX.W1 (cS s l hs)=W at *;generalize (dN s.what s.w).toNat=h at *;generalize nN s=n at *;have he:(gl s.aN).length≤100000:=by omega
 generalize (gl s.aN).length=e at *;have b1:e*h≤100000*2048:=jN he CR;have b2:(n+e*h)*(W+2)≤205000000*1026:=jN (by omega) (by omega);have b3:(1+h)*e≤2049*100000:=jN (by omega) he;have b4:(1+h)*e*W≤204900000*1024:=jN (by omega) Kx.2;have b5:n*h≤256*2048:=jN mq.2 CR;have b6:n*h*(2*k+5)≤524288*133:=jN (by omega) (by omega);generalize hEE:n+e*h=E at *;have c1:IntKind.i64.wrap ((W:Int)+2)=((W+2:Nat):Int):=mN (n:=W+2) (by omega);have c2:IntKind.i64.wrap ((E:Int)*((W+2:Nat):Int))=((E*(W+2):Nat):Int):=by rw[← sJ];exact mN (by omega)
 have c3:IntKind.i64.wrap (2*(E:Int))=((2*E:Nat):Int):=by rw[show 2*(E:Int)=((2*E:Nat):Int) by omega];exact mN (by omega)
 have c4:IntKind.i64.wrap (((2*E:Nat):Int)+(k:Int))=((2*E+k:Nat):Int):=mN (n:=2*E+k) (by omega);have c5:IntKind.i64.wrap (6*((2*E+k:Nat):Int))=((6*(2*E+k):Nat):Int):=by rw[show 6*((2*E+k:Nat):Int)=((6*(2*E+k):Nat):Int) by omega];exact mN (by omega)
 have c6:IntKind.i64.wrap (1+(h:Int))=((1+h:Nat):Int):=mN (n:=1+h) (by omega);have c7:IntKind.i64.wrap (((1+h:Nat):Int)*(e:Int))=(((1+h)*e:Nat):Int):=by rw[← sJ];exact mN (by omega)
 have c8:IntKind.i64.wrap ((((1+h)*e:Nat):Int)*(W:Int))=(((1+h)*e*W:Nat):Int):=by rw[← sJ];exact mN (by omega)
 have c9:IntKind.i64.wrap ((n:Int)*(h:Int))=((n*h:Nat):Int):=by rw[← sJ];exact mN (by omega)
 have d1:IntKind.i64.wrap (2*(k:Int))=((2*k:Nat):Int):=by rw[show 2*(k:Int)=((2*k:Nat):Int) by omega];exact mN (by omega)
 have d2:IntKind.i64.wrap (((2*k:Nat):Int)+5)=((2*k+5:Nat):Int):=mN (n:=2*k+5) (by omega);have d3:IntKind.i64.wrap (((n*h:Nat):Int)*((2*k+5:Nat):Int))=((n*h*(2*k+5):Nat):Int):=by rw[← sJ];exact mN (by omega)
 rw[c1,c2,c3,c4,c5,c6,c7,c8,c9,d1,d2,d3];generalize E*(W+2)=x1 at *;generalize (1+h)*e*W=x3 at *;generalize n*h*(2*k+5)=x4 at *;refine⟨?_,by omega⟩;show IntKind.i64.wrap (IntKind.i64.wrap (IntKind.i64.wrap (IntKind.i64.wrap (0+(x1:Int))+((6*(2*E+k):Nat):Int))+(x3:Int))+(x4:Int))=_;rw[show (0:Int)+(x1:Int)=((x1:Nat):Int) by omega,mN (n:=x1) (by omega),← qC,mN (n:=x1+6*(2*E+k)) (by omega),← qC,mN (n:=x1+6*(2*E+k)+x3) (by omega),← qC,mN (n:=x1+6*(2*E+k)+x3+x4) (by omega)]
theorem aei(s:Sy)(σ:Hp)(hf:Fit s)(hg:Good s):ACalls Tryz.prog 23 [.agg (cc s)] σ (aC (.ah (.slice (.int .u64)) (kU s).1) σ):=by
 have he:=Tl hg;have h0:0≤uc s:=he.2.1;obtain⟨m,hm⟩:∃m:Nat,uc s=m:=⟨(uc s).toNat,by omega⟩
 have hE:=fun σ=>sS (aem s σ) (aT (he.1.trans hm));have hS:=fun σ=>aca s m σ hf hg (by omega);have aj7:(kU s).1=(ns s m (nQ s) 0).1:=by unfold kU;rw[hm,bG]
 rw[aj7];refine ay Tryz.func23 ?_;intro aF;refine .quiet (by kernel_rfl) ?_;refine aa 0 ?_;refine aa 0 ?_;refine aK [] (hE _) ?_;refine aK [] (hS _) ?_;exact .drop 0 1 (.done ⟨rfl,rfl⟩)
theorem ahZ{k:IntKind}{a a' b b':Int}(h1:a=a')(h2:b=b'):AV.tup [.int k a,.int k b]=AV.tup [.int k a',.int k b']:=by rw[h1,h2]
theorem agk(n:Nat)(σ:Hp)(hn:n≤256):ACalls Tryz.prog 236 [.int .u64 1,.int .u64 n] σ (aC (.tup [.int .u64 0,.int .u64 n]) σ):=by
 refine ay Tryz.func236 ?_;refine dZ ?_;refine dZ ?_;refine dZ ?_;refine dZ ?_;refine dZ ?_;refine .done ⟨ahZ ?_ ?_,rfl⟩
 ·revert hn;revert n;decide +kernel
 ·revert hn;revert n;decide +kernel
theorem aiM(n:Nat)(σ:Hp)(hn:n≤256):ACalls Tryz.prog 188 [.int .u64 1,.int .u64 n] σ (aC (.tup [.int .u64 0,.int .u64 n]) σ):=by
 refine ay Tryz.func188 ?_;refine ax [] (agk n _ hn) ?_;exact .done ⟨rfl,rfl⟩
def mF(x:Int)(n m:Nat):List Int:=List.replicate m x++List.replicate (n-m) 0
theorem YJ{x:Int}{n m:Nat}(h:m≤n):(mF x n m).length=n:=by unfold mF;simp;omega
theorem QX{x:Int}{n m k:Nat}(hk:k≤m)(h:m+k≤n):fx (ai (mF x n m)) m (((ai (mF x n m)).drop 0).take (k*1))=ai (mF x n (m+k)):=by
 have h2:((ai (mF x n m)).drop 0).take (k*1)=ai (List.replicate k x):=by
  rw[gR,dS];unfold mF ai;rw[← List.map_take,List.take_append_of_le_length (by simp;omega),List.take_replicate,Nat.min_eq_left hk]
 have e:ai (mF x n m)=ai (List.replicate m x)++(ai (List.replicate k 0)++ai (List.replicate (n-(m+k)) 0)):=by
  unfold mF ai;rw[cF,show n-m=k+(n-(m+k)) by omega,← List.replicate_append_replicate,cF]
 have e2:ai (mF x n (m+k))=ai (List.replicate m x)++(ai (List.replicate k x)++ai (List.replicate (n-(m+k)) 0)):=by
  unfold mF ai;rw[← List.replicate_append_replicate,cF,cF,dW]
 have h3:=Hc (ai (List.replicate k x)) (ai (List.replicate m x)) (ai (List.replicate k 0)) (ai (List.replicate (n-(m+k)) 0)) (by simp[ai]);rw[show (ai (List.replicate m x)).length=m by simp[ai]]at h3;rw[h2,e,h3,e2]
theorem TZ:∀n:Nat,cI [.int .i64 0] n=ai (List.replicate n 0)
 | 0=>rfl
 |n+1=>by
  show [AV.int .i64 0]++cI [.int .i64 0] n=_;rw[TZ n];rfl
theorem Za{x:Int}{n:Nat}(h:1≤n):fx (cI [.int .i64 0] n) 0 ([.int .i64 x]:List AV)=ai (mF x n 1):=by
 obtain⟨k,rfl⟩:∃k,n=k+1:=⟨n-1,by omega⟩
 rw[TZ];rfl
theorem ab1(x:Int)(n:Nat):mF x n n=List.replicate n x:=by unfold mF;rw[Nat.sub_self];simp
theorem aiH(x:Int)(n:Nat)(σ:Hp)(hn:n≤256)(h0:1≤n):ACalls Tryz.prog 135 [.ah (.int .i64) ([x]:List Int),.int .i64 n] σ (fun r σ'=>∃b,r=.ae b 0 n 1∧σ'=(b,ai (List.replicate n x))::σ):=by
 refine ay Tryz.func135 ?_
 have hw:∀σ,ACalls Tryz.prog 188 [.int .u64 (IntKind.u64.wrap (([x]:List Int).length:Int)),.int .u64 (IntKind.u64.wrap (n:Int))] σ (aC (.tup [.int .u64 0,.int .u64 n]) σ):=fun σ=>by
  rw[show IntKind.u64.wrap (n:Int)=n by revert hn h0;revert n;decide +kernel];exact aiM n σ hn
 refine ax [] (hw _) ?_;refine ao (fun c1=>?_) (fun c1=>?_)
 ·have c1:9223372036854775807<(↑n:Int):=c1;omega
 ·generalize hm:IntKind.i64.wrap (n:Int)=m;obtain rfl:m=(n:Int):=by rw[← hm,IntKind.wrap_i64];omega
  refine bf ?_;intro aF;generalize sA:IntKind.i64.wrap (n:Int)=m2;obtain rfl:m2=(n:Int):=by rw[← sA,IntKind.wrap_i64];omega
  refine .ae 0 aF 0 n 1 _ _ rfl rfl (by simp[vP]) (.ah (.int .i64) ([x]:List Int) rfl) h0 ?_;refine ca (S:=Nat) (fun m=>[(7,.ae aF 0 n 1),(8,.int .i64 m)]) (fun m=>(aF,ai (mF x n m))::σ) (fun m=>1≤m∧m≤n) (fun m=>n-m) 1 ⟨⟨aQ _,h0⟩,⟨rfl,rfl,trivial⟩,by rw[← Za h0];rfl⟩ ?_;rintro m g ⟨AI,h20⟩;have h1:1≤m:=AI;have h2:m≤n:=h20;clear AI h20;have hlen:(ai (mF x n m)).length=n:=by unfold ai;rw[bX,YJ h2]
  refine ao (fun ab=>?_) (fun au=>?_)
  ·have ab:m<n:=by have ab:(m:Int)<n:=ab;omega
   refine .sched [] (upto [] 10 0) (by kernel_rfl) ?_;refine aJ.mk ⟨by omega,by omega,by omega,rfl⟩ ?_;refine aJ.mk ⟨by omega,by omega,by omega,rfl⟩ ?_;have X8:∀k:Nat,k≤n→AV.int .i64 (IntKind.i64.wrap ((m:Int)+(k:Int)))=AV.int .i64 ((m+k:Nat):Int):=fun k hk=>aT (by rw[IntKind.wrap_i64];omega)
   by_cases hk:m≤n-m
   ·refine .ae 0 aF (0+m*1) (n-m) m _ _ rfl rfl (by show 0+m*1+(n-m)*1≤_;rw[hlen];omega) (.ae 0 aF 0 m _ rfl (by show 0+m*1≤_;rw[hlen];omega)) hk ?_;have e:=QX (x:=x) (n:=n) (aQ m) (by omega);refine a8 (m+m) (by show n-(m+m)<n-m;omega) ⟨by show 1≤m+m;omega,by show m+m≤n;omega⟩ ⟨rfl,X8 m (by omega),trivial⟩ (aL ?_);show (aF,fx (ai (mF x n m)) (0+m*1) _)::σ=_;rw[show 0+m*1=m by omega];exact congrArg (fun c=>(aF,c)::σ) e
   ·refine .part 0 aF (0+m*1) (n-m) _ rfl rfl (by show 0+m*1+(n-m)*1≤_;rw[hlen];omega) 0 aF 0 m _ rfl rfl (by show 0+m*1≤_;rw[hlen];omega) (by omega) ?_;have e:=QX (x:=x) (n:=n) (m:=m) (k:=n-m) (by omega) (by omega);refine a8 (m+(n-m)) (by show n-(m+(n-m))<n-m;omega) ⟨by show 1≤m+(n-m);omega,by show m+(n-m)≤n;omega⟩ ⟨rfl,X8 (n-m) (by omega),trivial⟩ (aL ?_);show (aF,fx (ai (mF x n m)) (0+m*1) _)::σ=_;rw[show 0+m*1=m by omega];exact congrArg (fun c=>(aF,c)::σ) e
  ·have au:m=n:=by have au:¬(m:Int)<n:=au;omega
   subst au;exact .done ⟨aF,rfl,by rw[ab1]⟩
theorem p8{z:Int}(h0:0≤z)(h1:z<9000000000000000000):IntKind.i64.wrap z=z:=by rw[IntKind.wrap_i64];omega
def wo(k:Int):Nat:=if k<1 then 1 else if 64<k then 64 else k.toNat
theorem adX(k:Int):1≤wo k∧wo k≤64:=by
 unfold wo;split
 ·omega
 ·split <;> omega
theorem R7{n:Nat}(h1:1≤n)(h2:n≤64):wo n=n:=by
 unfold wo;rw[ag (by omega),ag (by omega)];exact bG _
theorem adY(k:Int):(if 64<(if k<1 then 1 else k) then (64:Int) else (if k<1 then 1 else k))=(wo k:Int):=by
 unfold wo
 by_cases h:k<1
 ·rw[af h,af h];rfl
 ·rw[ag h,ag h]
  by_cases h2:64<k
  ·rw[af h2,af h2];rfl
  ·rw[ag h2,ag h2];omega
theorem WY(k:Int)(σ:Hp):ACalls Tryz.prog 69 [.int .i64 k] σ (aC (.int .i64 (wo k)) σ):=by
 refine ay Tryz.func69 ?_;exact .done ⟨aT (adY k),rfl⟩
theorem aiO(n:Nat)(σ:Hp)(h1:1≤n)(h2:n≤64):ACalls Tryz.prog 69 [.int .i64 n] σ (aC (.int .i64 n) σ):=sS (WY n σ) (by rw[R7 h1 h2])
theorem aci{n:Nat}{ar:List lJ}{i:Nat}{d:lJ}(h:ar[i]?=some d):(gA n ar)[i]?=some (bg d.1 n):=by
 unfold gA;rw[fk,h];rfl
theorem TF(n:Nat)(ar:List lJ):(gA n ar).length=ar.length:=bX _
theorem ag0(n K:Nat)(ar:List lJ)(σ:Hp)(h1:1≤n)(h2:n≤64)(hlen:ar.length≤10000000)(hF:uE n K (gA n ar)):ACalls Tryz.prog 74 [.ah l4 ar,.int .i64 n] σ (fun r σ'=>∃z:Int,r=.int .i64 z∧z≤K∧σ'=σ):=by
 refine ay Tryz.func74 ?_;refine ax [] (aiO n _ h1 h2) ?_;intro b1;refine .cN (args':=[.ah (.int .i64) ([-1]:List Int),.int .i64 n]) 0 b1 0 1 1 _ (.int .i64) ([-1]:List Int) rfl rfl ⟨rfl,rfl,by decide⟩ (eF .here (.refl _)) ?_;refine .mk [] _ (aiH (-1) n _ (by omega) h1) ?_;rintro _ _ ⟨bl,rfl,rfl⟩;refine ca (S:=Nat×List Int×Int) (fun s=>[(0,.ah l4 ar),(1,.int .i64 n),(5,.ae bl 0 n 1),(6,.int .i64 s.2.2),(17,.ah l4 ar),(18,.int .i64 ar.length),(19,.int .i64 s.1)]) (fun s=>(bl,ai s.2.1)::σ) (fun s=>s.1≤ar.length∧yl n (gA n ar) s.1 s.2.1∧s.2.2≤K) (fun s=>ar.length-s.1) (0,List.replicate n (-1),0) ⟨⟨bC _,aia n _,GJ K⟩,⟨rfl,rfl,rfl,rfl,rfl,rfl,rfl,trivial⟩,rfl⟩ ?_;rintro⟨i,last,wide⟩ g ⟨fE,Gt,yO⟩;have hi:i≤ar.length:=fE;have hL:yl n (gA n ar) i last:=Gt;have hw:wide≤K:=yO;clear fE Gt yO;have CF:=hL.1;refine ao (p:=(i:Int)<(ar.length:Int)) (fun ab=>?_) (fun au=>?_)
 ·have ab:i<ar.length:=by omega
  obtain⟨d,hd⟩:∃d:lJ,ar[i]=d:=⟨_,rfl⟩
  have hdw:=aci (n:=n) (show ar[i]?=some d from (bB ab).trans (congrArg some hd));obtain⟨d1,d2,du⟩:=d;have FV:=pT (p:=d1) (show 0<n by omega);have OH:=hL.gap hF FV (by rw[TF];exact hi);refine aJ.mk rfl (bO.mk (d1,d2,du) (by omega) ((get_some ab).trans (congrArg some hd)) ?_);intro aF;refine aj 0 ?_;refine aa 0 ?_;refine ax [] (s9 d1 d2 n _ (by omega)) ?_;refine aO ?_;refine aW 1 rfl (xN rfl (by rw[CF];exact FV)) ?_;refine aO ?_;refine cU 1 rfl (Z6 rfl (k:=bg d1 n) _ rfl (by rw[CF];exact FV)) ?_;have hx:IntKind.i64.wrap ((i:Int)-last.getD (bg d1 n) 0)=(i:Int)-last.getD (bg d1 n) 0:=p8 OH.1 (by omega);refine a8 (i+1,last.set (bg d1 n) (i:Int),if wide<IntKind.i64.wrap ((i:Int)-last.getD (bg d1 n) 0) then IntKind.i64.wrap ((i:Int)-last.getD (bg d1 n) 0) else wide) (by show ar.length-(i+1)<ar.length-i;omega) ⟨ab,hL.set hdw,?_⟩ ⟨rfl,rfl,rfl,rfl,rfl,rfl,aX (by omega),trivial⟩ (.drop 0 1 (.refl _));show (if wide<IntKind.i64.wrap ((i:Int)-last.getD (bg d1 n) 0) then IntKind.i64.wrap ((i:Int)-last.getD (bg d1 n) 0) else wide)≤K;rw[hx];split <;> omega
 ·have au:i=ar.length:=by omega
  subst au;refine ca (S:=Nat×Int) (fun s=>[(0,.ah l4 ar),(6,.int .i64 s.2),(40,.ae bl 0 n 1),(41,.int .i64 n),(42,.int .i64 s.1)]) (fun _=>(bl,ai last)::σ) (fun s=>s.1≤n∧s.2≤K) (fun s=>n-s.1) (0,wide) ⟨⟨bC _,hw⟩,⟨rfl,rfl,rfl,rfl,rfl,trivial⟩,rfl⟩ ?_;rintro⟨j,wd⟩ g ⟨qy,XR⟩;have hj:j≤n:=qy;have hwd:wd≤K:=XR;clear qy XR;refine ao (p:=(j:Int)<(n:Int)) (fun ab=>?_) (fun au=>?_)
  ·have ab:j<n:=by omega
   have OH:=hL.gap hF ab (by rw[TF];exact aQ _);refine aO ?_;refine aW 0 rfl (xN rfl (by rw[CF];exact ab)) ?_;have hx:IntKind.i64.wrap ((ar.length:Int)-last.getD j 0)=(ar.length:Int)-last.getD j 0:=p8 OH.1 (by omega);refine a8 (j+1,if wd<IntKind.i64.wrap ((ar.length:Int)-last.getD j 0) then IntKind.i64.wrap ((ar.length:Int)-last.getD j 0) else wd) (by show n-(j+1)<n-j;omega) ⟨ab,?_⟩ ⟨rfl,rfl,rfl,rfl,aX (by omega),trivial⟩ (.refl _);show (if wd<IntKind.i64.wrap ((ar.length:Int)-last.getD j 0) then IntKind.i64.wrap ((ar.length:Int)-last.getD j 0) else wd)≤K;rw[hx];split <;> omega
  ·have au:j=n:=by omega
   subst au;refine .drop 0 1 (.done ⟨_,rfl,?_,rfl⟩);have hx:IntKind.i64.wrap ((ar.length:Int)+1)=(ar.length:Int)+1:=p8 (by omega) (by omega);show (if IntKind.i64.wrap ((ar.length:Int)+1)<wd then IntKind.i64.wrap ((ar.length:Int)+1) else wd)≤K;rw[hx];split <;> omega
theorem agr(n K:Nat)(ar:List lJ)(σ:Hp)(h1:1≤n)(h2:n≤64)(hK:1≤K)(hlen:ar.length≤10000000)(hF:uE n K (gA n ar)):ACalls Tryz.prog 31 [.ah l4 ar,.int .i64 n,.int .i64 K] σ (aC (.bool true) σ):=by
 refine ay Tryz.func31 ?_;refine ao (fun c1=>?_) (fun c1=>?_)
 ·refine ao (fun c2=>?_) (fun c2=>?_)
  ·exact .done ⟨rfl,rfl⟩
  ·refine .mk [] _ (ag0 n K ar _ h1 h2 hlen hF) ?_;rintro _ _ ⟨z,rfl,hz,rfl⟩;refine ao (fun c3=>?_) (fun c3=>?_)
   ·exact .done ⟨rfl,rfl⟩
   ·have c3:¬(z≤(↑K:Int)):=c3;exact absurd hz c3
 ·have c1:¬(1≤(↑K:Int)):=c1;omega
end Go.Proofs.YtnikdflhefijbaaGreat
namespace Go.Proofs.YtnikdflhefijbaaGreat
open Go.Shelf
def Zh:Go.Shelf.Ren:=⟨fun | 23=>71 | n=>n,fun | 22=>23 | 3=>3 | 4=>4 | 0=>0 | n=>n,fun | n=>n⟩
theorem afw:Go.Proofs.Lays2.n23 Tryz.prog Zh:= {
 mixed:=by kernel_rfl
 f23:=Tryz.func71.trans (congrArg some (by kernel_rfl))
 t0:=Tryz.underlying0
 a0:=Tryz.isAgg0
 z0:=Tryz.sizeOf0
 v0:=Tryz.zeroValue0
 t3:=Tryz.underlying3
 a3:=Tryz.isAgg3
 z3:=Tryz.sizeOf3
 v3:=Tryz.zeroValue3
 t4:=Tryz.underlying4
 a4:=Tryz.isAgg4
 z4:=Tryz.sizeOf4
 v4:=Tryz.zeroValue4
 t22:=Tryz.underlying23
 a22:=Tryz.isAgg23
 z22:=Tryz.sizeOf23
 v22:=Tryz.zeroValue23
 i3:=by kernel_rfl }
set_option maxRecDepth 100000
theorem aa9:Enters Tryz.prog 71:=enters_of Tryz.func71 (by kernel_rfl)
theorem ZJ{vs:Array Value}(h:3=vs.size):∃a b c,vs = #[a,b,c]:=by
 refine⟨vs.getD 0 undef,vs.getD 1 undef,vs.getD 2 undef,Array.ext ?_ fun i h2 h3=>?_⟩
 ·simp[← h]
 ·have h3:i<3:=by simpa using h3
  match i,h3 with
  | 0,_=>simp[Array.getD,h2]
  | 1,_=>simp[Array.getD,h2]
  | 2,_=>simp[Array.getD,h2]
theorem Z8{F:Nat→Prop}{w:World}{b:Nat}{zs ys:List Int}{σ:Hp}(h:bj F w ((b,ai (zs++ys))::σ)):bj F w ((b,ai zs)::σ):=by
 obtain⟨hF,c,T,hc,hle,lp⟩:=(h.holds _ (b9 ..)).Iq (MA _);refine⟨h.nodup,fun p hp=>?_,h.low⟩
 rcases dm.1 hp with rfl | hp
 ·refine⟨hF,.inl ⟨c,T,hc,?_,fun i x hx=>lp i x ?_⟩⟩
  ·have hle:(ai (zs++ys)).length≤c.size:=hle;rw[ju,bQ]at hle;show (ai zs).length≤c.size;rw[ju];omega
  ·have hx:(ai zs)[i]?=some x:=hx;have hi:=(bZ.1 hx).1;show (ai (zs++ys))[i]?=some x;unfold ai at hx hi ⊢;rw[cF,j6 hi];exact hx
 ·exact h.holds p (cQ _ hp)
theorem del_eq(zs:List Int)(i:Nat):zs.take i++zs.drop (i+1)=zs.eraseIdx i:=(List.eraseIdx_eq_take_drop_succ zs i).symm
theorem B5(b:Nat)(zs:List Int)(n i:Nat)(σ:Hp)(hz:zs.length=n)(hi:i<n)(hl:n≤1000000):ACalls Tryz.prog 71 [.ae b 0 n 1,.int .i64 i,.int .i64 ((i+1:Nat):Int)] ((b,ai zs)::σ) (aC (.ae b 0 (n-1) 1) ((b,ai (zs.eraseIdx i))::σ)):=by
 subst hz;refine⟨aa9,fun F w vs bP aG =>?_⟩;obtain⟨v,v1,v2,rfl⟩:=ZJ bP.1;have hv:aB F w (.ae b 0 zs.length 1) v:=bP.2 0 _ rfl;have hv1:aB F w (.int .i64 i) v1:=bP.2 1 _ rfl;have xg:aB F w (.int .i64 ((i+1:Nat):Int)) v2:=bP.2 2 _ rfl;have e1:=hv1.gp;have e2:=xg.gp;subst e1 e2;obtain⟨a,cap,rfl,c,T,fz,m1,m2,m3,m4⟩:=hv.kR
 rcases m4 with ⟨rfl,m5⟩ | ⟨m5,m6,h0,m7⟩
 ·obtain⟨h1,h2⟩:=HY aG;have h:Calls Tryz.prog 71 #[.slice (some ⟨b,0,none⟩) zs.length cap,.int .i64 (i:Int),.int .i64 ((i+1:Nat):Int)] w fun e w'=>e=.returned (.slice (some ⟨b,0,none⟩) (zs.length-(i+1-i)) cap)∧∃q,w'=Go.Sort.putRow (Value.int .i64) (Go.Sort.ahead w q) b 0 (zs.take i++zs.drop (i+1)++List.replicate (i+1-i) 0).toArray:=Any.slices_Delete_int afw b 0 cap i (i+1) zs w h1 (by omega) (ff m3 (by decide)) (by omega) (by omega);refine h.mono ?_;rintro e w' ⟨rfl,q,rfl⟩;have e3:i+1-i=1:=by omega
  rw[e3,del_eq];have hlen:(zs.eraseIdx i).length=zs.length-1:=AR hi;obtain⟨k1,k2⟩:=Eb (n:=q) (zs':=zs.eraseIdx i++List.replicate 1 0) aG (by rw[bQ,fQ,hlen];omega) #[];have hg:∀W:World,Go.Sort.grow W #[]=W:=fun W=>by unfold Go.Sort.grow;rw[Array.append_empty]
  rw[hg]at k1 k2;obtain⟨c',qH,jM,eg⟩:=k1.rows b c T fz m1;exact⟨.ae b 0 _ 1,_,_,F,rfl,k1,Z8 k2,.ae _ _ _ _ _ _ ⟨c',T,qH,jM,by omega,m3,.inl ⟨rfl,by omega⟩⟩,rfl,rfl⟩
 ·omega
def so(l:List lJ):List AV:=l.flatMap fun p=>[.int .i64 p.1,.int .i64 p.2.1]
theorem Uc:∀l:List lJ,so l=l.flatMap (fun d:lJ=>l4.cells d)
 | []=>rfl
 |(a,b,_)::l=>congrArg (fun r=>AV.int .i64 a::AV.int .i64 b::r) (Uc l)
theorem Bo(l:List lJ)(a b:Int):so (l++[(a,b,())])=so l++[.int .i64 a,.int .i64 b]:=by
 unfold so;rw[xC];rfl
theorem RT(k:Nat):eB (k+1)=eB k++[(k:Int)]:=by
 unfold eB;rw[sM,cF];rfl
theorem S5(l:List Int)(x:Int):ai (l++[x])=ai l++[.int .i64 x]:=by unfold ai;rw[cF];rfl
theorem aaQ{raw:List Int}{i:Nat}(h:0<raw.length):∃h2:i % raw.length<raw.length,mE raw i=raw[i % raw.length]:=by
 have h2:=mU i h;refine⟨h2,?_⟩;unfold mE;rw[ag (by omega),aZ,bB h2];rfl
theorem LD{raw:List Int}{i:Nat}(h:¬0<raw.length):mE raw i=0:=af (by omega)
theorem ae6{e k:Nat}{v:AV}{acc:Hp}{cs:List AV}(h:Acc e k v acc cs):(v=.an∧acc=[]∧k=0∧cs=[])∨∃b,v=.ae b 0 k e∧acc=[(b,cs)]:=by
 cases h with
 |nil=>exact .inl ⟨rfl,rfl,rfl,rfl⟩
 |ae b=>exact .inr ⟨b,rfl,rfl⟩
theorem Br{n:Nat}{raw:List Int}{i:Nat}{o:List lJ}{w w1:List Int}{x:Int}(ho:(ee n raw i).1=o)(hw:(ee n raw i).2=w)(h1:gm n w=w1)(hx:mE raw i=x):(ee n raw (i+1)).1=o++[(w1.getD (bg x w1.length) 0,x,())]∧(ee n raw (i+1)).2=w1.eraseIdx (bg x w1.length):=by
 subst ho hw h1 hx;exact⟨rfl,rfl⟩
theorem MU{raw:List Int}{i:Nat}{x:Int}(h:0<raw.length)(hx:mE raw i=x):0≤(i:Int).tmod (raw.length:Int)∧raw[((i:Int).tmod (raw.length:Int)).toNat]?=some x:=by
 obtain⟨h2,h3⟩:=aaQ (i:=i) h;have e:(i:Int).tmod (raw.length:Int)=((i % raw.length:Nat):Int):=by rw[tR (by omega)];rfl
 rw[e,bG,bB h2,← h3,hx];exact⟨by omega,rfl⟩
theorem aa3{R:AV→Hp→Prop}{r:AV}(a:Hp){σ:Hp}(h:Fin R r σ):Fin R r (a++σ):=.drop 0 a.length (by rw[List.take_zero,dI,List.drop_left];exact h)
theorem A6{P:Program}{f:FuncId}{xs:List AV}{σ σ':Hp}{x:AV}(hl:x.leaf=true)(h:ACalls P f xs σ (aC x σ')):ACalls P f xs σ (aC (.via x) σ'):=
 ⟨h.1,fun F w vs hv aG=>(h.2 F w vs hv aG).mono fun _e _w' ⟨_r,v,σ2,F',h1,h2,h3,h4,h5⟩=>⟨.via x,v,σ2,F',h1,h2,h3,.via x v hl (h5.1▸h4),rfl,h5.2⟩⟩
theorem Sn(n:Nat)(raw:List Int):∀i,(ee n raw i).2.length≤n
 | 0=>bC _
 |i+1=>by
  have ih:=Sn n raw i
  have h:(gm n (ee n raw i).2).length≤n:=by
   unfold gm;split
   ·rw[Bh];exact aQ _
   ·exact ih
  exact ff (List.length_eraseIdx_le _ _) h
theorem Tv{k:Nat}{v:AV}{acc:Hp}{cs:List AV}(h:Acc 1 k v acc cs)(hk:0<k):∃b,v=.ae b 0 k 1∧acc=[(b,cs)]:=by
 cases h with
 |nil=>omega
 |ae b k cs h=>exact⟨b,rfl,rfl⟩
theorem ahs(k0:Int)(n m:Nat)(raw:List Int)(σ:Hp)(j0:wo k0=n)(hm:m≤1000000)(hr:raw.length≤100000):ACalls Tryz.prog 26 [.int .i64 k0,.int .i64 m,.ah (.int .i64) raw] σ (aC (.ah l4 (ee n raw m).1) σ):=by
 refine ay Tryz.func26 ?_;obtain⟨h1,h2⟩:=adX k0;rw[j0]at h1 h2;refine ax [] (j0▸WY k0 _) ?_;have hL:(if (1048576:Int)<(if (m:Int)<0 then 0 else (m:Int)) then (1048576:Int) else (if (m:Int)<0 then 0 else (m:Int)))=(m:Int):=by rw[ag (show ¬(m:Int)<0 by omega),ag (by omega)]
 refine .wrap 7 _ rfl rfl ?_;refine .wrap 8 _ rfl rfl ?_;refine ca (S:=Nat×AV×Hp×AV×Hp) (fun s=>[(0,.int .i64 n),(2,.ah (.int .i64) raw),(7,.via s.2.1),(8,.via s.2.2.2.1),(17,.int .i64 m),(18,.int .i64 s.1)]) (fun s=>s.2.2.2.2++(s.2.2.1++σ)) (fun s=>s.1≤m∧Acc 2 s.1 s.2.1 s.2.2.1 (so (ee n raw s.1).1)∧Acc 1 (ee n raw s.1).2.length s.2.2.2.1 s.2.2.2.2 (ai (ee n raw s.1).2)) (fun s=>m-s.1) (0,.an,[],.an,[]) ⟨⟨bC _,.nil,.nil⟩,⟨rfl,rfl,rfl,rfl,congrArg (AV.int .i64) hL,rfl,trivial⟩,rfl⟩ ?_;rintro⟨i,v,acc,vw,O0⟩ g ⟨fE,Ga,yO⟩;have hi:i≤m:=fE;have ho:Acc 2 i v acc (so (ee n raw i).1):=Ga;have hw:Acc 1 (ee n raw i).2.length vw O0 (ai (ee n raw i).2):=yO;clear fE Ga yO;refine ao (p:=(i:Int)<(m:Int)) (fun ab=>?_) (fun au=>?_)
 ·have ab:i<m:=by omega
  obtain⟨o,Av⟩:∃o,(ee n raw i).1=o:=⟨_,rfl⟩
  obtain⟨w,rD⟩:∃w,(ee n raw i).2=w:=⟨_,rfl⟩
  rw[Av]at ho;rw[rD]at hw
  rcases ae6 hw with ⟨rfl,rfl,aP,iw⟩ | ⟨bw,rfl,rfl⟩
  ·refine ca (S:=Nat×AV×Hp) (fun s=>[(0,.int .i64 n),(2,.ah (.int .i64) raw),(7,.via v),(8,.via s.2.1),(9,.int .i64 i),(17,.int .i64 m),(18,.int .i64 i),(24,.int .i64 n),(25,.int .i64 s.1)]) (fun s=>s.2.2++(acc++σ)) (fun s=>s.1≤n∧Acc 1 s.1 s.2.1 s.2.2 (ai (eB s.1))) (fun s=>n-s.1) (0,.an,[]) ⟨⟨bC _,.nil⟩,⟨rfl,rfl,rfl,rfl,rfl,rfl,rfl,rfl,rfl,trivial⟩,rfl⟩ ?_;rintro⟨k,vk,ak⟩ g ⟨aP,mu⟩;have hk:k≤n:=aP;have hA:Acc 1 k vk ak (ai (eB k)):=mu;clear aP mu;refine ao (p:=(k:Int)<(n:Int)) (fun dE=>?_) (fun jF=>?_)
   ·have dE:k<n:=by omega
    intro dJ;refine iC [_] hA (.ae 0 dJ 0 1 _ rfl (cy rfl)) rfl (by omega) (by decide) (by decide) (fun v' aY h'=>?_);refine a8 (k+1,v',aY) (by show n-(k+1)<n-k;omega) ⟨dE,?_⟩ ⟨rfl,rfl,rfl,rfl,rfl,rfl,rfl,rfl,aX (by omega),trivial⟩ (.drop 0 1 (aL rfl));show Acc 1 (k+1) v' aY (ai (eB (k+1)));rw[RT,S5];exact h'
   ·have jF:k=n:=by omega
    subst jF;obtain⟨bk,rfl,rfl⟩:=Tv hA (by omega);have yz:gm k w=eB k:=af aP;have fi:(eB k).length=k:=Bh k;obtain⟨x,hx⟩:∃x,mE raw i=x:=⟨_,rfl⟩
    refine ao (p:=0<(raw.length:Int)) (fun cr=>?_) (fun cr=>?_)
    ·have cr:0<raw.length:=by omega
     obtain⟨xj,qz⟩:=MU cr hx;refine aJ.mk (show ¬((raw.length:Int)=0) by omega) ?_;refine aJ.mk rfl ?_;refine bO.mk x xj qz ?_;refine ax [] (s9 x 0 k _ (by omega)) ?_;have ck:=pT (p:=x) (show 0<k by omega);refine aO ?_;refine aW 0 rfl (xN rfl (by rw[fi];exact ck)) ?_;intro aF
     have td:∀σ,ACalls Tryz.prog 71 [.ae bk 0 k 1,.int .i64 (bg x k),.int .i64 (IntKind.i64.wrap ((bg x k:Int)+1))] ((bk,ai (eB k))::σ) (aC (.via (.ae bk 0 (k-1) 1)) ((bk,ai (((eB k)).eraseIdx (bg x k)))::σ)):=fun σ=>by
      rw[show IntKind.i64.wrap ((bg x k:Int)+1)=((bg x k+1:Nat):Int) from p8 (by omega) (by omega)];exact A6 rfl (B5 bk (eB k) k _ σ fi ck (by omega))
     refine iC [_,_] ho (.ae 0 aF 0 1 _ rfl (cy rfl)) rfl (by omega) (by decide) (by decide) (fun v' aY eP=>?_);refine ax [1] (td _) ?_;obtain⟨e1,e2⟩:=Br Av rD yz hx;rw[fi]at e1 e2;have gx:(((eB k)).eraseIdx (bg x k)).length=k-1:=by rw[AR (by rw[fi];exact ck),fi]
     refine a8 (i+1,v',aY,.ae bk 0 (k-1) 1,[(bk,ai (((eB k)).eraseIdx (bg x k)))]) (by show m-(i+1)<m-i;omega) ⟨ab,?_,?_⟩ ⟨rfl,rfl,rfl,rfl,rfl,aX (by omega),trivial⟩ (.drop 1 1 (aL rfl))
     ·show Acc 2 (i+1) v' aY (so (ee _ raw (i+1)).1);rw[e1,Bo];exact eP
     ·show Acc 1 (ee _ raw (i+1)).2.length (.ae bk 0 (k-1) 1) [(bk,ai (((eB k)).eraseIdx (bg x k)))] (ai (ee _ raw (i+1)).2);rw[e2,gx];exact .ae _ _ _ (by rw[ju,gx,dS])
    ·have cr:¬0<raw.length:=by omega
     obtain rfl:(0:Int)=x:=(LD cr).symm.trans hx;refine ax [] (s9 0 0 k _ (by omega)) ?_;have ck:=pT (p:=0) (show 0<k by omega);refine aO ?_;refine aW 0 rfl (xN rfl (by rw[fi];exact ck)) ?_;intro aF
     have td:∀σ,ACalls Tryz.prog 71 [.ae bk 0 k 1,.int .i64 (bg 0 k),.int .i64 (IntKind.i64.wrap ((bg 0 k:Int)+1))] ((bk,ai (eB k))::σ) (aC (.via (.ae bk 0 (k-1) 1)) ((bk,ai (((eB k)).eraseIdx (bg 0 k)))::σ)):=fun σ=>by
      rw[show IntKind.i64.wrap ((bg 0 k:Int)+1)=((bg 0 k+1:Nat):Int) from p8 (by omega) (by omega)];exact A6 rfl (B5 bk (eB k) k _ σ fi ck (by omega))
     refine iC [_,_] ho (.ae 0 aF 0 1 _ rfl (cy rfl)) rfl (by omega) (by decide) (by decide) (fun v' aY eP=>?_);refine ax [1] (td _) ?_;obtain⟨e1,e2⟩:=Br Av rD yz hx;rw[fi]at e1 e2;have gx:(((eB k)).eraseIdx (bg 0 k)).length=k-1:=by rw[AR (by rw[fi];exact ck),fi]
     refine a8 (i+1,v',aY,.ae bk 0 (k-1) 1,[(bk,ai (((eB k)).eraseIdx (bg 0 k)))]) (by show m-(i+1)<m-i;omega) ⟨ab,?_,?_⟩ ⟨rfl,rfl,rfl,rfl,rfl,aX (by omega),trivial⟩ (.drop 1 1 (aL rfl))
     ·show Acc 2 (i+1) v' aY (so (ee _ raw (i+1)).1);rw[e1,Bo];exact eP
     ·show Acc 1 (ee _ raw (i+1)).2.length (.ae bk 0 (k-1) 1) [(bk,ai (((eB k)).eraseIdx (bg 0 k)))] (ai (ee _ raw (i+1)).2);rw[e2,gx];exact .ae _ _ _ (by rw[ju,gx,dS])
  ·refine ao (fun c1=>?_) (fun c1=>?_)
   ·have c1:w.length=0:=by omega
    obtain rfl:w=[]:=iz.1 c1;refine ca (S:=Nat×AV×Hp) (fun s=>[(0,.int .i64 n),(2,.ah (.int .i64) raw),(7,.via v),(8,.via s.2.1),(9,.int .i64 i),(17,.int .i64 m),(18,.int .i64 i),(24,.int .i64 n),(25,.int .i64 s.1)]) (fun s=>s.2.2++(acc++σ)) (fun s=>s.1≤n∧Acc 1 s.1 s.2.1 s.2.2 (ai (eB s.1))) (fun s=>n-s.1) (0,(.ae bw 0 0 1),[(bw,[])]) ⟨⟨bC _,hw⟩,⟨rfl,rfl,rfl,rfl,rfl,rfl,rfl,rfl,rfl,trivial⟩,rfl⟩ ?_;rintro⟨k,vk,ak⟩ g ⟨aP,mu⟩;have hk:k≤n:=aP;have hA:Acc 1 k vk ak (ai (eB k)):=mu;clear aP mu;refine ao (p:=(k:Int)<(n:Int)) (fun dE=>?_) (fun jF=>?_)
    ·have dE:k<n:=by omega
     intro dJ;refine iC [_] hA (.ae 0 dJ 0 1 _ rfl (cy rfl)) rfl (by omega) (by decide) (by decide) (fun v' aY h'=>?_);refine a8 (k+1,v',aY) (by show n-(k+1)<n-k;omega) ⟨dE,?_⟩ ⟨rfl,rfl,rfl,rfl,rfl,rfl,rfl,rfl,aX (by omega),trivial⟩ (.drop 0 1 (aL rfl));show Acc 1 (k+1) v' aY (ai (eB (k+1)));rw[RT,S5];exact h'
    ·have jF:k=n:=by omega
     subst jF;obtain⟨bk,rfl,rfl⟩:=Tv hA (by omega);have yz:gm k []=eB k:=af rfl;have fi:(eB k).length=k:=Bh k;obtain⟨x,hx⟩:∃x,mE raw i=x:=⟨_,rfl⟩
     refine ao (p:=0<(raw.length:Int)) (fun cr=>?_) (fun cr=>?_)
     ·have cr:0<raw.length:=by omega
      obtain⟨xj,qz⟩:=MU cr hx;refine aJ.mk (show ¬((raw.length:Int)=0) by omega) ?_;refine aJ.mk rfl ?_;refine bO.mk x xj qz ?_;refine ax [] (s9 x 0 k _ (by omega)) ?_;have ck:=pT (p:=x) (show 0<k by omega);refine aO ?_;refine aW 0 rfl (xN rfl (by rw[fi];exact ck)) ?_;intro aF
      have td:∀σ,ACalls Tryz.prog 71 [.ae bk 0 k 1,.int .i64 (bg x k),.int .i64 (IntKind.i64.wrap ((bg x k:Int)+1))] ((bk,ai (eB k))::σ) (aC (.via (.ae bk 0 (k-1) 1)) ((bk,ai (((eB k)).eraseIdx (bg x k)))::σ)):=fun σ=>by
       rw[show IntKind.i64.wrap ((bg x k:Int)+1)=((bg x k+1:Nat):Int) from p8 (by omega) (by omega)];exact A6 rfl (B5 bk (eB k) k _ σ fi ck (by omega))
      refine iC [_,_] ho (.ae 0 aF 0 1 _ rfl (cy rfl)) rfl (by omega) (by decide) (by decide) (fun v' aY eP=>?_);refine ax [1] (td _) ?_;obtain⟨e1,e2⟩:=Br Av rD yz hx;rw[fi]at e1 e2;have gx:(((eB k)).eraseIdx (bg x k)).length=k-1:=by rw[AR (by rw[fi];exact ck),fi]
      refine a8 (i+1,v',aY,.ae bk 0 (k-1) 1,[(bk,ai (((eB k)).eraseIdx (bg x k)))]) (by show m-(i+1)<m-i;omega) ⟨ab,?_,?_⟩ ⟨rfl,rfl,rfl,rfl,rfl,aX (by omega),trivial⟩ (.drop 1 1 (aL rfl))
      ·show Acc 2 (i+1) v' aY (so (ee _ raw (i+1)).1);rw[e1,Bo];exact eP
      ·show Acc 1 (ee _ raw (i+1)).2.length (.ae bk 0 (k-1) 1) [(bk,ai (((eB k)).eraseIdx (bg x k)))] (ai (ee _ raw (i+1)).2);rw[e2,gx];exact .ae _ _ _ (by rw[ju,gx,dS])
     ·have cr:¬0<raw.length:=by omega
      obtain rfl:(0:Int)=x:=(LD cr).symm.trans hx;refine ax [] (s9 0 0 k _ (by omega)) ?_;have ck:=pT (p:=0) (show 0<k by omega);refine aO ?_;refine aW 0 rfl (xN rfl (by rw[fi];exact ck)) ?_;intro aF
      have td:∀σ,ACalls Tryz.prog 71 [.ae bk 0 k 1,.int .i64 (bg 0 k),.int .i64 (IntKind.i64.wrap ((bg 0 k:Int)+1))] ((bk,ai (eB k))::σ) (aC (.via (.ae bk 0 (k-1) 1)) ((bk,ai (((eB k)).eraseIdx (bg 0 k)))::σ)):=fun σ=>by
       rw[show IntKind.i64.wrap ((bg 0 k:Int)+1)=((bg 0 k+1:Nat):Int) from p8 (by omega) (by omega)];exact A6 rfl (B5 bk (eB k) k _ σ fi ck (by omega))
      refine iC [_,_] ho (.ae 0 aF 0 1 _ rfl (cy rfl)) rfl (by omega) (by decide) (by decide) (fun v' aY eP=>?_);refine ax [1] (td _) ?_;obtain⟨e1,e2⟩:=Br Av rD yz hx;rw[fi]at e1 e2;have gx:(((eB k)).eraseIdx (bg 0 k)).length=k-1:=by rw[AR (by rw[fi];exact ck),fi]
      refine a8 (i+1,v',aY,.ae bk 0 (k-1) 1,[(bk,ai (((eB k)).eraseIdx (bg 0 k)))]) (by show m-(i+1)<m-i;omega) ⟨ab,?_,?_⟩ ⟨rfl,rfl,rfl,rfl,rfl,aX (by omega),trivial⟩ (.drop 1 1 (aL rfl))
      ·show Acc 2 (i+1) v' aY (so (ee _ raw (i+1)).1);rw[e1,Bo];exact eP
      ·show Acc 1 (ee _ raw (i+1)).2.length (.ae bk 0 (k-1) 1) [(bk,ai (((eB k)).eraseIdx (bg 0 k)))] (ai (ee _ raw (i+1)).2);rw[e2,gx];exact .ae _ _ _ (by rw[ju,gx,dS])
   ·have c1:¬w.length=0:=by omega
    have yz:gm n w=w:=ag c1;have fi:w.length=w.length:=rfl;have Px:=Sn n raw i;rw[rD]at Px;obtain⟨x,hx⟩:∃x,mE raw i=x:=⟨_,rfl⟩
    refine ao (p:=0<(raw.length:Int)) (fun cr=>?_) (fun cr=>?_)
    ·have cr:0<raw.length:=by omega
     obtain⟨xj,qz⟩:=MU cr hx;refine aJ.mk (show ¬((raw.length:Int)=0) by omega) ?_;refine aJ.mk rfl ?_;refine bO.mk x xj qz ?_;refine ax [] (s9 x 0 w.length _ (by omega)) ?_;have ck:=pT (p:=x) (show 0<w.length by omega);refine aO ?_;refine aW 0 rfl (xN rfl (by rw[fi];exact ck)) ?_;intro aF
     have td:∀σ,ACalls Tryz.prog 71 [.ae bw 0 w.length 1,.int .i64 (bg x w.length),.int .i64 (IntKind.i64.wrap ((bg x w.length:Int)+1))] ((bw,ai w)::σ) (aC (.via (.ae bw 0 (w.length-1) 1)) ((bw,ai ((w).eraseIdx (bg x w.length)))::σ)):=fun σ=>by
      rw[show IntKind.i64.wrap ((bg x w.length:Int)+1)=((bg x w.length+1:Nat):Int) from p8 (by omega) (by omega)];exact A6 rfl (B5 bw w w.length _ σ fi ck (by omega))
     refine iC [_,_] ho (.ae 0 aF 0 1 _ rfl (cy rfl)) rfl (by omega) (by decide) (by decide) (fun v' aY eP=>?_);refine ax [1] (td _) ?_;obtain⟨e1,e2⟩:=Br Av rD yz hx;rw[fi]at e1 e2;have gx:((w).eraseIdx (bg x w.length)).length=w.length-1:=by rw[AR (by rw[fi];exact ck),fi]
     refine a8 (i+1,v',aY,.ae bw 0 (w.length-1) 1,[(bw,ai ((w).eraseIdx (bg x w.length)))]) (by show m-(i+1)<m-i;omega) ⟨ab,?_,?_⟩ ⟨rfl,rfl,rfl,rfl,rfl,aX (by omega),trivial⟩ (.drop 1 1 (aL rfl))
     ·show Acc 2 (i+1) v' aY (so (ee _ raw (i+1)).1);rw[e1,Bo];exact eP
     ·show Acc 1 (ee _ raw (i+1)).2.length (.ae bw 0 (w.length-1) 1) [(bw,ai ((w).eraseIdx (bg x w.length)))] (ai (ee _ raw (i+1)).2);rw[e2,gx];exact .ae _ _ _ (by rw[ju,gx,dS])
    ·have cr:¬0<raw.length:=by omega
     obtain rfl:(0:Int)=x:=(LD cr).symm.trans hx;refine ax [] (s9 0 0 w.length _ (by omega)) ?_;have ck:=pT (p:=0) (show 0<w.length by omega);refine aO ?_;refine aW 0 rfl (xN rfl (by rw[fi];exact ck)) ?_;intro aF
     have td:∀σ,ACalls Tryz.prog 71 [.ae bw 0 w.length 1,.int .i64 (bg 0 w.length),.int .i64 (IntKind.i64.wrap ((bg 0 w.length:Int)+1))] ((bw,ai w)::σ) (aC (.via (.ae bw 0 (w.length-1) 1)) ((bw,ai ((w).eraseIdx (bg 0 w.length)))::σ)):=fun σ=>by
      rw[show IntKind.i64.wrap ((bg 0 w.length:Int)+1)=((bg 0 w.length+1:Nat):Int) from p8 (by omega) (by omega)];exact A6 rfl (B5 bw w w.length _ σ fi ck (by omega))
     refine iC [_,_] ho (.ae 0 aF 0 1 _ rfl (cy rfl)) rfl (by omega) (by decide) (by decide) (fun v' aY eP=>?_);refine ax [1] (td _) ?_;obtain⟨e1,e2⟩:=Br Av rD yz hx;rw[fi]at e1 e2;have gx:((w).eraseIdx (bg 0 w.length)).length=w.length-1:=by rw[AR (by rw[fi];exact ck),fi]
     refine a8 (i+1,v',aY,.ae bw 0 (w.length-1) 1,[(bw,ai ((w).eraseIdx (bg 0 w.length)))]) (by show m-(i+1)<m-i;omega) ⟨ab,?_,?_⟩ ⟨rfl,rfl,rfl,rfl,rfl,aX (by omega),trivial⟩ (.drop 1 1 (aL rfl))
     ·show Acc 2 (i+1) v' aY (so (ee _ raw (i+1)).1);rw[e1,Bo];exact eP
     ·show Acc 1 (ee _ raw (i+1)).2.length (.ae bw 0 (w.length-1) 1) [(bw,ai ((w).eraseIdx (bg 0 w.length)))] (ai (ee _ raw (i+1)).2);rw[e2,gx];exact .ae _ _ _ (by rw[ju,gx,dS])
 ·have au:i=m:=by omega
  subst au;exact rX O0 (s:=l4) ho (Dt n raw i).symm (Uc _) (by decide) (aa3 O0 (.done ⟨rfl,rfl⟩))
theorem aef(s:Sy)(k:Nat)(ar:List lJ)(K:Nat)(σ:Hp)(hf:Fit s)(he:cM s k=0)(hk5:k≤5)(hF:uE k K (gA k ar))(W:Nat)(hW:zO s k=(W:Int))(hlen:(W+12)*K≤ar.length)(pj:ar.length≤100000):ACalls Tryz.prog 13 [.agg (cc s),.int .i64 k,.ah l4 ar] σ (fun r σ'=>∃(e j:Int) (us:Nat),r=.tup [.agg (zM (kU s).1 e j us),.int .i64 0]∧us≤(W+12)*K∧σ'=σ):=by
 obtain⟨l,hl⟩:∃l,je s k=l:=⟨_,rfl⟩
 obtain⟨hs,Gs⟩:=zS hf he;have hk:l.k=k:=by rw[← hl];exact It he
 rw[hl]at hs;have yS:l.k.toNat=k:=by omega
 refine (aiF s k l hl ar σ hf he pj).mono ?_;rintro _ _ ⟨hR,rfl,bM⟩;have sx:=(TE hs (k:=k) (by omega)).1;have hWW:rZ s (SX.W1 (cS s l hs)) l.k.toNat=W:=by rw[yS];omega
 obtain⟨h1,h2⟩:=acJ hs bM (by omega) ar (K:=K) (by rw[yS];exact hF) (by rw[hWW];exact hlen) (by omega);rw[hWW]at h2;have hX:=agB (hs:=hs) bM ar pj;have hv:wG l (dr s l ar).a.ws (nN s)=(kU s).1:=(abt hs _).trans (hX.all h1)
 rcases hR with ⟨_,rfl⟩ | ⟨h3,_⟩
 ·exact⟨_,_,_,by rw[hv],h2,rfl⟩
 ·rw[h1]at h3;cases h3
def vL:Sy:=⟨1,1,1,[],[],[0],[([0],[0],[],())]⟩
theorem afH:Fit vL:=⟨NV (by unfold bK;omega),by decide,by decide,by decide,by decide,fun t ht=>by
 rw[bD.1 ht];exact⟨NV (by unfold bK;omega),NV (by unfold bK;omega),by decide,by decide,by decide⟩⟩
theorem abD:AV.tup [.int .i64 (r9 vL 1 1),.int .i64 (sa vL 1 1)]=AV.tup [.int .i64 40,.int .i64 0]:=by
 rw[show r9 vL 1 1=40 by decide +kernel,show sa vL 1 1=0 by decide +kernel]
theorem aey(σ:Hp):ACalls Tryz.prog 27 [] σ (aC (.bool true) σ):=by
 refine ay Tryz.func27 ?_;intro aF;intro dJ;intro tU;intro y9;intro bl6;refine aj 0 ?_;refine aa 0 ?_;refine .kV 3 dJ 0 1 1 _ (.int .u64) ([0]:List Int) rfl rfl ⟨rfl,rfl,by decide⟩ 1 0 y9 _ rfl rfl ?_;refine .kV 2 tU 0 1 1 _ (.int .u64) ([0]:List Int) rfl rfl ⟨rfl,rfl,by decide⟩ 1 1 y9 _ rfl rfl ?_;refine Ng 1 2 y9 _ jS rfl rfl ?_;refine .cN (args':=[.agg [.int .i64 1,.int .i64 1,.int .i64 1,.an,.an,.ae aF 0 1 1,.ah mC vL.T],.int .i64 1,.int .i64 1]) 1 y9 0 1 3 _ mC vL.T rfl rfl ⟨rfl,rfl,by decide⟩ (eF (Nc (eF (.refl _) (eF (.refl _) (eF (.refl _) (eF (.refl _) (eF (.refl _) (eF (.refl _) (eF .here zE))))))) rfl) (.refl _)) ?_;refine .cN (args':=[.agg (cc vL),.int .i64 1,.int .i64 1]) 1 aF 0 1 1 _ (.int .u64) vL.init rfl rfl ⟨rfl,rfl,by decide⟩ (eF (Nc (eF (.refl _) (eF (.refl _) (eF (.refl _) (eF (.nil dO) (eF (.nil (.int .i64)) (eF .here (.refl _))))))) rfl) (.refl _)) ?_;refine ax [] (sS (NK vL 1 1 _ afH) abD) ?_;exact .drop 0 1 (.done ⟨rfl,rfl⟩)
theorem ZF{s:Sy}{l:Lay}(hs:LS s l)(hn:s.n≤4)(he:s.aN.length≤6)(hw:s.w≤3){k:Nat}(hk:k≤3):rZ s (SX.W1 (cS s l hs)) k≤1100:=by
 have hnn:=hs.nn;have pA:=hs.On;have cT:(gl s.aN).length≤s.aN.length:=by rw[← UC];exact My _ _ (aQ _)
 have hh:=HE s.what s.w
 have hH:dN s.what s.w≤6:=by
  unfold dN;split
  ·split <;> omega
  ·omega
 have hW:eG s.what s.w≤3:=by
  unfold eG;split
  ·split
   ·exact hw
   ·have:ef s.w≤3:=by unfold ef eI;omega
    omega
  ·omega
 have Kx:SX.W1 (cS s l hs)≤3:=by
  show max (nW l) 1≤3;omega
 have CR:(dN s.what s.w).toNat≤6:=by omega
 unfold rZ;generalize SX.W1 (cS s l hs)=W at *;generalize (dN s.what s.w).toNat=h at *;have mq:nN s≤4:=by omega
 generalize nN s=n at *;have vm:(gl s.aN).length≤6:=by omega
 generalize (gl s.aN).length=e at *;have b1:e*h≤6*6:=jN vm CR;have b2:(n+e*h)*(W+2)≤40*5:=jN (by omega) (by omega);have b3:(1+h)*e≤7*6:=jN (by omega) vm;have b4:(1+h)*e*W≤42*3:=jN (by omega) Kx;have b5:n*h≤4*6:=jN mq CR;have b6:n*h*(2*k+5)≤24*11:=jN (by omega) (by omega);omega
theorem Y9{s:Sy}{k:Nat}(hf:Fit s)(he:cM s k=0)(hn:s.n≤4)(AA:s.aN.length≤6)(hw:s.w≤3)(hk:k≤3){K:Nat}(hK1:1≤K)(KA:K≤24):∃W:Nat,zO s k=(W:Int)∧W≤1100∧r9 s k K=((K*(W+12):Nat):Int)∧sa s k K=0∧K*(W+12)≤27000:=by
 obtain⟨hs,_⟩:=zS hf he;have h1:=TE hs (k:=k) (by omega);have h2:=ZF hs hn AA hw hk;generalize rZ s (SX.W1 (cS s (je s k) hs)) k=W at h1 h2;refine⟨W,h1.1,h2,?_,?_,?_⟩
 ·have h3:K*(W+12)≤24*1112:=jN KA (by omega);unfold r9;rw[af he,af ⟨by omega,by omega⟩,h1.1,p8 (z:=(W:Int)+12) (by omega) (by omega),show (W:Int)+12=((W+12:Nat):Int) by omega,← sJ];exact p8 (by omega) (by omega)
 ·unfold sa;rw[af he,af ⟨by omega,by omega⟩]
 ·have h3:K*(W+12)≤24*1112:=jN KA (by omega);omega
set_option maxHeartbeats 4000000 in
theorem Yt(s:Sy)(w:Int)(raw:List Int)(hi:bh s.init)(ht:∀t∈s.T,bh t.1∧bh t.2.1):ACalls Tryz.prog 7 [.agg (cc s),.int .i64 w,.ah (.int .i64) raw] [] (fun r _=>r=.bool true):=by
 refine ay Tryz.func7 ?_;intro b3;refine ax [] (aey _) ?_;refine aa 0 ?_;refine aiw [] (aee s _) (fun rH=>?_) ?_;rotate_left
 ·exact .done rfl
 have hf:=ahj rH hi ht;refine aa 0 ?_;refine ao (fun c1=>?_) (fun c1=>?_)
 ·exact .done rfl
 ·have c1:¬(4<s.n):=c1;refine aa 0 ?_;refine ao (fun c2=>?_) (fun c2=>?_)
  ·exact .done rfl
  ·have c2:¬(6<(↑s.aN.length:Int)):=c2;refine aa 0 ?_;refine ao (fun c3=>?_) (fun c3=>?_)
   ·exact .done rfl
   ·have c3:¬(3<s.w):=c3;refine ao (fun c4=>?_) (fun c4=>?_)
    ·exact .done rfl
    ·have c4:¬(60<(↑raw.length:Int)):=c4;refine aa 0 ?_;obtain⟨k',dR⟩:∃x,x=(if 3<w then 3 else w):=⟨_,rfl⟩
     by_cases he:cM s k'=0
     rotate_left
     ·have hP:∀σ,ACalls Tryz.prog 30 [.agg (cc s),.int .i64 (if 3<w then 3 else w),.int .i64 (IntKind.i64.wrap (IntKind.i64.wrap (2*if 3<w then 3 else w)-1))] σ (aC (.tup [.int .i64 0,.int .i64 (cM s k')]) σ):=fun σ=>by
       rw[← dR];refine sS (NK s k' _ σ hf) ?_;unfold r9 sa;rw[ag he,ag he]
      clear dR;refine ax [] (hP _) ?_;refine dX (fun c1=>?_) (fun c1=>?_)
      ·have c1:¬(cM s k'=0):=by simpa using c1
       exact .done rfl
      ·have c1:cM s k'=0:=by simpa using c1
       exact absurd (by assumption) he
     obtain⟨n,hn,pD,mq⟩:=aib hf he;have hk3:n≤3:=by rw[hn]at dR;split at dR <;> omega
     have AA:s.aN.length≤6:=by omega
     obtain⟨W,tM,Kx,hW3,hW4,hW5⟩:=Y9 (k:=n) hf (hn▸he) (by omega) AA (by omega) hk3 (K:=2*n-1) (by omega) (by omega)
     have hKe:IntKind.i64.wrap (IntKind.i64.wrap (2*(n:Int))-1)=((2*n-1:Nat):Int):=by
      rw[p8 (z:=2*(n:Int)) (by omega) (by omega),p8 (by omega) (by omega)];omega
     obtain⟨wv,rE⟩:∃wv,(ee n raw ((2*n-1)*(W+12)+1)).1=wv:=⟨_,rfl⟩
     have pA:wv.length=(2*n-1)*(W+12)+1:=by rw[← rE];exact Dt _ _ _
     have hwf:uE n (2*n-1) (gA n wv):=by rw[← rE];exact ZI n pD raw _
     generalize PZ:(2*n-1)*(W+12)=N at rE pA hW3 hW5;rw[vB]at PZ;obtain⟨z,hz⟩:∃z:Int,z=0:=⟨0,rfl⟩
     have hP:∀σ,ACalls Tryz.prog 30 [.agg (cc s),.int .i64 (if 3<w then 3 else w),.int .i64 (IntKind.i64.wrap (IntKind.i64.wrap (2*if 3<w then 3 else w)-1))] σ (aC (.tup [.int .i64 (N:Nat),.int .i64 z]) σ):=fun σ=>by
      rw[← dR,hn,hKe];exact sS (NK s n _ σ hf) (by rw[hW3,hW4,hz])
     have hWv:∀σ,ACalls Tryz.prog 26 [.int .i64 (if 3<w then 3 else w),.int .i64 (IntKind.i64.wrap ((N:Int)+1)),.ah (.int .i64) raw] σ (aC (.ah l4 wv) σ):=fun σ=>by
      rw[← dR,← rE,hn,show IntKind.i64.wrap ((N:Int)+1)=((N+1:Nat):Int) from p8 (by omega) (by omega)];exact ahs n n (N+1) raw σ (R7 pD mq) (by omega) (by omega)
     have hR:∀σ,ACalls Tryz.prog 13 [.agg (cc s),.int .i64 (if 3<w then 3 else w),.ah l4 wv] σ (fun r σ'=>∃(e j:Int) (us:Nat),r=.tup [.agg (zM (kU s).1 e j us),.int .i64 z]∧us≤N∧σ'=σ):=fun σ=>by
      rw[← dR,hn,hz];refine (aef s n wv (2*n-1) σ hf (hn▸he) (by omega) hwf W tM (by rw[PZ];omega) (by omega)).mono ?_;rintro _ _ ⟨e,j,us,rfl,h,rfl⟩;exact⟨e,j,us,rfl,by rw[PZ]at h;exact h,rfl⟩
     have hI:∀σ,ACalls Tryz.prog 31 [.ah l4 wv,.int .i64 (if 3<w then 3 else w),.int .i64 (IntKind.i64.wrap (IntKind.i64.wrap (2*if 3<w then 3 else w)-1))] σ (aC (.bool true) σ):=fun σ=>by
      rw[← dR,hn,hKe];exact agr n (2*n-1) wv σ pD mq (by omega) (by omega) hwf
     have hg:Good s:=(zS hf he).1.im;have bM:z8 (kU s).1:=(Be hf hg).1.ok hg;have hL:=fun σ=>aei s σ hf hg;have hS:∀σ,ACalls Tryz.prog 19 [.ah (.slice (.int .u64)) (kU s).1,.ah (.slice (.int .u64)) (kU s).1] σ (aC (.bool true) σ):=fun σ=>sS (UY _ (kU s).1 _ bM) (by rw[bu rfl]);clear dR;refine ax [] (hP _) ?_;refine dX (fun c1=>?_) (fun c1=>?_)
     ·have c1:¬(z=0):=by simpa using c1
      refine ao (fun c2=>?_) (fun c2=>?_)
      ·have c2:(↑N:Int)=0:=c2;omega
      ·have c2:¬((↑N:Int)=0):=c2;omega
     ·have c1:z=0:=by simpa using c1
      refine ax [] (hWv _) ?_;refine aa 0 ?_;refine .mk [] _ (hR _) ?_;rintro _ _ ⟨e,j,us,rfl,gv,rfl⟩;intro aF;refine aj 0 ?_;refine .quiet (by kernel_rfl) ?_;refine aK [] (hI _) ?_;refine ao (fun c2=>?_) (fun c2=>?_)
      ·have c2:z=0:=c2;refine aa 0 ?_;refine ao (fun c3=>?_) (fun c3=>?_)
       ·refine aa 0 ?_;refine aa 1 ?_;refine aK [] (hL _) ?_;refine aK [] (hS _) ?_;exact .done rfl
       ·have c3:¬((↑us:Int)≤(↑N:Int)):=c3;omega
      ·have c2:¬(z=0):=c2;omega
end Go.Proofs.YtnikdflhefijbaaGreat
namespace Go.Proofs.YtnikdflhefijbaaGreat
open Go.ChangeShapes Go.WideShapes Go.ChangeAt Go.RowKit
theorem gN{a b:Bool}(ha:a=true)(hb:b=true):(a&&b)=true:=by rw[ha,hb];rfl
theorem Lj:laidOutB Tryz.prog=true:=by kernel_rfl
theorem fk3:mapsRowed Tryz.prog=true:=by kernel_rfl
theorem fk7:(Tryz.prog.stops == [])=true:=by kernel_rfl
theorem fk9:(Tryz.prog.stopKnobs == [])=true:=by kernel_rfl
theorem ajH:(Rows.solveRunsRow.plainKeys == Tryz.prog.plainKeys)=true:=by kernel_rfl
theorem ajG:Tryz.prog.stopsHeard=true:=by kernel_rfl
theorem ajF:Tryz.prog.mayEnter=true:=by kernel_rfl
theorem ajE:(Rows.solveRunsRow.lifted == Tryz.prog.liftsFinal)=true:=by kernel_rfl
theorem ajD:(Tryz.prog.make == some Rows.solveRunsRow.make)=true:=by kernel_rfl
theorem ajB:ownKnob Tryz.prog.godebug=none:=by kernel_rfl
theorem va{F:Nat→Prop}{w:World}{x:AV}{xs:List AV}{v:Value}{vs:List Value}(h:aB F w x v)(t:jC F w xs vs.toArray):jC F w (x::xs) (v::vs).toArray:=by
 refine⟨by have:=t.1;simp at this ⊢;exact this,fun i y hy=>?_⟩;cases i with
 |zero=>simp at hy;subst hy;simpa [Array.getD]using h
 |succ i=>
  have:=t.2 i y (by simpa using hy);rw[iy]at this ⊢;simpa using this
theorem vn{F:Nat→Prop}{w:World}:jC F w [] ([]:List Value).toArray:=⟨rfl,fun i y hy=>by simp at hy⟩
theorem vi{F:Nat→Prop}{w:World}{k:IntKind}{n:Int}:aB F w (.int k n) (.int k n):=.int k n
theorem vl{w:World}{e:Sh}{a:Option Addr}{n c:Nat}{l:List e.T}(hp:(Sh.slice e).pos=true)(h:Reads w (.slice e) (Value.slice a n c).cells.toList l):aB (fun b=>b<w.heap.size) w (.ah e l) (.slice a n c):=
 .ah e l _ (Tb (.slice e) _ l hp h)
theorem vg{w:World}{s:Sh}{cs:Array Value}{d:s.T}(hp:s.pos=true)(h:Reads w s (Value.agg cs).cells.toList d):aB (fun b=>b<w.heap.size) w (.agg (s.cells d)) (.agg cs):=by
 obtain⟨h1,h2⟩:=lF.cells s _ d (Tb s _ d hp h);refine .agg _ _ (by rw[h1];rfl) (fun i x hx=>(h2 i x hx).1) (fun i x hx=>?_);have:=(h2 i x hx).2;rw[aZ,C4,← iy]at this;exact this
theorem RM{w:World}{e:Sh}{cs:List Value}{l:List e.T}(h:Reads w (.slice e) cs l):∀x∈l,∃cs',Reads w e cs' x:=by
 obtain⟨a,c,_,_,_,_,h3⟩:=h;intro x hx;obtain⟨i,hi,rfl⟩:=xz.1 hx;obtain⟨b,o,_,h4⟩:=h3 (List.ne_nil_of_mem hx);obtain⟨cs',_,_,h5⟩:=h4 i hi;exact⟨cs',h5⟩
theorem LY{w:World}{cs:List Value}{l:List Int}(h:Reads w (.slice (.int .u64)) cs l):∀z∈l,0≤z∧z<18446744073709551616:=fun z hz=>by
 obtain⟨cs',h1,h2⟩:=RM h z hz;exact wf_u64 h2
theorem Y5{w:World}{e:Sh}{cs:List Value}{x:List Int×List Int×e.T×Unit}(h:Reads w (.field (.slice (.int .u64)) (.field (.slice (.int .u64)) (.field e .nil))) cs x):(∀z∈x.1,0≤z∧z<18446744073709551616)∧(∀z∈x.2.1,0≤z∧z<18446744073709551616):=by
 obtain⟨c1,c2,_,_,h1,d1,d2,_,_,h2,_⟩:=h;exact⟨LY h1,LY h2⟩
theorem SG{w:World}{c1 e1:Sh}{cs:List Value}{x:Int×Int×Int×c1.slice.T×List Int×List Int×List (List Int×List Int×e1.T×Unit)×Unit}(h:Reads w (.field (.int .i64) (.field (.int .i64) (.field (.int .i64) (.field (.slice c1) (.field (.slice (.int .i64)) (.field (.slice (.int .u64)) (.field (.slice (.field (.slice (.int .u64)) (.field (.slice (.int .u64)) (.field e1 .nil)))) .nil))))))) cs x):(∀z∈x.2.2.2.2.2.1,0≤z∧z<18446744073709551616)∧∀t∈x.2.2.2.2.2.2.1,(∀z∈t.1,0≤z∧z<18446744073709551616)∧(∀z∈t.2.1,0≤z∧z<18446744073709551616):=by
 obtain⟨_,_,_,_,_,_,_,_,_,_,_,_,_,_,_,_,_,_,_,_,_,_,_,_,_,_,_,_,_,h6,_,_,_,_,h7,_⟩:=h;refine⟨LY h6,fun t ht=>?_⟩;obtain⟨cs',h1⟩:=RM h7 t ht;exact Y5 h1
end Go.Proofs.YtnikdflhefijbaaGreat
