import Derived.Test.YtnikdflhefijbaaGreatBn20
import Derived.Test.YtnikdflhefijbaaGreatBn12
import Derived.Test.YtnikdflhefijbaaGreatBn18
import Derived.Test.YtnikdflhefijbaaGreatBn10
import Derived.Test.YtnikdflhefijbaaGreatBn9
import Derived.Below
import Derived.ChangeOld
import Derived.OpenShut
import Derived.ProofKit
import Derived.Test.YtnikdflhefijbaaGreatRows
import Derived.WalkKit
import Derived.Test.YtnikdflhefijbaaGreatBn5
namespace Go.Proofs.YtnikdflhefijbaaGreat
open Go.RowKit
set_option maxRecDepth 100000
set_option maxHeartbeats 4000000
def Eb(s:Sy)(v i:Nat):Int:=((kX s).1.getD v []).getD i 0
theorem ac3{a:List Int}{n:Nat}(h:a.length=n):(List.range n).map (fun i=>a.getD i 0)=a:=by
 subst h
 refine List.ext_getElem (by simp) fun i h1 h2=>?_
 rw[FL,FO,aW,bj h2];rfl
def pz(s:Sy)(l:Lay)(ws:List Int):List (List Int):=(List.range (nN s)).map fun v=>(List.range (nW l)).map fun i=>ws.getD (v*nW l+i) 0
theorem K0{s:Sy}{l:Lay}{ws:List Int}{v:Nat}(h:v<nN s):(pz s l ws).getD v []=(List.range (nW l)).map fun i=>ws.getD (v*nW l+i) 0:=by
 unfold pz
 rw[aW,fm,wI h];rfl
theorem tq{f:Nat→Int}{n i:Nat}(h:i<n):((List.range n).map f).getD i 0=f i:=by
 rw[aW,fm,wI h];rfl
def rV(s:Sy):List Nat:=(List.range (nN s)).filter fun u=>s.aT.any fun e=>decide (e.2.1=(u:Int))
def Ja(s:Sy)(l:Lay)(c:Nat→Int):Nat:=su s.what s.w ((List.range (nW l)).map c)
section
variable {s:Sy} {l:Lay} (hs:LS s l)
include hs
theorem LS.Ar{f:Nat→Int}(h:∀i,i<nW l→fM s.what s.w i (f i)):eH s.what s.w ((List.range (nW l)).map f):=
 (hs.rO).2 ⟨by simp,fun i hi=>by rw[tq hi];exact h i hi⟩
theorem Aj{ws:List Int}(h:MV s l ws):iL s (pz s l ws):=by
 refine⟨by unfold pz;rw[cj,l0];exact hs.nn.1.symm,fun x hx=>?_⟩
 obtain⟨v,hv,rfl⟩:=dL.1 hx
 exact hs.Ar fun i hi=>h.cells v i (gb.1 hv) hi
theorem Ma{v:Nat}(hv:v<nN s):eH s.what s.w ((kX s).1.getD v []):=(Ap hs.fit hs.jf).1.get (by have:=hs.nn;omega)
theorem aaK{v:Nat}(hv:v<nN s):SX.mM (lC s l hs) (Eb s) v=(kX s).1.getD v []:=ac3 ((hs.rO).1 (Ma hs hv)).1
theorem Uj{v u:Nat}(hu:u∈Ob s v):v<nN s∧u<nN s∧∃e∈s.aT,e.1=(v:Int)∧e.2.1=(u:Int):=by
 obtain⟨z,hz,rfl⟩:=dL.1 hu
 obtain⟨h1,h2,e,he,e1,e2⟩:=mb.1 hz
 have:=hs.nn
 exact⟨by omega,by omega,e,he,e1,by omega⟩
theorem aaL:SX.Xj (lC s l hs) (Eb s):=by
 obtain⟨hv,Ez,_,_⟩:=Ap hs.fit hs.jf
 refine⟨fun v i dy hi=>((hs.rO).1 (Ma hs dy)).2 i hi,fun v dy u hu i hi=>?_⟩
 obtain⟨h1,h2,e,he,e1,e2⟩:=Uj hs hu
 have Ia:=(KH hs.fit hs.jf hv u s.aT.length (aR _)).2 e (by rw[fu];exact he) e2
 rw[← Gx s _ (show ((u:Nat):Int)<s.n by have:=hs.nn;omega),← Ez,show e.1.toNat=v by omega]at Ia
 have:=(hs.zJ Ia.1 Ia.2.1).1 Ia i hi
 rw[aaK hs dy]
 exact this
theorem adR:SX.Xi (lC s l hs) (rV s) (Ja s l):=by
 refine⟨List.Pairwise.filter _ JV,fun v hv u hu=>?_,fun c i x hi hc hx aQ=>?_⟩
 ·obtain⟨h1,h2,e,he,e1,e2⟩:=Uj hs hu
  exact lZ.2 ⟨gb.2 h2,lA.2 ⟨e,he,aL e2⟩⟩
 ·have hi:i<nW l:=hi
  have hw:=hs.vh
  have kL:∀j,j<nW l→fM s.what s.w j (if j=i then dD s.what (c i) x else c j):=fun j hj=>by
   by_cases e:j=i
   ·subst e;rw[ah rfl];exact CD hw (hc j hj) hx
   ·rw[ag e];exact hc j hj
  have v1:=hs.Ar (f:=c) hc
  have v2:=hs.Ar (f:=fun j=>if j=i then dD s.what (c i) x else c j) kL
  have hle:eb s.what s.w ((List.range (nW l)).map c) ((List.range (nW l)).map fun j=>if j=i then dD s.what (c i) x else c j):=(hs.zJ v1 v2).2 fun j hj=>by
   rw[tq hj,tq hj]
   by_cases e:j=i
   ·subst e;rw[ah rfl];exact SX.Mj (A:=lC s l hs) (hc j hj) hx
   ·rw[ag e];exact CC hw (hc j hj)
  obtain⟨h1,h2⟩:=Mf hle
  rcases Cl h1 with h3 | h3
  ·exact h3
  ·have h4:=congrArg (fun a=>a.getD i 0) (h2 h3)
   rw[tq hi,tq hi,ah rfl]at h4
   exact absurd h4.symm aQ
end
def mO(s:Sy)(l:Lay)(ws ws':List Int):Prop:=∀v i,v<nN s→i<nW l→dD s.what (ws.getD (v*nW l+i) 0) (ws'.getD (v*nW l+i) 0)=ws'.getD (v*nW l+i) 0
structure WI(s:Sy)(l:Lay)(hs:LS s l)(a:WA)(us:Nat):Prop where
 free:vA s l a
 ref:∃D T,RJ s l hs a.W a.ws D T (us+1)∧SX.VI (lC s l hs) (Eb s) (bZ s l a.W a.ws D)∧(∀v,v<nN s→SX.yo (lC s l hs) (bZ s l a.W a.ws D) v)∧SX.Rest (bZ s l a.W a.ws D)∧SX.EI (bZ s l a.W a.ws D) (nN s)∧SX.JI (bZ s l a.W a.ws D) (rV s) (Ja s l)
 low:∀v i,v<nN s→i<nW l→dD s.what (wd (gh s v) i) (a.ws.getD (v*nW l+i) 0)=a.ws.getD (v*nW l+i) 0
section
variable {s:Sy} {l:Lay} {hs:LS s l}
theorem CB{W:List WS}{ws:List Int}{D:List (List Nat)}{v i:Nat}(hv:v<nN s)(hi:i<nW l):(bZ s l W ws D).cell v i=ws.getD (v*nW l+i) 0:=ah ⟨hv,hi⟩
theorem WI.word{a:WA}{us:Nat}(h:WI s l hs a us){v i:Nat}(hv:v<nN s)(hi:i<nW l):fM s.what s.w i (a.ws.getD (v*nW l+i) 0):=h.free.fl.2.cells v i hv hi
theorem mO.refl{a:WA}{us:Nat}(h:WI s l hs a us):mO s l a.ws a.ws:=fun _ _ hv hi=>CC hs.vh (h.word hv hi)
theorem mO.trans{a b c:WA}{u1 u2 u3:Nat}(h1:WI s l hs a u1)(h2:WI s l hs b u2)(h3:WI s l hs c u3)(r1:mO s l a.ws b.ws)(r2:mO s l b.ws c.ws):mO s l a.ws c.ws:=fun v i hv hi=>
 SX.le_trans (A:=lC s l hs) (h1.word hv hi) (h2.word hv hi) (h3.word hv hi) (r1 v i hv hi) (r2 v i hv hi)
theorem WI.step{a:WA}{us:Nat}(h:WI s l hs a us)(hu:us<100000000)(i:Nat)(d:Int):WI s l hs (ei s l a i d).1 (us+1)∧mO s l a.ws (ei s l a i d).1.ws:=by
 obtain⟨hF,⟨D,T,hR,hV,hC,JD,hE,hJ⟩,fC⟩:=h
 obtain⟨D',T',Fu,lR⟩:=hR.step (by omega) hF i d
 have hb:=aaL hs
 obtain⟨hV',zc⟩:=hV.step hb hR.ti lR
 have hF':=hF.step hs i d
 have hr:mO s l a.ws (ei s l a i d).1.ws:=fun v j hv hj=>by
  have:=zc v j hv hj
  rw[CB hv hj,CB hv hj]at this
  exact this
 refine⟨⟨hF',⟨D',T',Fu,hV',fun v hv=>?_,JD.step hR.ti lR,hE.step lR,hJ.step (adR hs) hR.ti hV lR⟩,fun v j hv hj=>?_⟩,hr⟩
 ·exact SX.yo.step hR.ti hV lR hv (hC v hv)
 ·exact SX.le_trans (A:=lC s l hs) (hs.Gk hj) (hF.fl.2.cells v j hv hj) (hF'.fl.2.cells v j hv hj) (fC v j hv hj) (hr v j hv hj)
theorem ZM(hs:LS s l){v i:Nat}(hv:v<nN s)(hi:i<nW l):dD s.what (wd (gh s v) i) (Eb s v i)=Eb s v i:=by
 obtain⟨bN,Ez,_,_⟩:=Ap hs.fit hs.jf
 have h1:=(KH hs.fit hs.jf bN v s.aT.length (aR _)).1
 rw[← Gx s _ (show ((v:Nat):Int)<s.n by have:=hs.nn;omega),← Ez]at h1
 have:=(hs.zJ h1.1 h1.2.1).1 h1 i hi
 rw[tR (gh s v)]at this
 exact this
theorem wi0(cd:kq s l):WI s l hs ⟨W0 l,eJ s l⟩ 0:=by
 obtain⟨lr,lX,B3⟩:=RV hs
 have mX:∀p∈(bZ s l (W0 l) (eJ s l) (D0 s l)).ph,p=.idle 0 0:=fun p hp=>by
  obtain⟨x,hx,rfl⟩:=dL.1 hp
  rw[show x=oP from Cr hx];rfl
 have ke:(bZ s l (W0 l) (eJ s l) (D0 s l)).ev=0:=TU (f:=fun x:WS=>x.ev.toNat) (x:=oP) rfl _
 have lW:(bZ s l (W0 l) (eJ s l) (D0 s l)).jo=0:=TU (f:=fun x:WS=>x.jo.toNat) (x:=oP) rfl _
 refine⟨Vm cd hs,⟨D0 s l,fun _=>1,rj0 cd,⟨fun v i hv hi=>?_,fun v i hv hi=>?_,fun p hp=>?_⟩,fun v hv=>.inl ?_,fun h=>?_,?_,?_⟩,fun v i hv hi=>?_⟩
 ·rw[CB hv hi,lr v i hv hi];exact hs.Gk hi
 ·rw[CB hv hi,lr v i hv hi];exact ZM hs hv hi
 ·rw[mX p hp];trivial
 ·exact aL ⟨hv,by rw[lX v hv];decide⟩
 ·exact absurd (mX _ h) (by intro h;cases h)
 ·show SX.AS.ev _+SX.aI List.length (D0 s l)+SX.aI SX.gX _≤nN s+SX.AS.jo _
  rw[ke,lW,VY cd,SX.Ae fun p hp=>by rw[mX p hp];rfl];omega
 ·show SX.AS.jo _+SX.aI SX.fJ _≤_
  rw[lW,SX.Ae fun p hp=>by rw[mX p hp];rfl];omega
 ·rw[lr v i hv hi];exact CC hs.vh (hs.Gk hi)
theorem WI.ait{a:WA}{us:Nat}(h:WI s l hs a us):lO s (pz s l a.ws) (kX s).1:=by
 obtain⟨hF,⟨D,T,hR,hV,_⟩,_⟩:=h
 refine⟨Aj hs hF.fl.2,(Ap hs.fit hs.jf).1,fun v hv=>?_⟩
 have hv:v<nN s:=by have:=hs.nn;omega
 rw[K0 hv]
 refine (hs.zJ (hs.Ar fun i hi=>hF.fl.2.cells v i hv hi) (Ma hs hv)).2 fun i hi=>?_
 rw[tq hi]
 have:=hV.low v i hv hi
 rw[CB hv hi]at this
 exact this
theorem LB{a b:WA}{u1 u2:Nat}(h1:WI s l hs a u1)(h2:WI s l hs b u2)(hr:mO s l a.ws b.ws):lO s (pz s l a.ws) (pz s l b.ws):=by
 refine⟨Aj hs h1.free.fl.2,Aj hs h2.free.fl.2,fun v hv=>?_⟩
 have hv:v<nN s:=by have:=hs.nn;omega
 rw[K0 hv,K0 hv]
 refine (hs.zJ (hs.Ar fun i hi=>h1.word hv hi) (hs.Ar fun i hi=>h2.word hv hi)).2 fun i hi=>?_
 rw[tq hi,tq hi]
 exact hr v i hv hi
end
theorem Mt{A:Type}(step:A→Nat→Int→A×Bool)(tell:A→Nat→A)(n:Nat):∀(p q:List (Int×Int×Unit)) (x:gw A),jC step tell n (p++q) x=jC step tell n q (jC step tell n p x)
 | [],q,x=>rfl
 |a::p,q,x=>by
  show (if x.dn.all id=true then x else jC step tell n (p++q) _)=jC step tell n q (if x.dn.all id=true then x else _)
  by_cases h:x.dn.all id=true
  ·rw[ah h,ah h]
   cases q with
   |nil=>rfl
   |cons b q=>show x=if x.dn.all id=true then x else _;rw[ah h]
  ·rw[ag h,ag h,Mt step tell n p q]
section
variable {s:Sy} {l:Lay} {hs:LS s l}
structure XI(s:Sy)(l:Lay)(hs:LS s l)(x:gw WA):Prop where
 wi:WI s l hs x.a x.us
 dn:x.dn=x.a.W.map (·.en)
 st:x.st.length=l.k.toNat
theorem ZH{s:Sy}{l:Lay}{who:Int}{x:WS}{d:Int}{ws:List Int}:(dE bC s l who x d ws).2.2=(dE bC s l who x d ws).1.en:=by
 cases he:x.en with
 |true=>unfold dE;rw[ah he];exact he.symm
 |false=>exact ab7 (s:=s) (l:=l) (who:=who) (d:=d) (ws:=ws) he
theorem XI.pick{x:gw WA}(h:XI s l hs x)(hu:x.us<100000000)(p:Int×Int×Unit):XI s l hs (iG (ei s l) (fun a _=>a) l.k.toNat x p)∧mO s l x.a.ws (iG (ei s l) (fun a _=>a) l.k.toNat x p).a.ws:=by
 have lV:=hs.k1
 have rR:=AF (p:=p.1) (show 0<l.k.toNat by omega)
 have hlen:=h.wi.free.len
 unfold iG
 by_cases hd:x.dn.getD (fB p.1 l.k.toNat) true=true
 ·rw[ah hd]
  obtain⟨hw,h2,h3⟩:=h
  obtain⟨hF,⟨D,T,hR,hV,hC,JD,hE,hJ⟩,fC⟩:=hw
  exact⟨⟨⟨hF,⟨D,T,⟨hR.len,hR.fl,hR.kl,hR.dl,hR.di,n9 hR,fun y hy=>by have:=hR.ev y hy;show 0≤y.ev∧y.ev≤((x.us+1+1:Nat):Int)∧0≤y.jo∧y.jo≤((x.us+1+1:Nat):Int);omega,hR.jn,hR.pn,hR.ti⟩,hV,hC,JD,hE,hJ⟩,fC⟩,h2,h3⟩,fun v i hv hi=>CC hs.vh (hF.fl.2.cells v i hv hi)⟩
 ·rw[ag hd]
  obtain⟨h1,h2⟩:=h.wi.step hu (fB p.1 l.k.toNat) p.2.1
  refine⟨⟨h1,?_,by show (x.st.set _ _).length=_;rw[cM];exact h.st⟩,h2⟩
  show x.dn.set _ _=(ei s l x.a _ _).1.W.map (·.en)
  have hW:x.a.W[fB p.1 l.k.toNat]?=some x.a.W[fB p.1 l.k.toNat]:=bj (by omega)
  rw[C3 hW,h.dn,ZH]
  show _=(List.set _ _ _).map _
  rw[nU]
theorem XI.go:∀(aw:List (Int×Int×Unit)) {x:gw WA},XI s l hs x→x.us+aw.length<100000000→XI s l hs (oZ s l aw x)∧mO s l x.a.ws (oZ s l aw x).a.ws
 | [],x,h,_=>⟨h,mO.refl h.wi⟩
 |p::aw,x,h,hu=>by
  show XI s l hs (if x.dn.all id=true then x else oZ s l aw (iG (ei s l) (fun a _=>a) l.k.toNat x p))∧mO s l x.a.ws (if x.dn.all id=true then x else oZ s l aw (iG (ei s l) (fun a _=>a) l.k.toNat x p)).a.ws
  have hl:x.us+(aw.length+1)<100000000:=hu
  by_cases hd:x.dn.all id=true
  ·rw[ah hd];exact⟨h,mO.refl h.wi⟩
  ·rw[ag hd]
   obtain⟨h1,h2⟩:=h.pick (by omega) p
   have ga:(iG (ei s l) (fun a _=>a) l.k.toNat x p).us=x.us+1:=by unfold iG;split <;> rfl
   obtain⟨h3,h4⟩:=XI.go aw h1 (by rw[ga];omega)
   exact⟨h3,mO.trans h.wi h1.wi h3.wi h2 h4⟩
theorem xi0(cd:kq s l):XI s l hs (sL s l):=⟨wi0 cd,by show List.replicate _ _=(List.replicate _ _).map _;rw[List.map_replicate];rfl,gG⟩
end
set_option maxHeartbeats 4000000
section
variable {s:Sy} {l:Lay} {I:List (Nat×Nat)}
end
theorem ace{A:Type}(step:A→Nat→Int→A×Bool)(tell:A→Nat→A)(n:Nat){x:gw A}(h:x.dn.all id=true):∀aw:List (Int×Int×Unit),jC step tell n aw x=x
 | []=>rfl
 |p::aw=>by show (if x.dn.all id=true then x else _)=x;rw[ah h]
theorem abr(s:Sy)(l:Lay){aw:List (Int×Int×Unit)}{i:Nat}(h:i<aw.length)(hd:(cF s l (aw.take i)).dn.all id=false):cF s l (aw.take (i+1))=iG (ei s l) (fun a _=>a) l.k.toNat (cF s l (aw.take i)) aw[i]:=by
 have e:cF s l (aw.take (i+1))=oZ s l [aw[i]] (cF s l (aw.take i)):=by
  unfold cF oZ
  rw[fw h,Mt]
 rw[e]
 show (if (cF s l (aw.take i)).dn.all id=true then _ else _)=_
 rw[ag (by rw[hd];decide)];rfl
theorem abt(s:Sy)(l:Lay){aw:List (Int×Int×Unit)}{i:Nat}(hd:(cF s l (aw.take i)).dn.all id=true):cF s l aw=cF s l (aw.take i):=by
 have e:cF s l aw=oZ s l (aw.drop i) (cF s l (aw.take i)):=by
  unfold cF oZ
  rw[← Mt,zZ]
 rw[e]
 exact ace _ _ _ hd _
theorem ME(s:Sy)(l:Lay):∀(aw:List (Int×Int×Unit)) (x:gw WA),(oZ s l aw x).us≤x.us+aw.length
 | [],x=>Cd _ _
 |p::aw,x=>by
  show (if x.dn.all id=true then x else oZ s l aw (iG (ei s l) (fun a _=>a) l.k.toNat x p)).us≤x.us+(aw.length+1)
  split
  ·omega
  ·have h:=ME s l aw (iG (ei s l) (fun a _=>a) l.k.toNat x p)
   have ga:(iG (ei s l) (fun a _=>a) l.k.toNat x p).us=x.us+1:=by unfold iG;split <;> rfl
   omega
theorem UX{s:Sy}{l:Lay}{hs:LS s l}(cd:kq s l)(aw:List (Int×Int×Unit))(h:aw.length≤100000):XI s l hs (cF s l aw):=
 ((xi0 cd).go aw (by show 0+aw.length<_;omega)).1
theorem abI{s:Sy}{l:Lay}{hs:LS s l}{x:gw WA}(h:XI s l hs x)(p:Int×Int×Unit):(iG (ei s l) (fun a _=>a) l.k.toNat x p).a=(ei s l x.a (fB p.1 l.k.toNat) p.2.1).1∧(iG (ei s l) (fun a _=>a) l.k.toNat x p).dn=x.dn.set (fB p.1 l.k.toNat) (ei s l x.a (fB p.1 l.k.toNat) p.2.1).2∧(iG (ei s l) (fun a _=>a) l.k.toNat x p).us=x.us+1:=by
 have lV:=hs.k1
 have hlen:=h.wi.free.len
 have rR:=AF (p:=p.1) (show 0<l.k.toNat by omega)
 have hW:x.a.W[fB p.1 l.k.toNat]?=some x.a.W[fB p.1 l.k.toNat]:=bj (by omega)
 unfold iG
 by_cases hd:x.dn.getD (fB p.1 l.k.toNat) true=true
 ·rw[ah hd]
  have mA:=h.dn
  have he:x.a.W[fB p.1 l.k.toNat].en=true:=by
   rw[mA,aW,fm,hW]at hd
   exact hd
  have e:dE bC s l (fB p.1 l.k.toNat) x.a.W[fB p.1 l.k.toNat] p.2.1 x.a.ws=(x.a.W[fB p.1 l.k.toNat],x.a.ws,true):=ah he
  rw[C3 hW,e]
  dsimp only
  rw[pf hW]
  refine⟨rfl,?_,rfl⟩
  rw[pf]
  rw[mA,fm,hW]
  exact congrArg some he
 ·rw[ag hd]
  exact⟨rfl,rfl,rfl⟩
set_option maxHeartbeats 4000000
theorem Df{f:WS→Int}:∀(W:List WS) (a:Nat),(∀x∈W,0≤f x)→a+SX.aI (fun x=>(f x).toNat) W<9000000000000000000→W.foldl (fun a x=>wr (a+f x)) (a:Int)=((a+SX.aI (fun x=>(f x).toNat) W:Nat):Int)
 | [],a,_,_=>rfl
 |x::W,a,h,hb=>by
  have h0:=h x (bU ..)
  have oY:a+((f x).toNat+SX.aI (fun x=>(f x).toNat) W)<9000000000000000000:=hb
  have e:wr ((a:Int)+f x)=((a+(f x).toNat:Nat):Int):=by
   rw[show (a:Int)+f x=((a+(f x).toNat:Nat):Int) by omega]
   exact lH (by omega)
  show W.foldl (fun a x=>wr (a+f x)) (wr ((a:Int)+f x))=((a+((f x).toNat+SX.aI (fun x=>(f x).toNat) W):Nat):Int)
  rw[e,Df W _ (fun y hy=>h y (cQ _ hy)) (by omega)]
  congr 1
  omega
theorem Sn:∀(l m:List Nat),l.Nodup→(∀x∈l,x∈m)→l.length≤m.length
 | [],_,_,_=>bE _
 |a::l,m,hn,h=>by
  obtain⟨h1,h2⟩:=lY.1 hn
  have ha:=h a (bU ..)
  have h3:=Sn l (m.erase a) h2 fun x hx=>(J7 (fun e:x=a=>h1 (by rw[← e];exact hx))).2 (h x (cQ _ hx))
  rw[List.length_erase,ah ha]at h3
  have:=Cs ha
  show l.length+1≤_
  omega
section
variable {s:Sy} {l:Lay} {hs:LS s l}
theorem afq(_:LS s l):(rV s).length≤nN s∧(rV s).length≤(ko s.aT).length:=by
 refine⟨?_,?_⟩
 ·have:=Cu (fun u:Nat=>s.aT.any fun e=>decide (e.2.1=(u:Int))) (List.range (nN s))
  rw[l0]at this
  exact this
 ·have:=Sn (rV s) ((ko s.aT).map fun e=>e.2.1.toNat) (List.Pairwise.filter _ JV) fun u hu=>by
   obtain⟨_,h2⟩:=lZ.1 hu
   obtain⟨e,he,h3⟩:=lA.1 h2
   refine dL.2 ⟨e,(Qd _ _).2 he,?_⟩
   rw[fv h3];exact bO _
  rw[cj]at this
  exact this
theorem WI.Nz{a:WA}{us:Nat}(h:WI s l hs a us)(hu:us<100000000):∃E J:Nat,jG a.W=E∧kE a.W=J∧E≤nN s+J∧(J:Int)≤((rV s).length:Int)*dR s.what s.w∧E≤64*(us+1)∧J≤64*(us+1):=by
 obtain⟨hF,⟨D,T,hR,hV,hC,JD,hE,hJ⟩,fC⟩:=h
 have hk:=hs.k2
 have hl:=hR.len
 have he:SX.aI (fun x:WS=>x.ev.toNat) a.W≤a.W.length*(us+1):=xc _ _ fun x hx=>by have:=hR.ev x hx;omega
 have hj:SX.aI (fun x:WS=>x.jo.toNat) a.W≤a.W.length*(us+1):=xc _ _ fun x hx=>by have:=hR.ev x hx;omega
 have hm:a.W.length*(us+1)≤64*(us+1):=kg _ (by omega)
 refine⟨_,_,?_,?_,?_,?_,eu he hm,eu hj hm⟩
 ·have:=Df (f:=fun x=>x.ev) a.W 0 (fun x hx=>(hR.ev x hx).1) (by omega)
  rw[dM]at this
  exact this
 ·have:=Df (f:=fun x=>x.jo) a.W 0 (fun x hx=>(hR.ev x hx).2.2.1) (by omega)
  rw[dM]at this
  exact this
 ·unfold SX.EI at hE
  have h1:(bZ s l a.W a.ws D).ev=SX.aI (fun x:WS=>x.ev.toNat) a.W:=rfl
  have h2:(bZ s l a.W a.ws D).jo=SX.aI (fun x:WS=>x.jo.toNat) a.W:=rfl
  omega
 ·unfold SX.JI at hJ
  have h2:(bZ s l a.W a.ws D).jo=SX.aI (fun x:WS=>x.jo.toNat) a.W:=rfl
  have hh:=GG s.what s.w
  have h3:SX.aI (fun u=>Ja s l ((bZ s l a.W a.ws D).cell u)) (rV s)≤(rV s).length*(dR s.what s.w).toNat:=xc _ _ fun u _=>by
   have:=Qi (what:=s.what) (w:=s.w) ((List.range (nW l)).map ((bZ s l a.W a.ws D).cell u)) hs.jf.ug
   unfold Ja
   omega
  have h4:(((rV s).length*(dR s.what s.w).toNat:Nat):Int)=((rV s).length:Int)*dR s.what s.w:=by
   rw[Cb,lB hh.1]
  omega
theorem WI.bounds{a:WA}{us:Nat}(h:WI s l hs a us)(hu:us<100000000):jG a.W≤ve s∧kE a.W≤vc s∧jG a.W≤wr (s.n+kE a.W)∧0≤jG a.W∧0≤kE a.W:=by
 obtain⟨E,J,e1,e2,h1,h2,h3,h4⟩:=h.Nz hu
 have hn:=hs.nn
 have hh:=GG s.what s.w
 obtain⟨h5,h6⟩:=afq hs
 have OK:=hs.fit.xL
 have cY:(ko s.aT).length≤s.aT.length:=by rw[← ac9];exact Ta _ _ (aR _)
 have h7:((rV s).length:Int)*dR s.what s.w≤(nN s:Int)*dR s.what s.w:=Int.mul_le_mul_of_nonneg_right (by omega) hh.1
 have h8:((rV s).length:Int)*dR s.what s.w≤((ko s.aT).length:Int)*dR s.what s.w:=Int.mul_le_mul_of_nonneg_right (by omega) hh.1
 have h9:(nN s:Int)*dR s.what s.w≤256*2048:=JM (by omega) hh.2 hh.1 (by omega)
 have h10:((ko s.aT).length:Int)*dR s.what s.w≤100000*2048:=JM (by omega) hh.2 hh.1 (by omega)
 have h11:0≤((ko s.aT).length:Int)*dR s.what s.w:=FD (by omega) hh.1
 have h12:0≤(nN s:Int)*dR s.what s.w:=FD (by omega) hh.1
 have hc:=Au hs.jf
 rw[e1,e2]
 refine⟨?_,?_,?_,by omega,by omega⟩
 ·unfold ve
  rw[ah hc,show IntKind.i64.wrap (((ko s.aT).length:Int)*dR s.what s.w)=((ko s.aT).length:Int)*dR s.what s.w from gg h11 (by omega),show IntKind.i64.wrap (s.n+((ko s.aT).length:Int)*dR s.what s.w)=s.n+((ko s.aT).length:Int)*dR s.what s.w from gg (by omega) (by omega)]
  omega
 ·unfold vc
  rw[ah hc,hn.1,show IntKind.i64.wrap ((nN s:Int)*dR s.what s.w)=(nN s:Int)*dR s.what s.w from gg h12 (by omega)]
  omega
 ·rw[gg (by omega) (by omega)];omega
end
set_option maxHeartbeats 4000000
theorem abJ{s:Sy}{l:Lay}(n:Nat)(x:gw WA)(p:Int×Int×Unit):(iG (ei s l) (fun a _=>a) n x p).dn.length=x.dn.length∧(iG (ei s l) (fun a _=>a) n x p).a.W.length=x.a.W.length:=by
 unfold iG
 split
 ·exact⟨rfl,rfl⟩
 ·refine⟨cM ..,?_⟩
  show (ei s l x.a _ _).1.W.length=_
  unfold ei
  split
  ·exact cM ..
  ·rfl
theorem Vk{s:Sy}{l:Lay}(n:Nat):∀(aw:List (Int×Int×Unit)) (x:gw WA),(jC (ei s l) (fun a _=>a) n aw x).dn.length=x.dn.length∧(jC (ei s l) (fun a _=>a) n aw x).a.W.length=x.a.W.length
 | [],x=>⟨rfl,rfl⟩
 |p::aw,x=>by
  show (if x.dn.all id=true then x else jC (ei s l) (fun a _=>a) n aw (iG (ei s l) (fun a _=>a) n x p)).dn.length=_∧(if x.dn.all id=true then x else jC (ei s l) (fun a _=>a) n aw (iG (ei s l) (fun a _=>a) n x p)).a.W.length=_
  split
  ·exact⟨rfl,rfl⟩
  ·have h1:=Vk (s:=s) (l:=l) n aw (iG (ei s l) (fun a _=>a) n x p)
   have h2:=abJ (s:=s) (l:=l) n x p
   exact⟨h1.1.trans h2.1,h1.2.trans h2.2⟩
theorem TX(s:Sy)(l:Lay)(aw:List (Int×Int×Unit)):(cF s l aw).dn.length=l.k.toNat∧(cF s l aw).a.W.length=l.k.toNat:=by
 have h:=Vk (s:=s) (l:=l) l.k.toNat aw (sL s l)
 exact⟨h.1.trans gG,h.2.trans gG⟩
def WD:List Int:=[1,1,1,1,2,0,0]
def vQ:gw WA:=⟨⟨[oP],WD⟩,[0],[false],0⟩
def tN(s:Sy)(l:Lay)(k:Nat)(x:gw WA):List AV:=vk (qz l x.a.ws (nN s)) (DH l x.a.ws (nN s)) (wr (cN x.a.ws (cE l))) (jG x.a.W) (kE x.a.W) x.us (yZ l x.a.ws k) (Bo l x.a.ws k) x.dn
structure qf(s:Sy)(k:Nat)(l:Lay)(hs:LS s l)(x:gw WA):Prop where
 ok:kq s l
 lk:l.k=(k:Int)
 lay:ir s k=l
 xi:XI s l hs x
 dl:x.dn.length=k
 wl:x.a.W.length=k
theorem agQ{s:Sy}{k:Int}(hf:Fit s)(he:cP s k=0):∃n:Nat,k=(n:Int)∧1≤n∧n≤64:=by
 obtain⟨hs,_⟩:=DX hf he
 have h1:=hs.k1
 have h2:=hs.k2
 rw[Mm he]at h1 h2
 exact⟨k.toNat,by omega,by omega,by omega⟩
theorem N4(s:Sy)(k:Nat)(aw:List (Int×Int×Unit))(σ:Hp)(hf:Fit s)(he:cP s k=0)(lL:aw.length≤100000):ACalls Tryz.prog 14 [.agg (aV s),.int .i64 k,.ae jq aw] σ (fun r σ'=>∃(l:Lay) (hs:LS s l),qf s k l hs (cF s l aw)∧r=.tup [.agg (tN s l k (cF s l aw)),.int .i64 0]∧σ'=σ):=by
 obtain⟨hs,JE⟩:=DX hf he
 obtain⟨l,hl⟩:∃l,ir s k=l:=⟨_,rfl⟩
 have hk:l.k=k:=by rw[← hl];exact Mm he
 rw[hl]at hs
 have ec:=hs.k2
 have hnn:=hs.nn
 have hn:=hs.n
 obtain⟨wo,nS⟩:=TX s l aw
 have e:l.k.toNat=k:=by omega
 rw[e]at wo nS
 refine (ahs s k l hl aw σ hf he lL (by omega) (by omega) (by omega) (by omega) nS).mono ?_
 rintro _ _ ⟨rfl,rfl,cd⟩
 exact⟨l,hs,⟨cd,hk,hl,UX cd aw lL,wo,nS⟩,rfl,rfl⟩
theorem aeS(s:Sy)(va I7:List (List Int))(wv wv' dv dv':AV)(num ahE ev Kq jo Jd us I8:Int)(tv tv' bv bv':AV)(σ:Hp)(hf:Fit s)(uj:k8 va)(ahM:k8 I7):ACalls Tryz.prog 76 [.agg (aV s),.agg [.ae (.slice (.int .u64)) va,wv,.int .i64 num,.int .i64 ev,.int .i64 jo,.int .i64 us,tv,bv,dv],.agg [.ae (.slice (.int .u64)) I7,wv',.int .i64 ahE,.int .i64 Kq,.int .i64 Jd,.int .i64 I8,tv',bv',dv']] σ (aB (.bool (tL s va I7&&decide (ev≤Kq)&&decide (jo≤Jd)&&decide (us≤I8))) σ):=by
 refine au Tryz.func76 ?_
 intro aD
 intro du
 intro rb
 refine aa 2 ?_
 refine aa 1 ?_
 refine aa 0 ?_
 refine dm [] (Lt s va I7 _ hf uj ahM) (fun c0=>?_) (fun c0=>?_)
 ·refine aa 1 ?_
  refine aa 0 ?_
  refine ak (fun c1=>?_) (fun c1=>?_)
  ·have c1:ev≤Kq:=c1
   refine aa 1 ?_
   refine aa 0 ?_
   refine ak (fun c2=>?_) (fun c2=>?_)
   ·have c2:jo≤Jd:=c2
    refine aa 1 ?_
    refine aa 0 ?_
    refine ak (fun c3=>?_) (fun c3=>?_)
    ·have c3:us≤I8:=c3
     exact .drop 0 3 (.done ⟨by rw[c0,aL c1,aL c2,aL c3];rfl,rfl⟩)
    ·have c3:¬(us≤I8):=c3
     exact .drop 0 3 (.done ⟨by rw[c0,aL c1,aL c2,bH c3];rfl,rfl⟩)
   ·have c2:¬(jo≤Jd):=c2
    exact .drop 0 3 (.done ⟨by rw[c0,aL c1,bH c2];rfl,rfl⟩)
  ·have c1:¬(ev≤Kq):=c1
   exact .drop 0 3 (.done ⟨by rw[c0,bH c1];rfl,rfl⟩)
 ·exact .drop 0 3 (.done ⟨by rw[c0];rfl,rfl⟩)
theorem Vy(s:Sy)(va:List (List Int))(wv dv:AV)(num ev jo us:Int)(gA oL:List Int)(σ:Hp)(hf:Fit s)(hg:Good s)(uj:k8 va)(BV:k8 (kX s).1)(hlen:gA.length≤100000)(hb:tL s va (kX s).1=true)(WU:0≤num∧num≤wr (s.n+(gA.length:Int)))(hl:gA.length=oL.length)(ke:ev≤ve s)(lW:jo≤vc s)(hd:∀i:Nat,i<gA.length→1≤gA.getD i 0∧¬oL.getD i 0<wr (gA.getD i 0-1)∧¬(gA.getD i 0≤oL.getD i 0∧s.n<wr (oL.getD i 0-gA.getD i 0))):ACalls Tryz.prog 75 [.agg (aV s),.agg [.ae (.slice (.int .u64)) va,wv,.int .i64 num,.int .i64 ev,.int .i64 jo,.int .i64 us,.ae (.int .i64) gA,.ae (.int .i64) oL,dv]] σ (aB (.bool true) σ):=by
 refine au Tryz.func75 ?_
 intro aD
 intro du
 refine aa 1 ?_
 refine az [] (Tx s _ hf hg) ?_
 refine aa 1 ?_
 refine aa 0 ?_
 refine az [] (qg (Lt s va _ _ hf uj BV) (by rw[hb])) ?_
 refine aa 0 ?_
 refine ak (fun c1=>?_) (fun c1=>?_)
 ·have c1:num<0:=c1
  exact absurd c1 (B7.2 WU.1)
 ·have c1:¬(num<0):=c1
  refine aa 0 ?_
  refine aa 1 ?_
  refine aa 0 ?_
  refine ak (fun c2=>?_) (fun c2=>?_)
  ·have c2:IntKind.i64.wrap (s.n+(↑gA.length:Int))<num:=c2
   exact absurd c2 (B7.2 WU.2)
  ·have c2:¬(IntKind.i64.wrap (s.n+(↑gA.length:Int))<num):=c2
   refine .quiet (by kernel_rfl) ?_
   refine aa 0 ?_
   refine aa 0 ?_
   refine cI (fun c3=>?_) (fun c3=>?_)
   ·have c3:(!decide ((↑gA.length:Int)=(↑oL.length:Int)))=true:=c3
    exact absurd hl (fun h=>by rw[h]at c3;simp at c3)
   ·have c3:(!decide ((↑gA.length:Int)=(↑oL.length:Int)))=false:=c3
    refine aa 0 ?_
    refine aa 1 ?_
    refine aH [] (Zy s _ hf) ?_
    refine ak (fun c1=>?_) (fun c1=>?_)
    ·have c1:ve s<ev:=c1
     exact absurd c1 (B7.2 ke)
    ·have c1:¬(ve s<ev):=c1
     refine aa 0 ?_
     refine aa 1 ?_
     refine aH [] (Zx s _ hf) ?_
     refine ak (fun c1=>?_) (fun c1=>?_)
     ·have c1:vc s<jo:=c1
      exact absurd c1 (B7.2 lW)
     ·have c1:¬(vc s<jo):=c1
      refine aa 0 ?_
      refine cc (S:=Nat) (fun i=>[(2,.ptr aD 0),(3,.ptr du 0),(65,.ae (.int .i64) gA),(66,.int .i64 gA.length),(67,.int .i64 i)]) (fun _=>(du,[.ae (.slice (.int .u64)) va,wv,.int .i64 num,.int .i64 ev,.int .i64 jo,.int .i64 us,.ae (.int .i64) gA,.ae (.int .i64) oL,dv])::(aD,aV s)::σ) (fun i=>i≤gA.length) (fun i=>gA.length-i) 0 ⟨bE _,⟨rfl,rfl,rfl,rfl,rfl,trivial⟩,by rfl⟩ ?_
      intro i g eD
      have Fh:i≤gA.length:=eD
      clear eD
      refine ak (p:=(i:Int)<(gA.length:Int)) (fun ab=>?_) (fun aq=>?_)
      ·have ab:i<gA.length:=by omega
       refine aG.mk rfl ?_
       obtain⟨t,htx⟩:∃t,gA[i]=t:=⟨_,rfl⟩
       obtain⟨b,hbx⟩:∃b,oL[i]'(by omega)=b:=⟨_,rfl⟩
       have WY:i<oL.length:=by omega
       obtain⟨d1,d2,d3⟩:=hd i ab
       have e1:gA.getD i 0=t:=by rw[aW,bj ab,htx];rfl
       have e2:oL.getD i 0=b:=by rw[aW,bj WY,hbx];rfl
       rw[e1]at d1 d2 d3
       rw[e2]at d2 d3
       refine bM.mk t (by omega) ((get_some ab).trans (congrArg some htx)) ?_
       refine aa 0 ?_
       refine aG.mk rfl ?_
       refine bM.mk b (by omega) ((get_some WY).trans (congrArg some hbx)) ?_
       refine ak (fun c1=>?_) (fun c1=>?_)
       ·have c1:t<1:=c1
        exact absurd c1 (B7.2 d1)
       ·have c1:¬(t<1):=c1
        refine ak (fun c2=>?_) (fun c2=>?_)
        ·have c2:b<IntKind.i64.wrap (t-1):=c2
         exact absurd c2 d2
        ·have c2:¬(b<IntKind.i64.wrap (t-1)):=c2
         refine ak (fun c3=>?_) (fun c3=>?_)
         ·have c3:t≤b:=c3
          refine aa 1 ?_
          refine ak (fun c4=>?_) (fun c4=>?_)
          ·have c4:s.n<IntKind.i64.wrap (b-t):=c4
           exact absurd ⟨c3,c4⟩ d3
          ·have c4:¬(s.n<IntKind.i64.wrap (b-t)):=c4
           exact bg (i+1) (by show gA.length-(i+1)<gA.length-i;omega) ab ⟨rfl,rfl,rfl,rfl,a8 (by omega),trivial⟩ (.refl _)
         ·have c3:¬(t≤b):=c3
          exact bg (i+1) (by show gA.length-(i+1)<gA.length-i;omega) ab ⟨rfl,rfl,rfl,rfl,a8 (by omega),trivial⟩ (.refl _)
      exact .drop 0 2 (.done ⟨rfl,rfl⟩)
theorem aeQ(s:Sy)(va:List (List Int))(wv dv:AV)(num ev jo us:Int)(gA oL:List Int)(σ:Hp)(hf:Fit s)(hg:Good s)(uj:k8 va)(BV:k8 (kX s).1)(hb:tL s va (kX s).1=false):ACalls Tryz.prog 75 [.agg (aV s),.agg [.ae (.slice (.int .u64)) va,wv,.int .i64 num,.int .i64 ev,.int .i64 jo,.int .i64 us,.ae (.int .i64) gA,.ae (.int .i64) oL,dv]] σ (aB (.bool false) σ):=by
 refine au Tryz.func75 ?_
 intro aD
 intro du
 refine aa 1 ?_
 refine az [] (Tx s _ hf hg) ?_
 refine aa 1 ?_
 refine aa 0 ?_
 refine az [] (qg (Lt s va _ _ hf uj BV) (by rw[hb])) ?_
 exact .drop 0 2 (.done ⟨rfl,rfl⟩)
set_option maxHeartbeats 4000000
section
variable {s:Sy} {l:Lay} (hs:LS s l)
include hs
theorem Ll(ws:List Int):qz l ws (nN s)=pz s l ws:=by
 unfold qz pz pS
 refine yi fun v hv=>yi fun i hi=>?_
 rw[hs.Bm (gb.1 hv) (gb.1 hi),ma]
end
structure Ee(s:Sy)(l:Lay)(k:Nat)(x:gw WA):Prop where
 num:0≤wr (cN x.a.ws (cE l))∧wr (cN x.a.ws (cE l))≤wr (s.n+(k:Int))
 ev:jG x.a.W≤ve s
 jo:kE x.a.W≤vc s
 dq:∀i:Nat,i<k→1≤wr (cN x.a.ws (eR l i))∧¬wr (cN x.a.ws (eZ (eR l i)))<wr (wr (cN x.a.ws (eR l i))-1)∧¬(wr (cN x.a.ws (eR l i))≤wr (cN x.a.ws (eZ (eR l i)))∧s.n<wr (wr (cN x.a.ws (eZ (eR l i)))-wr (cN x.a.ws (eR l i))))
def Iq(s:Sy)(l:Lay)(x y:gw WA):Prop:=lO s (pz s l x.a.ws) (pz s l y.a.ws)∧jG x.a.W≤jG y.a.W∧kE x.a.W≤kE y.a.W∧x.us≤y.us
theorem VF(s:Sy)(k:Nat)(l:Lay)(hs:LS s l)(x:gw WA)(σ:Hp)(hX:qf s k l hs x)(h:Ee s l k x):ACalls Tryz.prog 75 [.agg (aV s),.agg (tN s l k x)] σ (aB (.bool true) σ):=by
 have hg:=hs.jf
 have V9:iL s (pz s l x.a.ws):=Aj hs hX.xi.wi.free.fl.2
 have BV:iL s (kX s).1:=(Ap hs.fit hg).1
 unfold tN vk
 rw[Ll hs]
 have ht:(yZ l x.a.ws k).length=k:=by unfold yZ;rw[cj,l0]
 have hb:(Bo l x.a.ws k).length=k:=by unfold Bo;rw[cj,l0]
 have hk:=hs.k2
 have hlk:=hX.lk
 refine Vy s _ _ _ _ _ _ _ _ _ σ hs.fit hg (V9.ok hg) (BV.ok hg) (by omega) ((R5 hg (V9.ok hg) (BV.ok hg)).2 hX.xi.wi.ait) (by rw[ht];exact h.num) (by omega) h.ev h.jo fun i hi=>?_
 rw[show (yZ l x.a.ws k).getD i 0=_ from tq (by omega),show (Bo l x.a.ws k).getD i 0=_ from tq (by omega)]
 exact h.dq i (by omega)
theorem VG(s:Sy)(k:Nat)(l:Lay)(hs:LS s l)(x y:gw WA)(σ:Hp)(hX:qf s k l hs x)(hY:qf s k l hs y)(h:Iq s l x y):ACalls Tryz.prog 76 [.agg (aV s),.agg (tN s l k x),.agg (tN s l k y)] σ (aB (.bool true) σ):=by
 have hg:=hs.jf
 have hvx:iL s (pz s l x.a.ws):=Aj hs hX.xi.wi.free.fl.2
 have hvy:iL s (pz s l y.a.ws):=Aj hs hY.xi.wi.free.fl.2
 obtain⟨h1,h2,h3,h4⟩:=h
 unfold tN vk
 rw[Ll hs,Ll hs]
 refine qg (aeS s _ _ _ _ _ _ _ _ _ _ _ _ _ _ _ _ _ _ σ hs.fit (hvx.ok hg) (hvy.ok hg)) ?_
 rw[(R5 hg (hvx.ok hg) (hvy.ok hg)).2 h1,aL h2,aL h3,aL (show ((x.us:Nat):Int)≤y.us by omega)];rfl
theorem Xh(s:Sy)(k:Nat)(l:Lay)(hs:LS s l)(hl:ir s k=l)(aw:List (Int×Int×Unit))(σ:Hp)(hf:Fit s)(he:cP s k=0)(lL:aw.length≤100000):ACalls Tryz.prog 14 [.agg (aV s),.int .i64 k,.ae jq aw] σ (aB (.tup [.agg (tN s l k (cF s l aw)),.int .i64 0]) σ):=by
 refine (N4 s k aw σ hf he lL).mono ?_
 rintro _ _ ⟨l',dP,hX,rfl,rfl⟩
 obtain rfl:l'=l:=hX.lay.symm.trans hl
 exact⟨rfl,rfl⟩
theorem qf.run{s:Sy}{k:Nat}{l:Lay}{hs:LS s l}{x:gw WA}(h:qf s k l hs x)(aw:List (Int×Int×Unit))(lL:aw.length≤100000):qf s k l hs (cF s l aw):=by
 obtain⟨wo,nS⟩:=TX s l aw
 have e:l.k.toNat=k:=by have:=h.lk;omega
 rw[e]at wo nS
 exact⟨h.ok,h.lk,h.lay,UX h.ok aw lL,wo,nS⟩
theorem UL(s:Sy)(k:Nat)(aw:List (Int×Int×Unit))(σ:Hp)(hf:Fit s)(he:cP s k=0)(lL:aw.length≤100000)(zc:∀(l:Lay) (hs:LS s l) (i:Nat),i≤aw.length→qf s k l hs (cF s l (aw.take (i-1)))→qf s k l hs (cF s l (aw.take i))→Iq s l (cF s l (aw.take (i-1))) (cF s l (aw.take i)))(Wc:∀(l:Lay) (hs:LS s l) (i:Nat),i≤aw.length→qf s k l hs (cF s l (aw.take i))→Ee s l k (cF s l (aw.take i))):ACalls Tryz.prog 33 [.agg (aV s),.int .i64 k,.ae jq aw] σ (aB (.tup [.int .i64 0,.bool false,.int .i64 0]) σ):=by
 refine au Tryz.func33 ?_
 intro b3
 refine aa 0 ?_
 refine G5 (ys:=[.agg (aV s),.int .i64 k,.ae jq []]) (cg (.refl _) (cg (.refl _) (cg (.nil jq) (.refl _)))) ?_
 refine .mk [] _ (N4 s k [] _ hf he (by decide)) ?_
 rintro _ _ ⟨l,hs,hX,rfl,rfl⟩
 intro b9
 refine aj 0 ?_
 refine cc (S:=Nat) (fun i=>[(1,.int .i64 k),(2,.ae jq aw),(3,.ptr b3 0),(9,.ptr b9 0),(25,.int .i64 ((aw.length+1:Nat):Int)),(26,.int .i64 i)]) (fun i=>(b9,tN s l k (cF s l (aw.take (i-1))))::(b3,aV s)::σ) (fun i=>i≤aw.length+1) (fun i=>aw.length+1-i) 0 ⟨bE _,⟨rfl,rfl,rfl,rfl,a8 (yg lL (by decide)),rfl,trivial⟩,by rfl⟩ ?_
 intro i g eD
 have Fh:i≤aw.length+1:=eD
 clear eD
 refine ak (p:=(i:Int)<((aw.length+1:Nat):Int)) (fun ab=>?_) (fun aq=>?_)
 ·have ab:i≤aw.length:=by omega
  have wg:(aw.take i).length≤100000:=by rw[qb];omega
  refine .sched [5] (.one 0 false (.one 1 false (.one 2 false (.one 3 false (.one 4 false (.BF 5 (.one 6 false (.one 7 false (.one 8 false (.one 9 false (.one 10 false (.one 11 false .stop)))))) (.one 9 false (.one 5 true (.one 6 false (.one 7 false (.one 8 false (.one 10 false (.one 11 false .stop))))))))))))) (by kernel_rfl) ?_
  refine aa 1 ?_
  refine aG.mk ⟨by decide,by omega,Int.ofNat_le.2 ab,rfl⟩ ?_
  refine And.intro ?_ ?_
  ·refine aH [] (Xh s k l hs hX.lay (aw.take i) _ hf he wg) ?_
   intro aD
   refine aj 0 ?_
   refine aa 2 ?_
   refine aa 0 ?_
   have wB:=hX.run (aw.take i) wg
   have Fm:=hX.run (aw.take (i-1)) (by rw[qb];omega)
   refine az [] (VF s k l hs _ _ wB (Wc l hs i ab wB)) ?_
   refine aa 2 ?_
   refine aa 1 ?_
   refine aa 0 ?_
   refine az [] (VG s k l hs _ _ _ Fm wB (zc l hs i ab Fm wB)) ?_
   refine aa 0 ?_
   refine aj 1 ?_
   exact bg (i+1) (by show aw.length+1-(i+1)<aw.length+1-i;omega) (Nat.succ_le_succ ab) ⟨rfl,rfl,rfl,rfl,rfl,a8 (by omega),trivial⟩ (.drop 0 1 (.refl _))
  ·intro aD
   refine aH [] (Xh s k l hs hX.lay (aw.take i) _ hf he wg) ?_
   refine aj 0 ?_
   refine aa 2 ?_
   refine aa 0 ?_
   have wB:=hX.run (aw.take i) wg
   have Fm:=hX.run (aw.take (i-1)) (by rw[qb];omega)
   refine az [] (VF s k l hs _ _ wB (Wc l hs i ab wB)) ?_
   refine aa 2 ?_
   refine aa 1 ?_
   refine aa 0 ?_
   refine az [] (VG s k l hs _ _ _ Fm wB (zc l hs i ab Fm wB)) ?_
   refine aa 0 ?_
   refine aj 1 ?_
   exact bg (i+1) (by show aw.length+1-(i+1)<aw.length+1-i;omega) (Nat.succ_le_succ ab) ⟨rfl,rfl,rfl,rfl,rfl,a8 (by omega),trivial⟩ (.drop 0 1 (.refl _))
 exact .drop 0 2 (.done ⟨rfl,rfl⟩)
section
variable {s:Sy} {l:Lay} {hs:LS s l}
theorem WI.count{a:WA}{us:Nat}(h:WI s l hs a us):cN a.ws (cE l)=a.ws.getD (nN s*nW l+nN s) 0∧0≤a.ws.getD (nN s*nW l+nN s) 0∧a.ws.getD (nN s*nW l+nN s) 0≤100000:=by
 obtain⟨hF,⟨D,T,hR,_⟩,_⟩:=h
 exact⟨by rw[hs.count];exact ma,hR.kl,hR.aF⟩
theorem ag6(hs:LS s l){i:Nat}(hi:i≤64):eR l i=(gd s l i:Int)∧eZ (eR l i)=((gd s l i+1:Nat):Int):=by
 have h:=hs.vv hi
 have hb:=Hu hs hi
 refine⟨h,?_⟩
 unfold eZ
 rw[h]
 exact (lH (n:=gd s l i+1) (by omega))
end
namespace SX
theorem YI{p:Ph}{v:Nat}(h:v∈ku p):v∈nodes p:=by
 cases p <;> simp[ku,nodes]at h ⊢ <;> simp[h]
theorem aeD(p:Ph):cw p≤(ku p).length+1:=by cases p <;> simp[cw,ku]
theorem Sm{α:Type}(f g:α→Nat):∀l:List α,(∀x∈l,f x≤g x+1)→aI f l≤aI g l+l.length
 | [],_=>aR _
 |a::l,h=>by
  have h1:=h a (bU ..)
  have h2:=Sm f g l fun x hx=>h x (cQ _ hx)
  show f a+aI f l≤g a+aI g l+(l.length+1)
  omega
theorem TI.all{A:AP}{S:AS}(h:TI A S):aI List.length S.dq+aI (fun p=>(ku p).length) S.ph≤A.n:=by
 have h1:(S.dq.flatten++(S.ph.map ku).flatten).length≤A.n:=by
  refine LW _ _ (fun v=>?_) (fun v hv=>?_)
  ·have h2:=h.tok v
   unfold SX.tok at h2
   rw[JW,List.count_flatten,List.count_flatten,Ca]
   have e1:(S.dq.map (List.count v)).sum=aI (fun l=>l.count v) S.dq:=rfl
   have e2:(S.ph.map (List.count v ∘ ku)).sum=aI (iM v) S.ph:=rfl
   rw[e1,e2]
   split at h2 <;> omega
  ·rcases bR.1 hv with hv | hv
   ·obtain⟨c,hc,hv⟩:=nf.1 hv
    exact h.ng c hc v hv
   ·obtain⟨c,hc,hv⟩:=nf.1 hv
    obtain⟨p,hp,rfl⟩:=dL.1 hc
    exact h.rW p hp v (YI hv)
 rw[bV,List.length_flatten,List.length_flatten,Ca]at h1
 exact h1
theorem TI.jc{A:AP}{S:AS}(h:TI A S):S.aF≤A.n+S.ph.length:=by
 have h1:=h.all
 have h2:=h.aF
 have h3:=Sm cw (fun p=>(ku p).length) S.ph fun p _=>aeD p
 omega
theorem Tr.Nz{A:AP}{S S':AS}{i:Nat}(h:Tr A S i S'):S.ev≤S'.ev∧S.jo≤S'.jo:=by
 cases h <;> first | exact⟨aR _,aR _⟩ | exact⟨Cd _ _,aR _⟩ | exact⟨aR _,Cd _ _⟩
end SX
section
variable {s:Sy} {l:Lay} {hs:LS s l}
theorem RJ.jG{W:List WS}{ws:List Int}{D:List (List Nat)}{T:Nat→Nat}{M:Nat}(hR:RJ s l hs W ws D T M)(hM:M<1000000000):jG W=((bZ s l W ws D).ev:Int)∧kE W=((bZ s l W ws D).jo:Int):=by
 have hk:=hs.k2
 have hl:=hR.len
 have he:SX.aI (fun x:WS=>x.ev.toNat) W≤W.length*M:=xc _ _ fun x hx=>by have:=hR.ev x hx;omega
 have hj:SX.aI (fun x:WS=>x.jo.toNat) W≤W.length*M:=xc _ _ fun x hx=>by have:=hR.ev x hx;omega
 have hm:W.length*M≤64*M:=kg _ (by omega)
 refine⟨?_,?_⟩
 ·have:=Df (f:=fun x=>x.ev) W 0 (fun x hx=>(hR.ev x hx).1) (by omega)
  rw[dM]at this
  exact this
 ·have:=Df (f:=fun x=>x.jo) W 0 (fun x hx=>(hR.ev x hx).2.2.1) (by omega)
  rw[dM]at this
  exact this
theorem WI.mono{a:WA}{us:Nat}(h:WI s l hs a us)(hu:us<100000000)(i:Nat)(d:Int):_root_.Go.Proofs.YtnikdflhefijbaaGreat.jG a.W≤_root_.Go.Proofs.YtnikdflhefijbaaGreat.jG (ei s l a i d).1.W∧_root_.Go.Proofs.YtnikdflhefijbaaGreat.kE a.W≤_root_.Go.Proofs.YtnikdflhefijbaaGreat.kE (ei s l a i d).1.W:=by
 obtain⟨hF,⟨D,T,hR,_⟩,_⟩:=h
 obtain⟨D',T',Fu,lR⟩:=hR.step (by omega) hF i d
 obtain⟨h1,h2⟩:=lR.Nz
 have e1:=hR.jG (by omega)
 have e2:=Fu.jG (by omega)
 rw[e1.1,e1.2,e2.1,e2.2]
 omega
theorem adF{k:Nat}{x:gw WA}(h:qf s k l hs x)(hu:x.us<100000000):Ee s l k x:=by
 obtain⟨lu,oY,_,_,_⟩:=h.xi.wi.bounds hu
 have hnn:=hs.nn
 have hk:=hs.k2
 have hlk:=h.lk
 obtain⟨lr,lX,B3⟩:=h.xi.wi.count
 obtain⟨hF,⟨D,T,hR,_⟩,_⟩:=h.xi.wi
 refine⟨?_,lu,oY,fun i hi=>?_⟩
 ·rw[lr,gg lX (by omega),gg (show 0≤s.n+(k:Int) by omega) (by omega)]
  refine⟨lX,?_⟩
  have h1:=hR.ti.jc
  have h2:(bZ s l x.a.W x.a.ws D).ph.length=x.a.W.length:=cj _
  have h3:(bZ s l x.a.W x.a.ws D).aF=(x.a.ws.getD (nN s*nW l+nN s) 0).toNat:=rfl
  have h4:(lC s l hs).n=nN s:=rfl
  have h5:=h.wl
  omega
 ·obtain⟨y,hy⟩:∃y,x.a.W[i]?=some y:=⟨_,bj (by rw[h.wl];exact hi)⟩
  obtain⟨c,hc⟩:=hR.at_ hy
  obtain⟨e1,e2⟩:=ag6 hs (i:=i) (by omega)
  have hd:=(hR.di i c hc).db
  have ht:=hR.top i
  have h1:=hd.t1
  have hl:=(hR.BC hc).1
  have oV:oz (jL x.a.W i)≤1:=by
   unfold oz;split
   ·split <;> omega
   ·omega
  have ef:(iY c).length=c.length:=cj _
  rw[e2,e1,ma,ma,hd.top,hd.bot,ef,lH (n:=T i) (by omega),lH (n:=T i+c.length-oz (jL x.a.W i)) (by omega)]
  rw[show ((T i:Nat):Int)-1=((T i-1:Nat):Int) by omega,lH (n:=T i-1) (by omega)]
  refine⟨by omega,by omega,fun h2=>?_⟩
  obtain⟨h2,h3⟩:=h2
  rw[show ((T i+c.length-oz (jL x.a.W i):Nat):Int)-((T i:Nat):Int)=((c.length-oz (jL x.a.W i):Nat):Int) by omega,lH (by omega)]at h3
  omega
theorem adJ{k:Nat}{aw:List (Int×Int×Unit)}(lL:aw.length≤100000){i:Nat}(hi:i≤aw.length)(h1:qf s k l hs (cF s l (aw.take (i-1))))(h2:qf s k l hs (cF s l (aw.take i))):Iq s l (cF s l (aw.take (i-1))) (cF s l (aw.take i)):=by
 have H8:∀{x:gw WA},qf s k l hs x→Iq s l x x:=fun h=>⟨LB h.xi.wi h.xi.wi (mO.refl h.xi.wi),jD _,jD _,aR _⟩
 cases i with
 |zero=>exact H8 h2
 |succ i=>
  have qV:i<aw.length:=hi
  rw[Pz]at h1 ⊢
  cases hd:(cF s l (aw.take i)).dn.all id with
  |true=>
   have e:cF s l (aw.take (i+1))=cF s l ((aw.take (i+1)).take i):=abt s l (by rw[List.take_take,show min i (i+1)=i by omega];exact hd)
   rw[List.take_take,show min i (i+1)=i by omega]at e
   rw[e]
   exact H8 h1
  |false=>
   have e:=abr s l qV hd
   have ga:(cF s l (aw.take i)).us<100000000:=by
    have:=ME s l (aw.take i) (sL s l)
    show (oZ s l (aw.take i) (sL s l)).us<_
    have h0:(sL s l).us=0:=rfl
    rw[qb]at this
    omega
   obtain⟨hp1,dz⟩:=h1.xi.pick ga aw[i]
   obtain⟨ha,_,hpu⟩:=abI h1.xi aw[i]
   have hm:=h1.xi.wi.mono ga (fB aw[i].1 l.k.toNat) aw[i].2.1
   rw[← ha]at hm
   rw[e]
   exact⟨LB h1.xi.wi hp1.wi dz,hm.1,hm.2,by rw[hpu];omega⟩
end
def dJ:Sy:=⟨1,2,1,[],[0],[1],[([0],[0],[],())]⟩
theorem HP:cP dJ (1:Nat)=0:=by decide +kernel
theorem AQ:Fit dJ:=⟨H4 (by unfold bK;omega),by decide,by decide,by decide,by decide,fun t ht=>by
 rw[bh.1 ht];exact⟨H4 (by unfold bK;omega),H4 (by unfold bK;omega),by decide,by decide,by decide⟩⟩
theorem Uz:ir dJ (1:Nat)=kv:=by
 unfold ir
 rw[HP,show eX dJ.what dJ.w=1 by decide +kernel]
 rfl
theorem aev(cd:kq dJ kv):nw dJ kv=[[0]]:=by
 have hA:=cd.all
 have hO:=cd.own 0 (by decide)
 have hl:(oM (nN dJ) dJ.aT dJ.entry).length=1:=hA.len
 obtain⟨z,hz⟩:=List.length_eq_one_iff.1 hl
 have iA:=hA.rg z (by rw[hz];exact bh.2 rfl)
 have xR:z=0:=by have:(nN dJ:Int)=1:=(by decide +kernel);omega
 unfold nw zi mI
 rw[hz,xR]
 have hk:kv.k.toNat=1:=rfl
 rw[hk]at hO ⊢
 have h0:(lK (nN dJ) 1 dJ.aT).getD 0 0=0:=by omega
 show [List.filter (fun x:Int=>decide ((lK (nN dJ) 1 dJ.aT).getD x.toNat 0=((0:Nat):Int))) [0]]=[[0]]
 rw[Co,ah (by show decide ((lK (nN dJ) 1 dJ.aT).getD 0 0=((0:Nat):Int))=true;rw[h0];rfl)]
 rfl
theorem acx(cd:kq dJ kv):eJ dJ kv=WD:=by
 unfold eJ zf
 rw[aev cd]
 decide +kernel
theorem Uy(cd:kq dJ kv):cF dJ kv []=vQ:=by
 unfold cF oZ sL
 rw[acx cd];rfl
theorem acw:Ee dJ kv 1 vQ:=⟨by decide +kernel,by decide +kernel,by decide +kernel,fun i hi=>by
 obtain rfl:i=0:=by omega
 decide +kernel⟩
theorem acv(cd:kq dJ kv):tN dJ kv 1 (cF dJ kv [])=vk [[1]] [true] 1 0 0 0 [1] [2] [false]:=by
 rw[Uy cd]
 unfold tN
 rw[show qz kv vQ.a.ws (nN dJ)=[[1]] by decide +kernel,show DH kv vQ.a.ws (nN dJ)=[true] by decide +kernel,show wr (cN vQ.a.ws (cE kv))=1 by decide +kernel,show jG vQ.a.W=0 by decide +kernel,show kE vQ.a.W=0 by decide +kernel,show yZ kv vQ.a.ws 1=[1] by decide +kernel,show Bo kv vQ.a.ws 1=[2] by decide +kernel];rfl
theorem aav(σ:Hp):ACalls Tryz.prog 33 [.agg (aV dJ),.int .i64 1,.ae jq []] σ (aB (.tup [.int .i64 0,.bool false,.int .i64 0]) σ):=by
 refine UL dJ 1 [] σ AQ HP (by decide) (fun l hs i hi h1 h2=>?_) (fun l hs i hi h1=>?_)
 ·obtain rfl:i=0:=Nat.le_zero.1 hi
  exact⟨LB h2.xi.wi h2.xi.wi (mO.refl h2.xi.wi),jD _,jD _,aR _⟩
 ·obtain rfl:i=0:=Nat.le_zero.1 hi
  obtain rfl:l=kv:=h1.lay.symm.trans Uz
  show Ee dJ kv 1 (cF dJ kv [])
  rw[Uy h1.ok];exact acw
theorem ag4(σ:Hp):ACalls Tryz.prog 14 [.agg (aV dJ),.int .i64 1,.ae jq []] σ (aB (.tup [.agg (vk [[1]] [true] 1 0 0 0 [1] [2] [false]),.int .i64 0]) σ):=by
 refine (N4 dJ 1 [] σ AQ HP (by decide)).mono ?_
 rintro _ _ ⟨l,hs,hX,rfl,rfl⟩
 obtain rfl:l=kv:=hX.lay.symm.trans Uz
 rw[acv hX.ok];exact⟨rfl,rfl⟩
theorem G4:Good dJ:=(DX AQ HP).1.jf
theorem Ux:k8 (kX dJ).1:=(Ap AQ G4).1.ok G4
theorem Ve(x:Int)(h:bK x):k8 [[x]]:=⟨cR rfl,fun y hy=>by rw[bh.1 hy];exact⟨H4 h,cR rfl⟩⟩
theorem aeu(σ:Hp):ACalls Tryz.prog 75 [.agg (aV dJ),.agg (vk [[1]] [true] 1 0 0 0 [1] [2] [false])] σ (aB (.bool true) σ):=
 Vy dJ _ _ _ _ _ _ _ _ _ σ AQ G4 (Ve 1 (by unfold bK;omega)) Ux (by decide) (by decide +kernel) (by decide +kernel) rfl (by decide +kernel) (by decide +kernel) fun i hi=>by
  obtain rfl:i=0:=Nat.le_zero.1 (Ch hi)
  decide +kernel
theorem ag3(σ:Hp):ACalls Tryz.prog 75 [.agg (aV dJ),.agg (vk [[3]] [true] 1 0 0 0 [1] [2] [false])] σ (aB (.bool false) σ):=
 aeQ dJ _ _ _ _ _ _ _ _ _ σ AQ G4 (Ve 3 (by unfold bK;omega)) Ux (by decide +kernel)
theorem adk(σ:Hp):ACalls Tryz.prog 32 [] σ (aB (.bool true) σ):=by
 refine au Tryz.func32 ?_
 intro aD
 intro du
 intro rb
 intro Ku
 intro Cv
 intro Kt
 refine aj 0 ?_
 refine aa 0 ?_
 refine .j6 3 rb 0 1 1 _ (.int .u64) ([0]:List Int) rfl rfl ⟨rfl,rfl,by decide⟩ 1 0 Cv _ rfl rfl ?_
 refine .j6 2 Ku 0 1 1 _ (.int .u64) ([0]:List Int) rfl rfl ⟨rfl,rfl,by decide⟩ 1 1 Cv _ rfl rfl ?_
 refine Hw 1 2 Cv _ jr rfl rfl ?_
 refine L0 (ys:=[.agg [.int .i64 1,.int .i64 2,.int .i64 1,.ai,.af aD 0 1 1,.af du 0 1 1,.ae kn dJ.T],.int .i64 1,.ai]) 1 Cv 0 1 3 _ kn dJ.T rfl rfl ⟨rfl,rfl,by decide⟩ 0 6 Kt _ rfl rfl (cg (AO (cg (.refl _) (cg (.refl _) (cg (.refl _) (cg (.refl _) (cg (.refl _) (cg (.refl _) (cg .here AN))))))) rfl) (.refl _)) ?_
 refine L0 (ys:=[.agg [.int .i64 1,.int .i64 2,.int .i64 1,.ai,.af aD 0 1 1,.ae (.int .u64) dJ.init,.ae kn dJ.T],.int .i64 1,.ai]) 1 du 0 1 1 _ (.int .u64) dJ.init rfl rfl ⟨rfl,rfl,by decide⟩ 0 5 Kt _ rfl rfl (cg (AO (cg (.refl _) (cg (.refl _) (cg (.refl _) (cg (.refl _) (cg (.refl _) (cg .here (.refl _))))))) rfl) (.refl _)) ?_
 refine L0 (ys:=[.agg [.int .i64 1,.int .i64 2,.int .i64 1,.ai,.ae (.int .i64) dJ.entry,.ae (.int .u64) dJ.init,.ae kn dJ.T],.int .i64 1,.ai]) 1 aD 0 1 1 _ (.int .i64) dJ.entry rfl rfl ⟨rfl,rfl,by decide⟩ 0 4 Kt _ rfl rfl (cg (AO (cg (.refl _) (cg (.refl _) (cg (.refl _) (cg (.refl _) (cg .here (.refl _)))))) rfl) (.refl _)) ?_
 refine Hw 0 3 Kt _ dC rfl rfl ?_
 refine G5 (ys:=[.agg (aV dJ),.int .i64 1,.ae jq []]) (cg (AO (cg (.refl _) (cg (.refl _) (cg (.refl _) (cg (.nil dC) (.refl _))))) rfl) (cg (.refl _) (cg (.nil jq) (.refl _)))) ?_
 refine az [] (aav _) ?_
 refine aa 0 ?_
 refine G5 (ys:=[.agg (aV dJ),.int .i64 1,.ae jq []]) (cg (.refl _) (cg (.refl _) (cg (.nil jq) (.refl _)))) ?_
 refine az [] (ag4 _) ?_
 intro aD
 refine aj 0 ?_
 refine aa 1 ?_
 refine aa 0 ?_
 refine az [] (aeu _) ?_
 intro aD
 intro du
 refine aj 2 ?_
 refine aa 3 ?_
 refine aa 2 ?_
 refine .j6 1 aD 0 1 1 _ (.int .u64) ([3]:List Int) rfl rfl ⟨rfl,rfl,by decide⟩ 0 0 du _ rfl rfl ?_
 refine .cX (args':=[.agg (aV dJ),.agg (vk [[3]] [true] 1 0 0 0 [1] [2] [false])]) 0 du 0 1 1 _ (.slice (.int .u64)) ([[3]]:List (List Int)) rfl rfl ⟨rfl,rfl,by decide⟩ (cg (.refl _) (cg (AO (cg .here (.refl _)) rfl) (.refl _))) ?_
 refine az [] (ag3 _) ?_
 exact .drop 0 2 (.done ⟨rfl,rfl⟩)
theorem Zw(s:Sy)(k:Int)(aw:List (Int×Int×Unit))(σ:Hp)(hf:Fit s)(he:¬cP s k=0):ACalls Tryz.prog 33 [.agg (aV s),.int .i64 k,.ae jq aw] σ (aB (.tup [.int .i64 0,.bool false,.int .i64 (cP s k)]) σ):=by
 refine au Tryz.func33 ?_
 intro b3
 refine aa 0 ?_
 refine G5 (ys:=[.agg (aV s),.int .i64 k,.ae jq []]) (cg (.refl _) (cg (.refl _) (cg (.nil jq) (.refl _)))) ?_
 refine az [] (agF s k [] _ hf he) ?_
 intro aD
 refine aj 0 ?_
 refine cI (fun c2=>?_) (fun c2=>?_)
 ·have c2:¬(cP s k=0):=by simpa using c2
  exact .drop 0 2 (.done ⟨rfl,rfl⟩)
 ·have c2:cP s k=0:=by simpa using c2
  exact absurd c2 he
theorem Xm(s:Sy)(w:Int)(aw:List (Int×Int×Unit))(hi:aU s.init)(ht:∀t∈s.T,aU t.1∧aU t.2.1):ACalls Tryz.prog 8 [.agg (aV s),.int .i64 w,.ae jq aw] [] (fun r _=>r=.bool true):=by
 refine au Tryz.func8 ?_
 intro b3
 refine az [] (adk _) ?_
 obtain⟨k',eQ⟩:∃x,x=(if 4<w then 4 else w):=⟨_,rfl⟩
 refine aa 0 ?_
 refine ah9 [] (acZ s _) (fun qR=>?_) ?_
 rotate_left
 ·exact .done rfl
 have hf:=ag2 qR hi ht
 refine ak (p:=60<(aw.length:Int)) (fun h1=>?_) (fun h1=>?_)
 ·exact .done rfl
 have lL:aw.length≤100000:=by omega
 refine aa 0 ?_
 have hO:=fun σ=>VH s k' σ hf
 rw[eQ]at hO
 by_cases he:cP s k'=0
 rotate_left
 ·have hA:=fun σ=>Zw s k' aw σ hf he
  rw[eQ]at hA he
  refine az [] (hA _) ?_
  refine aa 0 ?_
  refine az [] (hO _) ?_
  intro aD
  refine aj 0 ?_
  refine cI (fun c2=>?_) (fun c2=>?_)
  ·have c2:¬(cP s (if 4<w then 4 else w)=0):=by simpa using c2
   refine ak (fun c3=>?_) (fun c3=>?_)
   ·exact .done rfl
   ·have c3:¬(cP s (if 4<w then 4 else w)=cP s (if 4<w then 4 else w)):=c3
    exact absurd rfl c3
  ·have c2:cP s (if 4<w then 4 else w)=0:=by simpa using c2
   refine ak (fun c4=>?_) (fun c4=>?_)
   ·exact absurd c2 he
   ·exact absurd c2 he
 obtain⟨n,hn,xX,oU⟩:=agQ hf he
 have hA:=fun σ=>UL s n aw σ hf (hn▸he) lL (fun l hs i hi h1 h2=>adJ lL hi h1 h2) (fun l hs i hi h=>adF h (by have:=ME s l (aw.take i) (sL s l);show (oZ s l (aw.take i) (sL s l)).us<_;have h0:(sL s l).us=0:=rfl;rw[qb]at this;omega))
 obtain⟨z,hz⟩:∃z:Int,z=0:=⟨0,rfl⟩
 have Pc:∀σ,ACalls Tryz.prog 33 [.agg (aV s),.int .i64 (if 4<w then 4 else w),.ae jq aw] σ (aB (.tup [.int .i64 z,.bool false,.int .i64 z]) σ):=fun σ=>by
  rw[← eQ,hn,hz];exact hA σ
 have uv:∀σ,ACalls Tryz.prog 15 [.agg (aV s),.int .i64 (if 4<w then 4 else w)] σ (aB (.tup [.agg (xF s k'),.int .i64 z]) σ):=fun σ=>by
  rw[← eQ,hz];exact qg (VH s k' σ hf) (by rw[he])
 clear hA hO
 refine az [] (Pc _) ?_
 refine aa 0 ?_
 refine az [] (uv _) ?_
 intro aD
 refine aj 0 ?_
 refine cI (fun c2=>?_) (fun c2=>?_)
 ·have c2:¬(z=0):=by simpa using c2
  refine ak (fun c3=>?_) (fun c3=>?_)
  ·have c3:z=z:=c3
   refine ak (fun c4=>?_) (fun c4=>?_)
   ·exact .done rfl
   ·have c4:¬(z=0):=c4
    omega
  ·have c3:¬(z=z):=c3
   omega
 ·have c2:z=0:=by simpa using c2
  refine ak (fun c5=>?_) (fun c5=>?_)
  ·have c5:z=0:=c5
   refine ak (fun c6=>?_) (fun c6=>?_)
   ·exact .done rfl
   ·have c6:¬(z=0):=c6
    omega
  ·have c5:¬(z=0):=c5
   omega
end Go.Proofs.YtnikdflhefijbaaGreat
namespace Go.Proofs.YtnikdflhefijbaaGreat
open Go.ChangeShapes Go.WideShapes Go.ChangeAt Go.RowKit
theorem gC{a b:Bool}(ha:a=true)(hb:b=true):(a&&b)=true:=by rw[ha,hb];rfl
theorem Kp:laidOutB Tryz.prog=true:=by kernel_rfl
theorem fk3:mapsRowed Tryz.prog=true:=by kernel_rfl
theorem fk7:(Tryz.prog.stops == [])=true:=by kernel_rfl
theorem fk9:(Tryz.prog.stopKnobs == [])=true:=by kernel_rfl
theorem air:(Rows.solveRunsRow.plainKeys == Tryz.prog.plainKeys)=true:=by kernel_rfl
theorem aiq:Tryz.prog.stopsHeard=true:=by kernel_rfl
theorem aip:Tryz.prog.mayEnter=true:=by kernel_rfl
theorem aio:(Rows.solveRunsRow.lifted == Tryz.prog.liftsFinal)=true:=by kernel_rfl
theorem ain:(Tryz.prog.make == some Rows.solveRunsRow.make)=true:=by kernel_rfl
theorem ail:ownKnob Tryz.prog.godebug=none:=by kernel_rfl
theorem va{F:Nat→Prop}{w:World}{x:AV}{xs:List AV}{v:Value}{vs:List Value}(h:aA F w x v)(t:ja F w xs vs.toArray):ja F w (x::xs) (v::vs).toArray:=by
 refine⟨by have:=t.1;simp at this ⊢;exact this,fun i y hy=>?_⟩
 cases i with
 |zero=>simp at hy;subst hy;simpa [Array.getD]using h
 |succ i=>
  have:=t.2 i y (by simpa using hy)
  rw[gW]at this ⊢
  simpa using this
theorem vn{F:Nat→Prop}{w:World}:ja F w [] ([]:List Value).toArray:=⟨rfl,fun i y hy=>by simp at hy⟩
theorem vi{F:Nat→Prop}{w:World}{k:IntKind}{n:Int}:aA F w (.int k n) (.int k n):=.int k n
theorem vl{w:World}{e:Sh}{a:Option Addr}{n c:Nat}{l:List e.T}(hp:(Sh.slice e).pos=true)(h:Reads w (.slice e) (Value.slice a n c).cells.toList l):aA (fun b=>b<w.heap.size) w (.ae e l) (.slice a n c):=
 .ae e l _ (RQ (.slice e) _ l hp h)
theorem vg{w:World}{s:Sh}{cs:Array Value}{d:s.T}(hp:s.pos=true)(h:Reads w s (Value.agg cs).cells.toList d):aA (fun b=>b<w.heap.size) w (.agg (s.cells d)) (.agg cs):=by
 obtain⟨h1,h2⟩:=kT.cells s _ d (RQ s _ d hp h)
 refine .agg _ _ (by rw[h1];rfl) (fun i x hx=>(h2 i x hx).1) (fun i x hx=>?_)
 have:=(h2 i x hx).2
 rw[aW,Cn,← gW]at this
 exact this
theorem QN{w:World}{e:Sh}{cs:List Value}{l:List e.T}(h:Reads w (.slice e) cs l):∀x∈l,∃cs',Reads w e cs' x:=by
 obtain⟨a,c,_,_,_,_,h3⟩:=h
 intro x hx
 obtain⟨i,hi,rfl⟩:=tc.1 hx
 obtain⟨b,o,_,h4⟩:=h3 (List.ne_nil_of_mem hx)
 obtain⟨cs',_,_,h5⟩:=h4 i hi
 exact⟨cs',h5⟩
theorem Lc{w:World}{cs:List Value}{l:List Int}(h:Reads w (.slice (.int .u64)) cs l):∀z∈l,0≤z∧z<18446744073709551616:=fun z hz=>by
 obtain⟨cs',h1,h2⟩:=QN h z hz
 exact wf_u64 h2
theorem X6{w:World}{e:Sh}{cs:List Value}{x:List Int×List Int×e.T×Unit}(h:Reads w (.field (.slice (.int .u64)) (.field (.slice (.int .u64)) (.field e .nil))) cs x):(∀z∈x.1,0≤z∧z<18446744073709551616)∧(∀z∈x.2.1,0≤z∧z<18446744073709551616):=by
 obtain⟨c1,c2,_,_,h1,d1,d2,_,_,h2,_⟩:=h
 exact⟨Lc h1,Lc h2⟩
theorem Rt{w:World}{c1 e1:Sh}{cs:List Value}{x:Int×Int×Int×c1.slice.T×List Int×List Int×List (List Int×List Int×e1.T×Unit)×Unit}(h:Reads w (.field (.int .i64) (.field (.int .i64) (.field (.int .i64) (.field (.slice c1) (.field (.slice (.int .i64)) (.field (.slice (.int .u64)) (.field (.slice (.field (.slice (.int .u64)) (.field (.slice (.int .u64)) (.field e1 .nil)))) .nil))))))) cs x):(∀z∈x.2.2.2.2.2.1,0≤z∧z<18446744073709551616)∧∀t∈x.2.2.2.2.2.2.1,(∀z∈t.1,0≤z∧z<18446744073709551616)∧(∀z∈t.2.1,0≤z∧z<18446744073709551616):=by
 obtain⟨_,_,_,_,_,_,_,_,_,_,_,_,_,_,_,_,_,_,_,_,_,_,_,_,_,_,_,_,_,h6,_,_,_,_,h7,_⟩:=h
 refine⟨Lc h6,fun t ht=>?_⟩
 obtain⟨cs',h1⟩:=QN h7 t ht
 exact X6 h1
end Go.Proofs.YtnikdflhefijbaaGreat
