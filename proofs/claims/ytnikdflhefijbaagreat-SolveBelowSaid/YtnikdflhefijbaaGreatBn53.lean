import Derived.Test.YtnikdflhefijbaaGreatBn51
import Derived.Test.YtnikdflhefijbaaGreatBn31
import Derived.Test.YtnikdflhefijbaaGreatBn44
import Derived.Test.YtnikdflhefijbaaGreatBn52
import Derived.Test.YtnikdflhefijbaaGreatBn24
import Derived.Test.YtnikdflhefijbaaGreatBn25
import Derived.Test.YtnikdflhefijbaaGreatBn23
import Derived.Below
import Derived.ChangeOld
import Derived.OpenShut
import Derived.ProofKit
import Derived.Test.YtnikdflhefijbaaGreatRows
import Derived.WalkKit
import Derived.Test.YtnikdflhefijbaaGreatBn11
namespace Go.Proofs.YtnikdflhefijbaaGreat
open Go.RowKit
set_option maxRecDepth 100000
set_option maxHeartbeats 4000000
def Da(s:Sy)(v i:Nat):Int:=((pq s).1.getD v []).getD i 0
theorem aal{a:List Int}{n:Nat}(h:a.length=n):(List.range n).map (fun i=>a.getD i 0)=a:=by
 subst h
 refine List.ext_getElem (by simp) fun i h1 h2=>?_
 rw[IZ,N9,aW,bJ h2];rfl
def rR(s:Sy)(l:Lay)(ws:List Int):List (List Int):=(List.range (nN s)).map fun v=>(List.range (nW l)).map fun i=>ws.getD (v*nW l+i) 0
theorem JS{s:Sy}{l:Lay}{ws:List Int}{v:Nat}(h:v<nN s):(rR s l ws).getD v []=(List.range (nW l)).map fun i=>ws.getD (v*nW l+i) 0:=by
 unfold rR
 rw[aW,fo,tU h];rfl
theorem vU{f:Nat→Int}{n i:Nat}(h:i<n):((List.range n).map f).getD i 0=f i:=by
 rw[aW,fo,tU h];rfl
def usS(s:Sy):List Nat:=(List.range (nN s)).filter fun u=>s.bf.any fun e=>decide (e.2.1=(u:Int))
def rkS(s:Sy)(l:Lay)(c:Nat→Int):Nat:=rS s.what s.w ((List.range (nW l)).map c)
section
variable {s:Sy} {l:Lay} (hs:LS s l)
include hs
theorem LS.zE{f:Nat→Int}(h:∀i,i<nW l→fG s.what s.w i (f i)):dY s.what s.w ((List.range (nW l)).map f):=
 (hs.qZ).2 ⟨by simp,fun i hi=>by rw[vU hi];exact h i hi⟩
theorem JB{ws:List Int}(h:MV s l ws):jH s (rR s l ws):=by
 refine⟨by unfold rR;rw[cd,oO];exact hs.nn.1.symm,fun x hx=>?_⟩
 obtain⟨v,hv,rfl⟩:=dX.1 hx
 exact hs.zE fun i hi=>h.cells v i (gw.1 hv) hi
theorem KU{v:Nat}(hv:v<nN s):dY s.what s.w ((pq s).1.getD v []):=(Fz hs.fit hs.fW).1.get (by have:=hs.nn;omega)
theorem Zh{v:Nat}(hv:v<nN s):SX.mw (lS s l hs) (Da s) v=(pq s).1.getD v []:=aal ((hs.qZ).1 (KU hs hv)).1
theorem SR{v u:Nat}(hu:u∈M3 s v):v<nN s∧u<nN s∧∃e∈s.bf,e.1=(v:Int)∧e.2.1=(u:Int):=by
 obtain⟨z,hz,rfl⟩:=dX.1 hu
 obtain⟨h1,h2,e,he,e1,e2⟩:=lU.1 hz
 have:=hs.nn
 exact⟨by omega,by omega,e,he,e1,by omega⟩
theorem Zi:SX.VN (lS s l hs) (Da s):=by
 obtain⟨hv,Dy,_,_⟩:=Fz hs.fit hs.fW
 refine⟨fun v i dm hi=>((hs.qZ).1 (KU hs dm)).2 i hi,fun v dm u hu i hi=>?_⟩
 obtain⟨h1,h2,e,he,e1,e2⟩:=SR hs hu
 have Hk:=(JC hs.fit hs.fW hv u s.bf.length (aU _)).2 e (by rw[fj];exact he) e2
 rw[← Fy s _ (show ((u:Nat):Int)<s.n by have:=hs.nn;omega),← Dy,show e.1.toNat=v by omega]at Hk
 have:=(hs.y4 Hk.1 Hk.2.1).1 Hk i hi
 rw[Zh hs dm]
 exact this
theorem abR:SX.VM (lS s l hs) (usS s) (rkS s l):=by
 refine⟨List.Pairwise.filter _ List.nodup_range,fun v hv u hu=>?_,fun c i x hi hc hx aP=>?_⟩
 ·obtain⟨h1,h2,e,he,e1,e2⟩:=SR hs hu
  exact nD.2 ⟨gw.2 h2,mf.2 ⟨e,he,aV e2⟩⟩
 ·have hi:i<nW l:=hi
  have hw:=hs.uF
  have kD:∀j,j<nW l→fG s.what s.w j (if j=i then cT s.what (c i) x else c j):=fun j hj=>by
   by_cases e:j=i
   ·subst e;rw[ai rfl];exact BC hw (hc j hj) hx
   ·rw[ah e];exact hc j hj
  have v1:=hs.zE (f:=c) hc
  have v2:=hs.zE (f:=fun j=>if j=i then cT s.what (c i) x else c j) kD
  have hle:dV s.what s.w ((List.range (nW l)).map c) ((List.range (nW l)).map fun j=>if j=i then cT s.what (c i) x else c j):=(hs.y4 v1 v2).2 fun j hj=>by
   rw[vU hj,vU hj]
   by_cases e:j=i
   ·subst e;rw[ai rfl];exact SX.K5 (A:=lS s l hs) (hc j hj) hx
   ·rw[ah e];exact BB hw (hc j hj)
  obtain⟨h1,h2⟩:=KZ hle
  rcases Bl h1 with h3 | h3
  ·exact h3
  ·have h4:=congrArg (fun a=>a.getD i 0) (h2 h3)
   rw[vU hi,vU hi,ai rfl]at h4
   exact absurd h4.symm aP
end
def om(s:Sy)(l:Lay)(ws ws':List Int):Prop:=∀v i,v<nN s→i<nW l→cT s.what (ws.getD (v*nW l+i) 0) (ws'.getD (v*nW l+i) 0)=ws'.getD (v*nW l+i) 0
structure WI(s:Sy)(l:Lay)(hs:LS s l)(a:WA)(us:Nat):Prop where
 free:uN s l a
 ref:∃D T,RJ s l hs a.W a.ws D T (us+1)∧SX.VI (lS s l hs) (Da s) (cj s l a.W a.ws D)∧(∀v,v<nN s→SX.xI (lS s l hs) (cj s l a.W a.ws D) v)∧SX.Rest (cj s l a.W a.ws D)∧SX.EI (cj s l a.W a.ws D) (nN s)∧SX.JI (cj s l a.W a.ws D) (usS s) (rkS s l)
 low:∀v i,v<nN s→i<nW l→cT s.what (wd (gG s v) i) (a.ws.getD (v*nW l+i) 0)=a.ws.getD (v*nW l+i) 0
section
variable {s:Sy} {l:Lay} {hs:LS s l}
theorem BA{W:List WS}{ws:List Int}{D:List (List Nat)}{v i:Nat}(hv:v<nN s)(hi:i<nW l):(cj s l W ws D).cell v i=ws.getD (v*nW l+i) 0:=ai ⟨hv,hi⟩
theorem WI.word{a:WA}{us:Nat}(h:WI s l hs a us){v i:Nat}(hv:v<nN s)(hi:i<nW l):fG s.what s.w i (a.ws.getD (v*nW l+i) 0):=h.free.fl.2.cells v i hv hi
theorem om.refl{a:WA}{us:Nat}(h:WI s l hs a us):om s l a.ws a.ws:=fun _ _ hv hi=>BB hs.uF (h.word hv hi)
theorem om.trans{a b c:WA}{u1 u2 u3:Nat}(h1:WI s l hs a u1)(h2:WI s l hs b u2)(h3:WI s l hs c u3)(r1:om s l a.ws b.ws)(r2:om s l b.ws c.ws):om s l a.ws c.ws:=fun v i hv hi=>
 SX.le_trans (A:=lS s l hs) (h1.word hv hi) (h2.word hv hi) (h3.word hv hi) (r1 v i hv hi) (r2 v i hv hi)
theorem WI.step{a:WA}{us:Nat}(h:WI s l hs a us)(hu:us<100000000)(i:Nat)(d:Int):WI s l hs (eU s l a i d).1 (us+1)∧om s l a.ws (eU s l a i d).1.ws:=by
 obtain⟨hF,⟨D,T,hR,hV,hC,NY,hE,hJ⟩,fx⟩:=h
 obtain⟨D',T',N0,sm⟩:=hR.step (by omega) hF i d
 have hb:=Zi hs
 obtain⟨hV',Hi⟩:=hV.step hb hR.ti sm
 have hF':=hF.step hs i d
 have hr:om s l a.ws (eU s l a i d).1.ws:=fun v j hv hj=>by
  have:=Hi v j hv hj
  rw[BA hv hj,BA hv hj]at this
  exact this
 refine⟨⟨hF',⟨D',T',N0,hV',fun v hv=>?_,NY.step hR.ti sm,hE.step sm,hJ.step (abR hs) hR.ti hV sm⟩,fun v j hv hj=>?_⟩,hr⟩
 ·exact SX.xI.step hR.ti hV sm hv (hC v hv)
 ·exact SX.le_trans (A:=lS s l hs) (hs.Fe hj) (hF.fl.2.cells v j hv hj) (hF'.fl.2.cells v j hv hj) (fx v j hv hj) (hr v j hv hj)
theorem Ye(hs:LS s l){v i:Nat}(hv:v<nN s)(hi:i<nW l):cT s.what (wd (gG s v) i) (Da s v i)=Da s v i:=by
 obtain⟨bU,Dy,_,_⟩:=Fz hs.fit hs.fW
 have h1:=(JC hs.fit hs.fW bU v s.bf.length (aU _)).1
 rw[← Fy s _ (show ((v:Nat):Int)<s.n by have:=hs.nn;omega),← Dy]at h1
 have:=(hs.y4 h1.1 h1.2.1).1 h1 i hi
 rw[s6 (gG s v)]at this
 exact this
theorem wi0(bH:iN s l):WI s l hs ⟨W0 l,ey s l⟩ 0:=by
 obtain⟨ma,mJ,Ek⟩:=QX hs
 have mF:∀p∈(cj s l (W0 l) (ey s l) (D0 s l)).ph,p=.idle 0 0:=fun p hp=>by
  obtain⟨x,hx,rfl⟩:=dX.1 hp
  rw[show x=ot from Bt hx];rfl
 have k9:(cj s l (W0 l) (ey s l) (D0 s l)).ev=0:=SC (f:=fun x:WS=>x.ev.toNat) (x:=ot) rfl _
 have mH:(cj s l (W0 l) (ey s l) (D0 s l)).jo=0:=SC (f:=fun x:WS=>x.jo.toNat) (x:=ot) rfl _
 refine⟨T8 bH hs,⟨D0 s l,fun _=>1,rj0 bH,⟨fun v i hv hi=>?_,fun v i hv hi=>?_,fun p hp=>?_⟩,fun v hv=>.inl ?_,fun h=>?_,?_,?_⟩,fun v i hv hi=>?_⟩
 ·rw[BA hv hi,ma v i hv hi];exact hs.Fe hi
 ·rw[BA hv hi,ma v i hv hi];exact Ye hs hv hi
 ·rw[mF p hp];trivial
 ·exact aV ⟨hv,by rw[mJ v hv];decide⟩
 ·exact absurd (mF _ h) (by intro h;cases h)
 ·show SX.AS.ev _+SX.aK List.length (D0 s l)+SX.aK SX.gT _≤nN s+SX.AS.jo _
  rw[k9,mH,Uz bH,SX.zt fun p hp=>by rw[mF p hp];rfl];omega
 ·show SX.AS.jo _+SX.aK SX.fE _≤_
  rw[mH,SX.zt fun p hp=>by rw[mF p hp];rfl];omega
 ·rw[ma v i hv hi];exact BB hs.uF (hs.Fe hi)
theorem WI.VD{a:WA}{us:Nat}(h:WI s l hs a us):jl s (rR s l a.ws) (pq s).1:=by
 obtain⟨hF,⟨D,T,hR,hV,_⟩,_⟩:=h
 refine⟨JB hs hF.fl.2,(Fz hs.fit hs.fW).1,fun v hv=>?_⟩
 have hv:v<nN s:=by have:=hs.nn;omega
 rw[JS hv]
 refine (hs.y4 (hs.zE fun i hi=>hF.fl.2.cells v i hv hi) (KU hs hv)).2 fun i hi=>?_
 rw[vU hi]
 have:=hV.low v i hv hi
 rw[BA hv hi]at this
 exact this
theorem Z3{a b:WA}{u1 u2:Nat}(h1:WI s l hs a u1)(h2:WI s l hs b u2)(hr:om s l a.ws b.ws):jl s (rR s l a.ws) (rR s l b.ws):=by
 refine⟨JB hs h1.free.fl.2,JB hs h2.free.fl.2,fun v hv=>?_⟩
 have hv:v<nN s:=by have:=hs.nn;omega
 rw[JS hv,JS hv]
 refine (hs.y4 (hs.zE fun i hi=>h1.word hv hi) (hs.zE fun i hi=>h2.word hv hi)).2 fun i hi=>?_
 rw[vU hi,vU hi]
 exact hr v i hv hi
end
theorem S3{A:Type}(step:A→Nat→Int→A×Bool)(tell:A→Nat→A)(n:Nat):∀(p q:List (Int×Int×Unit)) (x:jb A),ju step tell n (p++q) x=ju step tell n q (ju step tell n p x)
 | [],q,x=>rfl
 |a::p,q,x=>by
  show (if x.dn.all id=true then x else ju step tell n (p++q) _)=ju step tell n q (if x.dn.all id=true then x else _)
  by_cases h:x.dn.all id=true
  ·rw[ai h,ai h]
   cases q with
   |nil=>rfl
   |cons b q=>show x=if x.dn.all id=true then x else _;rw[ai h]
  ·rw[ah h,ah h,S3 step tell n p q]
section
variable {s:Sy} {l:Lay} {hs:LS s l}
structure XI(s:Sy)(l:Lay)(hs:LS s l)(x:jb WA):Prop where
 wi:WI s l hs x.a x.us
 dn:x.dn=x.a.W.map (·.en)
 st:x.st.length=l.k.toNat
theorem Yb{s:Sy}{l:Lay}{who:Int}{x:WS}{d:Int}{ws:List Int}:(dw bB s l who x d ws).2.2=(dw bB s l who x d ws).1.en:=by
 cases he:x.en with
 |true=>unfold dw;rw[ai he];exact he.symm
 |false=>exact ZG (s:=s) (l:=l) (who:=who) (d:=d) (ws:=ws) he
theorem XI.pick{x:jb WA}(h:XI s l hs x)(hu:x.us<100000000)(p:Int×Int×Unit):XI s l hs (km (eU s l) (fun a _=>a) l.k.toNat x p)∧om s l x.a.ws (km (eU s l) (fun a _=>a) l.k.toNat x p).a.ws:=by
 have l8:=hs.k1
 have r7:=Ch (p:=p.1) (show 0<l.k.toNat by omega)
 have hlen:=h.wi.free.len
 unfold km
 by_cases hd:x.dn.getD (iR p.1 l.k.toNat) true=true
 ·rw[ai hd]
  obtain⟨hw,h2,h3⟩:=h
  obtain⟨hF,⟨D,T,hR,hV,hC,NY,hE,hJ⟩,fx⟩:=hw
  exact⟨⟨⟨hF,⟨D,T,⟨hR.len,hR.fl,hR.kF,hR.dl,hR.di,nM hR,fun y hy=>by have:=hR.ev y hy;show 0≤y.ev∧y.ev≤((x.us+1+1:Nat):Int)∧0≤y.jo∧y.jo≤((x.us+1+1:Nat):Int);omega,hR.jn,hR.pn,hR.ti⟩,hV,hC,NY,hE,hJ⟩,fx⟩,h2,h3⟩,fun v i hv hi=>BB hs.uF (hF.fl.2.cells v i hv hi)⟩
 ·rw[ah hd]
  obtain⟨h1,h2⟩:=h.wi.step hu (iR p.1 l.k.toNat) p.2.1
  refine⟨⟨h1,?_,by show (x.st.set _ _).length=_;rw[cM];exact h.st⟩,h2⟩
  show x.dn.set _ _=(eU s l x.a _ _).1.W.map (·.en)
  have hW:x.a.W[iR p.1 l.k.toNat]?=some x.a.W[iR p.1 l.k.toNat]:=bJ (by omega)
  rw[FT hW,h.dn,Yb]
  show _=(List.set _ _ _).map _
  rw[oM]
theorem XI.go:∀(aw:List (Int×Int×Unit)) {x:jb WA},XI s l hs x→x.us+aw.length<100000000→XI s l hs (sC s l aw x)∧om s l x.a.ws (sC s l aw x).a.ws
 | [],x,h,_=>⟨h,om.refl h.wi⟩
 |p::aw,x,h,hu=>by
  show XI s l hs (if x.dn.all id=true then x else sC s l aw (km (eU s l) (fun a _=>a) l.k.toNat x p))∧om s l x.a.ws (if x.dn.all id=true then x else sC s l aw (km (eU s l) (fun a _=>a) l.k.toNat x p)).a.ws
  have hl:x.us+(aw.length+1)<100000000:=hu
  by_cases hd:x.dn.all id=true
  ·rw[ai hd];exact⟨h,om.refl h.wi⟩
  ·rw[ah hd]
   obtain⟨h1,h2⟩:=h.pick (by omega) p
   have gv:(km (eU s l) (fun a _=>a) l.k.toNat x p).us=x.us+1:=by unfold km;split <;> rfl
   obtain⟨h3,h4⟩:=XI.go aw h1 (by rw[gv];omega)
   exact⟨h3,om.trans h.wi h1.wi h3.wi h2 h4⟩
theorem xi0(bH:iN s l):XI s l hs (vd s l):=⟨wi0 bH,by show List.replicate _ _=(List.replicate _ _).map _;rw[List.map_replicate];rfl,gb⟩
end
set_option maxHeartbeats 4000000
section
variable {s:Sy} {l:Lay} {I:List (Nat×Nat)}
end
theorem TH(s:Sy)(l:Lay):∀(aw:List (Int×Int×Unit)) (x:jb WA),(sC s l aw x).us≤x.us+aw.length
 | [],x=>I1 _ _
 |p::aw,x=>by
  show (if x.dn.all id=true then x else sC s l aw (km (eU s l) (fun a _=>a) l.k.toNat x p)).us≤x.us+(aw.length+1)
  split
  ·omega
  ·have h:=TH s l aw (km (eU s l) (fun a _=>a) l.k.toNat x p)
   have gv:(km (eU s l) (fun a _=>a) l.k.toNat x p).us=x.us+1:=by unfold km;split <;> rfl
   omega
theorem Lp{s:Sy}{l:Lay}{hs:LS s l}(bH:iN s l)(aw:List (Int×Int×Unit))(h:aw.length≤100000):XI s l hs (cb s l aw):=
 ((xi0 bH).go aw (by show 0+aw.length<_;omega)).1
set_option maxHeartbeats 4000000
theorem aa1{s:Sy}{l:Lay}(n:Nat)(x:jb WA)(p:Int×Int×Unit):(km (eU s l) (fun a _=>a) n x p).dn.length=x.dn.length∧(km (eU s l) (fun a _=>a) n x p).a.W.length=x.a.W.length:=by
 unfold km
 split
 ·exact⟨rfl,rfl⟩
 ·refine⟨cM ..,?_⟩
  show (eU s l x.a _ _).1.W.length=_
  unfold eU
  split
  ·exact cM ..
  ·rfl
theorem TZ{s:Sy}{l:Lay}(n:Nat):∀(aw:List (Int×Int×Unit)) (x:jb WA),(ju (eU s l) (fun a _=>a) n aw x).dn.length=x.dn.length∧(ju (eU s l) (fun a _=>a) n aw x).a.W.length=x.a.W.length
 | [],x=>⟨rfl,rfl⟩
 |p::aw,x=>by
  show (if x.dn.all id=true then x else ju (eU s l) (fun a _=>a) n aw (km (eU s l) (fun a _=>a) n x p)).dn.length=_∧(if x.dn.all id=true then x else ju (eU s l) (fun a _=>a) n aw (km (eU s l) (fun a _=>a) n x p)).a.W.length=_
  split
  ·exact⟨rfl,rfl⟩
  ·have h1:=TZ (s:=s) (l:=l) n aw (km (eU s l) (fun a _=>a) n x p)
   have h2:=aa1 (s:=s) (l:=l) n x p
   exact⟨h1.1.trans h2.1,h1.2.trans h2.2⟩
theorem KW(s:Sy)(l:Lay)(aw:List (Int×Int×Unit)):(cb s l aw).dn.length=l.k.toNat∧(cb s l aw).a.W.length=l.k.toNat:=by
 have h:=TZ (s:=s) (l:=l) l.k.toNat aw (vd s l)
 exact⟨h.1.trans gb,h.2.trans gb⟩
def LP(s:Sy)(l:Lay)(aw:List (Int×Int×Unit))(r:AV):Prop:=
 ((cb s l aw).dn.all id=true∧r=.tup [.agg (yl (jg l (cb s l aw).a.ws (nN s)) (rH (cb s l aw).a.W) (ri (cb s l aw).a.W) (cb s l aw).us),.int .i64 0])∨((cb s l aw).dn.all id=false∧r=.tup [.agg o8,.int .i64 11])
theorem U7(s:Sy)(k:Nat)(l:Lay)(hl:gk s k=l)(aw:List (Int×Int×Unit))(σ:Hp)(hf:Fit s)(he:ck s k=0)(kU:aw.length≤100000):ACalls Tryz.prog 13 [.agg (bc s),.int .i64 k,.af kl aw] σ (fun r σ'=>LP s l aw r∧σ'=σ∧iN s l):=by
 obtain⟨hs,A9⟩:=Aj hf he
 have hk:l.k=k:=by rw[← hl];exact Gw he
 rw[hl]at hs
 have dF:=hs.k2
 have hnn:=hs.nn
 have hn:=hs.n
 obtain⟨qv,mI⟩:=KW s l aw
 have e:l.k.toNat=k:=by omega
 rw[e]at qv mI
 cases hd:(cb s l aw).dn.all id with
 |true=>
  refine (aef s k l hl aw σ hf he kU (by omega) (by omega) (by omega) qv mI hd).mono ?_
  rintro _ _ ⟨rfl,rfl,bH⟩
  exact⟨.inl ⟨hd,rfl⟩,rfl,bH⟩
 |false=>
  refine (Zv s k l hl aw σ hf he kU (by omega) qv hd).mono ?_
  rintro _ _ ⟨rfl,rfl,bH⟩
  exact⟨.inr ⟨hd,rfl⟩,rfl,bH⟩
def eJ:Sy:=⟨1,1,1,[],[0],[1],[([0],[0],[],())]⟩
theorem LA:ck eJ (1:Nat)=0:=by decide +kernel
theorem Ta:Fit eJ:=⟨LY (by unfold bD;omega),by decide,by decide,by decide,by decide,fun t ht=>by
 rw[bh.1 ht];exact⟨LY (by unfold bD;omega),LY (by unfold bD;omega),by decide,by decide,by decide⟩⟩
theorem S9:gk eJ (1:Nat)=pv:=by
 unfold gk
 rw[LA,show dS eJ.what eJ.w=1 by decide +kernel]
 rfl
def Vi:List Int:=[1,1,1,1,2,0,0]
theorem acx(bH:iN eJ pv):mZ eJ pv=[[0]]:=by
 have hA:=bH.all
 have hO:=bH.own 0 (by decide)
 have hl:(oh (nN eJ) eJ.bf eJ.entry).length=1:=hA.len
 obtain⟨z,hz⟩:=List.length_eq_one_iff.1 hl
 have iw:=hA.rg z (by rw[hz];exact bh.2 rfl)
 have xf:z=0:=by have:(nN eJ:Int)=1:=(by decide +kernel);omega
 unfold mZ yC mq
 rw[hz,xf]
 have hk:pv.k.toNat=1:=rfl
 rw[hk]at hO ⊢
 have h0:(lC (nN eJ) 1 eJ.bf).getD 0 0=0:=by omega
 show [List.filter (fun x:Int=>decide ((lC (nN eJ) 1 eJ.bf).getD x.toNat 0=((0:Nat):Int))) [0]]=[[0]]
 rw[Bp,ai (by show decide ((lC (nN eJ) 1 eJ.bf).getD 0 0=((0:Nat):Int))=true;rw[h0];rfl)]
 rfl
theorem aaF(bH:iN eJ pv):ey eJ pv=Vi:=by
 unfold ey yy
 rw[acx bH]
 decide +kernel
def x0Q:jb WA:=⟨⟨[ot],Vi⟩,[0],[false],0⟩
theorem adW(bH:iN eJ pv):vd eJ pv=x0Q:=by
 unfold vd
 rw[aaF bH];rfl
def HQ(aw:List (Int×Int×Unit)):jb WA:=ju (eU eJ pv) (fun a _=>a) 1 aw x0Q
theorem S8(bH:iN eJ pv)(aw:List (Int×Int×Unit)):cb eJ pv aw=HQ aw:=by
 unfold cb sC
 rw[adW bH];rfl
def uO:List (Int×Int×Unit):=List.replicate 20 (0,0,())
theorem acy:(HQ uO).dn.all id=true∧(HQ uO).us=14∧jg pv (HQ uO).a.ws 1=[[1]]:=by decide +kernel
theorem U8(σ:Hp):ACalls Tryz.prog 13 [.agg (bc eJ),.int .i64 1,.af kl uO] σ (fun r σ'=>(∃e j,r=.tup [.agg (yl [[1]] e j 14),.int .i64 0])∧σ'=σ):=by
 refine (U7 eJ 1 pv S9 uO _ Ta LA (by decide)).mono ?_
 rintro _ _ ⟨h,rfl,bH⟩
 unfold LP at h
 rw[S8 bH]at h
 obtain⟨h1,h2,h3⟩:=acy
 have hn:nN eJ=1:=by decide +kernel
 rw[h1,h2,hn,h3]at h
 rcases h with ⟨_,rfl⟩ | ⟨h,_⟩
 ·exact⟨⟨_,_,rfl⟩,rfl⟩
 ·cases h
theorem abm(σ:Hp):ACalls Tryz.prog 11 [] σ (aE (.bool true) σ):=by
 refine ay Tryz.func11 ?_
 intro aD
 intro dH
 intro sJ
 intro Jo
 intro Bu
 intro EY
 refine ak 0 ?_
 refine aa 0 ?_
 refine .kp 3 sJ 0 1 1 _ (.int .u64) ([0]:List Int) rfl rfl ⟨rfl,rfl,by decide⟩ 1 0 Bu _ rfl rfl ?_
 refine .kp 2 Jo 0 1 1 _ (.int .u64) ([0]:List Int) rfl rfl ⟨rfl,rfl,by decide⟩ 1 1 Bu _ rfl rfl ?_
 refine GC 1 2 Bu _ jd rfl rfl ?_
 refine KI (ys:=[.agg [.int .i64 1,.int .i64 1,.int .i64 1,.aj,.ae aD 0 1 1,.ae dH 0 1 1,.af kK eJ.T],.int .i64 1,.aj]) 1 Bu 0 1 3 _ kK eJ.T rfl rfl ⟨rfl,rfl,by decide⟩ 0 6 EY _ rfl rfl (cJ (Cv (cJ (.refl _) (cJ (.refl _) (cJ (.refl _) (cJ (.refl _) (cJ (.refl _) (cJ (.refl _) (cJ .here uu))))))) rfl) (.refl _)) ?_
 refine KI (ys:=[.agg [.int .i64 1,.int .i64 1,.int .i64 1,.aj,.ae aD 0 1 1,.af (.int .u64) eJ.init,.af kK eJ.T],.int .i64 1,.aj]) 1 dH 0 1 1 _ (.int .u64) eJ.init rfl rfl ⟨rfl,rfl,by decide⟩ 0 5 EY _ rfl rfl (cJ (Cv (cJ (.refl _) (cJ (.refl _) (cJ (.refl _) (cJ (.refl _) (cJ (.refl _) (cJ .here (.refl _))))))) rfl) (.refl _)) ?_
 refine KI (ys:=[.agg [.int .i64 1,.int .i64 1,.int .i64 1,.aj,.af (.int .i64) eJ.entry,.af (.int .u64) eJ.init,.af kK eJ.T],.int .i64 1,.aj]) 1 aD 0 1 1 _ (.int .i64) eJ.entry rfl rfl ⟨rfl,rfl,by decide⟩ 0 4 EY _ rfl rfl (cJ (Cv (cJ (.refl _) (cJ (.refl _) (cJ (.refl _) (cJ (.refl _) (cJ .here (.refl _)))))) rfl) (.refl _)) ?_
 refine GC 0 3 EY _ dv rfl rfl ?_
 refine aaQ (ys:=[.agg (bc eJ),.int .i64 1,.af kl []]) (cJ (Cv (cJ (.refl _) (cJ (.refl _) (cJ (.refl _) (cJ (.nil dv) (.refl _))))) rfl) (cJ (.refl _) (cJ (.nil kl) (.refl _)))) ?_
 refine .mk [] _ (U7 eJ 1 pv S9 [] _ Ta LA (by decide)) ?_
 rintro _ _ ⟨h,rfl,bH⟩
 unfold LP at h
 rw[S8 bH]at h
 rcases h with ⟨h,_⟩ | ⟨_,rfl⟩
 ·exact absurd h (by decide)
 intro aD
 refine ak 0 ?_
 refine .meet (S:=Nat×Int×Int) (fun b=>[(3,.int .i64 11),(4,.ptr b.1 0),(5,.int .i64 0)]) (fun b=>(b.1,yl [[1]] b.2.1 b.2.2 14)::(aD,o8)::(EY,bc eJ)::σ) (by kernel_rfl) ?_ ?_
 ·repeat' first
   |exact cR.mk (_,_,_) ⟨rfl,rfl,rfl,trivial⟩ (aJ rfl)
   |refine And.intro ?_ ?_
   |refine aa 1 ?_
   |refine aa 2 ?_
   |refine aa 3 ?_
   |refine ak 0 ?_
   |refine ag.mk ⟨by decide,by decide,by decide,by decide⟩ ?_
   |(refine .cI (args':=[.agg (bc eJ),.int .i64 1,.af kl uO]) 0 _ 0 20 2 _ kl uO rfl rfl ⟨rfl,rfl,by decide⟩ (cJ (.refl _) (cJ (.refl _) (cJ .here uu))) ?_;refine .mk [] _ (U8 _) ?_;rintro _ _ ⟨⟨e,j,rfl⟩,rfl⟩)
   |(refine .cI (args':=[.agg (bc eJ),.int .i64 1,.af kl uO]) 1 _ 0 20 2 _ kl uO rfl rfl ⟨rfl,rfl,by decide⟩ (cJ (.refl _) (cJ (.refl _) (cJ .here uu))) ?_;refine .mk [] _ (U8 _) ?_;rintro _ _ ⟨⟨e,j,rfl⟩,rfl⟩)
   |intro b
 rintro⟨b,e,j⟩ g
 refine aa 0 ?_
 refine aa 0 ?_
 refine aa 0 ?_
 refine ag.mk rfl ?_
 refine bG.mk ([1]:List Int) (by decide) rfl ?_
 refine ag.mk rfl ?_
 refine bG.mk (1:Int) (by decide) rfl ?_
 exact .drop 0 3 (.done ⟨rfl,rfl⟩)
def UB(s:Sy)(l:Lay)(k:Nat)(x:jb WA):List AV:=UC (jg l x.a.ws (nN s)) (GL l x.a.ws (nN s)) (wr (dx x.a.ws (cF l))) (rH x.a.W) (ri x.a.W) x.us (LV l x.a.ws k) (U1 l x.a.ws k) x.dn
structure Jq(s:Sy)(k:Nat)(l:Lay)(hs:LS s l)(x:jb WA):Prop where
 ok:iN s l
 lk:l.k=(k:Int)
 lay:gk s k=l
 xi:XI s l hs x
 dl:x.dn.length=k
 wl:x.a.W.length=k
theorem aeK{s:Sy}{k:Int}(hf:Fit s)(he:ck s k=0):∃n:Nat,k=(n:Int)∧1≤n∧n≤64:=by
 obtain⟨hs,_⟩:=Aj hf he
 have h1:=hs.k1
 have h2:=hs.k2
 rw[Gw he]at h1 h2
 exact⟨k.toNat,by omega,by omega,by omega⟩
theorem VL(s:Sy)(k:Nat)(aw:List (Int×Int×Unit))(σ:Hp)(hf:Fit s)(he:ck s k=0)(kU:aw.length≤100000):ACalls Tryz.prog 14 [.agg (bc s),.int .i64 k,.af kl aw] σ (fun r σ'=>∃(l:Lay) (hs:LS s l),Jq s k l hs (cb s l aw)∧r=.tup [.agg (UB s l k (cb s l aw)),.int .i64 0]∧σ'=σ):=by
 obtain⟨hs,A9⟩:=Aj hf he
 obtain⟨l,hl⟩:∃l,gk s k=l:=⟨_,rfl⟩
 have hk:l.k=k:=by rw[← hl];exact Gw he
 rw[hl]at hs
 have dF:=hs.k2
 have hnn:=hs.nn
 have hn:=hs.n
 obtain⟨qv,mI⟩:=KW s l aw
 have e:l.k.toNat=k:=by omega
 rw[e]at qv mI
 refine (afk s k l hl aw σ hf he kU (by omega) (by omega) (by omega) (by omega) mI).mono ?_
 rintro _ _ ⟨rfl,rfl,bH⟩
 exact⟨l,hs,⟨bH,hk,hl,Lp bH aw kU,qv,mI⟩,rfl,rfl⟩
set_option maxHeartbeats 4000000
section
variable {s:Sy} {l:Lay} (hs:LS s l)
include hs
theorem zG(ws:List Int):jg l ws (nN s)=rR s l ws:=by
 unfold jg rR py
 refine xD fun v hv=>xD fun i hi=>?_
 rw[hs.As (gw.1 hv) (gw.1 hi),nJ]
end
theorem agu(s:Sy)(k:Nat)(l:Lay)(hs:LS s l)(hl:gk s k=l)(aw:List (Int×Int×Unit))(σ:Hp)(hf:Fit s)(he:ck s k=0)(kU:aw.length≤100000):ACalls Tryz.prog 14 [.agg (bc s),.int .i64 k,.af kl aw] σ (aE (.tup [.agg (UB s l k (cb s l aw)),.int .i64 0]) σ):=by
 refine (VL s k aw σ hf he kU).mono ?_
 rintro _ _ ⟨l',dE,hX,rfl,rfl⟩
 obtain rfl:l'=l:=hX.lay.symm.trans hl
 exact⟨rfl,rfl⟩
theorem Jq.run{s:Sy}{k:Nat}{l:Lay}{hs:LS s l}{x:jb WA}(h:Jq s k l hs x)(aw:List (Int×Int×Unit))(kU:aw.length≤100000):Jq s k l hs (cb s l aw):=by
 obtain⟨qv,mI⟩:=KW s l aw
 have e:l.k.toNat=k:=by have:=h.lk;omega
 rw[e]at qv mI
 exact⟨h.ok,h.lk,h.lay,Lp h.ok aw kU,qv,mI⟩
theorem Sk(s:Sy)(σ:Hp)(hf:Fit s)(hg:Good s):ACalls Tryz.prog 23 [.agg (bc s)] σ (aE (.af (.slice (.int .u64)) (pq s).1) σ):=by
 have he:=QZ hg
 have h0:0≤sS s:=he.2.1
 obtain⟨m,hm⟩:∃m:Nat,sS s=m:=⟨(sS s).toNat,by omega⟩
 have hE:=fun σ=>oT (aba s σ) (aQ (he.1.trans hm))
 have hS:=fun σ=>Zx s m σ hf hg (by omega)
 have afD:(pq s).1=(mz s m (mS s) 0).1:=by unfold pq;rw[hm,bM]
 rw[afD]
 refine ay Tryz.func23 ?_
 intro aD
 refine .quiet (by kernel_rfl) ?_
 refine aa 0 ?_
 refine aa 0 ?_
 refine aH [] (hE _) ?_
 refine aH [] (hS _) ?_
 exact .drop 0 1 (.done ⟨rfl,rfl⟩)
theorem Rv{s:Sy}{l:Lay}{hs:LS s l}(bH:iN s l)(p q:List (Int×Int×Unit))(h:(p++q).length≤100000):jl s (rR s l (cb s l p).a.ws) (rR s l (cb s l (p++q)).a.ws):=by
 rw[bQ]at h
 have hp:XI s l hs (cb s l p):=Lp bH p (by omega)
 have gv:(cb s l p).us≤p.length:=by have:=TH s l p (vd s l);show (sC s l p (vd s l)).us≤_;have h0:(vd s l).us=0:=rfl;omega
 obtain⟨h1,h2⟩:=hp.go q (by omega)
 have e:cb s l (p++q)=sC s l q (cb s l p):=S3 _ _ _ p q _
 rw[e]
 exact Z3 hp.wi h1.wi h2
theorem Fp{s:Sy}{a b:List (List Int)}(hg:Good s)(h:jl s a b):rQ (pS s.what s.w) a b=true:=by
 have:=(Zj hg (h.1.ok hg) (h.2.1.ok hg)).2 h
 unfold LG at this
 simp only[bL]at this
 exact this.2
theorem aet(s:Sy)(aw:List (Int×Int×Unit))(σ:Hp):ACalls Tryz.prog 12 [.agg (bc s),.af kl aw] σ (Mm (LO s∧aw.length≤400) σ):=by
 refine ay Tryz.func12 ?_
 intro aD
 refine aa 0 ?_
 refine U0 [] (ab3 s _) (fun oz=>?_) ?_
 ·refine an (fun c1=>?_) (fun c1=>?_)
  ·have c1:(↑aw.length:Int)≤400:=c1
   exact .drop 0 1 (.done ⟨true,rfl,rfl,fun _=>⟨oz,by omega⟩⟩)
  ·exact .drop 0 1 (.done ⟨false,rfl,rfl,fun h=>by cases h⟩)
 ·exact .drop 0 1 (.done ⟨false,rfl,rfl,fun h=>by cases h⟩)
theorem wf_u16{n:Int}(h:(Lit.int .u16 n).wf=true):0≤n∧n<65536:=by
 have:=bounds_u16 h
 omega
theorem VQ(s:Sy)(w:Int)(aw:List (Int×Int×Unit))(c:Int)(hc:0≤c)(mJ:c<65536)(hi:aR s.init)(ht:∀t∈s.T,aR t.1∧aR t.2.1):ACalls Tryz.prog 4 [.agg (bc s),.int .i64 w,.af kl aw,.int .u16 c] [] (fun r _=>r=.bool true):=by
 refine ay Tryz.func4 ?_
 intro b3
 refine az [] (abm _) ?_
 refine aa 0 ?_
 refine U0 [] (aet s aw _) (fun afY=>?_) ?_
 rotate_left
 ·exact .done rfl
 obtain⟨oz,hlen⟩:=afY
 have hf:=adV oz hi ht
 obtain⟨k',dA⟩:∃x,x=(if 5<w then 5 else w):=⟨_,rfl⟩
 have Im:IntKind.i64.wrap ((aw.length:Int)+1)=((aw.length+1:Nat):Int):=by rw[ca (by omega)];omega
 obtain⟨m,hm,rr⟩:∃m:Nat,(IntKind.i64.wrap c).tmod (IntKind.i64.wrap ((aw.length:Int)+1))=m∧m≤aw.length:=by
  rw[Im,ca (n:=c) (by omega),sG hc]
  exact⟨(c % ((aw.length+1:Nat):Int)).toNat,by have:=Ez c (show ((aw.length+1:Nat):Int)≠0 by omega);omega,by have:=EF c (show 0<((aw.length+1:Nat):Int) by omega);omega⟩
 refine ag.mk (fun h=>by have:((aw.length+1:Nat):Int)=0:=Im.symm.trans h;omega) ?_
 refine .sched [5] (.one 0 false (.one 1 false (.one 2 false (.one 3 false (.one 4 false (.AK 5 (.one 6 false (.one 7 false (.one 8 false (.one 9 false (.one 10 false (.one 11 false .stop)))))) (.one 9 false (.one 5 true (.one 6 false (.one 7 false (.one 8 false (.one 10 false (.one 11 false .stop))))))))))))) (by kernel_rfl) ?_
 refine aa 0 ?_
 refine ag.mk ⟨by decide,Int.le_trans (EG m) (Int.le_of_eq hm.symm),Int.le_trans (Int.le_of_eq hm) (Int.ofNat_le.2 rr),rfl⟩ ?_
 obtain⟨p,hp⟩:∃p,p=aw.take ((IntKind.i64.wrap c).tmod (IntKind.i64.wrap ((aw.length:Int)+1))).toNat:=⟨_,rfl⟩
 have df:p=aw.take m:=by rw[hp,hm];rfl
 have oE:p.length≤100000:=by rw[df,xC];omega
 have tq:p++aw.drop m=aw:=by rw[df];exact Bq m aw
 by_cases he:ck s k'=0
 rotate_left
 ·have hA:=fun σ=>Uw s k' p σ hf he
  have hB:=fun σ=>Uw s k' aw σ hf he
  rw[hp,dA]at hA
  rw[dA]at hB he
  refine And.intro ?_ ?_
  ·refine aH [] (hA _) ?_
   intro aD
   refine ak 0 ?_
   refine aa 1 ?_
   refine az [] (hB _) ?_
   intro aD
   refine ak 0 ?_
   refine dB (fun c2=>?_) (fun c2=>?_)
   ·have c2:¬(ck s (if 5<w then 5 else w)=0):=by simpa using c2
    refine an (fun c3=>?_) (fun c3=>?_)
    ·exact .done rfl
    ·have c3:¬(ck s (if 5<w then 5 else w)=ck s (if 5<w then 5 else w)):=c3
     exact absurd rfl c3
   ·have c2:ck s (if 5<w then 5 else w)=0:=by simpa using c2
    refine dB (fun c4=>?_) (fun c4=>?_)
    ·have c4:¬(ck s (if 5<w then 5 else w)=0):=by simpa using c4
     refine an (fun c5=>?_) (fun c5=>?_)
     ·exact .done rfl
     ·have c5:¬(ck s (if 5<w then 5 else w)=ck s (if 5<w then 5 else w)):=c5
      exact absurd rfl c5
    ·have c4:ck s (if 5<w then 5 else w)=0:=by simpa using c4
     refine aa 2 ?_
     exact absurd c2 he
  ·intro aD
   refine aH [] (hA _) ?_
   refine ak 0 ?_
   refine aa 1 ?_
   refine az [] (hB _) ?_
   intro aD
   refine ak 0 ?_
   refine dB (fun c2=>?_) (fun c2=>?_)
   ·have c2:¬(ck s (if 5<w then 5 else w)=0):=by simpa using c2
    refine an (fun c3=>?_) (fun c3=>?_)
    ·exact .done rfl
    ·have c3:¬(ck s (if 5<w then 5 else w)=ck s (if 5<w then 5 else w)):=c3
     exact absurd rfl c3
   ·have c2:ck s (if 5<w then 5 else w)=0:=by simpa using c2
    refine dB (fun c4=>?_) (fun c4=>?_)
    ·have c4:¬(ck s (if 5<w then 5 else w)=0):=by simpa using c4
     refine an (fun c5=>?_) (fun c5=>?_)
     ·exact .done rfl
     ·have c5:¬(ck s (if 5<w then 5 else w)=ck s (if 5<w then 5 else w)):=c5
      exact absurd rfl c5
    ·have c4:ck s (if 5<w then 5 else w)=0:=by simpa using c4
     refine aa 2 ?_
     exact absurd c2 he
 obtain⟨n,hn,rq,oF⟩:=aeK hf he
 obtain⟨hs,A9⟩:=Aj hf he
 obtain⟨l,hl⟩:∃l,gk s k'=l:=⟨_,rfl⟩
 rw[hl]at hs
 have hA:=fun σ=>agu s n l hs (hn▸hl) p σ hf (hn▸he) oE
 have hB:=fun σ=>VL s n aw σ hf (hn▸he) (by omega)
 rw[← hn,hp,dA]at hA
 rw[← hn,dA]at hB
 refine And.intro ?_ ?_
 ·refine aH [] (hA _) ?_
  intro aD
  refine ak 0 ?_
  refine aa 1 ?_
  refine .mk [] _ (hB _) ?_
  rintro _ _ ⟨l',dE,hX,rfl,rfl⟩
  obtain rfl:l'=l:=hX.lay.symm.trans (hn▸hl)
  have hXp:=hX.run p oE
  have h1:jl s (jg l' (cb s l' p).a.ws (nN s)) (jg l' (cb s l' aw).a.ws (nN s)):=by
   rw[zG hs,zG hs]
   have:=Rv (hs:=hs) hX.ok p (aw.drop m) (by rw[tq];omega)
   rw[tq]at this
   exact this
  have h2:jl s (jg l' (cb s l' aw).a.ws (nN s)) (pq s).1:=by rw[zG hs];exact hX.xi.wi.VD
  rw[hp]at h1
  intro aD
  refine ak 0 ?_
  refine aa 2 ?_
  refine az [] (Sk s _ hf hs.fW) ?_
  have NX:=fun σ=>oT (FO s _ _ σ hs.fW h1.1 h1.2.1) (by rw[Fp hs.fW h1])
  have vI:=fun σ=>oT (FO s _ _ σ hs.fW h2.1 h2.2.1) (by rw[Fp hs.fW h2])
  have NW:=fun σ=>oT (P7 s _ σ (h1.1.ok hs.fW)) (by rw[h1.1.b9])
  refine aa 2 ?_
  refine aa 1 ?_
  refine aa 0 ?_
  refine az [] (NX _) ?_
  refine aa 2 ?_
  refine aa 0 ?_
  refine az [] (vI _) ?_
  refine aa 2 ?_
  refine aa 1 ?_
  refine az [] (NW _) ?_
  exact .done rfl
 ·intro aD
  refine aH [] (hA _) ?_
  refine ak 0 ?_
  refine aa 1 ?_
  refine .mk [] _ (hB _) ?_
  rintro _ _ ⟨l',dE,hX,rfl,rfl⟩
  obtain rfl:l'=l:=hX.lay.symm.trans (hn▸hl)
  have hXp:=hX.run p oE
  have h1:jl s (jg l' (cb s l' p).a.ws (nN s)) (jg l' (cb s l' aw).a.ws (nN s)):=by
   rw[zG hs,zG hs]
   have:=Rv (hs:=hs) hX.ok p (aw.drop m) (by rw[tq];omega)
   rw[tq]at this
   exact this
  have h2:jl s (jg l' (cb s l' aw).a.ws (nN s)) (pq s).1:=by rw[zG hs];exact hX.xi.wi.VD
  rw[hp]at h1
  intro aD
  refine ak 0 ?_
  refine aa 2 ?_
  refine az [] (Sk s _ hf hs.fW) ?_
  have NX:=fun σ=>oT (FO s _ _ σ hs.fW h1.1 h1.2.1) (by rw[Fp hs.fW h1])
  have vI:=fun σ=>oT (FO s _ _ σ hs.fW h2.1 h2.2.1) (by rw[Fp hs.fW h2])
  have NW:=fun σ=>oT (P7 s _ σ (h1.1.ok hs.fW)) (by rw[h1.1.b9])
  refine aa 2 ?_
  refine aa 1 ?_
  refine aa 0 ?_
  refine az [] (NX _) ?_
  refine aa 2 ?_
  refine aa 0 ?_
  refine az [] (vI _) ?_
  refine aa 2 ?_
  refine aa 1 ?_
  refine az [] (NW _) ?_
  exact .done rfl
end Go.Proofs.YtnikdflhefijbaaGreat
namespace Go.Proofs.YtnikdflhefijbaaGreat
open Go.ChangeShapes Go.WideShapes Go.ChangeAt Go.RowKit
theorem gp{a b:Bool}(ha:a=true)(hb:b=true):(a&&b)=true:=by rw[ha,hb];rfl
theorem ES:laidOutB Tryz.prog=true:=by kernel_rfl
theorem fk3:mapsRowed Tryz.prog=true:=by kernel_rfl
theorem fk7:(Tryz.prog.stops == [])=true:=by kernel_rfl
theorem fk9:(Tryz.prog.stopKnobs == [])=true:=by kernel_rfl
theorem age:(Rows.solveRunsRow.plainKeys == Tryz.prog.plainKeys)=true:=by kernel_rfl
theorem agd:Tryz.prog.stopsHeard=true:=by kernel_rfl
theorem agc:Tryz.prog.mayEnter=true:=by kernel_rfl
theorem agb:(Rows.solveRunsRow.lifted == Tryz.prog.liftsFinal)=true:=by kernel_rfl
theorem aga:(Tryz.prog.make == some Rows.solveRunsRow.make)=true:=by kernel_rfl
theorem ag8:ownKnob Tryz.prog.godebug=none:=by kernel_rfl
theorem va{F:Nat→Prop}{w:World}{x:AV}{xs:List AV}{v:Value}{vs:List Value}(h:aA F w x v)(t:iQ F w xs vs.toArray):iQ F w (x::xs) (v::vs).toArray:=by
 refine⟨by have:=t.1;simp at this ⊢;exact this,fun i y hy=>?_⟩
 cases i with
 |zero=>simp at hy;subst hy;simpa [Array.getD]using h
 |succ i=>
  have:=t.2 i y (by simpa using hy)
  rw[jy]at this ⊢
  simpa using this
theorem vn{F:Nat→Prop}{w:World}:iQ F w [] ([]:List Value).toArray:=⟨rfl,fun i y hy=>by simp at hy⟩
theorem vi{F:Nat→Prop}{w:World}{k:IntKind}{n:Int}:aA F w (.int k n) (.int k n):=.int k n
theorem vl{w:World}{e:Sh}{a:Option Addr}{n c:Nat}{l:List e.T}(hp:(Sh.slice e).pos=true)(h:Reads w (.slice e) (Value.slice a n c).cells.toList l):aA (fun b=>b<w.heap.size) w (.af e l) (.slice a n c):=
 .af e l _ (QS (.slice e) _ l hp h)
theorem vg{w:World}{s:Sh}{cs:Array Value}{d:s.T}(hp:s.pos=true)(h:Reads w s (Value.agg cs).cells.toList d):aA (fun b=>b<w.heap.size) w (.agg (s.cells d)) (.agg cs):=by
 obtain⟨h1,h2⟩:=kO.cells s _ d (QS s _ d hp h)
 refine .agg _ _ (by rw[h1];rfl) (fun i x hx=>(h2 i x hx).1) (fun i x hx=>?_)
 have:=(h2 i x hx).2
 rw[aW,Bn,← jy]at this
 exact this
theorem PJ{w:World}{e:Sh}{cs:List Value}{l:List e.T}(h:Reads w (.slice e) cs l):∀x∈l,∃cs',Reads w e cs' x:=by
 obtain⟨a,c,_,_,_,_,h3⟩:=h
 intro x hx
 obtain⟨i,hi,rfl⟩:=tW.1 hx
 obtain⟨b,o,_,h4⟩:=h3 (List.ne_nil_of_mem hx)
 obtain⟨cs',_,_,h5⟩:=h4 i hi
 exact⟨cs',h5⟩
theorem J1{w:World}{cs:List Value}{l:List Int}(h:Reads w (.slice (.int .u64)) cs l):∀z∈l,0≤z∧z<18446744073709551616:=fun z hz=>by
 obtain⟨cs',h1,h2⟩:=PJ h z hz
 exact wf_u64 h2
theorem Ww{w:World}{e:Sh}{cs:List Value}{x:List Int×List Int×e.T×Unit}(h:Reads w (.field (.slice (.int .u64)) (.field (.slice (.int .u64)) (.field e .nil))) cs x):(∀z∈x.1,0≤z∧z<18446744073709551616)∧(∀z∈x.2.1,0≤z∧z<18446744073709551616):=by
 obtain⟨c1,c2,_,_,h1,d1,d2,_,_,h2,_⟩:=h
 exact⟨J1 h1,J1 h2⟩
theorem Qu{w:World}{c1 e1:Sh}{cs:List Value}{x:Int×Int×Int×c1.slice.T×List Int×List Int×List (List Int×List Int×e1.T×Unit)×Unit}(h:Reads w (.field (.int .i64) (.field (.int .i64) (.field (.int .i64) (.field (.slice c1) (.field (.slice (.int .i64)) (.field (.slice (.int .u64)) (.field (.slice (.field (.slice (.int .u64)) (.field (.slice (.int .u64)) (.field e1 .nil)))) .nil))))))) cs x):(∀z∈x.2.2.2.2.2.1,0≤z∧z<18446744073709551616)∧∀t∈x.2.2.2.2.2.2.1,(∀z∈t.1,0≤z∧z<18446744073709551616)∧(∀z∈t.2.1,0≤z∧z<18446744073709551616):=by
 obtain⟨_,_,_,_,_,_,_,_,_,_,_,_,_,_,_,_,_,_,_,_,_,_,_,_,_,_,_,_,_,h6,_,_,_,_,h7,_⟩:=h
 refine⟨J1 h6,fun t ht=>?_⟩
 obtain⟨cs',h1⟩:=PJ h7 t ht
 exact Ww h1
end Go.Proofs.YtnikdflhefijbaaGreat
