import Derived.Test.YtnikdflhefijbaaGreatBn19
import Derived.Test.YtnikdflhefijbaaGreatBn17
import Derived.Test.YtnikdflhefijbaaGreatBn18
import Derived.Test.YtnikdflhefijbaaGreatBn5
import Derived.Test.YtnikdflhefijbaaGreatBn10
import Derived.Test.YtnikdflhefijbaaGreatBn6
namespace Go.Proofs.YtnikdflhefijbaaGreat
open Go.RowKit
set_option maxRecDepth 100000
set_option maxHeartbeats 4000000
theorem afF{q q':DQ}{ws ws':List Int}(he:q.ended=false)(h:fx bC q ws=(q',ws',false)):q'.at_=q.at_+1:=by
 unfold fx at h
 rw[he,ag (by decide)]at h
 (repeat' split at h) <;> cases h <;> rfl
theorem adT{q q':DQ}{ws ws':List Int}(he:q.ended=false)(h:gx bC q ws=(q',ws',false)):q'.at_=q.at_+1∧q.at_<3:=by
 unfold gx at h
 rw[he,ag (by decide)]at h
 by_cases h0:q.at_=0
 ·rw[ah h0]at h;cases h;exact⟨rfl,by omega⟩
 by_cases h1:q.at_=1
 ·rw[ag h0,ah h1]at h
  split at h
  ·cases h
  ·cases h;exact⟨rfl,by omega⟩
 by_cases h2:q.at_=2
 ·rw[ag h0,ag h1,ah h2]at h;cases h;exact⟨rfl,by omega⟩
 ·rw[ag h0,ag h1,ag h2]at h;cases h
theorem abF{q q':DQ}{ws ws':List Int}(he:q.ended=false)(hk:q.ok=false)(h:gx bC q ws=(q',ws',true))(ho:q'.ok=true)(h3:q.at_≤3):q.at_=3:=by
 unfold gx at h
 rw[he,ag (by decide)]at h
 by_cases h0:q.at_=0
 ·rw[ah h0]at h;cases h
 by_cases h1:q.at_=1
 ·rw[ag h0,ah h1]at h
  split at h
  ·cases h;exact absurd (hk.symm.trans ho) (by decide)
  ·cases h
 by_cases h2:q.at_=2
 ·rw[ag h0,ag h1,ah h2]at h;cases h
 ·omega
theorem abf{q q':DQ}{ws ws':List Int}(he:q.ended=false)(h:gJ bC q ws=(q',ws',false)):q'.at_=q.at_+1∧q.at_<3:=by
 unfold gJ at h
 rw[he,ag (by decide)]at h
 by_cases h0:q.at_=0
 ·rw[ah h0]at h;cases h;exact⟨rfl,by omega⟩
 by_cases h1:q.at_=1
 ·rw[ag h0,ah h1]at h
  split at h
  ·cases h
  ·cases h;exact⟨rfl,by omega⟩
 by_cases h2:q.at_=2
 ·rw[ag h0,ag h1,ah h2]at h;cases h;exact⟨rfl,by omega⟩
 ·rw[ag h0,ag h1,ag h2]at h;cases h
theorem aaE{c:List Nat}{c':List Int}{n:Int}(h:iY c=c'++[n]):∃(c0:List Nat) (v:Nat),c=c0++[v]∧c'=iY c0∧n=(v:Int):=by
 obtain⟨l1,l2,h1,h2,h3⟩:=List.map_eq_append_iff.1 h
 obtain⟨v,h4,h5⟩:=List.map_eq_singleton_iff.1 h3
 exact⟨l1,v,by rw[h1,h4],h2.symm,h5.symm⟩
theorem R2{c:List Nat}{c':List Int}{n:Int}(h:iY c=n::c'):∃(v:Nat) (c0:List Nat),c=v::c0∧n=(v:Int)∧c'=iY c0:=by
 cases c with
 |nil=>cases h
 |cons v c0=>
  have h:(v:Int)::iY c0=n::c':=h
  injection h with h1 h2
  exact⟨v,c0,rfl,h1.symm,h2.symm⟩
theorem LZ{c:List Nat}(h:iY c=[]):c=[]:=List.map_eq_nil_iff.1 h
theorem A2{s:Sy}{l:Lay}(hs:LS s l){v:Nat}(hv:v<nN s):rz l v=3∧pr l v=v:=by
 have h1:=hs.nn
 have h2:=hs.n
 have h3:wu l.n=(nN s:Int):=by show IntKind.u64.wrap _=_;rw[IntKind.wrap_u64];omega
 unfold rz pr
 rw[h3,ag (by omega),ag (by omega)]
 exact⟨rfl,gg (by omega) (by omega)⟩
theorem HI{ev jo does node:Int}{has:Bool}{nx out:List Int}(q:DQ):dO ⟨ev,jo,false,does,.pop q,node,has,nx,out⟩=if q.at_=5∧q.ok=true then .held q.x.toNat else .idle 0 q.at_:=rfl
section
variable {s:Sy} {l:Lay} {hs:LS s l} {W:List WS} {ws:List Int} {D:List (List Nat)} {T:Nat→Nat} {M:Nat}
theorem Hu(hs:LS s l){j:Nat}(hj:j≤64):gd s l j<1000000000:=by
 have h1:=hs.nn
 have h2:=hs.ww
 have h3:=sy h1.2.2 h2.2
 have h4:j*(nN s+3)≤64*259:=uA hj (by omega)
 unfold gd;omega
theorem ML{i:Nat}{ws':List Int}(je:∀a,¬(gd s l i≤a∧a<gd s l i+2+rm (eA l))→ws'.getD a 0=ws.getD a 0)(a:Nat)(h:a<nN s*nW l+nN s+1):ws'.getD a 0=ws.getD a 0:=
 je a fun h2=>by unfold gd at h2;omega
theorem afs(hR:RJ s l hs W ws D T M)(hM:M<1000000000){i:Nat}{ev jo:Int}{node:Int}{has:Bool}{nx out:List Int}(q:DQ)(k9:q.ended=false)(h5:q.at_≤5)(hxq:0≤q.x)
  (hx:W[i]?=some ⟨ev,jo,false,0,.pop q,node,has,nx,out⟩) :
  qI s l hs W ws D M i (gE s l ⟨ev,jo,false,0,.pop q,node,has,nx,out⟩ ws):=by
 obtain⟨c,hc⟩:=hR.at_ hx
 have hi:=(ck.1 hx).1
 have hlen:=hR.len
 have ec:=hs.k2
 have hD:=hR.di i c hc
 rw[AJ hx]at hD
 have hD:DI (gd s l i) (eA l) ws (some (true,q)) (lN s l W i) (T i) (iY c):=hD
 obtain⟨q',ws',e,an⟩:∃q' ws' e,fx bC q ws=(q',ws',e):=⟨_,_,_,rfl⟩
 obtain⟨h1,je,hb,D4⟩:=afG hD (Hu hs (by omega)) (hR.bound hM hc) an
 have fC:=ML (s:=s) (l:=l) je
 have Jz:=hR.BC hc
 have ik:0≤ws'.getD (nN s*nW l+nN s) 0:=by rw[fC _ (by omega)];exact hR.kl
 have hp:=mF (s:=s) (l:=l) (ws:=ws) (D:=D) hx
 have zq:=hR.top i
 have E6:gE s l ⟨ev,jo,false,0,.pop q,node,has,nx,out⟩ ws=(if e=true then eB s l ⟨ev,jo,false,0,.pop q,node,has,nx,out⟩ (.pop q') else ⟨ev,jo,false,0,.pop q',node,has,nx,out⟩,ws'):=by
  exact rD (afQ an)
 rw[E6]
 have mX:¬(q.at_=5∧q.ok=true)→(bZ s l W ws D).ph[i]?=some (.idle 0 q.at_):=fun h=>by
  rw[hp,HI,ag h]
 rcases D4 with ⟨rfl,h6,h7,hd⟩ | ⟨rfl,h6,pX,sc,hd⟩ | ⟨rfl,pX,h6,sc,hd⟩ | ⟨rfl,pX,h6,c',sc,hd⟩ | ⟨rfl,pX,h6,h7,Jp,sc,hd⟩
 ·rw[ag (by decide)]
  have dV:=afF k9 an
  have kJ:=xr hR hx (x':=⟨ev,jo,false,0,.pop q',node,has,nx,out⟩) h1 je (fun z h=>by cases h) hd
  rw[pf hc]at kJ
  refine⟨D,_,RJ.fin hR hx h1 ik rfl kJ (tI hR i (by omega)) (.inl rfl) (.inl rfl) (fun j h=>by cases h) (fun j h=>by cases h) ?_⟩
  refine jK (mc (ws:=ws) (D:=D) hx fC (by rfl) (by rfl) D) ?_
  have h9:dO ⟨ev,jo,false,0,.pop q',node,has,nx,out⟩=.idle 0 (q.at_+1):=by
   rw[HI,ag fun h=>by rw[h7 h.1]at h;exact absurd h.2 (by decide),dV]
  rw[h9]
  exact SX.Tr.zl q.at_ (mX fun h=>h6 h.1) (Nat.lt_of_le_of_ne h5 h6)
 ·rw[ag (by decide)]
  obtain⟨v,c0,rfl,E7,lr⟩:=R2 sc
  have lX:=LZ lr.symm
  subst lX
  refine⟨D.set i [],_,RJ.fin hR hx h1 ik (by rw[cM]) (xr hR hx (x':=⟨ev,jo,false,0,.pop q',node,has,nx,out⟩) (c':=[]) h1 je (fun z h=>by cases h) hd) (tI hR i (by omega)) (.inl rfl) (.inl rfl) (fun j h=>by cases h) (fun j h=>by cases h) ?_⟩
  refine jK (mc (ws:=ws) (D:=D) hx fC (by rfl) (by rfl) (D.set i [])) ?_
  have h9:dO ⟨ev,jo,false,0,.pop q',node,has,nx,out⟩=.held v:=by
   rw[HI,ah ⟨h6,pX⟩,E7];rfl
  rw[h9]
  have ho:zy (gd s l i) (eA l) (lN s l W i) (T i) (iY [v]) q:=hD.ow
  exact SX.Tr.cas v q.at_ (mX fun h=>absurd (ho.a5 h.1) (by simp)) hc
 ·rw[ah rfl]
  have lX:=LZ sc
  subst lX
  have hb:eB s l ⟨ev,jo,false,0,.pop q,node,has,nx,out⟩ (.pop q')=⟨ev,jo,false,rr l,.none,node,has,nx,out⟩:=ag (by rw[pX];decide)
  rw[hb]
  have kJ:=xr hR hx (x':=⟨ev,jo,false,rr l,.none,node,has,nx,out⟩) h1 je (fun z h=>by cases h) hd
  rw[pf hc]at kJ
  refine⟨D,_,RJ.fin hR hx h1 ik rfl kJ (tI hR i (by omega)) (.inl rfl) (.inl rfl) (fun j h=>by cases h) (fun j h=>by cases h) ?_⟩
  refine jK (mc (ws:=ws) (D:=D) hx fC (by rfl) (by rfl) D) ?_
  have h9:dO ⟨ev,jo,false,rr l,.none,node,has,nx,out⟩=.idle (if (lC s l hs).k<2 then 2 else 1) 0:=by
   show EV (rr l) _ _ _ _=.idle (if l.k.toNat<2 then 2 else 1) 0
   unfold rr
   by_cases hk:l.k<2
   ·rw[ah hk,ah (by omega)];rfl
   ·rw[ag hk,ag (by omega)];rfl
  rw[h9]
  exact SX.Tr.zm q.at_ (mX fun h=>by have:=h6 h.1;rw[this]at h;exact absurd h.2 (by decide)) hc
 ·rw[ah rfl]
  obtain⟨c0,v,rfl,rfl,E7⟩:=aaE sc
  have hv:v<nN s:=Jz.2 v (by simp)
  have hb:eB s l ⟨ev,jo,false,0,.pop q,node,has,nx,out⟩ (.pop q')=⟨ev,jo,false,3,.none,v,true,nx,out⟩:=by
   show (if q'.ok=true then _ else _)=_
   rw[ah pX,E7,(A2 hs hv).1,(A2 hs hv).2]
  rw[hb]
  refine⟨D.set i c0,_,RJ.fin hR hx h1 ik (by rw[cM]) (xr hR hx (x':=⟨ev,jo,false,3,.none,v,true,nx,out⟩) (c':=c0) h1 je (fun z h=>by cases h) hd) (tI hR i (by omega)) (.inl rfl) (.inl rfl) (fun j h=>by cases h) (fun j h=>by cases h) ?_⟩
  refine jK (mc (ws:=ws) (D:=D) hx fC (by rfl) (by rfl) (D.set i c0)) ?_
  exact SX.Tr.pop v c0 q.at_ (mX fun h=>by omega) hc
 ·rw[ah rfl]
  have lX:=LZ sc
  subst lX
  have WO:(bZ s l W ws D).ph[i]?=some (.held q.x.toNat):=by
   rw[hp,HI,ah ⟨h6,h7⟩]
  have hv:q.x.toNat<nN s:=hR.ti.at_ WO (v:=q.x.toNat) (by simp[SX.nodes])
  have BR:q.x=(q.x.toNat:Int):=by omega
  have hb:eB s l ⟨ev,jo,false,0,.pop q,node,has,nx,out⟩ (.pop q')=⟨ev,jo,false,3,.none,(q.x.toNat:Int),true,nx,out⟩:=by
   show (if q'.ok=true then _ else _)=_
   rw[ah pX,Jp,BR,bO,(A2 hs hv).1,(A2 hs hv).2]
  rw[hb]
  have kJ:=xr hR hx (x':=⟨ev,jo,false,3,.none,(q.x.toNat:Int),true,nx,out⟩) (c':=[]) h1 je (fun z h=>by cases h) hd
  rw[pf hc]at kJ
  refine⟨D,_,RJ.fin hR hx h1 ik rfl kJ (tI hR i (by omega)) (.inl rfl) (.inl rfl) (fun j h=>by cases h) (fun j h=>by cases h) ?_⟩
  refine jK (mc (ws:=ws) (D:=D) hx fC (by rfl) (by rfl) D) ?_
  exact SX.Tr.zT q.x.toNat WO
theorem adC(hR:RJ s l hs W ws D T M)(hM:M<1000000000){i:Nat}{ev jo:Int}{v u:Nat}{has:Bool}{nx out:List Int}(q:DQ)(k9:q.ended=false)(cd:q.ok=false)(h3:q.at_≤3)
  (hx:W[i]?=some ⟨ev,jo,false,7,.push q,v,has,u::nx,out⟩) :
  qI s l hs W ws D M i (gE s l ⟨ev,jo,false,7,.push q,v,has,u::nx,out⟩ ws):=by
 obtain⟨c,hc⟩:=hR.at_ hx
 have hi:=(ck.1 hx).1
 have hlen:=hR.len
 have ec:=hs.k2
 have hD:=hR.di i c hc
 rw[AJ hx]at hD
 have hD:DI (gd s l i) (eA l) ws (some (false,q)) (lN s l W i) (T i) (iY c):=hD
 have Jp:q.n=(u:Int):=hR.pn _ (cu hx) q rfl
 obtain⟨q',ws',e,an⟩:∃q' ws' e,gx bC q ws=(q',ws',e):=⟨_,_,_,rfl⟩
 obtain⟨h1,je,hn,hb,D4⟩:=adU hD (Hu hs (by omega)) (hR.bound hM hc) an
 have fC:=ML (s:=s) (l:=l) je
 have Jz:=hR.BC hc
 have ik:0≤ws'.getD (nN s*nW l+nN s) 0:=by rw[fC _ (by omega)];exact hR.kl
 have hp:=mF (s:=s) (l:=l) (ws:=ws) (D:=D) hx
 have hp:(bZ s l W ws D).ph[i]?=some (.push v out u (nx.map Int.toNat) q.at_):=hp
 have zq:=hR.top i
 have E6:gE s l ⟨ev,jo,false,7,.push q,v,has,u::nx,out⟩ ws=(if e=true then ⟨ev,jo,false,kp (u::nx),.none,v,has,nx,out⟩ else ⟨ev,jo,false,7,.push q',v,has,u::nx,out⟩,ws'):=by
  exact rD (aea an)
 rw[E6]
 rcases D4 with ⟨rfl,hd⟩ | ⟨rfl,pX,aia,hd⟩ | ⟨rfl,pX,om,hd⟩
 ·rw[ag (by decide)]
  have dV:=adT k9 an
  have kJ:=xr hR hx (x':=⟨ev,jo,false,7,.push q',v,has,u::nx,out⟩) h1 je (fun z h=>by cases h) hd
  rw[pf hc]at kJ
  refine⟨D,_,RJ.fin hR hx h1 ik rfl kJ (tI hR i (by omega)) (.inl rfl) (.inl rfl) (fun j h=>by cases h) (fun q2 h=>by cases h;exact hn.trans Jp) ?_⟩
  refine jK (mc (ws:=ws) (D:=D) hx fC (by rfl) (by rfl) D) ?_
  have h9:dO ⟨ev,jo,false,7,.push q',v,has,u::nx,out⟩=.push v out u (nx.map Int.toNat) (q.at_+1):=by rw[← dV.1];rfl
  rw[h9]
  exact SX.Tr.y6 v out u (nx.map Int.toNat) q.at_ hp dV.2
 ·rw[hs.room.2,cj]at aia
  omega
 ·rw[ah rfl]
  have h4:=abF k9 cd an pX h3
  have hd:DI (gd s l i) (eA l) ws' none (lN s l W i) (T i) (iY (c++[u])):=by
   show DI _ _ _ _ _ _ (List.map _ (c++[u]))
   rw[dr]
   rw[Jp]at hd
   exact hd
  refine⟨D.set i (c++[u]),_,RJ.fin hR hx h1 ik (by rw[cM]) (xr hR hx (x':=⟨ev,jo,false,kp (u::nx),.none,v,has,nx,out⟩) h1 je (fun z h=>by cases h) hd) (tI hR i (by omega)) (.inl rfl) (.inl rfl) (fun j h=>by cases h) (fun j h=>by cases h) ?_⟩
  refine jK (mc (ws:=ws) (D:=D) hx fC (by rfl) (by rfl) (D.set i (c++[u]))) ?_
  dsimp only
  rw[Dq (nx:=nx) (does:=kp (u::nx)) rfl]
  rw[h4]at hp
  exact SX.Tr.push v out u (nx.map Int.toNat) c hp hc
theorem abj(hR:RJ s l hs W ws D T M)(hM:M<1000000000){i j:Nat}{ev jo:Int}{node:Int}{has:Bool}{nx out:List Int}(q:DQ)(k9:q.ended=false)(hj:(j:Int)<l.k)(ze:q.base=(gd s l j:Int))
  (hx:W[i]?=some ⟨ev,jo,false,1,.cx q,node,has,nx,out⟩) :
  qI s l hs W ws D M i (gE s l ⟨ev,jo,false,1,.cx q,node,has,nx,out⟩ ws):=by
 have hlen:=hR.len
 have Jv:j<D.length:=by rw[hR.dl];omega
 obtain⟨c,hc⟩:∃c,D[j]?=some c:=⟨D[j],bj Jv⟩
 have ec:=hs.k2
 have hD:=hR.di j c hc
 obtain⟨q',ws',e,an⟩:∃q' ws' e,gJ bC q ws=(q',ws',e):=⟨_,_,_,rfl⟩
 obtain⟨h1,je,hb,D4⟩:=abg hD ⟨i,_,hx,rfl,ze⟩ k9 (Hu hs (by omega)) (hR.bound hM hc) an
 have fC:=ML (s:=s) (l:=l) je
 have Jz:=hR.BC hc
 have ik:0≤ws'.getD (nN s*nW l+nN s) 0:=by rw[fC _ (by omega)];exact hR.kl
 have hp:=mF (s:=s) (l:=l) (ws:=ws) (D:=D) hx
 have hp:(bZ s l W ws D).ph[i]?=some (.idle 1 q.at_):=hp
 have zq:=hR.top j
 have E6:gE s l ⟨ev,jo,false,1,.cx q,node,has,nx,out⟩ ws=(if e=true then eB s l ⟨ev,jo,false,1,.cx q,node,has,nx,out⟩ (.cx q') else ⟨ev,jo,false,1,.cx q',node,has,nx,out⟩,ws'):=by
  exact rD (abY an)
 rw[E6]
 rcases D4 with ⟨rfl,lU,hd⟩ | ⟨rfl,pX,hd⟩ | ⟨rfl,pX,c',sc,hd⟩
 ·rw[ag (by decide)]
  have dV:=abf k9 an
  have kJ:=HQ (c':=c) hR hx (x':=⟨ev,jo,false,1,.cx q',node,has,nx,out⟩) Jv h1 je (.inl ⟨rfl,hb.trans ze⟩) rfl (hd.qB fun z hz=>hz.imp id fun h=>h.2)
  rw[pf hc]at kJ
  refine⟨D,_,RJ.fin hR hx h1 ik rfl kJ (tI hR j (by omega)) (.inl rfl) (.inl rfl) (fun j h=>by cases h) (fun j h=>by cases h) ?_⟩
  refine jK (mc (ws:=ws) (D:=D) hx fC (by rfl) (by rfl) D) ?_
  have h9:dO ⟨ev,jo,false,1,.cx q',node,has,nx,out⟩=.idle 1 (q.at_+1):=by rw[← dV.1];rfl
  rw[h9]
  exact SX.Tr.yT q.at_ hp dV.2
 ·rw[ah rfl]
  have oY:eB s l ⟨ev,jo,false,1,.cx q,node,has,nx,out⟩ (.cx q')=⟨ev,jo,false,2,.none,node,has,nx,out⟩:=ag (by rw[pX];decide)
  rw[oY]
  have kJ:=HQ (c':=c) (q':=q') hR hx (x':=⟨ev,jo,false,2,.none,node,has,nx,out⟩) Jv h1 je (.inr fun z h=>by cases h) rfl (hd.qB fun z hz=>hz.elim id fun h=>by cases h.1)
  rw[pf hc]at kJ
  refine⟨D,_,RJ.fin hR hx h1 ik rfl kJ (tI hR j (by omega)) (.inl rfl) (.inl rfl) (fun j h=>by cases h) (fun j h=>by cases h) ?_⟩
  refine jK (mc (ws:=ws) (D:=D) hx fC (by rfl) (by rfl) D) ?_
  exact SX.Tr.yU q.at_ hp
 ·rw[ah rfl]
  obtain⟨v,c0,rfl,E7,rfl⟩:=R2 sc
  have hv:v<nN s:=Jz.2 v (by simp)
  have oY:eB s l ⟨ev,jo,false,1,.cx q,node,has,nx,out⟩ (.cx q')=⟨ev,jo,false,3,.none,v,true,nx,out⟩:=by
   show (if q'.ok=true then _ else _)=_
   rw[ah pX,E7,(A2 hs hv).1,(A2 hs hv).2]
  rw[oY]
  refine⟨D.set j c0,_,RJ.fin hR hx h1 ik (by rw[cM]) (HQ (c':=c0) (q':=q') hR hx (x':=⟨ev,jo,false,3,.none,v,true,nx,out⟩) Jv h1 je (.inr fun z h=>by cases h) rfl (hd.qB fun z hz=>hz.elim id fun h=>by cases h.1)) (tI hR j (by omega)) (.inl rfl) (.inl rfl) (fun j h=>by cases h) (fun j h=>by cases h) ?_⟩
  refine jK (mc (ws:=ws) (D:=D) hx fC (by rfl) (by rfl) (D.set j c0)) ?_
  exact SX.Tr.cx j v c0 q.at_ hp hc
theorem RJ.ag9(hR:RJ s l hs W ws D T M){i:Nat}{x:WS}(hx:W[i]?=some x)(hn:x.now=.none)(hw:WV s l i x)(d:Int){n:Nw}(hb:iK l i x.does x.node x.nx x.out d=n):
  RJ s l hs (W.set i ⟨x.ev,x.jo,x.en,x.does,n,x.node,x.has,x.nx,x.out⟩) ws D T M:=by
 have hi:=(ck.1 hx).1
 have hlen:=hR.len
 have ec:=hs.k2
 have rR:(0:Int)≤(i:Nat)∧((i:Nat):Int)<l.k:=by omega
 have mX:dO ⟨x.ev,x.jo,x.en,x.does,n,x.node,x.has,x.nx,x.out⟩=dO x:=by
  have:=SH l i d x
  rw[show km l i x d=n by unfold km;rw[hn];exact hb]at this
  exact this
 have p7:bZ s l (W.set i ⟨x.ev,x.jo,x.en,x.does,n,x.node,x.has,x.nx,x.out⟩) ws D=bZ s l W ws D:=by
  rw[mc (ws:=ws) (D:=D) (x':=⟨x.ev,x.jo,x.en,x.does,n,x.node,x.has,x.nx,x.out⟩) hx (fun _ _=>rfl) rfl rfl D,mX,pf (mF hx)];rfl
 have We:jL W i=none:=by rw[AJ hx,hn];rfl
 have key:(∀(j:Nat) (c:List Nat),D[j]?=some c→DI (gd s l j) (eA l) ws (jL (W.set i ⟨x.ev,x.jo,x.en,x.does,n,x.node,x.has,x.nx,x.out⟩) j) (lN s l (W.set i ⟨x.ev,x.jo,x.en,x.does,n,x.node,x.has,x.nx,x.out⟩) j) (T j) (iY c))→(∀j,n=.join j→j.fy=true→dD j.what j.x (wd j.a j.at_)≠j.x)→(∀q,n=.push q→q.n=x.nx.headD 0)→RJ s l hs (W.set i ⟨x.ev,x.jo,x.en,x.does,n,x.node,x.has,x.nx,x.out⟩) ws D T M:=by
  intro kJ zM sV
  refine⟨by rw[cM];exact hR.len,hR.fl,hR.kl,by rw[cM];exact hR.dl,kJ,hR.top,fun y hy=>?_,fun y hy=>?_,fun y hy=>?_,by rw[p7];exact hR.ti⟩
  ·rcases Ah hy with hy | rfl
   ·exact hR.ev y hy
   ·exact hR.ev x (cu hx)
  ·rcases Ah hy with hy | rfl
   ·exact hR.jn y hy
   ·exact zM
  ·rcases Ah hy with hy | rfl
   ·exact hR.pn y hy
   ·exact sV
 have plain:(∀z,n≠.cx z)→sE n=none→∀(j:Nat) (c:List Nat),D[j]?=some c→DI (gd s l j) (eA l) ws (jL (W.set i ⟨x.ev,x.jo,x.en,x.does,n,x.node,x.has,x.nx,x.out⟩) j) (lN s l (W.set i ⟨x.ev,x.jo,x.en,x.does,n,x.node,x.has,x.nx,x.out⟩) j) (T j) (iY c):=fun h1 h2=>
  pt hR hx (x':=⟨x.ev,x.jo,x.en,x.does,n,x.node,x.has,x.nx,x.out⟩) rfl (fun _ _=>rfl) h1 (by rw[hn];exact h2.symm)
 have own:(∀z,n≠.cx z)→(∀c,D[i]?=some c→DI (gd s l i) (eA l) ws (sE n) (lN s l W i) (T i) (iY c))→∀(j:Nat) (c:List Nat),D[j]?=some c→DI (gd s l j) (eA l) ws (jL (W.set i ⟨x.ev,x.jo,x.en,x.does,n,x.node,x.has,x.nx,x.out⟩) j) (lN s l (W.set i ⟨x.ev,x.jo,x.en,x.does,n,x.node,x.has,x.nx,x.out⟩) j) (T j) (iY c):=fun h1 h2 j c hj=>by
  obtain⟨c0,ik⟩:=hR.at_ hx
  have:=xr hR hx (x':=⟨x.ev,x.jo,x.en,x.does,n,x.node,x.has,x.nx,x.out⟩) (c':=c0) (T':=T i) rfl (fun _ _=>rfl) h1 (h2 c0 ik)
  rw[pf ik]at this
  have h3:=this j c hj
  have e:(if j=i then T i else T j)=T j:=by split <;> simp_all
  rw[e]at h3
  exact h3
 have Fk:=hs.vv (k:=i) (by omega)
 by_cases h0:x.does=0
 ·rw[IY h0]at hb
  subst hb
  refine key (own (fun z h=>by cases h) fun c hc=>?_) (fun j h=>by cases h) (fun q h=>by cases h)
  have:=hR.di i c hc
  rw[We]at this
  exact this.pop Fk rfl rfl rfl rfl
 by_cases h1:x.does=1
 ·rw[IX h1]at hb
  subst hb
  obtain⟨v,hv,hvk⟩:=Rj hs rR (hw.BL h1) d
  rw[hv]
  have hvD:v<D.length:=by rw[hR.dl];omega
  obtain⟨c0,ik⟩:∃c,D[v]?=some c:=⟨D[v],bj hvD⟩
  have hdv:=hs.vv (k:=v) (by omega)
  rw[hv]at key
  refine key (fun j c hj=>?_) (fun j h=>by cases h) (fun q h=>by cases h)
  have h4:=HQ hR hx (x':=⟨x.ev,x.jo,x.en,x.does,.cx (uG (eR l v) (eA l) 0),x.node,x.has,x.nx,x.out⟩) (q':=uG (eR l v) (eA l) 0) (c':=c0) (T':=T v) hvD rfl (fun _ _=>rfl) (.inl ⟨rfl,hdv⟩) (by rw[hn];rfl) (((hR.di v c0 ik).BL (z:=uG (eR l v) (eA l) 0) hdv rfl rfl rfl).qB fun z hz=>hz.imp id fun h=>h.2)
  rw[pf ik]at h4
  have h3:=h4 j c hj
  have e:(if j=v then T v else T j)=T j:=by split <;> simp_all
  rw[e]at h3
  exact h3
 by_cases h2:x.does=2
 ·rw[IW h2]at hb
  subst hb
  exact key (plain (fun z h=>by cases h) rfl) (fun j h=>by cases h) (fun q h=>by cases h)
 by_cases h3:x.does=3
 ·rw[IV h3]at hb
  subst hb
  exact key (plain (fun z h=>by cases h) rfl) (fun j h=>by cases h) (fun q h=>by cases h)
 by_cases h4:x.does=4
 ·rw[IU h4]at hb
  subst hb
  exact key (plain (fun z h=>by cases h) rfl) (fun j h=>by cases h) (fun q h=>by cases h)
 by_cases h5:x.does=5
 ·rw[IT h5]at hb
  subst hb
  exact key (plain (fun z h=>by cases h) rfl) (fun j h h2=>by cases h;cases h2) (fun q h=>by cases h)
 by_cases h6:x.does=6
 ·rw[IS h6]at hb
  subst hb
  exact key (plain (fun z h=>by cases h) rfl) (fun j h=>by cases h) (fun q h=>by cases h)
 by_cases h7:x.does=7
 ·rw[IQ h7]at hb
  subst hb
  obtain⟨u,hu,fq⟩:=Mr hw.nx (hw.head (.inr (.inr h7)))
  refine key (own (fun z h=>by cases h) fun c hc=>?_) (fun j h=>by cases h) (fun q h=>?_)
  ·have:=hR.di i c hc
   rw[We]at this
   exact this.push Fk rfl rfl rfl rfl
  ·cases h
   have:=hs.nn
   show wu (x.nx.headD 0)=_
   rw[hu];show IntKind.u64.wrap _=_;rw[IntKind.wrap_u64];omega
 rw[IP h0 h1 h2 h3 h4 h5 h6 h7]at hb
 subst hb
 exact key (plain (fun z h=>by cases h) rfl) (fun j h=>by cases h) (fun q h=>by cases h)
theorem aft(hR:RJ s l hs W ws D T M)(hM:M<1000000000)(OA:MV s l ws){i:Nat}{x:WS}(hx:W[i]?=some x)(he:x.en=false)(qx:0≤x.node∧x.node<s.n)(dc:∀u∈x.nx,0≤u∧u<s.n)(hh:x.does=5∨x.does=6∨x.does=7→0<x.nx.length)
  (hb:zo s l i x.does x.node x.nx x.out x.now) (xB:∀j,x.now=.join j→j.at_<nW l∨(j.at_=0∧j.fy=false∧j.changed=false)):qI s l hs W ws D M i (gE s l x ws):=by
 obtain⟨ev,jo,en,does,now,node,has,nx,out⟩:=x
 have he:en=false:=he
 subst he
 have qx:0≤node∧node<s.n:=qx
 have hnn:=hs.nn
 obtain⟨v,rfl⟩:=mC qx.1
 have hv:v<nN s:=by omega
 have dc:∀u∈nx,0≤u∧u<s.n:=dc
 have hh:does=5∨does=6∨does=7→0<nx.length:=hh
 have head:0<nx.length→∃(u:Nat) (r:List Int),nx=(u:Int)::r∧u<nN s:=fun h=>by
  cases nx with
  |nil=>cases h
  |cons z r=>
   have:=dc z (bU ..)
   obtain⟨u,rfl⟩:=mC this.1
   exact⟨u,r,rfl,by omega⟩
 have hb:zo s l i does v nx out now:=hb
 have xB:∀j,now=.join j→j.at_<nW l∨(j.at_=0∧j.fy=false∧j.changed=false):=xB
 cases now with
 |none=>exact hb.elim
 |pop q=>
  obtain⟨rfl,h1,h2,h3⟩:=hb
  exact afs hR hM q h1.en h1.at_ h1.x.1 hx
 |cx q=>
  obtain⟨rfl,h1,⟨j,hj,h2⟩,h3⟩:=hb
  have ec:=hs.k2
  exact abj hR hM q h1.en hj (h2.trans (hs.vv (by omega))) hx
 |quiet t=>
  obtain⟨rfl,rfl⟩:=hb
  exact abk hR hx
 |clear t=>
  obtain⟨rfl,rfl⟩:=hb
  exact abl hR hv hx
 |read y=>
  obtain⟨rfl,h1,h2⟩:=hb
  exact adB hR hM OA hv h1 h2 hx
 |join j=>
  obtain⟨rfl,h1,h2,h3,h4,h5⟩:=hb
  obtain⟨u,r,rfl,hu⟩:=head (hh (.inl rfl))
  exact adD hR hM hu j h1 h2 h3 (xB j rfl) (fun h=>(h5 h).1) hx
 |take t=>
  obtain⟨rfl,jS,rfl⟩:=hb
  obtain⟨u,r,rfl,hu⟩:=head (hh (.inr (.inl rfl)))
  cases jS with
  |true=>exact abh hR hx
  |false=>exact abi hR hu hx
 |push q=>
  obtain⟨rfl,h1,h2,h3,h4⟩:=hb
  obtain⟨u,r,rfl,hu⟩:=head (hh (.inr (.inr rfl)))
  exact adC hR hM q h1.en h4 h1.at_ hx
 |dW t=>
  obtain⟨rfl,rfl⟩:=hb
  exact ZN hR hx
theorem ZG{s:Sy}{l:Lay}{who d:Int}{x:WS}{ws:List Int}(he:x.en=false):((dE bC s l who x d ws).1,(dE bC s l who x d ws).2.1)=gE s l ⟨x.ev,x.jo,x.en,x.does,km l who x d,x.node,x.has,x.nx,x.out⟩ ws:=by
 unfold dE gE
 rw[he,ag Cj]
 dsimp only
 by_cases h:(gi bC l x.node (km l who x d) ws).2.2=true
 ·rw[ah h,ah h]
  refine Prod.ext ?_ rfl
  dsimp only
  generalize km l who x d=m at h ⊢
  cases m with
  |none=>exact absurd h Cj
  |_=>simp only[gi,eB,he]
 ·rw[ag h,ag h]
theorem RJ.step(hR:RJ s l hs W ws D T M)(hM:M<1000000000)(hF:vA s l ⟨W,ws⟩)(i:Nat)(d:Int):
  ∃D' T',RJ s l hs (ei s l ⟨W,ws⟩ i d).1.W (ei s l ⟨W,ws⟩ i d).1.ws D' T' (M+1)∧SX.Tr (lC s l hs) (bZ s l W ws D) i (bZ s l (ei s l ⟨W,ws⟩ i d).1.W (ei s l ⟨W,ws⟩ i d).1.ws D'):=by
 have my:∀{W ws D T},RJ s l hs W ws D T M→RJ s l hs W ws D T (M+1):=fun h=>⟨h.len,h.fl,h.kl,h.dl,h.di,n9 h,fun x hx=>by have:=h.ev x hx;omega,h.jn,h.pn,h.ti⟩
 cases hx:W[i]? with
 |none=>
  have e:ei s l ⟨W,ws⟩ i d=(⟨W,ws⟩,true):=by unfold ei;dsimp only;rw[hx]
  rw[e]
  exact⟨D,T,my hR,SX.Tr.stay (.inr (by show (W.map dO)[i]?=none;rw[fm,hx];rfl))⟩
 |some x=>
  rw[C3 (a:=⟨W,ws⟩) hx]
  dsimp only
  have xS:=hF.wv i x hx
  have hi:=(ck.1 hx).1
  have hlen:=hR.len
  cases he:x.en with
  |true=>
   have e:dE bC s l i x d ws=(x,ws,true):=ah he
   rw[e]
   dsimp only
   rw[pf hx]
   refine⟨D,T,my hR,SX.Tr.stay (.inl ?_)⟩
   rw[mF hx]
   unfold dO
   rw[ah he]
  |false=>
   have e:=ZG (s:=s) (l:=l) (who:=i) (d:=d) (ws:=ws) he
   have e1:=congrArg Prod.fst e
   have e2:=congrArg Prod.snd e
   dsimp only at e1 e2
   rw[e1,e2]
   have hnb:=Um (d:=d) hs (show (0:Int)≤(i:Nat)∧((i:Nat):Int)<l.k by omega) xS
   obtain⟨n,hn⟩:∃n,km l i x d=n:=⟨_,rfl⟩
   rw[hn]at hnb ⊢
   have mX:dO ⟨x.ev,x.jo,x.en,x.does,n,x.node,x.has,x.nx,x.out⟩=dO x:=by rw[← hn];exact SH l i d x
   have j5:∀y,(W.set i ⟨x.ev,x.jo,x.en,x.does,n,x.node,x.has,x.nx,x.out⟩).set i y=W.set i y:=fun y=>List.set_set ..
   have p7:bZ s l (W.set i ⟨x.ev,x.jo,x.en,x.does,n,x.node,x.has,x.nx,x.out⟩) ws D=bZ s l W ws D:=by
    rw[mc (ws:=ws) (D:=D) (x':=⟨x.ev,x.jo,x.en,x.does,n,x.node,x.has,x.nx,x.out⟩) hx (fun _ _=>rfl) rfl rfl D,mX,pf (mF hx)];rfl
   have Fu:RJ s l hs (W.set i ⟨x.ev,x.jo,x.en,x.does,n,x.node,x.has,x.nx,x.out⟩) ws D T M∧∀j,n=.join j→j.at_<nW l∨(j.at_=0∧j.fy=false∧j.changed=false):=by
    rcases xS.now with h0 | ⟨h0,hk⟩
    ·have hb:iK l i x.does x.node x.nx x.out d=n:=by rw[← hn];unfold km;rw[h0]
     refine⟨hR.ag9 hx h0 xS d hb,fun j hj=>.inr ?_⟩
     rw[hj]at hb
     unfold iK at hb
     (repeat' split at hb) <;> first | (cases hb;exact⟨rfl,rfl,rfl⟩) | cases hb
    ·have h1:x.now=n:=by
      rw[← hn];unfold km
      cases ai0:x.now with
      |none=>rw[ai0]at h0;exact h0.elim
      |_=>rfl
     refine⟨?_,fun j hj=>.inl ?_⟩
     ·rw[← h1,pf hx];exact hR
     ·rw[h1,hj]at hk;exact hk
   obtain⟨hR2,xB⟩:=Fu
   have ie:(W.set i ⟨x.ev,x.jo,x.en,x.does,n,x.node,x.has,x.nx,x.out⟩)[i]?=some ⟨x.ev,x.jo,x.en,x.does,n,x.node,x.has,x.nx,x.out⟩:=by rw[e9,ah rfl,ah hi]
   have:=aft hR2 hM hF.fl.2 ie he xS.node xS.nx xS.head hnb xB
   unfold qI at this
   rw[j5,p7]at this
   exact this
end
set_option maxHeartbeats 4000000
def eJ(s:Sy)(l:Lay):List Int:=zf s l (List.replicate (nG l) 0)
def W0(l:Lay):List WS:=List.replicate l.k.toNat oP
def oZ(s:Sy)(l:Lay)(aw:List (Int×Int×Unit))(x:gw WA):gw WA:=jC (ei s l) (fun a _=>a) l.k.toNat aw x
def sL(s:Sy)(l:Lay):gw WA:=⟨⟨W0 l,eJ s l⟩,List.replicate l.k.toNat 0,List.replicate l.k.toNat false,0⟩
def cF(s:Sy)(l:Lay)(aw:List (Int×Int×Unit)):gw WA:=oZ s l aw (sL s l)
def jG(W:List WS):Int:=W.foldl (fun a x=>wr (a+x.ev)) 0
def kE(W:List WS):Int:=W.foldl (fun a x=>wr (a+x.jo)) 0
theorem acy{W:List WS}{i:Nat}(h:i<W.length):wr (jG (W.take i)+W[i].ev)=jG (W.take (i+1)):=by
 unfold jG;rw[fw h,s9];rfl
theorem ac8{W:List WS}{i:Nat}(h:i<W.length):wr (kE (W.take i)+W[i].jo)=kE (W.take (i+1)):=by
 unfold kE;rw[fw h,s9];rfl
set_option maxHeartbeats 4000000
theorem Su{b:Nat}{a ws:List Int}{x:Nat}(h:x<b):∀k,(ox b a ws k).getD x 0=ws.getD x 0
 | 0=>rfl
 |k+1=>by rw[ox,rp _ _ _ _ (by omega)];exact Su h k
theorem Sv{b:Nat}{a ws:List Int}{i:Nat}:∀k,i<k→b+k≤ws.length→(ox b a ws k).getD (b+i) 0=wd a i
 | 0,h,_=>absurd h (nV _)
 |k+1,h,hl=>by
  rw[ox]
  by_cases e:i=k
  ·subst e
   rw[A4 _ _ _ _ (by rw[KD];omega),ah rfl]
  ·rw[rp _ _ _ _ (by omega)]
   exact Sv k (by omega) (by omega)
section
variable {N W:Nat} {st:Nat→List Int} {ws:List Int}
theorem R0{v i:Nat}(hi:i<W):∀k,k≤N→v<k→N*W+N≤ws.length→(nr N W st ws k).getD (v*W+i) 0=wd (st v) i
 | 0,_,h,_=>absurd h (nV _)
 |k+1,hk,h,hl=>by
  have h6:(k+1)*W≤N*W:=kg _ hk
  have h7:=tE (N:=N) (show v<N by omega) hi
  rw[qa]at h6
  rw[nr,rp _ _ _ _ (by omega)]
  by_cases e:v=k
  ·subst e
   exact Sv W hi (by rw[Ad];omega)
  ·have h8:=tE (N:=k) (show v<k by omega) hi
   rw[Su h8]
   exact R0 hi k (by omega) (by omega) hl
theorem Q4{v:Nat}:∀k,k≤N→v<k→N*W+N≤ws.length→(nr N W st ws k).getD (N*W+v) 0=1
 | 0,_,h,_=>absurd h (nV _)
 |k+1,hk,h,hl=>by
  have h6:(k+1)*W≤N*W:=kg _ hk
  rw[qa]at h6
  rw[nr]
  by_cases e:v=k
  ·subst e
   rw[A4 _ _ _ _ (by rw[KD,Ad];omega),ah rfl]
  ·rw[rp _ _ _ _ (by omega),Sw W (by omega)]
   exact Q4 k (by omega) (by omega) hl
end
theorem Ht{b r:Nat}{l ws:List Int}{a:Nat}(hr:0<r)(ha:a<b+2∨b+2+r≤a):∀k,(ki b r l ws k).getD a 0=ws.getD a 0
 | 0=>rfl
 |k+1=>by
  have:=nT (1+k) hr
  rw[ki,rp _ _ _ _ (by omega)];exact Ht hr ha k
theorem UD{b r:Nat}{l ws:List Int}{i:Nat}(hr:0<r)(hl:b+2+r≤ws.length):∀k,k≤r→i<k→(ki b r l ws k).getD (b+2+(1+i) % r) 0=l.getD i 0
 | 0,_,h=>absurd h (nV _)
 |k+1,hk,h=>by
  rw[ki]
  by_cases e:i=k
  ·subst e
   have:=nT (1+i) hr
   rw[A4 _ _ _ _ (by rw[Q3];omega),ah rfl]
  ·have:=Vb (a:=1+i) (c:=1+k) (m:=r) (by omega) (by omega)
   rw[rp _ _ _ _ (by omega)]
   exact UD hr hl k (by omega) (by omega)
theorem UE{b r:Nat}{l ws:List Int}{a:Nat}(hr:0<r)(ha:a<b∨b+2+r≤a):(nY b r l ws).getD a 0=ws.getD a 0:=by
 rw[nY,Ht hr (by omega),rp _ _ _ _ (by omega),rp _ _ _ _ (by omega)]
theorem aez{b r:Nat}{l ws:List Int}(hr:0<r)(hl:b+2+r≤ws.length):(nY b r l ws).getD b 0=1:=by
 rw[nY,Ht hr (by omega),rp _ _ _ _ (by omega),A4 _ _ _ _ (by omega),ah rfl]
theorem aeB{b r:Nat}{l ws:List Int}(hr:0<r)(hl:b+2+r≤ws.length):(nY b r l ws).getD (b+1) 0=((1+l.length:Nat):Int):=by
 rw[nY,Ht hr (by omega),A4 _ _ _ _ (by rw[cM];omega),ah rfl]
theorem aeA{b r:Nat}{l ws:List Int}{i:Nat}(hr:0<r)(hl:b+2+r≤ws.length)(hk:l.length≤r)(hi:i<l.length):(nY b r l ws).getD (b+2+(1+i) % r) 0=l.getD i 0:=by
 rw[nY];exact UD hr (by rw[cM,cM];exact hl) _ hk hi
section
variable {b0 N:Nat} {ls:List (List Int)} {ws:List Int}
theorem UB{a:Nat}(ha:a<b0):∀k,(lf b0 (N+3) (N+1) ls ws k).getD a 0=ws.getD a 0
 | 0=>rfl
 |k+1=>by rw[lf,UE (by omega) (by omega)];exact UB ha k
theorem Vp{j a:Nat}(h2:a<b0+j*(N+3)+(N+3)):∀k,j<k→(lf b0 (N+3) (N+1) ls ws k).getD a 0=(lf b0 (N+3) (N+1) ls ws (j+1)).getD a 0
 | 0,h=>absurd h (nV _)
 |k+1,h=>by
  by_cases e:j=k
  ·subst e;rfl
  ·have h3:=kg (N+3) (show j+1≤k by omega)
   rw[qa]at h3
   rw[lf,UE (by omega) (by omega)]
   exact Vp h2 k (by omega)
end
theorem aeC{N W:Nat}{st:Nat→List Int}{ls:List (List Int)}{ws:List Int}{j:Nat}{c:List Int}{cap:Int}(IH:rm cap=N+1)(hl:N*W+N+1+ls.length*(N+3)≤ws.length)(hj:ls[j]?=some c)(hc:c.length≤N):DB (N*W+N+1+j*(N+3)) cap (zg N W st ls ws) 0 1 c:=by
 have ij:=(ck.1 hj).1
 have h3:=kg (N+3) (show j+1≤ls.length by omega)
 rw[qa]at h3
 have my:∀a,a<N*W+N+1+j*(N+3)+(N+3)→(zg N W st ls ws).getD a 0=(nY (N*W+N+1+j*(N+3)) (N+1) c (lf (N*W+N+1) (N+3) (N+1) ls ((nr N W st ws N).set (N*W+N) (N:Int)) j)).getD a 0:=fun a ha=>by
  rw[zg,Vp ha _ ij,lf]
  have e:ls.getD j []=c:=by rw[aW,hj];rfl
  rw[e]
 have hlen:(lf (N*W+N+1) (N+3) (N+1) ls ((nr N W st ws N).set (N*W+N) (N:Int)) j).length=ws.length:=by rw[Qr,cM,Ad]
 refine⟨by rw[XM,IH];omega,?_,aR _,?_,by omega,fun i hi=>?_⟩
 ·rw[my _ (by omega),aez (by omega) (by omega)];rfl
 ·rw[my _ (by omega),aeB (by omega) (by omega)];rfl
 ·rw[IH]
  have:=nT (1+i) (show 0<N+1 by omega)
  rw[my _ (by omega),aeA (by omega) (by omega) (by omega) hi,aW,bj hi];rfl
section
variable {s:Sy} {l:Lay} (hs:LS s l)
include hs
theorem LS.Gk{v i:Nat}(hi:i<nW l):fM s.what s.w i (wd (gh s v) i):=by
 have h:=(hs.rO).1 (K6 hs.fit hs.jf v)
 rw[← tR];exact h.2 i hi
theorem Uv{v:Nat}{ws:List Int}(h:pT s l ws):∀k,k≤nW l→pT s l (ox (v*nW l) (gh s v) ws k)
 | 0,_=>h
 |k+1,hk=>by
  have ih:=Uv h k (by omega) (v:=v)
  rw[ox]
  exact⟨by rw[cM];exact ih.1,ih.2.abq (by omega) (hs.Gk (by omega))⟩
theorem Tj{ws:List Int}(h:pT s l ws):∀k,pT s l (nr (nN s) (nW l) (fun v=>gh s v) ws k)
 | 0=>h
 |k+1=>by
  rw[nr]
  exact (Uv hs (Tj h k) _ (aR _)).hi (by omega) (by unfold bK;omega)
theorem Vo{b r:Nat}{x ws:List Int}(hb:nN s*nW l≤b)(hx:∀z∈x,0≤z∧z<(nN s:Int))(h:pT s l ws):∀k,pT s l (ki b r x ws k)
 | 0=>h
 |k+1=>by
  rw[ki]
  refine (Vo hb hx h k).hi (by omega) ?_
  have hn:=hs.nn
  rw[aW]
  cases hk:x[k]? with
  |none=>exact Ay
  |some z=>
   have:=hx z (cu hk)
   show bK z
   unfold bK;omega
theorem Vn{ls:List (List Int)}{ws:List Int}(hx:∀x∈ls,x.length≤256∧∀z∈x,0≤z∧z<(nN s:Int))(h:pT s l ws):∀k,pT s l (lf (nN s*nW l+nN s+1) (nN s+3) (nN s+1) ls ws k)
 | 0=>h
 |k+1=>by
  rw[lf,nY]
  have h2:(ls.getD k []).length≤256∧∀z∈ls.getD k [],0≤z∧z<(nN s:Int):=by
   rw[aW]
   cases hk:ls[k]? with
   |none=>exact⟨bE _,fun z hz=>by cases hz⟩
   |some x=>exact hx x (cu hk)
  refine Vo hs (by omega) h2.2 (((Vn hx h k).hi (by omega) (by unfold bK;omega)).hi (by omega) ?_) _
  unfold bK;omega
theorem Uw(cd:kq s l):pT s l (eJ s l):=by
 unfold eJ zf zg
 have hn:=hs.nn
 refine Vn hs (cd.rows hn.2.2) (pT.hi (Tj hs ⟨gG,aee s l _⟩ _) (by omega) ?_) _
 unfold bK;omega
end
theorem TV{α:Type}(g:α→Nat)(f:α→Nat)(k:Nat):∀(al:List α),(∀x∈al,f x<k)→SX.aI (fun u=>SX.aI g (al.filter fun x=>decide (f x=u))) (List.range k)=SX.aI g al
 | [],_=>by
  have:∀l:List Nat,SX.aI (fun u=>SX.aI g (([]:List α).filter fun x=>decide (f x=u))) l=0:=fun l=>by
   induction l with
   |nil=>rfl
   |cons a l ih=>show 0+_=0;rw[dM];exact ih
  exact this _
 |a::al,h=>by
  have ih:=TV g f k al fun x hx=>h x (cQ _ hx)
  have h1:=SX.L9 (f:=fun u=>SX.aI g ((a::al).filter fun x=>decide (f x=u))) (g:=fun u=>SX.aI g (al.filter fun x=>decide (f x=u))) (u:=f a) (l:=List.range k) JV (gb.2 (h a (bU ..))) (fun u _ hu=>by
   show SX.aI g _=SX.aI g _
   rw[Co,ag (by rw[bH fun e=>hu e.symm];decide)])
  have h2:SX.aI g ((a::al).filter fun x=>decide (f x=f a))=g a+SX.aI g (al.filter fun x=>decide (f x=f a)):=by
   rw[Co,ah (aL rfl)];rfl
  rw[ih]at h1
  rw[h2]at h1
  show _=g a+SX.aI g al
  omega
theorem Sl{α:Type}(l:List α):SX.aI (fun _=>1) l=l.length:=by
 induction l with
 |nil=>rfl
 |cons a l ih=>show 1+SX.aI _ l=l.length+1;omega
theorem abd(v:Nat)(l:List Int):SX.aI (fun x:Int=>if x.toNat=v then 1 else 0) l=(l.map Int.toNat).count v:=by
 induction l with
 |nil=>rfl
 |cons a l ih=>
  show (if a.toNat=v then 1 else 0)+SX.aI _ l=_
  rw[o0,List.count_cons,ih]
  by_cases h:a.toNat=v
  ·rw[if_pos h,if_pos (by simp[h])];omega
  ·rw[if_neg h,if_neg (by simp[h])];omega
theorem Sk{α β:Type}(f:α→Nat)(g:β→α)(l:List β):SX.aI f (l.map g)=SX.aI (fun x=>f (g x)) l:=by
 unfold SX.aI;rw[Ca];rfl
def D0(s:Sy)(l:Lay):List (List Nat):=(nw s l).map fun c=>c.map Int.toNat
theorem VX{s:Sy}{l:Lay}(cd:kq s l)(g:Nat→Nat):SX.aI (fun c=>SX.aI g c) (D0 s l)=SX.aI (fun x:Int=>g x.toNat) (oM (nN s) s.aT s.entry).reverse:=by
 have h1:∀x∈(oM (nN s) s.aT s.entry).reverse,((lK (nN s) l.k.toNat s.aT).getD x.toNat 0).toNat<l.k.toNat:=fun x hx=>by
  have h2:=cd.all.rg x (yf.1 hx)
  have:=cd.own x.toNat (by omega)
  omega
 rw[← TV (fun x:Int=>g x.toNat) (fun x=>((lK (nN s) l.k.toNat s.aT).getD x.toNat 0).toNat) l.k.toNat _ h1]
 unfold D0 nw zi mI
 rw[Ca,Sk]
 refine SX.CP fun u hu=>?_
 show SX.aI g ((List.filter _ _).map Int.toNat)=_
 rw[Sk]
 congr 1
 refine List.filter_congr fun x hx=>?_
 have h2:=cd.all.rg x (yf.1 hx)
 have h3:=cd.own x.toNat (by omega)
 by_cases h:(lK (nN s) l.k.toNat s.aT).getD x.toNat 0=(u:Int)
 ·rw[aL h,aL (by omega)]
 ·rw[bH h,bH (by omega)]
theorem acH(v:Nat)(c:List Nat):c.count v=SX.aI (fun z=>if z=v then 1 else 0) c:=by
 induction c with
 |nil=>rfl
 |cons a c ih=>
  show _=(if a=v then 1 else 0)+SX.aI _ c
  rw[← ih,List.count_cons]
  by_cases h:a=v
  ·rw[if_pos h,if_pos (by simp[h])];omega
  ·rw[if_neg h,if_neg (by simp[h])];omega
theorem VY{s:Sy}{l:Lay}(cd:kq s l):SX.aI List.length (D0 s l)=nN s:=by
 have h:=VX cd fun _=>1
 have h2:SX.aI List.length (D0 s l)=SX.aI (fun c=>SX.aI (fun _=>1) c) (D0 s l):=SX.CP fun c _=>(Sl c).symm
 rw[h2,h,Sl,tb,cd.all.len]
theorem adl{s:Sy}{l:Lay}(cd:kq s l)(v:Nat):SX.aI (fun c=>c.count v) (D0 s l)=if v<nN s then 1 else 0:=by
 have h:=VX cd fun z=>if z=v then 1 else 0
 have h2:SX.aI (fun c=>c.count v) (D0 s l)=SX.aI (fun c=>SX.aI (fun z=>if z=v then 1 else 0) c) (D0 s l):=SX.CP fun c _=>acH v c
 rw[h2,h,abd]
 have cf:((oM (nN s) s.aT s.entry).reverse.map Int.toNat).Nodup:=by
  refine zV.2 (List.Pairwise.imp_of_mem (fun {a b} ha hb aQ e=>aQ ?_) ((List.reverse_perm _).nodup_iff.2 cd.all.nd))
  have h3:=cd.all.rg a (yf.1 ha)
  have h4:=cd.all.rg b (yf.1 hb)
  omega
 rw[cf.count]
 by_cases hv:v<nN s
 ·rw[ah hv,ah (dL.2 ⟨(v:Int),yf.2 (cd.all.all v ⟨by omega,by omega⟩),bO _⟩)]
 ·rw[ag hv,ag fun h=>?_]
  obtain⟨z,hz,rfl⟩:=dL.1 h
  have:=cd.all.rg z (yf.1 hz)
  omega
section
variable {s:Sy} {l:Lay} (hs:LS s l) (cd:kq s l)
include hs cd
theorem Wx{j:Nat}{c:List Nat}(h:(D0 s l)[j]?=some c):(nw s l)[j]?=some (iY c)∧c.length≤nN s:=by
 unfold D0 at h
 rw[fm]at h
 cases hx:(nw s l)[j]? with
 |none=>rw[hx]at h;cases h
 |some x=>
  rw[hx]at h
  cases h
  have hn:=hs.nn
  have h1:=cd.rows hn.2.2 x (cu hx)
  have e:iY (x.map Int.toNat)=x:=by
   show (x.map Int.toNat).map _=x
   rw[Ca]
   conv=>rhs;rw[← List.map_id x]
   refine yi fun z hz=>?_
   have:=h1.2 z hz
   show ((z.toNat:Nat):Int)=z
   omega
  refine⟨by rw[e],?_⟩
  rw[cj]
  have ie:=cu hx
  unfold nw zi mI at ie
  obtain⟨u,_,rfl⟩:=dL.1 ie
  have hlen:=Cu (fun y=>decide ((lK (nN s) l.k.toNat s.aT).getD y.toNat 0=(u:Int))) (oM (nN s) s.aT s.entry).reverse
  rw[tb,cd.all.len]at hlen
  exact hlen
end
theorem TU{α:Type}{f:α→Nat}{x:α}(h:f x=0)(k:Nat):SX.aI f (List.replicate k x)=0:=SX.Ae fun y hy=>by rw[Cr hy];exact h
theorem LQ{s:Sy}{l:Lay}{a:Nat}(ha:a<nN s*nW l+nN s+1)(ws:List Int):(zf s l ws).getD a 0=((nr (nN s) (nW l) (fun v=>gh s v) ws (nN s)).set (nN s*nW l+nN s) (nN s:Int)).getD a 0:=UB ha _
theorem RV{s:Sy}{l:Lay}(hs:LS s l):(∀v i,v<nN s→i<nW l→(eJ s l).getD (v*nW l+i) 0=wd (gh s v) i)∧(∀v,v<nN s→(eJ s l).getD (nN s*nW l+v) 0=1)∧(eJ s l).getD (nN s*nW l+nN s) 0=(nN s:Int):=by
 have eC:=hs.size.2.2
 have fC:=hs.low
 have wh:(List.replicate (nG l) (0:Int)).length=nG l:=gG
 refine⟨fun v i hv hi=>?_,fun v hv=>?_,?_⟩
 ·have:=tE hv hi
  unfold eJ
  rw[LQ (by omega),rp _ _ _ _ (by omega),R0 hi _ (aR _) hv (by rw[wh];omega)]
 ·unfold eJ
  rw[LQ (by omega),rp _ _ _ _ (by omega),Q4 _ (aR _) hv (by rw[wh];omega)]
 ·unfold eJ
  rw[LQ (by omega),A4 _ _ _ _ (by rw[Ad,wh];omega),ah rfl]
section
variable {s:Sy} {l:Lay} {hs:LS s l} (cd:kq s l)
include cd
theorem rj0:RJ s l hs (W0 l) (eJ s l) (D0 s l) (fun _=>1) 1:=by
 have lV:=hs.k1
 have cY:=Qe s l
 have hn:=hs.nn
 have JG:(D0 s l).length=l.k.toNat:=by unfold D0;rw[cj,cY]
 have JC:(W0 l).length=l.k.toNat:=gG
 obtain⟨lr,lX,B3⟩:=RV hs
 have gL:=Uw hs cd
 have zt:∀x∈W0 l,x=oP:=fun x hx=>Cr hx
 have mX:∀p∈(bZ s l (W0 l) (eJ s l) (D0 s l)).ph,p=.idle 0 0:=fun p hp=>by
  obtain⟨x,hx,rfl⟩:=dL.1 hp
  rw[zt x hx];rfl
 refine⟨by rw[JC];omega,gL.1,by rw[B3];omega,by rw[JG,JC],fun j c hj=>?_,fun _=>aR _,fun x hx=>?_,fun x hx=>?_,fun x hx=>?_,?_⟩
 ·have ij:=(ck.1 hj).1
  obtain⟨h1,h2⟩:=Wx hs cd hj
  have hW:(W0 l)[j]?=some oP:=by unfold W0;rw[wM,ah (by omega)]
  rw[AJ hW]
  refine⟨?_,trivial,fun z hz=>?_⟩
  ·refine aeC hs.room.2 ?_ h1 (by rw[cj];exact h2)
   rw[cY,gG]
   obtain⟨m,hm,OB,um⟩:=hs.kk
   have nS:=hs.vv um
   rw[show l.k.toNat=m by omega]
   unfold nG
   rw[hm,nS]
   omega
  ·obtain⟨i,x,hx,h3,_⟩:=hz
   rw[zt x (cu hx)]at h3
   cases h3
 ·rw[zt x hx];exact⟨by decide,by decide,by decide,by decide⟩
 ·rw[zt x hx];exact fun j h=>by cases h
 ·rw[zt x hx];exact fun j h=>by cases h
 ·refine⟨fun v=>?_,?_,fun c hc v hv=>?_,fun p hp v hv=>?_⟩
  ·unfold SX.tok
   have h1:SX.aI (SX.iM v) (bZ s l (W0 l) (eJ s l) (D0 s l)).ph=0:=SX.Ae fun p hp=>by rw[mX p hp];rfl
   have h2:SX.aI (fun l:List Nat=>l.count v) (bZ s l (W0 l) (eJ s l) (D0 s l)).dq=if v<nN s then 1 else 0:=adl cd v
   rw[h1,h2]
   show _=if decide (v<nN s∧¬(eJ s l).getD (nN s*nW l+v) 0=0)=true then 1 else 0
   by_cases hv:v<nN s
   ·rw[lX v hv,ah hv,ah (aL ⟨hv,by decide⟩)]
   ·rw[ag hv,ag (by rw[bH fun h=>hv h.1];decide)]
  ·show ((eJ s l).getD (nN s*nW l+nN s) 0).toNat=SX.aI List.length (D0 s l)+SX.aI SX.cw (bZ s l (W0 l) (eJ s l) (D0 s l)).ph
   have h1:SX.aI SX.cw (bZ s l (W0 l) (eJ s l) (D0 s l)).ph=0:=SX.Ae fun p hp=>by rw[mX p hp];rfl
   rw[B3,h1,VY cd];omega
  ·obtain⟨j,hj⟩:=sh.1 hc
   obtain⟨h1,h2⟩:=Wx hs cd hj
   have:=(cd.rows hn.2.2 _ (cu h1)).2 (v:Int) (dL.2 ⟨v,hv,rfl⟩)
   show v<nN s
   omega
  ·rw[mX p hp]at hv;cases hv
theorem Vm(hs:LS s l):vA s l ⟨W0 l,eJ s l⟩:=by
 have lV:=hs.k1
 refine⟨by show ((W0 l).length:Int)=l.k;unfold W0;rw[gG];omega,Uw hs cd,fun i x hx=>?_⟩
 rw[Cr (cu hx)]
 exact wv0 hs i
end
set_option maxHeartbeats 4000000
theorem XQ(s:Sy)(k:Int)(aw:List (Int×Int×Unit))(σ:Hp)(hf:Fit s)(he:¬cP s k=0):ACalls Tryz.prog 41 [.agg (aV s),.int .i64 k,.ae jq aw] σ (aB (.tup [.agg (dg .cU ⟨0,0,0,0⟩ .ai .ai .ai 0),.int .i64 (cP s k)]) σ):=by
 refine au Tryz.func41 ?_
 intro aD
 intro du
 intro rb
 refine aa 2 ?_
 refine az [] (HW s k _ hf) ?_
 refine aj 0 ?_
 refine cI (fun c4=>?_) (fun c4=>?_)
 ·have c4:¬(cP s k=0):=by simpa using c4
  refine aj 1 ?_
  refine aa 1 ?_
  exact .drop 0 3 (.done ⟨rfl,rfl⟩)
 ·have c4:cP s k=0:=by simpa using c4
  refine aa 0 ?_
  exact absurd c4 he
theorem Mm{s:Sy}{k:Int}(he:cP s k=0):(ir s k).k=k:=by unfold ir qO;rw[he];rfl
theorem Ls{k:Nat}{v:AV}{acc:Hp}{cs:List AV}(h:Acc 1 k v acc cs)(hk:0<k):∃b,v=.af b 0 k 1∧acc=[(b,cs)]:=by
 cases h with
 |nil=>omega
 |af b k cs h=>exact⟨b,rfl,rfl⟩
def F8(s:Sy)(l:Lay)(bs bp p:Nat)(L:List Nat)(S:Hp):Prop:=S=(bs,aV s)::(bp,dg (.ptr p 0) l .ai .ai .ai 0)::eo s l (cW L) (List.replicate L.length ji)
theorem abm(s:Sy)(l:Lay)(k bs bp p:Nat)(hf:Fit s)(he:cP s l.k=0)(hL:ir s l.k=l)(hk:l.k=k)(L:List Nat)(S τ:Hp)(ab:L.length<k)(hS:F8 s l bs bp p L S):ACalls Tryz.prog 99 (.int .i64 L.length::[.ptr bs 0,.ptr bp 0]) (S++τ) (fun r σ'=>∃w S',r=.ptr w 0∧σ'=S'++τ∧F8 s l bs bp p (L++[w]) S'):=by
 unfold F8 at hS
 subst hS
 refine (ago bs bp L.length s l (.ptr p 0) .ai .ai .ai 0 (eo s l (cW L) (List.replicate L.length ji)++τ) hf he hL (by omega)).Wy (.refl _) ?_
 rintro _ _ ⟨w,rfl,rfl⟩
 refine⟨((bs,aV s)::(bp,dg (.ptr p 0) l .ai .ai .ai 0)::eo s l (cW (L++[w])) (List.replicate (L++[w]).length ji))++τ,?_,w,_,rfl,rfl,rfl⟩
 rw[ab3]
 have h:=n5 [[(bs,aV s),(bp,dg (.ptr p 0) l .ai .ai .ai 0)],eo s l (cW L) (List.replicate L.length ji),WB s l L.length w 0 .ai [] oP] τ (a:=[0,1,2]) (b:=[2,0,1]) (by decide)
 have e:((bs,aV s)::(bp,dg (.ptr p 0) l .ai .ai .ai 0)::(eo s l (cW L) (List.replicate L.length ji)++WB s l L.length w 0 .ai [] oP))++τ=[(bs,aV s),(bp,dg (.ptr p 0) l .ai .ai .ai 0)]++(eo s l (cW L) (List.replicate L.length ji)++(WB s l L.length w 0 .ai [] oP++τ)):=by simp
 rw[e]
 exact h
theorem Sr(l:Lay)(k bp lw:Nat)(mv:AV)(L:List Nat)(hL:L.length=k)(L':List Nat)(S τ:Hp)(ab:L'.length<k)(hS:S=[(bp,dg mv l (.af lw 0 k 1) .ai .ai 0),(lw,L.map pW)]∧L'=L.take L'.length):ACalls Tryz.prog 103 (.int .i64 L'.length::[.ptr bp 0]) (S++τ) (fun r σ'=>∃w S',r=.iface 168 (.ptr w 0)∧σ'=S'++τ∧(S'=[(bp,dg mv l (.af lw 0 k 1) .ai .ai 0),(lw,L.map pW)]∧L'++[w]=L.take (L'++[w]).length)):=by
 obtain⟨rfl,hL'⟩:=hS
 refine (agn bp lw L'.length k L l mv .ai .ai 0 τ hL ab).mono ?_
 rintro _ _ ⟨rfl,rfl⟩
 refine⟨L.getD L'.length 0,_,rfl,rfl,rfl,?_⟩
 rw[bV,td,fw (by omega),← hL',aW,bj (by omega)]
 rfl
theorem Ty(s:Sy)(l:Lay)(hs:LS s l)(cd:kq s l)(p q lb k:Nat)(L:List Nat)(aw:List (Int×Int×Unit))(σ:Hp)(hL:L.length=k)(hk:l.k=k)(ec:k≤64)(lL:aw.length≤100000):
  ACalls Tryz.prog 101 [kB p,.af lb 0 k 1,.ae jq aw] ((lb,L.map iW)::(bG p q (eJ s l) (eo s l (cW L) (List.replicate L.length ji))++σ)) (fun r σ'=>∃Z:List WZ,Z.map (·.x)=(cF s l aw).a.W∧r=.agg [.ae (.int .i64) (cF s l aw).st,.ae .bool (cF s l aw).dn,.int .i64 (cF s l aw).us]∧σ'=(lb,L.map iW)::(bG p q (cF s l aw).a.ws (eo s l (cW L) Z)++σ)):=by
 have hI:((cW L).length:Int)=l.k:=by rw[C9];omega
 have p7:sj.abs ⟨eJ s l,List.replicate L.length ji⟩=⟨W0 l,eJ s l⟩:=by
  show WA.mk ((List.replicate L.length ji).map (·.x)) (eJ s l)=_
  rw[List.map_replicate]
  unfold W0
  rw[show l.k.toNat=L.length by omega];rfl
 have hl:(DJ s l hs p q (cW L) (Da L) hI).L.length=k:=by
  show ((cW L).map _).length=_
  rw[cj,C9];exact hL
 have hLL:(DJ s l hs p q (cW L) (Da L) hI).L=L.map iW:=acb L
 have hE:=ahi (DJ s l hs p q (cW L) (Da L) hI) lb aw (⟨eJ s l,List.replicate L.length ji⟩:sj) σ (by omega) lL (by
  show vA s l (sj.abs ⟨eJ s l,List.replicate L.length ji⟩)
  rw[p7];exact Vm cd hs) (fun _ _=>rfl)
 have fG:(DJ s l hs p q (cW L) (Da L) hI).run aw (sj.abs ⟨eJ s l,List.replicate L.length ji⟩)=cF s l aw:=by
  unfold AWorld.run AWorld.init
  rw[hl,hLL,p7]
  have e1:(L.map iW).map isNil=List.replicate k false:=by
   rw[← hL,Ca]
   exact List.map_eq_replicate_iff.2 fun _ _=>rfl
  rw[e1]
  unfold cF oZ sL
  rw[show l.k.toNat=k by omega];rfl
 have zS:ACalls Tryz.prog 101 [kB p,.af lb 0 k 1,.ae jq aw] ((lb,L.map iW)::(bG p q (eJ s l) (eo s l (cW L) (List.replicate L.length ji))++σ)) (L3 (DJ s l hs p q (cW L) (Da L) hI) aw (sj.abs ⟨eJ s l,List.replicate L.length ji⟩) [(lb,L.map iW)] σ):=by
  rw[hl,hLL]at hE;exact hE
 refine zS.mono ?_
 rintro _ _ ⟨t',h1,rfl,rfl⟩
 have h1:sj.abs t'=(cF s l aw).a:=Eq.trans h1 (congrArg gw.a fG)
 rw[fG]
 refine⟨t'.Z,congrArg WA.W h1,rfl,?_⟩
 have h2:t'.ws=(cF s l aw).a.ws:=congrArg WA.ws h1
 rw[← h2];rfl
theorem aaZ(s:Sy)(k:Nat)(l:Lay)(hl:ir s k=l)(aw:List (Int×Int×Unit))(σ:Hp)(hf:Fit s)(he:cP s k=0)(lL:aw.length≤100000):
  ACalls Tryz.prog 41 [.agg (aV s),.int .i64 k,.ae jq aw] σ (fun r σ'=>∃(p q lw:Nat) (L:List Nat) (Z:List WZ),r=.tup [.agg (dg (.ptr p 0) l (.af lw 0 k 1) (.ae (.int .i64) (cF s l aw).st) (.ae .bool (cF s l aw).dn) (cF s l aw).us),.int .i64 0]∧L.length=k∧Z.map (·.x)=(cF s l aw).a.W∧σ'=(lw,L.map pW)::bG p q (cF s l aw).a.ws (eo s l (cW L) Z++σ)∧kq s l):=by
 obtain⟨hs,JE⟩:=DX hf he
 obtain⟨xR,gm,mw⟩:=hs.size
 obtain⟨lV,ec⟩:=(LH he).2
 have Wj:=fun p q ws σ (eC:nG (ir s k)≤ws.length)=>afg s k p q ws σ hf he eC
 have hk:l.k=k:=by rw[← hl];exact Mm he
 have e1:AV.tup [.agg (gR (ir s k)),.int .i64 (cP s k)]=.tup [.agg (gR l),.int .i64 (cP s k)]:=by rw[hl]
 have zS:cP s l.k=0:=by rw[hk];exact he
 have hL2:ir s l.k=l:=by rw[hk];exact hl
 rw[hl]at hs xR gm mw Wj
 refine au Tryz.func41 ?_
 generalize hE:cP s k=E at e1 he
 intro bs
 intro br
 intro bp
 refine aa 2 ?_
 refine az [] (qg (HW s k _ hf) (hE▸e1)) ?_
 refine aj 0 ?_
 refine cI (fun c1=>?_) (fun c1=>?_)
 ·have c1:¬(cP s (↑k:Int)=0):=by simpa using c1
  refine aj 1 ?_
  refine aa 1 ?_
  exact absurd (hE.trans he) c1
 ·have c1:cP s (↑k:Int)=0:=by simpa using c1
  refine aa 0 ?_
  refine az [] (VK l _) ?_
  (refine .mk [] _ (aiA _ _) ?_;rintro _ _ ⟨p,q,rfl,rfl⟩)
  rw[mw]
  obtain⟨us,ga⟩:∃us,List.replicate (nG l) (0:Int)=us:=⟨_,rfl⟩
  have fP:us.length=nG l:=by rw[← ga];exact gG
  rw[ga,← fP]
  refine aj 2 ?_
  refine aa 2 ?_
  refine aa 4 ?_
  (refine .mk [] _ (Wj p q us _ (by omega)) ?_;rintro _ _ ⟨rfl,rfl,cd⟩)
  have ahN:zf s l us=eJ s l:=by rw[← ga];rfl
  rw[ahN]
  refine .perm (σ2:=[(bs,aV s),(bp,dg (.ptr p 0) l .ai .ai .ai 0)]++bG p q (eJ s l) ((br,dg .cU ⟨0,0,0,0⟩ .ai .ai .ai 0)::σ)) _ (n5 [[(bs,aV s)],[(bp,dg (.ptr p 0) l .ai .ai .ai 0)],bG p q (eJ s l) [],[(br,dg .cU ⟨0,0,0,0⟩ .ai .ai .ai 0)]] σ (a:=[0,1,2,3]) (b:=[2,1,3,0]) (by decide)) (agy 99 [.ptr bs 0,.ptr bp 0] (F8 s l bs bp p) _ _ rfl k (by omega) (fun L S τ h1 h2=>abm s l k bs bp p hf zS hL2 hk L S τ h1 h2)) ?_
  rintro v _ ⟨L,S',acc,hL,B6,cH,rfl⟩
  unfold F8 at B6
  subst B6
  obtain⟨lw,rfl,rfl⟩:=Ls cH (by omega)
  refine⟨_,.refl _,?_⟩
  refine aj 2 ?_
  refine .sched [] (.one 0 false (.one 3 false (.one 4 false (.one 6 false (.alt 1 (.one 2 false (.one 5 false (.one 7 false (.one 8 false (.one 9 false .stop))))) (.one 5 false (.one 1 false (.one 2 false (.one 7 false (.one 8 false (.one 9 false .stop))))))))))) (by kernel_rfl) ?_
  refine And.intro ?_ ?_
  ·refine aa 2 ?_
   refine .perm (σ2:=[(bp,dg (.ptr p 0) l (.af lw 0 k 1) .ai .ai 0),(lw,L.map pW)]++((bs,aV s)::(eo s l (cW L) (List.replicate L.length ji)++bG p q (eJ s l) ((br,dg .cU ⟨0,0,0,0⟩ .ai .ai .ai 0)::σ)))) _ (n5 [[(bp,dg (.ptr p 0) l (.af lw 0 k 1) .ai .ai 0)],[(lw,L.map pW)],[(bs,aV s)],eo s l (cW L) (List.replicate L.length ji),bG p q (eJ s l) [],[(br,dg .cU ⟨0,0,0,0⟩ .ai .ai .ai 0)]] σ (a:=[0,1,2,3,4,5]) (b:=[1,2,0,3,4,5]) (by decide)) (VQ 103 [.ptr bp 0] (fun L' S=>S=[(bp,dg (.ptr p 0) l (.af lw 0 k 1) .ai .ai 0),(lw,L.map pW)]∧L'=L.take L'.length) _ _ ⟨rfl,rfl⟩ k (by omega) (fun L' S τ h1 h2=>Sr l k bp lw (.ptr p 0) L hL L' S τ h1 h2)) ?_
   rintro v2 _ ⟨L',S2,aiu,NS,⟨rfl,Fs⟩,D7,rfl⟩
   rw[NS,← hL,fu]at Fs
   rw[Fs]at D7
   obtain⟨lb,rfl,rfl⟩:=Ls D7 (by omega)
   refine⟨_,.refl _,?_⟩
   have hR:=Ty s l hs cd p q lb k L aw ([(bp,dg (.ptr p 0) l (.af lw 0 k 1) .ai .ai 0),(br,dg .cU ⟨0,0,0,0⟩ .ai .ai .ai 0),(bs,aV s),(lw,L.map pW)]++σ) hL hk (by omega) lL
   refine .perm _ (n5 [[(lb,L.map iW)],bG p q (eJ s l) [],eo s l (cW L) (List.replicate L.length ji),[(bp,dg (.ptr p 0) l (.af lw 0 k 1) .ai .ai 0)],[(br,dg .cU ⟨0,0,0,0⟩ .ai .ai .ai 0)],[(bs,aV s)],[(lw,L.map pW)]] σ (a:=[0,1,2,3,4,5,6]) (b:=[0,3,6,5,2,1,4]) (by decide)) hR ?_
   rintro _ _ ⟨Z,hZ,rfl,rfl⟩
   refine⟨_,n5 [[(lb,L.map iW)],bG p q (cF s l aw).a.ws [],eo s l (cW L) Z,[(bp,dg (.ptr p 0) l (.af lw 0 k 1) .ai .ai 0)],[(br,dg .cU ⟨0,0,0,0⟩ .ai .ai .ai 0)],[(bs,aV s)],[(lw,L.map pW)]] σ (a:=[0,3,4,5,6,1,2]) (b:=[0,1,2,3,4,5,6]) (by decide),?_⟩
   refine aj 1 ?_
   refine aa 1 ?_
   refine aj 2 ?_
   refine aa 2 ?_
   exact .drop 0 4 (.done ⟨p,q,lw,L,Z,rfl,hL,hZ,rfl,cd⟩)
  ·refine .perm (σ2:=[(bp,dg (.ptr p 0) l (.af lw 0 k 1) .ai .ai 0),(lw,L.map pW)]++((bs,aV s)::(eo s l (cW L) (List.replicate L.length ji)++bG p q (eJ s l) ((br,dg .cU ⟨0,0,0,0⟩ .ai .ai .ai 0)::σ)))) _ (n5 [[(bp,dg (.ptr p 0) l (.af lw 0 k 1) .ai .ai 0)],[(lw,L.map pW)],[(bs,aV s)],eo s l (cW L) (List.replicate L.length ji),bG p q (eJ s l) [],[(br,dg .cU ⟨0,0,0,0⟩ .ai .ai .ai 0)]] σ (a:=[0,1,2,3,4,5]) (b:=[1,2,0,3,4,5]) (by decide)) (VQ 103 [.ptr bp 0] (fun L' S=>S=[(bp,dg (.ptr p 0) l (.af lw 0 k 1) .ai .ai 0),(lw,L.map pW)]∧L'=L.take L'.length) _ _ ⟨rfl,rfl⟩ k (by omega) (fun L' S τ h1 h2=>Sr l k bp lw (.ptr p 0) L hL L' S τ h1 h2)) ?_
   rintro v2 _ ⟨L',S2,aiu,NS,⟨rfl,Fs⟩,D7,rfl⟩
   rw[NS,← hL,fu]at Fs
   rw[Fs]at D7
   obtain⟨lb,rfl,rfl⟩:=Ls D7 (by omega)
   refine⟨_,.refl _,?_⟩
   refine aa 1 ?_
   have hR:=Ty s l hs cd p q lb k L aw ([(bp,dg (.ptr p 0) l (.af lw 0 k 1) .ai .ai 0),(br,dg .cU ⟨0,0,0,0⟩ .ai .ai .ai 0),(bs,aV s),(lw,L.map pW)]++σ) hL hk (by omega) lL
   refine .perm _ (n5 [[(lb,L.map iW)],bG p q (eJ s l) [],eo s l (cW L) (List.replicate L.length ji),[(bp,dg (.ptr p 0) l (.af lw 0 k 1) .ai .ai 0)],[(br,dg .cU ⟨0,0,0,0⟩ .ai .ai .ai 0)],[(bs,aV s)],[(lw,L.map pW)]] σ (a:=[0,1,2,3,4,5,6]) (b:=[0,3,6,5,2,1,4]) (by decide)) hR ?_
   rintro _ _ ⟨Z,hZ,rfl,rfl⟩
   refine⟨_,n5 [[(lb,L.map iW)],bG p q (cF s l aw).a.ws [],eo s l (cW L) Z,[(bp,dg (.ptr p 0) l (.af lw 0 k 1) .ai .ai 0)],[(br,dg .cU ⟨0,0,0,0⟩ .ai .ai .ai 0)],[(bs,aV s)],[(lw,L.map pW)]] σ (a:=[0,3,4,5,6,1,2]) (b:=[0,1,2,3,4,5,6]) (by decide),?_⟩
   refine aj 1 ?_
   refine aa 1 ?_
   refine aj 2 ?_
   refine aa 2 ?_
   exact .drop 0 4 (.done ⟨p,q,lw,L,Z,rfl,hL,hZ,rfl,cd⟩)
set_option maxHeartbeats 4000000
theorem ahh(p q:Nat)(ws:List Int)(b c:Int)(σ:Hp):ACalls Tryz.prog 53 [.agg [.int .i64 b,.int .i64 c],kB p] (bG p q ws σ) (aB (.int .i64 (wr (cN ws b))) (bG p q ws σ)):=by
 refine au Tryz.func53 ?_
 intro aD
 refine .sched [1] (upto [1] 7 0) (by kernel_rfl) ?_
 refine aH [] (dF _ _ _) ?_
 refine aa 0 ?_
 refine⟨_,mLoad_,?_⟩
 refine az [2,2] (aLoad p q _ _ _) ?_
 exact .drop 2 1 (.done ⟨rfl,rfl⟩)
theorem adj(p q:Nat)(ws:List Int)(b c:Int)(σ:Hp):ACalls Tryz.prog 55 [.agg [.int .i64 b,.int .i64 c],kB p] (bG p q ws σ) (aB (.int .i64 (wr (cN ws (eZ b)))) (bG p q ws σ)):=by
 refine au Tryz.func55 ?_
 intro aD
 refine .sched [1,3] (upto [1,3] 10 0) (by kernel_rfl) ?_
 refine aH [] (dF _ _ _) ?_
 refine aa 0 ?_
 refine aH [] (tH _ _ _) ?_
 refine ff.mk hLoad_ ?_
 refine⟨_,mLoad_,?_⟩
 refine az [2,2] (aLoad p q _ _ _) ?_
 exact .drop 2 1 (.done ⟨rfl,rfl⟩)
set_option maxHeartbeats 4000000
theorem afi(s:Sy)(l:Lay)(p q lw n:Nat)(L:List Nat)(Z:List WZ)(W:List WS)(st:List Int)(dn:List Bool)(us:Int)(ws:List Int)(σ:Hp)(hW:Z.map (·.x)=W)(hL:L.length=n)(hZ:W.length=n)(hn:n≤64):
  ACalls Tryz.prog 44 [.agg (dg (.ptr p 0) l (.af lw 0 n 1) (.ae (.int .i64) st) (.ae .bool dn) us)] ((lw,L.map pW)::bG p q ws (eo s l (cW L) Z++σ)) (aB (.tup [.int .i64 (jG W),.int .i64 (kE W)]) ((lw,L.map pW)::bG p q ws (eo s l (cW L) Z++σ))):=by
 have hZl:Z.length=n:=by rw[← hZ,← hW,cj]
 refine au Tryz.func44 ?_
 intro b1
 refine aa 0 ?_
 refine cc (S:=Nat) (fun i=>[(4,.int .i64 (jG (W.take i))),(5,.int .i64 (kE (W.take i))),(9,.af lw 0 n 1),(10,.int .i64 n),(11,.int .i64 i)]) (fun _=>(b1,dg (.ptr p 0) l (.af lw 0 n 1) (.ae (.int .i64) st) (.ae .bool dn) us)::(lw,L.map pW)::bG p q ws (eo s l (cW L) Z++σ)) (fun i=>i≤n) (fun i=>n-i) 0 ⟨bE _,⟨rfl,rfl,rfl,rfl,rfl,trivial⟩,rfl⟩ ?_
 intro i g eD
 have hi:i≤n:=eD
 clear eD
 refine ak (p:=(i:Int)<(n:Int)) (fun ab=>?_) (fun aq=>?_)
 rotate_left
 ·have aq:i=n:=by omega
  have e:W.take i=W:=fe (by omega)
  rw[e]
  exact .drop 0 1 (.done ⟨rfl,rfl⟩)
 have ab:i<n:=by omega
 have hg:(L.map pW)[0+((i:Int)).toNat*1]?=some (.ptr L[i] 0):=by
  rw[bO,er,dM,fm,bj (by omega)];rfl
 refine aK ?_
 refine aZ 1 rfl (iV rfl hg) ?_
 have hw:=TF (s:=s) (l:=l) (I:=cW L) (Z:=Z) (i:=i) (by rw[C9];omega) (by omega)
 have hI:(cW L)[i]'(by rw[C9];omega)=(i,L[i]):=by simp[cW]
 have hx:Z[i].x=W[i]:=by
  have:(Z.map (·.x))[i]'(by rw[cj];omega)=Z[i].x:=FL ..
  rw[← this];congr 1
 rw[hI,hx]at hw
 have ke:=acy (W:=W) (i:=i) (by omega)
 have lW:=ac8 (W:=W) (i:=i) (by omega)
 generalize W[i]=x at hw ke lW
 have hp:((b1,dg (.ptr p 0) l (.af lw 0 n 1) (.ae (.int .i64) st) (.ae .bool dn) us)::(lw,L.map pW)::bG p q ws (eo s l (cW L) Z++σ)).Perm ((L[i],dS s l i x.ev x.jo x.en x.does (Jb Z[i].r x.now) x.node x.has x.nx x.out)::(Jc l x.node Z[i].r Z[i].c Z[i].acc x.now++((b1,dg (.ptr p 0) l (.af lw 0 n 1) (.ae (.int .i64) st) (.ae .bool dn) us)::(lw,L.map pW)::bG p q ws ((((cW L).zip Z).eraseIdx i).flatMap (xO s l)++σ)))):=by
  refine (List.Perm.append_left [_,_,_,_] (List.Perm.append_right σ hw)).trans ?_
  have h:=n5 [[(b1,dg (.ptr p 0) l (.af lw 0 n 1) (.ae (.int .i64) st) (.ae .bool dn) us),(lw,L.map pW)],bG p q ws [],[(L[i],dS s l i x.ev x.jo x.en x.does (Jb Z[i].r x.now) x.node x.has x.nx x.out)],Jc l x.node Z[i].r Z[i].c Z[i].acc x.now,(((cW L).zip Z).eraseIdx i).flatMap (xO s l)] σ (a:=[0,1,2,3,4]) (b:=[2,3,0,1,4]) (by decide)
  unfold WB
  rw[FK,dQ]
  exact h
 refine .dN (.perm hp.symm (.refl _)) ?_
 refine .quiet (by kernel_rfl) ?_
 refine aa 0 ?_
 refine aa 0 ?_
 exact bg (i+1) (by show n-(i+1)<n-i;omega) ab ⟨congrArg (AV.int .i64) ke,congrArg (AV.int .i64) lW,rfl,rfl,a8 (by omega),trivial⟩ (.perm hp (.refl _))
theorem YG(bp p q v:Nat)(l:Lay)(wv st dn:AV)(us:Int)(ws:List Int)(τ:Hp):ACalls Tryz.prog 48 [.int .i64 v,.ptr bp 0] ((bp,dg (.ptr p 0) l wv st dn us)::bG p q ws τ) (aB (.bool (decide (cN ws (wr (cT l+(v:Nat)))=1))) ((bp,dg (.ptr p 0) l wv st dn us)::bG p q ws τ)):=by
 refine au Tryz.func48 ?_
 refine .quiet (by kernel_rfl) ?_
 refine aa 0 ?_
 refine aH [] (AT l _) ?_
 refine aa 0 ?_
 refine aH [2,2] (qg (aeP (cT l) (cE l) v p q ws _) (congrArg AV.bool (by rw[aL (show (0:Int)≤(v:Nat) by omega),wF]))) ?_
 exact .done ⟨rfl,rfl⟩
theorem YC(bp p q v:Nat)(l:Lay)(wv st dn:AV)(us:Int)(ws:List Int)(τ:Hp):ACalls Tryz.prog 51 [.int .i64 v,.ptr bp 0] ((bp,dg (.ptr p 0) l wv st dn us)::bG p q ws τ) (aB (.int .i64 (wr (cN ws (eR l v)))) ((bp,dg (.ptr p 0) l wv st dn us)::bG p q ws τ)):=by
 refine au Tryz.func51 ?_
 refine .quiet (by kernel_rfl) ?_
 refine aa 0 ?_
 refine aH [] (yR l v _) ?_
 refine aa 0 ?_
 refine aH [2,2] (ahh p q ws _ _ _) ?_
 exact .done ⟨rfl,rfl⟩
theorem YF(bp p q v:Nat)(l:Lay)(wv st dn:AV)(us:Int)(ws:List Int)(τ:Hp):ACalls Tryz.prog 54 [.int .i64 v,.ptr bp 0] ((bp,dg (.ptr p 0) l wv st dn us)::bG p q ws τ) (aB (.int .i64 (wr (cN ws (eZ (eR l v))))) ((bp,dg (.ptr p 0) l wv st dn us)::bG p q ws τ)):=by
 refine au Tryz.func54 ?_
 refine .quiet (by kernel_rfl) ?_
 refine aa 0 ?_
 refine aH [] (yR l v _) ?_
 refine aa 0 ?_
 refine aH [2,2] (adj p q ws _ _ _) ?_
 exact .done ⟨rfl,rfl⟩
set_option maxHeartbeats 4000000
def DH(l:Lay)(ws:List Int)(n:Nat):List Bool:=(List.range n).map fun v:Nat=>decide (cN ws (wr (cT l+(v:Nat)))=1)
def yZ(l:Lay)(ws:List Int)(k:Nat):List Int:=(List.range k).map fun v:Nat=>wr (cN ws (eR l v))
def Bo(l:Lay)(ws:List Int)(k:Nat):List Int:=(List.range k).map fun v:Nat=>wr (cN ws (eZ (eR l v)))
def vk(cq:List (List Int))(waits:List Bool)(num ev jo us:Int)(gA oL:List Int)(dn:List Bool):List AV:=[.ae (.slice (.int .u64)) cq,.ae .bool waits,.int .i64 num,.int .i64 ev,.int .i64 jo,.int .i64 us,.ae (.int .i64) gA,.ae (.int .i64) oL,.ae .bool dn]
def oe:List AV:=[.ai,.ai,.int .i64 0,.int .i64 0,.int .i64 0,.int .i64 0,.ai,.ai,.ai]
def yX(cq:List (List Int))(wv:AV)(num ev jo us:Int)(tv bv:AV)(dn:List Bool):List AV:=[.ae (.slice (.int .u64)) cq,wv,.int .i64 num,.int .i64 ev,.int .i64 jo,.int .i64 us,tv,bv,.ae .bool dn]
theorem agF(s:Sy)(k:Int)(aw:List (Int×Int×Unit))(σ:Hp)(hf:Fit s)(he:¬cP s k=0):ACalls Tryz.prog 14 [.agg (aV s),.int .i64 k,.ae jq aw] σ (aB (.tup [.agg oe,.int .i64 (cP s k)]) σ):=by
 refine au Tryz.func14 ?_
 intro aD
 intro du
 refine aa 1 ?_
 refine az [] (XQ s k aw _ hf he) ?_
 intro rb
 refine aj 0 ?_
 refine cI (fun c4=>?_) (fun c4=>?_)
 ·have c4:¬(cP s k=0):=by simpa using c4
  refine aj 1 ?_
  refine aa 1 ?_
  exact .drop 0 3 (.done ⟨rfl,rfl⟩)
 ·have c4:cP s k=0:=by simpa using c4
  exact absurd c4 he
theorem ahs(s:Sy)(k:Nat)(l:Lay)(hl:ir s k=l)(aw:List (Int×Int×Unit))(σ:Hp)(hf:Fit s)(he:cP s k=0)(lL:aw.length≤100000)(ec:k≤64)(hn:l.n=(nN s:Int))(oU:nN s≤100000)(iC:s.n=(nN s:Int))(sd:(cF s l aw).a.W.length=k):ACalls Tryz.prog 14 [.agg (aV s),.int .i64 k,.ae jq aw] σ (fun r σ'=>r=.tup [.agg (vk (qz l (cF s l aw).a.ws (nN s)) (DH l (cF s l aw).a.ws (nN s)) (wr (cN (cF s l aw).a.ws (cE l))) (jG (cF s l aw).a.W) (kE (cF s l aw).a.W) (cF s l aw).us (yZ l (cF s l aw).a.ws k) (Bo l (cF s l aw).a.ws k) (cF s l aw).dn),.int .i64 0]∧σ'=σ∧kq s l):=by
 refine au Tryz.func14 ?_
 intro b3
 intro b6
 refine aa 1 ?_
 refine .perm _ (.refl _) (aaZ s k l hl aw _ hf he lL) ?_
 rintro _ _ ⟨p,q,lw,L,Z,rfl,hL,hZ,rfl,cd⟩
 refine⟨_,n5 [[(lw,L.map pW)],bG p q (cF s l aw).a.ws [],eo s l (cW L) Z,[(b6,oe)],[(b3,aV s)]] σ (a:=[0,3,4,1,2]) (b:=[0,1,2,3,4]) (by decide),?_⟩
 generalize (cF s l aw)=x at hZ sd ⊢
 intro aD
 refine aj 0 ?_
 obtain⟨P,hP⟩:∃P,P=(aD,dg (.ptr p 0) l (.af lw 0 k 1) (.ae (.int .i64) x.st) (.ae .bool x.dn) x.us):=⟨_,rfl⟩
 have q1:(bG p q x.a.ws (P::(lw,L.map pW)::(b6,oe)::(b3,aV s)::(eo s l (cW L) Z++σ))).Perm (P::(lw,L.map pW)::(b6,oe)::(b3,aV s)::bG p q x.a.ws (eo s l (cW L) Z++σ)):=n5 [[P,(lw,L.map pW),(b6,oe),(b3,aV s)],bG p q x.a.ws [],eo s l (cW L) Z] σ (a:=[1,0,2]) (b:=[0,1,2]) (by decide)
 have q2:∀Q,(bG p q x.a.ws (Q::P::(lw,L.map pW)::(b6,oe)::(b3,aV s)::(eo s l (cW L) Z++σ))).Perm (Q::P::(lw,L.map pW)::(b6,oe)::(b3,aV s)::bG p q x.a.ws (eo s l (cW L) Z++σ)):=fun Q=>n5 [[Q,P,(lw,L.map pW),(b6,oe),(b3,aV s)],bG p q x.a.ws [],eo s l (cW L) Z] σ (a:=[1,0,2]) (b:=[0,1,2]) (by decide)
 subst hP
 refine gz.H6 (S:=Nat) [5,8,12] (.one 0 false (.one 1 false (.one 2 false (.one 3 false (.one 4 false (.one 6 false (.one 7 false (.one 9 false (.one 10 false (.one 11 false (.one 13 false (.one 14 false (.one 15 false (.one 16 false (.one 17 false (.one 18 false (.BF 5 (.BF 8 (.BF 12 (.one 19 false (.one 20 false (.one 21 false .stop))) (.one 20 false (.one 12 true (.one 19 false (.one 21 false .stop))))) (.one 20 false (.one 8 true (.one 12 true (.one 19 false (.one 21 false .stop)))))) (.one 20 false (.one 5 true (.one 8 true (.one 12 true (.one 19 false (.one 21 false .stop))))))))))))))))))))))) (fun b=>[(1,.int .i64 k),(3,.ptr b3 0),(6,.ptr b6 0),(8,.ptr aD 0),(10,.ptr b 0)]) (fun b=>(b,yX (qz l x.a.ws (nN s)) .ai (wr (cN x.a.ws (cE l))) 0 0 x.us .ai .ai x.dn)::(aD,dg (.ptr p 0) l (.af lw 0 k 1) (.ae (.int .i64) x.st) (.ae .bool x.dn) x.us)::(lw,L.map pW)::(b6,oe)::(b3,aV s)::bG p q x.a.ws (eo s l (cW L) Z++σ)) (by kernel_rfl) ?_ ?_
 ·repeat' first
   |exact dh.mk _ ⟨rfl,rfl,rfl,rfl,rfl,trivial⟩ (aN rfl)
   |refine And.intro ?_ ?_
   |refine aa 0 ?_
   |refine aa 1 ?_
   |refine aj 0 ?_
   |refine aH [5,5] (KX p q l (nN s) _ _ hn oU) ?_
   |refine aH [6,6] (KX p q l (nN s) _ _ hn oU) ?_
   |refine aH [] (AT l _) ?_
   |refine az [] (AT l _) ?_
   |(refine .perm _ q1 (KX p q l (nN s) _ _ hn oU) ?_;rintro _ _ ⟨rfl,rfl⟩;refine⟨_,q1.symm,?_⟩)
   |(refine .perm _ q1 (L2 _ _ p q _ _) ?_;rintro _ _ ⟨rfl,rfl⟩;refine⟨_,q1.symm,?_⟩)
   |refine aH [5,5] (L2 _ _ p q _ _) ?_
   |refine aH [6,6] (L2 _ _ p q _ _) ?_
   |intro b
 intro b g
 clear q1 q2
 refine aa 1 ?_
 refine .perm _ (n5 [[(lw,L.map pW)],bG p q x.a.ws [],eo s l (cW L) Z,[(b,yX (qz l x.a.ws (nN s)) .ai (wr (cN x.a.ws (cE l))) 0 0 x.us .ai .ai x.dn)],[(aD,dg (.ptr p 0) l (.af lw 0 k 1) (.ae (.int .i64) x.st) (.ae .bool x.dn) x.us)],[(b6,oe)],[(b3,aV s)]] σ (a:=[0,1,2,3,4,5,6]) (b:=[3,4,0,5,6,1,2]) (by decide)) (afi s l p q lw k L Z _ _ _ _ _ _ hZ hL sd ec) ?_
 rintro _ _ ⟨rfl,rfl⟩
 refine⟨(b,yX (qz l x.a.ws (nN s)) .ai (wr (cN x.a.ws (cE l))) 0 0 x.us .ai .ai x.dn)::(aD,dg (.ptr p 0) l (.af lw 0 k 1) (.ae (.int .i64) x.st) (.ae .bool x.dn) x.us)::(lw,L.map pW)::(b6,oe)::(b3,aV s)::bG p q x.a.ws (eo s l (cW L) Z++σ),n5 [[(lw,L.map pW)],bG p q x.a.ws [],eo s l (cW L) Z,[(b,yX (qz l x.a.ws (nN s)) .ai (wr (cN x.a.ws (cE l))) 0 0 x.us .ai .ai x.dn)],[(aD,dg (.ptr p 0) l (.af lw 0 k 1) (.ae (.int .i64) x.st) (.ae .bool x.dn) x.us)],[(b6,oe)],[(b3,aV s)]] σ (a:=[3,4,0,5,6,1,2]) (b:=[0,1,2,3,4,5,6]) (by decide),?_⟩
 refine aj 0 ?_
 refine aj 0 ?_
 refine aa 4 ?_
 have hE1:=fun τ=>agA 48 [.ptr aD 0] ((aD,dg (.ptr p 0) l (.af lw 0 k 1) (.ae (.int .i64) x.st) (.ae .bool x.dn) x.us)::bG p q x.a.ws []) τ (fun v:Nat=>decide (cN x.a.ws (wr (cT l+(v:Nat)))=1)) (nN s) oU (fun i _ τ=>YG aD p q i l _ _ _ _ x.a.ws τ)
 have zS:=fun τ=>VR 51 [.ptr aD 0] ((aD,dg (.ptr p 0) l (.af lw 0 k 1) (.ae (.int .i64) x.st) (.ae .bool x.dn) x.us)::bG p q x.a.ws []) τ (fun v:Nat=>wr (cN x.a.ws (eR l v))) k (by omega) (fun i _ τ=>YC aD p q i l _ _ _ _ x.a.ws τ)
 have hE3:=fun τ=>VR 54 [.ptr aD 0] ((aD,dg (.ptr p 0) l (.af lw 0 k 1) (.ae (.int .i64) x.st) (.ae .bool x.dn) x.us)::bG p q x.a.ws []) τ (fun v:Nat=>wr (cN x.a.ws (eZ (eR l v)))) k (by omega) (fun i _ τ=>YF aD p q i l _ _ _ _ x.a.ws τ)
 rw[← iC]at hE1
 refine az [3,6,6] (hE1 ((b,yX (qz l x.a.ws (nN s)) .ai (wr (cN x.a.ws (cE l))) (jG x.a.W) (kE x.a.W) x.us .ai .ai x.dn)::(lw,L.map pW)::(b6,oe)::(b3,aV s)::(eo s l (cW L) Z++σ))) ?_
 refine aj 3 ?_
 refine az [] (zS ((b,yX (qz l x.a.ws (nN s)) (.ae .bool (DH l x.a.ws (nN s))) (wr (cN x.a.ws (cE l))) (jG x.a.W) (kE x.a.W) x.us .ai .ai x.dn)::(lw,L.map pW)::(b6,oe)::(b3,aV s)::(eo s l (cW L) Z++σ))) ?_
 refine aj 3 ?_
 refine az [] (hE3 ((b,yX (qz l x.a.ws (nN s)) (.ae .bool (DH l x.a.ws (nN s))) (wr (cN x.a.ws (cE l))) (jG x.a.W) (kE x.a.W) x.us (.ae (.int .i64) (yZ l x.a.ws k)) .ai x.dn)::(lw,L.map pW)::(b6,oe)::(b3,aV s)::(eo s l (cW L) Z++σ))) ?_
 refine aj 3 ?_
 refine aa 3 ?_
 refine aj 5 ?_
 refine aa 5 ?_
 exact .drop 0 7 (aaq (eo s l (cW L) Z) (.done ⟨rfl,rfl,cd⟩))
end Go.Proofs.YtnikdflhefijbaaGreat
