import Derived.Test.YtnikdflhefijbaaGreatBn49
namespace Go.Proofs.YtnikdflhefijbaaGreat
open Go.RowKit
set_option maxRecDepth 100000
set_option maxHeartbeats 4000000
theorem adA{q q':DQ}{ws ws':List Int}(he:q.ended=false)(h:e9 bB q ws=(q',ws',false)):q'.at_=q.at_+1:=by
 unfold e9 at h
 rw[he,ah (by decide)]at h
 (repeat' split at h) <;> cases h <;> rfl
theorem abT{q q':DQ}{ws ws':List Int}(he:q.ended=false)(h:gj bB q ws=(q',ws',false)):q'.at_=q.at_+1∧q.at_<3:=by
 unfold gj at h
 rw[he,ah (by decide)]at h
 by_cases h0:q.at_=0
 ·rw[ai h0]at h;cases h;exact⟨rfl,by omega⟩
 by_cases h1:q.at_=1
 ·rw[ah h0,ai h1]at h
  split at h
  ·cases h
  ·cases h;exact⟨rfl,by omega⟩
 by_cases h2:q.at_=2
 ·rw[ah h0,ah h1,ai h2]at h;cases h;exact⟨rfl,by omega⟩
 ·rw[ah h0,ah h1,ah h2]at h;cases h
theorem aa0{q q':DQ}{ws ws':List Int}(he:q.ended=false)(hk:q.ok=false)(h:gj bB q ws=(q',ws',true))(ho:q'.ok=true)(h3:q.at_≤3):q.at_=3:=by
 unfold gj at h
 rw[he,ah (by decide)]at h
 by_cases h0:q.at_=0
 ·rw[ai h0]at h;cases h
 by_cases h1:q.at_=1
 ·rw[ah h0,ai h1]at h
  split at h
  ·cases h;exact absurd (hk.symm.trans ho) (by decide)
  ·cases h
 by_cases h2:q.at_=2
 ·rw[ah h0,ah h1,ai h2]at h;cases h
 ·omega
theorem ZP{q q':DQ}{ws ws':List Int}(he:q.ended=false)(h:gx bB q ws=(q',ws',false)):q'.at_=q.at_+1∧q.at_<3:=by
 unfold gx at h
 rw[he,ah (by decide)]at h
 by_cases h0:q.at_=0
 ·rw[ai h0]at h;cases h;exact⟨rfl,by omega⟩
 by_cases h1:q.at_=1
 ·rw[ah h0,ai h1]at h
  split at h
  ·cases h
  ·cases h;exact⟨rfl,by omega⟩
 by_cases h2:q.at_=2
 ·rw[ah h0,ah h1,ai h2]at h;cases h;exact⟨rfl,by omega⟩
 ·rw[ah h0,ah h1,ah h2]at h;cases h
theorem Zb{c:List Nat}{c':List Int}{n:Int}(h:jh c=c'++[n]):∃(c0:List Nat) (v:Nat),c=c0++[v]∧c'=jh c0∧n=(v:Int):=by
 obtain⟨l1,l2,h1,h2,h3⟩:=List.map_eq_append_iff.1 h
 obtain⟨v,h4,h5⟩:=List.map_eq_singleton_iff.1 h3
 exact⟨l1,v,by rw[h1,h4],h2.symm,h5.symm⟩
theorem Q2{c:List Nat}{c':List Int}{n:Int}(h:jh c=n::c'):∃(v:Nat) (c0:List Nat),c=v::c0∧n=(v:Int)∧c'=jh c0:=by
 cases c with
 |nil=>cases h
 |cons v c0=>
  have h:(v:Int)::jh c0=n::c':=h
  injection h with h1 h2
  exact⟨v,c0,rfl,h1.symm,h2.symm⟩
theorem KH{c:List Nat}(h:jh c=[]):c=[]:=List.map_eq_nil_iff.1 h
theorem z6{s:Sy}{l:Lay}(hs:LS s l){v:Nat}(hv:v<nN s):qQ l v=3∧oY l v=v:=by
 have h1:=hs.nn
 have h2:=hs.n
 have h3:wu l.n=(nN s:Int):=by show IntKind.u64.wrap _=_;rw[IntKind.wrap_u64];omega
 unfold qQ oY
 rw[h3,ah (by omega),ah (by omega)]
 exact⟨rfl,iz (by omega) (by omega)⟩
theorem GR{ev jo does node:Int}{has:Bool}{nx out:List Int}(q:DQ):dL ⟨ev,jo,false,does,.pop q,node,has,nx,out⟩=if q.at_=5∧q.ok=true then .held q.x.toNat else .idle 0 q.at_:=rfl
section
variable {s:Sy} {l:Lay} {hs:LS s l} {W:List WS} {ws:List Int} {D:List (List Nat)} {T:Nat→Nat} {M:Nat}
theorem Lg(hs:LS s l){j:Nat}(hj:j≤64):gE s l j<1000000000:=by
 have h1:=hs.nn
 have h2:=hs.ww
 have h3:=rV h1.2.2 h2.2
 have h4:j*(nN s+3)≤64*259:=tP hj (by omega)
 unfold gE;omega
theorem Lx{i:Nat}{ws':List Int}(iU:∀a,¬(gE s l i≤a∧a<gE s l i+2+rm (ef l))→ws'.getD a 0=ws.getD a 0)(a:Nat)(h:a<nN s*nW l+nN s+1):ws'.getD a 0=ws.getD a 0:=
 iU a fun h2=>by unfold gE at h2;omega
theorem adm(hR:RJ s l hs W ws D T M)(hM:M<1000000000){i:Nat}{ev jo:Int}{node:Int}{has:Bool}{nx out:List Int}(q:DQ)(kV:q.ended=false)(h5:q.at_≤5)(hxq:0≤q.x)
  (hx:W[i]?=some ⟨ev,jo,false,0,.pop q,node,has,nx,out⟩) :
  qh s l hs W ws D M i (gu s l ⟨ev,jo,false,0,.pop q,node,has,nx,out⟩ ws):=by
 obtain⟨c,hc⟩:=hR.at_ hx
 have hi:=(cf.1 hx).1
 have hlen:=hR.len
 have dF:=hs.k2
 have hD:=hR.di i c hc
 rw[zP hx]at hD
 have hD:DI (gE s l i) (ef l) ws (some (true,q)) (lH s l W i) (T i) (jh c):=hD
 obtain⟨q',ws',e,aq⟩:∃q' ws' e,e9 bB q ws=(q',ws',e):=⟨_,_,_,rfl⟩
 obtain⟨h1,iU,hb,C3⟩:=adB hD (Lg hs (by omega)) (hR.bound hM hc) aq
 have fx:=Lx (s:=s) (l:=l) iU
 have IF:=hR.DF hc
 have iI:0≤ws'.getD (nN s*nW l+nN s) 0:=by rw[fx _ (by omega)];exact hR.kF
 have hp:=ml (s:=s) (l:=l) (ws:=ws) (D:=D) hx
 have yL:=hR.top i
 have D7:gu s l ⟨ev,jo,false,0,.pop q,node,has,nx,out⟩ ws=(if e=true then eg s l ⟨ev,jo,false,0,.pop q,node,has,nx,out⟩ (.pop q') else ⟨ev,jo,false,0,.pop q',node,has,nx,out⟩,ws'):=by
  exact qR (adK aq)
 rw[D7]
 have mF:¬(q.at_=5∧q.ok=true)→(cj s l W ws D).ph[i]?=some (.idle 0 q.at_):=fun h=>by
  rw[hp,GR,ah h]
 rcases C3 with ⟨rfl,h6,h7,hd⟩ | ⟨rfl,h6,pC,ry,hd⟩ | ⟨rfl,pC,h6,ry,hd⟩ | ⟨rfl,pC,h6,c',ry,hd⟩ | ⟨rfl,pC,h6,h7,Ix,ry,hd⟩
 ·rw[ah (by decide)]
  have dR:=adA kV aq
  have kB:=wM hR hx (x':=⟨ev,jo,false,0,.pop q',node,has,nx,out⟩) h1 iU (fun z h=>by cases h) hd
  rw[qI hc]at kB
  refine⟨D,_,RJ.fin hR hx h1 iI rfl kB (sX hR i (by omega)) (.inl rfl) (.inl rfl) (fun j h=>by cases h) (fun j h=>by cases h) ?_⟩
  refine jC (lV (ws:=ws) (D:=D) hx fx (by rfl) (by rfl) D) ?_
  have h9:dL ⟨ev,jo,false,0,.pop q',node,has,nx,out⟩=.idle 0 (q.at_+1):=by
   rw[GR,ah fun h=>by rw[h7 h.1]at h;exact absurd h.2 (by decide),dR]
  rw[h9]
  exact SX.Tr.yF q.at_ (mF fun h=>h6 h.1) (Nat.lt_of_le_of_ne h5 h6)
 ·rw[ah (by decide)]
  obtain⟨v,c0,rfl,D8,ma⟩:=Q2 ry
  have mJ:=KH ma.symm
  subst mJ
  refine⟨D.set i [],_,RJ.fin hR hx h1 iI (by rw[cM]) (wM hR hx (x':=⟨ev,jo,false,0,.pop q',node,has,nx,out⟩) (c':=[]) h1 iU (fun z h=>by cases h) hd) (sX hR i (by omega)) (.inl rfl) (.inl rfl) (fun j h=>by cases h) (fun j h=>by cases h) ?_⟩
  refine jC (lV (ws:=ws) (D:=D) hx fx (by rfl) (by rfl) (D.set i [])) ?_
  have h9:dL ⟨ev,jo,false,0,.pop q',node,has,nx,out⟩=.held v:=by
   rw[GR,ai ⟨h6,pC⟩,D8];rfl
  rw[h9]
  have ho:yR (gE s l i) (ef l) (lH s l W i) (T i) (jh [v]) q:=hD.ow
  exact SX.Tr.cas v q.at_ (mF fun h=>absurd (ho.a5 h.1) (by simp)) hc
 ·rw[ai rfl]
  have mJ:=KH ry
  subst mJ
  have hb:eg s l ⟨ev,jo,false,0,.pop q,node,has,nx,out⟩ (.pop q')=⟨ev,jo,false,qM l,.none,node,has,nx,out⟩:=ah (by rw[pC];decide)
  rw[hb]
  have kB:=wM hR hx (x':=⟨ev,jo,false,qM l,.none,node,has,nx,out⟩) h1 iU (fun z h=>by cases h) hd
  rw[qI hc]at kB
  refine⟨D,_,RJ.fin hR hx h1 iI rfl kB (sX hR i (by omega)) (.inl rfl) (.inl rfl) (fun j h=>by cases h) (fun j h=>by cases h) ?_⟩
  refine jC (lV (ws:=ws) (D:=D) hx fx (by rfl) (by rfl) D) ?_
  have h9:dL ⟨ev,jo,false,qM l,.none,node,has,nx,out⟩=.idle (if (lS s l hs).k<2 then 2 else 1) 0:=by
   show DV (qM l) _ _ _ _=.idle (if l.k.toNat<2 then 2 else 1) 0
   unfold qM
   by_cases hk:l.k<2
   ·rw[ai hk,ai (by omega)];rfl
   ·rw[ah hk,ah (by omega)];rfl
  rw[h9]
  exact SX.Tr.yG q.at_ (mF fun h=>by have:=h6 h.1;rw[this]at h;exact absurd h.2 (by decide)) hc
 ·rw[ai rfl]
  obtain⟨c0,v,rfl,rfl,D8⟩:=Zb ry
  have hv:v<nN s:=IF.2 v (by simp)
  have hb:eg s l ⟨ev,jo,false,0,.pop q,node,has,nx,out⟩ (.pop q')=⟨ev,jo,false,3,.none,v,true,nx,out⟩:=by
   show (if q'.ok=true then _ else _)=_
   rw[ai pC,D8,(z6 hs hv).1,(z6 hs hv).2]
  rw[hb]
  refine⟨D.set i c0,_,RJ.fin hR hx h1 iI (by rw[cM]) (wM hR hx (x':=⟨ev,jo,false,3,.none,v,true,nx,out⟩) (c':=c0) h1 iU (fun z h=>by cases h) hd) (sX hR i (by omega)) (.inl rfl) (.inl rfl) (fun j h=>by cases h) (fun j h=>by cases h) ?_⟩
  refine jC (lV (ws:=ws) (D:=D) hx fx (by rfl) (by rfl) (D.set i c0)) ?_
  exact SX.Tr.pop v c0 q.at_ (mF fun h=>by omega) hc
 ·rw[ai rfl]
  have mJ:=KH ry
  subst mJ
  have Vr:(cj s l W ws D).ph[i]?=some (.held q.x.toNat):=by
   rw[hp,GR,ai ⟨h6,h7⟩]
  have hv:q.x.toNat<nN s:=hR.ti.at_ Vr (v:=q.x.toNat) (by simp[SX.nodes])
  have Ng:q.x=(q.x.toNat:Int):=by omega
  have hb:eg s l ⟨ev,jo,false,0,.pop q,node,has,nx,out⟩ (.pop q')=⟨ev,jo,false,3,.none,(q.x.toNat:Int),true,nx,out⟩:=by
   show (if q'.ok=true then _ else _)=_
   rw[ai pC,Ix,Ng,bM,(z6 hs hv).1,(z6 hs hv).2]
  rw[hb]
  have kB:=wM hR hx (x':=⟨ev,jo,false,3,.none,(q.x.toNat:Int),true,nx,out⟩) (c':=[]) h1 iU (fun z h=>by cases h) hd
  rw[qI hc]at kB
  refine⟨D,_,RJ.fin hR hx h1 iI rfl kB (sX hR i (by omega)) (.inl rfl) (.inl rfl) (fun j h=>by cases h) (fun j h=>by cases h) ?_⟩
  refine jC (lV (ws:=ws) (D:=D) hx fx (by rfl) (by rfl) D) ?_
  exact SX.Tr.ze q.x.toNat Vr
theorem abE(hR:RJ s l hs W ws D T M)(hM:M<1000000000){i:Nat}{ev jo:Int}{v u:Nat}{has:Bool}{nx out:List Int}(q:DQ)(kV:q.ended=false)(bH:q.ok=false)(h3:q.at_≤3)
  (hx:W[i]?=some ⟨ev,jo,false,7,.push q,v,has,u::nx,out⟩) :
  qh s l hs W ws D M i (gu s l ⟨ev,jo,false,7,.push q,v,has,u::nx,out⟩ ws):=by
 obtain⟨c,hc⟩:=hR.at_ hx
 have hi:=(cf.1 hx).1
 have hlen:=hR.len
 have dF:=hs.k2
 have hD:=hR.di i c hc
 rw[zP hx]at hD
 have hD:DI (gE s l i) (ef l) ws (some (false,q)) (lH s l W i) (T i) (jh c):=hD
 have Ix:q.n=(u:Int):=hR.pn _ (cq hx) q rfl
 obtain⟨q',ws',e,aq⟩:∃q' ws' e,gj bB q ws=(q',ws',e):=⟨_,_,_,rfl⟩
 obtain⟨h1,iU,hn,hb,C3⟩:=abU hD (Lg hs (by omega)) (hR.bound hM hc) aq
 have fx:=Lx (s:=s) (l:=l) iU
 have IF:=hR.DF hc
 have iI:0≤ws'.getD (nN s*nW l+nN s) 0:=by rw[fx _ (by omega)];exact hR.kF
 have hp:=ml (s:=s) (l:=l) (ws:=ws) (D:=D) hx
 have hp:(cj s l W ws D).ph[i]?=some (.push v out u (nx.map Int.toNat) q.at_):=hp
 have yL:=hR.top i
 have D7:gu s l ⟨ev,jo,false,7,.push q,v,has,u::nx,out⟩ ws=(if e=true then ⟨ev,jo,false,kj (u::nx),.none,v,has,nx,out⟩ else ⟨ev,jo,false,7,.push q',v,has,u::nx,out⟩,ws'):=by
  exact qR (acd aq)
 rw[D7]
 rcases C3 with ⟨rfl,hd⟩ | ⟨rfl,pC,afX,hd⟩ | ⟨rfl,pC,nS,hd⟩
 ·rw[ah (by decide)]
  have dR:=abT kV aq
  have kB:=wM hR hx (x':=⟨ev,jo,false,7,.push q',v,has,u::nx,out⟩) h1 iU (fun z h=>by cases h) hd
  rw[qI hc]at kB
  refine⟨D,_,RJ.fin hR hx h1 iI rfl kB (sX hR i (by omega)) (.inl rfl) (.inl rfl) (fun j h=>by cases h) (fun q2 h=>by cases h;exact hn.trans Ix) ?_⟩
  refine jC (lV (ws:=ws) (D:=D) hx fx (by rfl) (by rfl) D) ?_
  have h9:dL ⟨ev,jo,false,7,.push q',v,has,u::nx,out⟩=.push v out u (nx.map Int.toNat) (q.at_+1):=by rw[← dR.1];rfl
  rw[h9]
  exact SX.Tr.yq v out u (nx.map Int.toNat) q.at_ hp dR.2
 ·rw[hs.room.2,cd]at afX
  omega
 ·rw[ai rfl]
  have h4:=aa0 kV bH aq pC h3
  have hd:DI (gE s l i) (ef l) ws' none (lH s l W i) (T i) (jh (c++[u])):=by
   show DI _ _ _ _ _ _ (List.map _ (c++[u]))
   rw[cS]
   rw[Ix]at hd
   exact hd
  refine⟨D.set i (c++[u]),_,RJ.fin hR hx h1 iI (by rw[cM]) (wM hR hx (x':=⟨ev,jo,false,kj (u::nx),.none,v,has,nx,out⟩) h1 iU (fun z h=>by cases h) hd) (sX hR i (by omega)) (.inl rfl) (.inl rfl) (fun j h=>by cases h) (fun j h=>by cases h) ?_⟩
  refine jC (lV (ws:=ws) (D:=D) hx fx (by rfl) (by rfl) (D.set i (c++[u]))) ?_
  dsimp only
  rw[Cp (nx:=nx) (does:=kj (u::nx)) rfl]
  rw[h4]at hp
  exact SX.Tr.push v out u (nx.map Int.toNat) c hp hc
theorem ZT(hR:RJ s l hs W ws D T M)(hM:M<1000000000){i j:Nat}{ev jo:Int}{node:Int}{has:Bool}{nx out:List Int}(q:DQ)(kV:q.ended=false)(hj:(j:Int)<l.k)(yx:q.base=(gE s l j:Int))
  (hx:W[i]?=some ⟨ev,jo,false,1,.cu q,node,has,nx,out⟩) :
  qh s l hs W ws D M i (gu s l ⟨ev,jo,false,1,.cu q,node,has,nx,out⟩ ws):=by
 have hlen:=hR.len
 have IB:j<D.length:=by rw[hR.dl];omega
 obtain⟨c,hc⟩:∃c,D[j]?=some c:=⟨D[j],bJ IB⟩
 have dF:=hs.k2
 have hD:=hR.di j c hc
 obtain⟨q',ws',e,aq⟩:∃q' ws' e,gx bB q ws=(q',ws',e):=⟨_,_,_,rfl⟩
 obtain⟨h1,iU,hb,C3⟩:=ZQ hD ⟨i,_,hx,rfl,yx⟩ kV (Lg hs (by omega)) (hR.bound hM hc) aq
 have fx:=Lx (s:=s) (l:=l) iU
 have IF:=hR.DF hc
 have iI:0≤ws'.getD (nN s*nW l+nN s) 0:=by rw[fx _ (by omega)];exact hR.kF
 have hp:=ml (s:=s) (l:=l) (ws:=ws) (D:=D) hx
 have hp:(cj s l W ws D).ph[i]?=some (.idle 1 q.at_):=hp
 have yL:=hR.top j
 have D7:gu s l ⟨ev,jo,false,1,.cu q,node,has,nx,out⟩ ws=(if e=true then eg s l ⟨ev,jo,false,1,.cu q,node,has,nx,out⟩ (.cu q') else ⟨ev,jo,false,1,.cu q',node,has,nx,out⟩,ws'):=by
  exact qR (aai aq)
 rw[D7]
 rcases C3 with ⟨rfl,lM,hd⟩ | ⟨rfl,pC,hd⟩ | ⟨rfl,pC,c',ry,hd⟩
 ·rw[ah (by decide)]
  have dR:=ZP kV aq
  have kB:=GY (c':=c) hR hx (x':=⟨ev,jo,false,1,.cu q',node,has,nx,out⟩) IB h1 iU (.inl ⟨rfl,hb.trans yx⟩) rfl (hd.qc fun z hz=>hz.imp id fun h=>h.2)
  rw[qI hc]at kB
  refine⟨D,_,RJ.fin hR hx h1 iI rfl kB (sX hR j (by omega)) (.inl rfl) (.inl rfl) (fun j h=>by cases h) (fun j h=>by cases h) ?_⟩
  refine jC (lV (ws:=ws) (D:=D) hx fx (by rfl) (by rfl) D) ?_
  have h9:dL ⟨ev,jo,false,1,.cu q',node,has,nx,out⟩=.idle 1 (q.at_+1):=by rw[← dR.1];rfl
  rw[h9]
  exact SX.Tr.yf q.at_ hp dR.2
 ·rw[ai rfl]
  have rz:eg s l ⟨ev,jo,false,1,.cu q,node,has,nx,out⟩ (.cu q')=⟨ev,jo,false,2,.none,node,has,nx,out⟩:=ah (by rw[pC];decide)
  rw[rz]
  have kB:=GY (c':=c) (q':=q') hR hx (x':=⟨ev,jo,false,2,.none,node,has,nx,out⟩) IB h1 iU (.inr fun z h=>by cases h) rfl (hd.qc fun z hz=>hz.elim id fun h=>by cases h.1)
  rw[qI hc]at kB
  refine⟨D,_,RJ.fin hR hx h1 iI rfl kB (sX hR j (by omega)) (.inl rfl) (.inl rfl) (fun j h=>by cases h) (fun j h=>by cases h) ?_⟩
  refine jC (lV (ws:=ws) (D:=D) hx fx (by rfl) (by rfl) D) ?_
  exact SX.Tr.yg q.at_ hp
 ·rw[ai rfl]
  obtain⟨v,c0,rfl,D8,rfl⟩:=Q2 ry
  have hv:v<nN s:=IF.2 v (by simp)
  have rz:eg s l ⟨ev,jo,false,1,.cu q,node,has,nx,out⟩ (.cu q')=⟨ev,jo,false,3,.none,v,true,nx,out⟩:=by
   show (if q'.ok=true then _ else _)=_
   rw[ai pC,D8,(z6 hs hv).1,(z6 hs hv).2]
  rw[rz]
  refine⟨D.set j c0,_,RJ.fin hR hx h1 iI (by rw[cM]) (GY (c':=c0) (q':=q') hR hx (x':=⟨ev,jo,false,3,.none,v,true,nx,out⟩) IB h1 iU (.inr fun z h=>by cases h) rfl (hd.qc fun z hz=>hz.elim id fun h=>by cases h.1)) (sX hR j (by omega)) (.inl rfl) (.inl rfl) (fun j h=>by cases h) (fun j h=>by cases h) ?_⟩
  refine jC (lV (ws:=ws) (D:=D) hx fx (by rfl) (by rfl) (D.set j c0)) ?_
  exact SX.Tr.cu j v c0 q.at_ hp hc
theorem RJ.ae1(hR:RJ s l hs W ws D T M){i:Nat}{x:WS}(hx:W[i]?=some x)(hn:x.now=.none)(hw:WV s l i x)(d:Int){n:Nw}(hb:iF l i x.does x.node x.nx x.out d=n):
  RJ s l hs (W.set i ⟨x.ev,x.jo,x.en,x.does,n,x.node,x.has,x.nx,x.out⟩) ws D T M:=by
 have hi:=(cf.1 hx).1
 have hlen:=hR.len
 have dF:=hs.k2
 have r7:(0:Int)≤(i:Nat)∧((i:Nat):Int)<l.k:=by omega
 have mF:dL ⟨x.ev,x.jo,x.en,x.does,n,x.node,x.has,x.nx,x.out⟩=dL x:=by
  have:=RC l i d x
  rw[show kh l i x d=n by unfold kh;rw[hn];exact hb]at this
  exact this
 have pF:cj s l (W.set i ⟨x.ev,x.jo,x.en,x.does,n,x.node,x.has,x.nx,x.out⟩) ws D=cj s l W ws D:=by
  rw[lV (ws:=ws) (D:=D) (x':=⟨x.ev,x.jo,x.en,x.does,n,x.node,x.has,x.nx,x.out⟩) hx (fun _ _=>rfl) rfl rfl D,mF,qI (ml hx)];rfl
 have UP:lB W i=none:=by rw[zP hx,hn];rfl
 have key:(∀(j:Nat) (c:List Nat),D[j]?=some c→DI (gE s l j) (ef l) ws (lB (W.set i ⟨x.ev,x.jo,x.en,x.does,n,x.node,x.has,x.nx,x.out⟩) j) (lH s l (W.set i ⟨x.ev,x.jo,x.en,x.does,n,x.node,x.has,x.nx,x.out⟩) j) (T j) (jh c))→(∀j,n=.join j→j.ff=true→cT j.what j.x (wd j.a j.at_)≠j.x)→(∀q,n=.push q→q.n=x.nx.headD 0)→RJ s l hs (W.set i ⟨x.ev,x.jo,x.en,x.does,n,x.node,x.has,x.nx,x.out⟩) ws D T M:=by
  intro kB y6 sq
  refine⟨by rw[cM];exact hR.len,hR.fl,hR.kF,by rw[cM];exact hR.dl,kB,hR.top,fun y hy=>?_,fun y hy=>?_,fun y hy=>?_,by rw[pF];exact hR.ti⟩
  ·rcases zx hy with hy | rfl
   ·exact hR.ev y hy
   ·exact hR.ev x (cq hx)
  ·rcases zx hy with hy | rfl
   ·exact hR.jn y hy
   ·exact y6
  ·rcases zx hy with hy | rfl
   ·exact hR.pn y hy
   ·exact sq
 have plain:(∀z,n≠.cu z)→rY n=none→∀(j:Nat) (c:List Nat),D[j]?=some c→DI (gE s l j) (ef l) ws (lB (W.set i ⟨x.ev,x.jo,x.en,x.does,n,x.node,x.has,x.nx,x.out⟩) j) (lH s l (W.set i ⟨x.ev,x.jo,x.en,x.does,n,x.node,x.has,x.nx,x.out⟩) j) (T j) (jh c):=fun h1 h2=>
  oZ hR hx (x':=⟨x.ev,x.jo,x.en,x.does,n,x.node,x.has,x.nx,x.out⟩) rfl (fun _ _=>rfl) h1 (by rw[hn];exact h2.symm)
 have own:(∀z,n≠.cu z)→(∀c,D[i]?=some c→DI (gE s l i) (ef l) ws (rY n) (lH s l W i) (T i) (jh c))→∀(j:Nat) (c:List Nat),D[j]?=some c→DI (gE s l j) (ef l) ws (lB (W.set i ⟨x.ev,x.jo,x.en,x.does,n,x.node,x.has,x.nx,x.out⟩) j) (lH s l (W.set i ⟨x.ev,x.jo,x.en,x.does,n,x.node,x.has,x.nx,x.out⟩) j) (T j) (jh c):=fun h1 h2 j c hj=>by
  obtain⟨c0,iI⟩:=hR.at_ hx
  have:=wM hR hx (x':=⟨x.ev,x.jo,x.en,x.does,n,x.node,x.has,x.nx,x.out⟩) (c':=c0) (T':=T i) rfl (fun _ _=>rfl) h1 (h2 c0 iI)
  rw[qI iI]at this
  have h3:=this j c hj
  have e:(if j=i then T i else T j)=T j:=by split <;> simp_all
  rw[e]at h3
  exact h3
 have Ei:=hs.wT (k:=i) (by omega)
 by_cases h0:x.does=0
 ·rw[H2 h0]at hb
  subst hb
  refine key (own (fun z h=>by cases h) fun c hc=>?_) (fun j h=>by cases h) (fun q h=>by cases h)
  have:=hR.di i c hc
  rw[UP]at this
  exact this.pop Ei rfl rfl rfl rfl
 by_cases h1:x.does=1
 ·rw[H0 h1]at hb
  subst hb
  obtain⟨v,hv,hvk⟩:=Qi hs r7 (hw.AR h1) d
  rw[hv]
  have hvD:v<D.length:=by rw[hR.dl];omega
  obtain⟨c0,iI⟩:∃c,D[v]?=some c:=⟨D[v],bJ hvD⟩
  have hdv:=hs.wT (k:=v) (by omega)
  rw[hv]at key
  refine key (fun j c hj=>?_) (fun j h=>by cases h) (fun q h=>by cases h)
  have h4:=GY hR hx (x':=⟨x.ev,x.jo,x.en,x.does,.cu (tZ (gh l v) (ef l) 0),x.node,x.has,x.nx,x.out⟩) (q':=tZ (gh l v) (ef l) 0) (c':=c0) (T':=T v) hvD rfl (fun _ _=>rfl) (.inl ⟨rfl,hdv⟩) (by rw[hn];rfl) (((hR.di v c0 iI).AR (z:=tZ (gh l v) (ef l) 0) hdv rfl rfl rfl).qc fun z hz=>hz.imp id fun h=>h.2)
  rw[qI iI]at h4
  have h3:=h4 j c hj
  have e:(if j=v then T v else T j)=T j:=by split <;> simp_all
  rw[e]at h3
  exact h3
 by_cases h2:x.does=2
 ·rw[HZ h2]at hb
  subst hb
  exact key (plain (fun z h=>by cases h) rfl) (fun j h=>by cases h) (fun q h=>by cases h)
 by_cases h3:x.does=3
 ·rw[HY h3]at hb
  subst hb
  exact key (plain (fun z h=>by cases h) rfl) (fun j h=>by cases h) (fun q h=>by cases h)
 by_cases h4:x.does=4
 ·rw[HX h4]at hb
  subst hb
  exact key (plain (fun z h=>by cases h) rfl) (fun j h=>by cases h) (fun q h=>by cases h)
 by_cases h5:x.does=5
 ·rw[HW h5]at hb
  subst hb
  exact key (plain (fun z h=>by cases h) rfl) (fun j h h2=>by cases h;cases h2) (fun q h=>by cases h)
 by_cases h6:x.does=6
 ·rw[HV h6]at hb
  subst hb
  exact key (plain (fun z h=>by cases h) rfl) (fun j h=>by cases h) (fun q h=>by cases h)
 by_cases h7:x.does=7
 ·rw[HU h7]at hb
  subst hb
  obtain⟨u,hu,e8⟩:=Lc hw.nx (hw.head (.inr (.inr h7)))
  refine key (own (fun z h=>by cases h) fun c hc=>?_) (fun j h=>by cases h) (fun q h=>?_)
  ·have:=hR.di i c hc
   rw[UP]at this
   exact this.push Ei rfl rfl rfl rfl
  ·cases h
   have:=hs.nn
   show wu (x.nx.headD 0)=_
   rw[hu];show IntKind.u64.wrap _=_;rw[IntKind.wrap_u64];omega
 rw[HT h0 h1 h2 h3 h4 h5 h6 h7]at hb
 subst hb
 exact key (plain (fun z h=>by cases h) rfl) (fun j h=>by cases h) (fun q h=>by cases h)
theorem adn(hR:RJ s l hs W ws D T M)(hM:M<1000000000)(Nr:MV s l ws){i:Nat}{x:WS}(hx:W[i]?=some x)(he:x.en=false)(p8:0≤x.node∧x.node<s.n)(cU:∀u∈x.nx,0≤u∧u<s.n)(hh:x.does=5∨x.does=6∨x.does=7→0<x.nx.length)
  (hb:yI s l i x.does x.node x.nx x.out x.now) (wS:∀j,x.now=.join j→j.at_<nW l∨(j.at_=0∧j.ff=false∧j.changed=false)):qh s l hs W ws D M i (gu s l x ws):=by
 obtain⟨ev,jo,en,does,now,node,has,nx,out⟩:=x
 have he:en=false:=he
 subst he
 have p8:0≤node∧node<s.n:=p8
 have hnn:=hs.nn
 obtain⟨v,rfl⟩:=mg p8.1
 have hv:v<nN s:=by omega
 have cU:∀u∈nx,0≤u∧u<s.n:=cU
 have hh:does=5∨does=6∨does=7→0<nx.length:=hh
 have head:0<nx.length→∃(u:Nat) (r:List Int),nx=(u:Int)::r∧u<nN s:=fun h=>by
  cases nx with
  |nil=>cases h
  |cons z r=>
   have:=cU z (cm ..)
   obtain⟨u,rfl⟩:=mg this.1
   exact⟨u,r,rfl,by omega⟩
 have hb:yI s l i does v nx out now:=hb
 have wS:∀j,now=.join j→j.at_<nW l∨(j.at_=0∧j.ff=false∧j.changed=false):=wS
 cases now with
 |none=>exact hb.elim
 |pop q=>
  obtain⟨rfl,h1,h2,h3⟩:=hb
  exact adm hR hM q h1.en h1.at_ h1.x.1 hx
 |cu q=>
  obtain⟨rfl,h1,⟨j,hj,h2⟩,h3⟩:=hb
  have dF:=hs.k2
  exact ZT hR hM q h1.en hj (h2.trans (hs.wT (by omega))) hx
 |quiet t=>
  obtain⟨rfl,rfl⟩:=hb
  exact ZU hR hx
 |clear t=>
  obtain⟨rfl,rfl⟩:=hb
  exact ZV hR hv hx
 |read y=>
  obtain⟨rfl,h1,h2⟩:=hb
  exact abD hR hM Nr hv h1 h2 hx
 |join j=>
  obtain⟨rfl,h1,h2,h3,h4,h5⟩:=hb
  obtain⟨u,r,rfl,hu⟩:=head (hh (.inl rfl))
  exact abF hR hM hu j h1 h2 h3 (wS j rfl) (fun h=>(h5 h).1) hx
 |take t=>
  obtain⟨rfl,jQ,rfl⟩:=hb
  obtain⟨u,r,rfl,hu⟩:=head (hh (.inr (.inl rfl)))
  cases jQ with
  |true=>exact ZR hR hx
  |false=>exact ZS hR hu hx
 |push q=>
  obtain⟨rfl,h1,h2,h3,h4⟩:=hb
  obtain⟨u,r,rfl,hu⟩:=head (hh (.inr (.inr rfl)))
  exact abE hR hM q h1.en h4 h1.at_ hx
 |dT t=>
  obtain⟨rfl,rfl⟩:=hb
  exact Yf hR hx
theorem Ya{s:Sy}{l:Lay}{who d:Int}{x:WS}{ws:List Int}(he:x.en=false):((dw bB s l who x d ws).1,(dw bB s l who x d ws).2.1)=gu s l ⟨x.ev,x.jo,x.en,x.does,kh l who x d,x.node,x.has,x.nx,x.out⟩ ws:=by
 unfold dw gu
 rw[he,ah Bj]
 dsimp only
 by_cases h:(fT bB l x.node (kh l who x d) ws).2.2=true
 ·rw[ai h,ai h]
  refine Prod.ext ?_ rfl
  dsimp only
  generalize kh l who x d=m at h ⊢
  cases m with
  |none=>exact absurd h Bj
  |_=>simp only[fT,eg,he]
 ·rw[ah h,ah h]
theorem RJ.step(hR:RJ s l hs W ws D T M)(hM:M<1000000000)(hF:uN s l ⟨W,ws⟩)(i:Nat)(d:Int):
  ∃D' T',RJ s l hs (eU s l ⟨W,ws⟩ i d).1.W (eU s l ⟨W,ws⟩ i d).1.ws D' T' (M+1)∧SX.Tr (lS s l hs) (cj s l W ws D) i (cj s l (eU s l ⟨W,ws⟩ i d).1.W (eU s l ⟨W,ws⟩ i d).1.ws D'):=by
 have l6:∀{W ws D T},RJ s l hs W ws D T M→RJ s l hs W ws D T (M+1):=fun h=>⟨h.len,h.fl,h.kF,h.dl,h.di,nM h,fun x hx=>by have:=h.ev x hx;omega,h.jn,h.pn,h.ti⟩
 cases hx:W[i]? with
 |none=>
  have e:eU s l ⟨W,ws⟩ i d=(⟨W,ws⟩,true):=by unfold eU;dsimp only;rw[hx]
  rw[e]
  exact⟨D,T,l6 hR,SX.Tr.stay (.inr (by show (W.map dL)[i]?=none;rw[fo,hx];rfl))⟩
 |some x=>
  rw[FT (a:=⟨W,ws⟩) hx]
  dsimp only
  have xg:=hF.wv i x hx
  have hi:=(cf.1 hx).1
  have hlen:=hR.len
  cases he:x.en with
  |true=>
   have e:dw bB s l i x d ws=(x,ws,true):=ai he
   rw[e]
   dsimp only
   rw[qI hx]
   refine⟨D,T,l6 hR,SX.Tr.stay (.inl ?_)⟩
   rw[ml hx]
   unfold dL
   rw[ai he]
  |false=>
   have e:=Ya (s:=s) (l:=l) (who:=i) (d:=d) (ws:=ws) he
   have e1:=congrArg Prod.fst e
   have e2:=congrArg Prod.snd e
   dsimp only at e1 e2
   rw[e1,e2]
   have hnb:=SV (d:=d) hs (show (0:Int)≤(i:Nat)∧((i:Nat):Int)<l.k by omega) xg
   obtain⟨n,hn⟩:∃n,kh l i x d=n:=⟨_,rfl⟩
   rw[hn]at hnb ⊢
   have mF:dL ⟨x.ev,x.jo,x.en,x.does,n,x.node,x.has,x.nx,x.out⟩=dL x:=by rw[← hn];exact RC l i d x
   have kT:∀y,(W.set i ⟨x.ev,x.jo,x.en,x.does,n,x.node,x.has,x.nx,x.out⟩).set i y=W.set i y:=fun y=>List.set_set ..
   have pF:cj s l (W.set i ⟨x.ev,x.jo,x.en,x.does,n,x.node,x.has,x.nx,x.out⟩) ws D=cj s l W ws D:=by
    rw[lV (ws:=ws) (D:=D) (x':=⟨x.ev,x.jo,x.en,x.does,n,x.node,x.has,x.nx,x.out⟩) hx (fun _ _=>rfl) rfl rfl D,mF,qI (ml hx)];rfl
   have N0:RJ s l hs (W.set i ⟨x.ev,x.jo,x.en,x.does,n,x.node,x.has,x.nx,x.out⟩) ws D T M∧∀j,n=.join j→j.at_<nW l∨(j.at_=0∧j.ff=false∧j.changed=false):=by
    rcases xg.now with h0 | ⟨h0,hk⟩
    ·have hb:iF l i x.does x.node x.nx x.out d=n:=by rw[← hn];unfold kh;rw[h0]
     refine⟨hR.ae1 hx h0 xg d hb,fun j hj=>.inr ?_⟩
     rw[hj]at hb
     unfold iF at hb
     (repeat' split at hb) <;> first | (cases hb;exact⟨rfl,rfl,rfl⟩) | cases hb
    ·have h1:x.now=n:=by
      rw[← hn];unfold kh
      cases afM:x.now with
      |none=>rw[afM]at h0;exact h0.elim
      |_=>rfl
     refine⟨?_,fun j hj=>.inl ?_⟩
     ·rw[← h1,qI hx];exact hR
     ·rw[h1,hj]at hk;exact hk
   obtain⟨hR2,wS⟩:=N0
   have ia:(W.set i ⟨x.ev,x.jo,x.en,x.does,n,x.node,x.has,x.nx,x.out⟩)[i]?=some ⟨x.ev,x.jo,x.en,x.does,n,x.node,x.has,x.nx,x.out⟩:=by rw[eR,ai rfl,ai hi]
   have:=adn hR2 hM hF.fl.2 ia he xg.node xg.nx xg.head hnb wS
   unfold qh at this
   rw[kT,pF]at this
   exact this
end
end Go.Proofs.YtnikdflhefijbaaGreat
