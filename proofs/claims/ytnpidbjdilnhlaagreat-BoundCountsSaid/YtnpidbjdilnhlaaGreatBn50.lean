import Derived.Test.YtnpidbjdilnhlaaGreatBn49
namespace Go.Proofs.YtnpidbjdilnhlaaGreat
open Go.RowKit
set_option maxRecDepth 100000
set_option maxHeartbeats 4000000
theorem ZT{q q':DQ}{ws ws':List Int}(he:q.ended=false)(h:ei aT q ws=(q',ws',false)):q'.at_=q.at_+1:=by
 unfold ei at h
 rw[he,if_neg (by decide)]at h
 (repeat' split at h) <;> cases h <;> rfl
theorem Yf{q q':DQ}{ws ws':List Int}(he:q.ended=false)(h:fg aT q ws=(q',ws',false)):q'.at_=q.at_+1∧q.at_<3:=by
 unfold fg at h
 rw[he,if_neg (by decide)]at h
 by_cases h0:q.at_=0
 ·rw[if_pos h0]at h;cases h;exact⟨rfl,by omega⟩
 by_cases h1:q.at_=1
 ·rw[if_neg h0,if_pos h1]at h
  split at h
  ·cases h
  ·cases h;exact⟨rfl,by omega⟩
 by_cases h2:q.at_=2
 ·rw[if_neg h0,if_neg h1,if_pos h2]at h;cases h;exact⟨rfl,by omega⟩
 ·rw[if_neg h0,if_neg h1,if_neg h2]at h;cases h
theorem V8{q q':DQ}{ws ws':List Int}(he:q.ended=false)(hk:q.ok=false)(h:fg aT q ws=(q',ws',true))(ho:q'.ok=true)(h3:q.at_≤3):q.at_=3:=by
 unfold fg at h
 rw[he,if_neg (by decide)]at h
 by_cases h0:q.at_=0
 ·rw[if_pos h0]at h;cases h
 by_cases h1:q.at_=1
 ·rw[if_neg h0,if_pos h1]at h
  split at h
  ·cases h;exact absurd (hk.symm.trans ho) (by decide)
  ·cases h
 by_cases h2:q.at_=2
 ·rw[if_neg h0,if_neg h1,if_pos h2]at h;cases h
 ·omega
theorem VL{q q':DQ}{ws ws':List Int}(he:q.ended=false)(h:fv aT q ws=(q',ws',false)):q'.at_=q.at_+1∧q.at_<3:=by
 unfold fv at h
 rw[he,if_neg (by decide)]at h
 by_cases h0:q.at_=0
 ·rw[if_pos h0]at h;cases h;exact⟨rfl,by omega⟩
 by_cases h1:q.at_=1
 ·rw[if_neg h0,if_pos h1]at h
  split at h
  ·cases h
  ·cases h;exact⟨rfl,by omega⟩
 by_cases h2:q.at_=2
 ·rw[if_neg h0,if_neg h1,if_pos h2]at h;cases h;exact⟨rfl,by omega⟩
 ·rw[if_neg h0,if_neg h1,if_neg h2]at h;cases h
theorem Vd{c:List Nat}{c':List Int}{n:Int}(h:gQ c=c'++[n]):∃(c0:List Nat) (v:Nat),c=c0++[v]∧c'=gQ c0∧n=(v:Int):=by
 obtain⟨l1,l2,h1,h2,h3⟩:=List.map_eq_append_iff.1 h
 obtain⟨v,h4,h5⟩:=List.map_eq_singleton_iff.1 h3
 exact⟨l1,v,by rw[h1,h4],h2.symm,h5.symm⟩
theorem MD{c:List Nat}{c':List Int}{n:Int}(h:gQ c=n::c'):∃(v:Nat) (c0:List Nat),c=v::c0∧n=(v:Int)∧c'=gQ c0:=by
 cases c with
 | nil=>cases h
 | cons v c0 =>
  have h:(v:Int)::gQ c0=n::c':=h
  injection h with h1 h2
  exact⟨v,c0,rfl,h1.symm,h2.symm⟩
theorem Hc{c:List Nat}(h:gQ c=[]):c=[]:=List.map_eq_nil_iff.1 h
theorem xI{s:Sy}{l:Lay}(hs:LS s l){v:Nat}(hv:v<nN s):oQ l v=3∧mH l v=v:=by
 have h1:=hs.nn
 have h2:=hs.n
 have h3:wu l.n=(nN s:Int):=by show IntKind.u64.wrap _=_;rw[IntKind.wrap_u64];omega
 unfold oQ mH
 rw[h3,if_neg (by omega),if_neg (by omega)]
 exact⟨rfl,fu (by omega) (by omega)⟩
theorem DE{ev jo does node:Int}{has:Bool}{nx out:List Int}(q:DQ):cQ ⟨ev,jo,false,does,.pop q,node,has,nx,out⟩=if q.at_=5∧q.ok=true then .held q.x.toNat else .idle 0 q.at_:=rfl
section
variable {s:Sy} {l:Lay} {hs:LS s l} {W:List WS} {ws:List Int} {D:List (List Nat)} {T:Nat→Nat} {M:Nat}
theorem HH(hs:LS s l){j:Nat}(hj:j≤64):fD s l j<1000000000:=by
 have h1:=hs.nn
 have h2:=hs.ww
 have h3:=pO h1.2.2 h2.2
 have h4:j*(nN s+3)≤64*259:=Nat.mul_le_mul hj (by omega)
 unfold fD;omega
theorem HZ{i:Nat}{ws':List Int}(gD:∀a,¬(fD s l i≤a∧a<fD s l i+2+rm (du l))→ws'.getD a 0=ws.getD a 0)(a:Nat)(h:a<nN s*nW l+nN s+1):ws'.getD a 0=ws.getD a 0:=
 gD a fun h2=>by unfold fD at h2;omega
theorem ZG(hR:RJ s l hs W ws D T M)(hM:M<1000000000){i:Nat}{ev jo:Int}{node:Int}{has:Bool}{nx out:List Int}(q:DQ)(jB:q.ended=false)(h5:q.at_≤5)(hxq:0≤q.x)
  (hx:W[i]?=some ⟨ev,jo,false,0,.pop q,node,has,nx,out⟩) :
  oa s l hs W ws D M i (fp s l ⟨ev,jo,false,0,.pop q,node,has,nx,out⟩ ws):=by
 obtain⟨c,hc⟩:=hR.at_ hx
 have hi:=(List.getElem?_eq_some_iff.1 hx).1
 have hlen:=hR.len
 have dm:=hs.k2
 have hD:=hR.di i c hc
 rw[xr hx]at hD
 have hD:DI (fD s l i) (du l) ws (some (true,q)) (jT s l W i) (T i) (gQ c):=hD
 obtain⟨q',ws',e,ak⟩:∃q' ws' e,ei aT q ws=(q',ws',e):=⟨_,_,_,rfl⟩
 obtain⟨h1,gD,hb,AD⟩:=ZU hD (HH hs (by omega)) (hR.bound hM hc) ak
 have eo:=HZ (s:=s) (l:=l) gD
 have Fv:=hR.Bg hc
 have fT:0≤ws'.getD (nN s*nW l+nN s) 0:=by rw[eo _ (by omega)];exact hR.ji
 have hp:=kv (s:=s) (l:=l) (ws:=ws) (D:=D) hx
 have wg:=hR.top i
 have BG:fp s l ⟨ev,jo,false,0,.pop q,node,has,nx,out⟩ ws=(if e=true then dv s l ⟨ev,jo,false,0,.pop q,node,has,nx,out⟩ (.pop q') else ⟨ev,jo,false,0,.pop q',node,has,nx,out⟩,ws'):=by
  exact oR (Z6 ak)
 rw[BG]
 have kO:¬(q.at_=5∧q.ok=true)→(bC s l W ws D).ph[i]?=some (.idle 0 q.at_):=fun h=>by
  rw[hp,DE,if_neg h]
 rcases AD with ⟨rfl,h6,h7,hd⟩ | ⟨rfl,h6,nu,px,hd⟩ | ⟨rfl,nu,h6,px,hd⟩ | ⟨rfl,nu,h6,c',px,hd⟩ | ⟨rfl,nu,h6,h7,Fl,px,hd⟩
 ·rw[if_neg (by decide)]
  have cW:=ZT jB ak
  have je:=tT hR hx (x':=⟨ev,jo,false,0,.pop q',node,has,nx,out⟩) h1 gD (fun z h=>by cases h) hd
  rw[oI hc]at je
  refine⟨D,_,RJ.fin hR hx h1 fT rfl je (qL hR i (by omega)) (.inl rfl) (.inl rfl) (fun j h=>by cases h) (fun j h=>by cases h) ?_⟩
  refine ia (j9 (ws:=ws) (D:=D) hx eo (by rfl) (by rfl) D) ?_
  have h9:cQ ⟨ev,jo,false,0,.pop q',node,has,nx,out⟩=.idle 0 (q.at_+1):=by
   rw[DE,if_neg fun h=>by rw[h7 h.1]at h;exact absurd h.2 (by decide),cW]
  rw[h9]
  exact SX.Tr.vY q.at_ (kO fun h=>h6 h.1) (Nat.lt_of_le_of_ne h5 h6)
 ·rw[if_neg (by decide)]
  obtain⟨v,c0,rfl,BH,km⟩:=MD px
  have lO:=Hc km.symm
  subst lO
  refine⟨D.set i [],_,RJ.fin hR hx h1 fT (by rw[List.length_set]) (tT hR hx (x':=⟨ev,jo,false,0,.pop q',node,has,nx,out⟩) (c':=[]) h1 gD (fun z h=>by cases h) hd) (qL hR i (by omega)) (.inl rfl) (.inl rfl) (fun j h=>by cases h) (fun j h=>by cases h) ?_⟩
  refine ia (j9 (ws:=ws) (D:=D) hx eo (by rfl) (by rfl) (D.set i [])) ?_
  have h9:cQ ⟨ev,jo,false,0,.pop q',node,has,nx,out⟩=.held v:=by
   rw[DE,if_pos ⟨h6,nu⟩,BH];rfl
  rw[h9]
  have ho:wo (fD s l i) (du l) (jT s l W i) (T i) (gQ [v]) q:=hD.ow
  exact SX.Tr.cas v q.at_ (kO fun h=>absurd (ho.a5 h.1) (by simp)) hc
 ·rw[if_pos rfl]
  have lO:=Hc px
  subst lO
  have hb:dv s l ⟨ev,jo,false,0,.pop q,node,has,nx,out⟩ (.pop q')=⟨ev,jo,false,oN l,.none,node,has,nx,out⟩:=if_neg (by rw[nu];decide)
  rw[hb]
  have je:=tT hR hx (x':=⟨ev,jo,false,oN l,.none,node,has,nx,out⟩) h1 gD (fun z h=>by cases h) hd
  rw[oI hc]at je
  refine⟨D,_,RJ.fin hR hx h1 fT rfl je (qL hR i (by omega)) (.inl rfl) (.inl rfl) (fun j h=>by cases h) (fun j h=>by cases h) ?_⟩
  refine ia (j9 (ws:=ws) (D:=D) hx eo (by rfl) (by rfl) D) ?_
  have h9:cQ ⟨ev,jo,false,oN l,.none,node,has,nx,out⟩=.idle (if (j5 s l hs).k<2 then 2 else 1) 0:=by
   show Bu (oN l) _ _ _ _=.idle (if l.k.toNat<2 then 2 else 1) 0
   unfold oN
   by_cases hk:l.k<2
   ·rw[if_pos hk,if_pos (by omega)];rfl
   ·rw[if_neg hk,if_neg (by omega)];rfl
  rw[h9]
  exact SX.Tr.vZ q.at_ (kO fun h=>by have:=h6 h.1;rw[this]at h;exact absurd h.2 (by decide)) hc
 ·rw[if_pos rfl]
  obtain⟨c0,v,rfl,rfl,BH⟩:=Vd px
  have hv:v<nN s:=Fv.2 v (by simp)
  have hb:dv s l ⟨ev,jo,false,0,.pop q,node,has,nx,out⟩ (.pop q')=⟨ev,jo,false,3,.none,v,true,nx,out⟩:=by
   show (if q'.ok=true then _ else _)=_
   rw[if_pos nu,BH,(xI hs hv).1,(xI hs hv).2]
  rw[hb]
  refine⟨D.set i c0,_,RJ.fin hR hx h1 fT (by rw[List.length_set]) (tT hR hx (x':=⟨ev,jo,false,3,.none,v,true,nx,out⟩) (c':=c0) h1 gD (fun z h=>by cases h) hd) (qL hR i (by omega)) (.inl rfl) (.inl rfl) (fun j h=>by cases h) (fun j h=>by cases h) ?_⟩
  refine ia (j9 (ws:=ws) (D:=D) hx eo (by rfl) (by rfl) (D.set i c0)) ?_
  exact SX.Tr.pop v c0 q.at_ (kO fun h=>by omega) hc
 ·rw[if_pos rfl]
  have lO:=Hc px
  subst lO
  have QR:(bC s l W ws D).ph[i]?=some (.held q.x.toNat):=by
   rw[hp,DE,if_pos ⟨h6,h7⟩]
  have hv:q.x.toNat<nN s:=hR.ti.at_ QR (v:=q.x.toNat) (by simp[SX.nodes])
  have yD:q.x=(q.x.toNat:Int):=by omega
  have hb:dv s l ⟨ev,jo,false,0,.pop q,node,has,nx,out⟩ (.pop q')=⟨ev,jo,false,3,.none,(q.x.toNat:Int),true,nx,out⟩:=by
   show (if q'.ok=true then _ else _)=_
   rw[if_pos nu,Fl,yD,Int.toNat_natCast,(xI hs hv).1,(xI hs hv).2]
  rw[hb]
  have je:=tT hR hx (x':=⟨ev,jo,false,3,.none,(q.x.toNat:Int),true,nx,out⟩) (c':=[]) h1 gD (fun z h=>by cases h) hd
  rw[oI hc]at je
  refine⟨D,_,RJ.fin hR hx h1 fT rfl je (qL hR i (by omega)) (.inl rfl) (.inl rfl) (fun j h=>by cases h) (fun j h=>by cases h) ?_⟩
  refine ia (j9 (ws:=ws) (D:=D) hx eo (by rfl) (by rfl) D) ?_
  exact SX.Tr.wS q.x.toNat QR
theorem XY(hR:RJ s l hs W ws D T M)(hM:M<1000000000){i:Nat}{ev jo:Int}{v u:Nat}{has:Bool}{nx out:List Int}(q:DQ)(jB:q.ended=false)(bL:q.ok=false)(h3:q.at_≤3)
  (hx:W[i]?=some ⟨ev,jo,false,7,.push q,v,has,u::nx,out⟩) :
  oa s l hs W ws D M i (fp s l ⟨ev,jo,false,7,.push q,v,has,u::nx,out⟩ ws):=by
 obtain⟨c,hc⟩:=hR.at_ hx
 have hi:=(List.getElem?_eq_some_iff.1 hx).1
 have hlen:=hR.len
 have dm:=hs.k2
 have hD:=hR.di i c hc
 rw[xr hx]at hD
 have hD:DI (fD s l i) (du l) ws (some (false,q)) (jT s l W i) (T i) (gQ c):=hD
 have Fl:q.n=(u:Int):=hR.pn _ (List.mem_of_getElem? hx) q rfl
 obtain⟨q',ws',e,ak⟩:∃q' ws' e,fg aT q ws=(q',ws',e):=⟨_,_,_,rfl⟩
 obtain⟨h1,gD,hn,hb,AD⟩:=Yg hD (HH hs (by omega)) (hR.bound hM hc) ak
 have eo:=HZ (s:=s) (l:=l) gD
 have Fv:=hR.Bg hc
 have fT:0≤ws'.getD (nN s*nW l+nN s) 0:=by rw[eo _ (by omega)];exact hR.ji
 have hp:=kv (s:=s) (l:=l) (ws:=ws) (D:=D) hx
 have hp:(bC s l W ws D).ph[i]?=some (.push v out u (nx.map Int.toNat) q.at_):=hp
 have wg:=hR.top i
 have BG:fp s l ⟨ev,jo,false,7,.push q,v,has,u::nx,out⟩ ws=(if e=true then ⟨ev,jo,false,iP (u::nx),.none,v,has,nx,out⟩ else ⟨ev,jo,false,7,.push q',v,has,u::nx,out⟩,ws'):=by
  exact oR (Yx ak)
 rw[BG]
 rcases AD with ⟨rfl,hd⟩ | ⟨rfl,nu,acg,hd⟩ | ⟨rfl,nu,l0,hd⟩
 ·rw[if_neg (by decide)]
  have cW:=Yf jB ak
  have je:=tT hR hx (x':=⟨ev,jo,false,7,.push q',v,has,u::nx,out⟩) h1 gD (fun z h=>by cases h) hd
  rw[oI hc]at je
  refine⟨D,_,RJ.fin hR hx h1 fT rfl je (qL hR i (by omega)) (.inl rfl) (.inl rfl) (fun j h=>by cases h) (fun q2 h=>by cases h;exact hn.trans Fl) ?_⟩
  refine ia (j9 (ws:=ws) (D:=D) hx eo (by rfl) (by rfl) D) ?_
  have h9:cQ ⟨ev,jo,false,7,.push q',v,has,u::nx,out⟩=.push v out u (nx.map Int.toNat) (q.at_+1):=by rw[← cW.1];rfl
  rw[h9]
  exact SX.Tr.vO v out u (nx.map Int.toNat) q.at_ hp cW.2
 ·rw[hs.room.2,List.length_map]at acg
  omega
 ·rw[if_pos rfl]
  have h4:=V8 jB bL ak nu h3
  have hd:DI (fD s l i) (du l) ws' none (jT s l W i) (T i) (gQ (c++[u])):=by
   show DI _ _ _ _ _ _ (List.map _ (c++[u]))
   rw[List.map_append]
   rw[Fl]at hd
   exact hd
  refine⟨D.set i (c++[u]),_,RJ.fin hR hx h1 fT (by rw[List.length_set]) (tT hR hx (x':=⟨ev,jo,false,iP (u::nx),.none,v,has,nx,out⟩) h1 gD (fun z h=>by cases h) hd) (qL hR i (by omega)) (.inl rfl) (.inl rfl) (fun j h=>by cases h) (fun j h=>by cases h) ?_⟩
  refine ia (j9 (ws:=ws) (D:=D) hx eo (by rfl) (by rfl) (D.set i (c++[u]))) ?_
  dsimp only
  rw[zV (nx:=nx) (does:=iP (u::nx)) rfl]
  rw[h4]at hp
  exact SX.Tr.push v out u (nx.map Int.toNat) c hp hc
theorem VP(hR:RJ s l hs W ws D T M)(hM:M<1000000000){i j:Nat}{ev jo:Int}{node:Int}{has:Bool}{nx out:List Int}(q:DQ)(jB:q.ended=false)(hj:(j:Int)<l.k)(Ea:q.base=(fD s l j:Int))
  (hx:W[i]?=some ⟨ev,jo,false,1,.bE q,node,has,nx,out⟩) :
  oa s l hs W ws D M i (fp s l ⟨ev,jo,false,1,.bE q,node,has,nx,out⟩ ws):=by
 have hlen:=hR.len
 have Fs:j<D.length:=by rw[hR.dl];omega
 obtain⟨c,hc⟩:∃c,D[j]?=some c:=⟨D[j],List.getElem?_eq_getElem Fs⟩
 have dm:=hs.k2
 have hD:=hR.di j c hc
 obtain⟨q',ws',e,ak⟩:∃q' ws' e,fv aT q ws=(q',ws',e):=⟨_,_,_,rfl⟩
 obtain⟨h1,gD,hb,AD⟩:=VM hD ⟨i,_,hx,rfl,Ea⟩ jB (HH hs (by omega)) (hR.bound hM hc) ak
 have eo:=HZ (s:=s) (l:=l) gD
 have Fv:=hR.Bg hc
 have fT:0≤ws'.getD (nN s*nW l+nN s) 0:=by rw[eo _ (by omega)];exact hR.ji
 have hp:=kv (s:=s) (l:=l) (ws:=ws) (D:=D) hx
 have hp:(bC s l W ws D).ph[i]?=some (.idle 1 q.at_):=hp
 have wg:=hR.top j
 have BG:fp s l ⟨ev,jo,false,1,.bE q,node,has,nx,out⟩ ws=(if e=true then dv s l ⟨ev,jo,false,1,.bE q,node,has,nx,out⟩ (.bE q') else ⟨ev,jo,false,1,.bE q',node,has,nx,out⟩,ws'):=by
  exact oR (Wr ak)
 rw[BG]
 rcases AD with ⟨rfl,jZ,hd⟩ | ⟨rfl,nu,hd⟩ | ⟨rfl,nu,c',px,hd⟩
 ·rw[if_neg (by decide)]
  have cW:=VL jB ak
  have je:=DM (c':=c) hR hx (x':=⟨ev,jo,false,1,.bE q',node,has,nx,out⟩) Fs h1 gD (.inl ⟨rfl,hb.trans Ea⟩) rfl (hd.nU fun z hz=>hz.imp id fun h=>h.2)
  rw[oI hc]at je
  refine⟨D,_,RJ.fin hR hx h1 fT rfl je (qL hR j (by omega)) (.inl rfl) (.inl rfl) (fun j h=>by cases h) (fun j h=>by cases h) ?_⟩
  refine ia (j9 (ws:=ws) (D:=D) hx eo (by rfl) (by rfl) D) ?_
  have h9:cQ ⟨ev,jo,false,1,.bE q',node,has,nx,out⟩=.idle 1 (q.at_+1):=by rw[← cW.1];rfl
  rw[h9]
  exact SX.Tr.vD q.at_ hp cW.2
 ·rw[if_pos rfl]
  have ov:dv s l ⟨ev,jo,false,1,.bE q,node,has,nx,out⟩ (.bE q')=⟨ev,jo,false,2,.none,node,has,nx,out⟩:=if_neg (by rw[nu];decide)
  rw[ov]
  have je:=DM (c':=c) (q':=q') hR hx (x':=⟨ev,jo,false,2,.none,node,has,nx,out⟩) Fs h1 gD (.inr fun z h=>by cases h) rfl (hd.nU fun z hz=>hz.elim id fun h=>by cases h.1)
  rw[oI hc]at je
  refine⟨D,_,RJ.fin hR hx h1 fT rfl je (qL hR j (by omega)) (.inl rfl) (.inl rfl) (fun j h=>by cases h) (fun j h=>by cases h) ?_⟩
  refine ia (j9 (ws:=ws) (D:=D) hx eo (by rfl) (by rfl) D) ?_
  exact SX.Tr.vE q.at_ hp
 ·rw[if_pos rfl]
  obtain⟨v,c0,rfl,BH,rfl⟩:=MD px
  have hv:v<nN s:=Fv.2 v (by simp)
  have ov:dv s l ⟨ev,jo,false,1,.bE q,node,has,nx,out⟩ (.bE q')=⟨ev,jo,false,3,.none,v,true,nx,out⟩:=by
   show (if q'.ok=true then _ else _)=_
   rw[if_pos nu,BH,(xI hs hv).1,(xI hs hv).2]
  rw[ov]
  refine⟨D.set j c0,_,RJ.fin hR hx h1 fT (by rw[List.length_set]) (DM (c':=c0) (q':=q') hR hx (x':=⟨ev,jo,false,3,.none,v,true,nx,out⟩) Fs h1 gD (.inr fun z h=>by cases h) rfl (hd.nU fun z hz=>hz.elim id fun h=>by cases h.1)) (qL hR j (by omega)) (.inl rfl) (.inl rfl) (fun j h=>by cases h) (fun j h=>by cases h) ?_⟩
  refine ia (j9 (ws:=ws) (D:=D) hx eo (by rfl) (by rfl) (D.set j c0)) ?_
  exact SX.Tr.bE j v c0 q.at_ hp hc
theorem RJ.aad(hR:RJ s l hs W ws D T M){i:Nat}{x:WS}(hx:W[i]?=some x)(hn:x.now=.none)(hw:WV s l i x)(d:Int){n:Nw}(hb:gn l i x.does x.node x.nx x.out d=n):
  RJ s l hs (W.set i ⟨x.ev,x.jo,x.en,x.does,n,x.node,x.has,x.nx,x.out⟩) ws D T M:=by
 have hi:=(List.getElem?_eq_some_iff.1 hx).1
 have hlen:=hR.len
 have dm:=hs.k2
 have pT:(0:Int)≤(i:Nat)∧((i:Nat):Int)<l.k:=by omega
 have kO:cQ ⟨x.ev,x.jo,x.en,x.does,n,x.node,x.has,x.nx,x.out⟩=cQ x:=by
  have:=Nc l i d x
  rw[show iO l i x d=n by unfold iO;rw[hn];exact hb]at this
  exact this
 have nz:bC s l (W.set i ⟨x.ev,x.jo,x.en,x.does,n,x.node,x.has,x.nx,x.out⟩) ws D=bC s l W ws D:=by
  rw[j9 (ws:=ws) (D:=D) (x':=⟨x.ev,x.jo,x.en,x.does,n,x.node,x.has,x.nx,x.out⟩) hx (fun _ _=>rfl) rfl rfl D,kO,oI (kv hx)];rfl
 have Qj:jR W i=none:=by rw[xr hx,hn];rfl
 have key:(∀(j:Nat) (c:List Nat),D[j]?=some c→DI (fD s l j) (du l) ws (jR (W.set i ⟨x.ev,x.jo,x.en,x.does,n,x.node,x.has,x.nx,x.out⟩) j) (jT s l (W.set i ⟨x.ev,x.jo,x.en,x.does,n,x.node,x.has,x.nx,x.out⟩) j) (T j) (gQ c))→(∀j,n=.join j→j.ek=true→cu j.what j.x (wd j.a j.at_)≠j.x)→(∀q,n=.push q→q.n=x.nx.headD 0)→RJ s l hs (W.set i ⟨x.ev,x.jo,x.en,x.does,n,x.node,x.has,x.nx,x.out⟩) ws D T M:=by
  intro je wK qk
  refine⟨by rw[List.length_set];exact hR.len,hR.fl,hR.ji,by rw[List.length_set];exact hR.dl,je,hR.top,fun y hy =>?_,fun y hy =>?_,fun y hy =>?_,by rw[nz];exact hR.ti⟩
  ·rcases w7 hy with hy | rfl
   ·exact hR.ev y hy
   ·exact hR.ev x (List.mem_of_getElem? hx)
  ·rcases w7 hy with hy | rfl
   ·exact hR.jn y hy
   ·exact wK
  ·rcases w7 hy with hy | rfl
   ·exact hR.pn y hy
   ·exact qk
 have plain:(∀z,n≠.bE z)→pR n=none→∀(j:Nat) (c:List Nat),D[j]?=some c→DI (fD s l j) (du l) ws (jR (W.set i ⟨x.ev,x.jo,x.en,x.does,n,x.node,x.has,x.nx,x.out⟩) j) (jT s l (W.set i ⟨x.ev,x.jo,x.en,x.does,n,x.node,x.has,x.nx,x.out⟩) j) (T j) (gQ c):=fun h1 h2 =>
  mI hR hx (x':=⟨x.ev,x.jo,x.en,x.does,n,x.node,x.has,x.nx,x.out⟩) rfl (fun _ _=>rfl) h1 (by rw[hn];exact h2.symm)
 have own:(∀z,n≠.bE z)→(∀c,D[i]?=some c→DI (fD s l i) (du l) ws (pR n) (jT s l W i) (T i) (gQ c))→∀(j:Nat) (c:List Nat),D[j]?=some c→DI (fD s l j) (du l) ws (jR (W.set i ⟨x.ev,x.jo,x.en,x.does,n,x.node,x.has,x.nx,x.out⟩) j) (jT s l (W.set i ⟨x.ev,x.jo,x.en,x.does,n,x.node,x.has,x.nx,x.out⟩) j) (T j) (gQ c):=fun h1 h2 j c hj=>by
  obtain⟨c0,fT⟩:=hR.at_ hx
  have:=tT hR hx (x':=⟨x.ev,x.jo,x.en,x.does,n,x.node,x.has,x.nx,x.out⟩) (c':=c0) (T':=T i) rfl (fun _ _=>rfl) h1 (h2 c0 fT)
  rw[oI fT]at this
  have h3:=this j c hj
  have e:(if j=i then T i else T j)=T j:=by split <;> simp_all
  rw[e]at h3
  exact h3
 have BS:=hs.ua (k:=i) (by omega)
 by_cases h0:x.does=0
 ·rw[ET h0]at hb
  subst hb
  refine key (own (fun z h=>by cases h) fun c hc =>?_) (fun j h=>by cases h) (fun q h=>by cases h)
  have:=hR.di i c hc
  rw[Qj]at this
  exact this.pop BS rfl rfl rfl rfl
 by_cases h1:x.does=1
 ·rw[ES h1]at hb
  subst hb
  obtain⟨v,hv,hvk⟩:=LZ hs pT (hw.yw h1) d
  rw[hv]
  have hvD:v<D.length:=by rw[hR.dl];omega
  obtain⟨c0,fT⟩:∃c,D[v]?=some c:=⟨D[v],List.getElem?_eq_getElem hvD⟩
  have hdv:=hs.ua (k:=v) (by omega)
  rw[hv]at key
  refine key (fun j c hj =>?_) (fun j h=>by cases h) (fun q h=>by cases h)
  have h4:=DM hR hx (x':=⟨x.ev,x.jo,x.en,x.does,.bE (rM (fe l v) (du l) 0),x.node,x.has,x.nx,x.out⟩) (q':=rM (fe l v) (du l) 0) (c':=c0) (T':=T v) hvD rfl (fun _ _=>rfl) (.inl ⟨rfl,hdv⟩) (by rw[hn];rfl) (((hR.di v c0 fT).yw (z:=rM (fe l v) (du l) 0) hdv rfl rfl rfl).nU fun z hz=>hz.imp id fun h=>h.2)
  rw[oI fT]at h4
  have h3:=h4 j c hj
  have e:(if j=v then T v else T j)=T j:=by split <;> simp_all
  rw[e]at h3
  exact h3
 by_cases h2:x.does=2
 ·rw[ER h2]at hb
  subst hb
  exact key (plain (fun z h=>by cases h) rfl) (fun j h=>by cases h) (fun q h=>by cases h)
 by_cases h3:x.does=3
 ·rw[EP h3]at hb
  subst hb
  exact key (plain (fun z h=>by cases h) rfl) (fun j h=>by cases h) (fun q h=>by cases h)
 by_cases h4:x.does=4
 ·rw[EO h4]at hb
  subst hb
  exact key (plain (fun z h=>by cases h) rfl) (fun j h=>by cases h) (fun q h=>by cases h)
 by_cases h5:x.does=5
 ·rw[EN h5]at hb
  subst hb
  exact key (plain (fun z h=>by cases h) rfl) (fun j h h2=>by cases h;cases h2) (fun q h=>by cases h)
 by_cases h6:x.does=6
 ·rw[EM h6]at hb
  subst hb
  exact key (plain (fun z h=>by cases h) rfl) (fun j h=>by cases h) (fun q h=>by cases h)
 by_cases h7:x.does=7
 ·rw[EL h7]at hb
  subst hb
  obtain⟨u,hu,ef⟩:=HC hw.nx (hw.head (.inr (.inr h7)))
  refine key (own (fun z h=>by cases h) fun c hc =>?_) (fun j h=>by cases h) (fun q h =>?_)
  ·have:=hR.di i c hc
   rw[Qj]at this
   exact this.push BS rfl rfl rfl rfl
  ·cases h
   have:=hs.nn
   show wu (x.nx.headD 0)=_
   rw[hu];show IntKind.u64.wrap _=_;rw[IntKind.wrap_u64];omega
 rw[EK h0 h1 h2 h3 h4 h5 h6 h7]at hb
 subst hb
 exact key (plain (fun z h=>by cases h) rfl) (fun j h=>by cases h) (fun q h=>by cases h)
theorem ZH(hR:RJ s l hs W ws D T M)(hM:M<1000000000)(JK:MV s l ws){i:Nat}{x:WS}(hx:W[i]?=some x)(he:x.en=false)(nP:0≤x.node∧x.node<s.n)(bY:∀u∈x.nx,0≤u∧u<s.n)(hh:x.does=5∨x.does=6∨x.does=7→0<x.nx.length)
  (hb:v8 s l i x.does x.node x.nx x.out x.now) (tZ:∀j,x.now=.join j→j.at_<nW l∨(j.at_=0∧j.ek=false∧j.changed=false)):oa s l hs W ws D M i (fp s l x ws):=by
 obtain⟨ev,jo,en,does,now,node,has,nx,out⟩:=x
 have he:en=false:=he
 subst he
 have nP:0≤node∧node<s.n:=nP
 have hnn:=hs.nn
 obtain⟨v,rfl⟩:=Int.eq_ofNat_of_zero_le nP.1
 have hv:v<nN s:=by omega
 have bY:∀u∈nx,0≤u∧u<s.n:=bY
 have hh:does=5∨does=6∨does=7→0<nx.length:=hh
 have head:0<nx.length→∃(u:Nat) (r:List Int),nx=(u:Int)::r∧u<nN s:=fun h=>by
  cases nx with
  | nil=>cases h
  | cons z r =>
   have:=bY z (List.mem_cons_self ..)
   obtain⟨u,rfl⟩:=Int.eq_ofNat_of_zero_le this.1
   exact⟨u,r,rfl,by omega⟩
 have hb:v8 s l i does v nx out now:=hb
 have tZ:∀j,now=.join j→j.at_<nW l∨(j.at_=0∧j.ek=false∧j.changed=false):=tZ
 cases now with
 | none=>exact hb.elim
 | pop q =>
  obtain⟨rfl,h1,h2,h3⟩:=hb
  exact ZG hR hM q h1.en h1.at_ h1.x.1 hx
 | bE q =>
  obtain⟨rfl,h1,⟨j,hj,h2⟩,h3⟩:=hb
  have dm:=hs.k2
  exact VP hR hM q h1.en hj (h2.trans (hs.ua (by omega))) hx
 | quiet t =>
  obtain⟨rfl,rfl⟩:=hb
  exact VQ hR hx
 | clear t =>
  obtain⟨rfl,rfl⟩:=hb
  exact VR hR hv hx
 | read y =>
  obtain⟨rfl,h1,h2⟩:=hb
  exact XX hR hM JK hv h1 h2 hx
 | join j =>
  obtain⟨rfl,h1,h2,h3,h4,h5⟩:=hb
  obtain⟨u,r,rfl,hu⟩:=head (hh (.inl rfl))
  exact XZ hR hM hu j h1 h2 h3 (tZ j rfl) (fun h=>(h5 h).1) hx
 | take t =>
  obtain⟨rfl,im,rfl⟩:=hb
  obtain⟨u,r,rfl,hu⟩:=head (hh (.inr (.inl rfl)))
  cases im with
  | true=>exact VN hR hx
  | false=>exact VO hR hu hx
 | push q =>
  obtain⟨rfl,h1,h2,h3,h4⟩:=hb
  obtain⟨u,r,rfl,hu⟩:=head (hh (.inr (.inr rfl)))
  exact XY hR hM q h1.en h4 h1.at_ hx
 | cX t =>
  obtain⟨rfl,rfl⟩:=hb
  exact TZ hR hx
theorem TQ{s:Sy}{l:Lay}{who d:Int}{x:WS}{ws:List Int}(he:x.en=false):((cz aT s l who x d ws).1,(cz aT s l who x d ws).2.1)=fp s l ⟨x.ev,x.jo,x.en,x.does,iO l who x d,x.node,x.has,x.nx,x.out⟩ ws:=by
 unfold cz fp
 rw[he,if_neg Bool.false_ne_true]
 dsimp only
 by_cases h:(eU aT l x.node (iO l who x d) ws).2.2=true
 ·rw[if_pos h,if_pos h]
  refine Prod.ext ?_ rfl
  dsimp only
  generalize iO l who x d=m at h ⊢
  cases m with
  | none=>exact absurd h Bool.false_ne_true
  | _=>simp only[eU,dv,he]
 ·rw[if_neg h,if_neg h]
theorem RJ.step(hR:RJ s l hs W ws D T M)(hM:M<1000000000)(hF:sr s l ⟨W,ws⟩)(i:Nat)(d:Int):
  ∃D' T',RJ s l hs (dZ s l ⟨W,ws⟩ i d).1.W (dZ s l ⟨W,ws⟩ i d).1.ws D' T' (M+1)∧SX.Tr (j5 s l hs) (bC s l W ws D) i (bC s l (dZ s l ⟨W,ws⟩ i d).1.W (dZ s l ⟨W,ws⟩ i d).1.ws D'):=by
 have kj:∀{W ws D T},RJ s l hs W ws D T M→RJ s l hs W ws D T (M+1):=fun h=>⟨h.len,h.fl,h.ji,h.dl,h.di,lU h,fun x hx=>by have:=h.ev x hx;omega,h.jn,h.pn,h.ti⟩
 cases hx:W[i]? with
 | none =>
  have e:dZ s l ⟨W,ws⟩ i d=(⟨W,ws⟩,true):=by unfold dZ;dsimp only;rw[hx]
  rw[e]
  exact⟨D,T,kj hR,SX.Tr.stay (.inr (by show (W.map cQ)[i]?=none;rw[List.getElem?_map,hx];rfl))⟩
 | some x =>
  rw[CU (a:=⟨W,ws⟩) hx]
  dsimp only
  have uz:=hF.wv i x hx
  have hi:=(List.getElem?_eq_some_iff.1 hx).1
  have hlen:=hR.len
  cases he:x.en with
  | true =>
   have e:cz aT s l i x d ws=(x,ws,true):=if_pos he
   rw[e]
   dsimp only
   rw[oI hx]
   refine⟨D,T,kj hR,SX.Tr.stay (.inl ?_)⟩
   rw[kv hx]
   unfold cQ
   rw[if_pos he]
  | false =>
   have e:=TQ (s:=s) (l:=l) (who:=i) (d:=d) (ws:=ws) he
   have e1:=congrArg Prod.fst e
   have e2:=congrArg Prod.snd e
   dsimp only at e1 e2
   rw[e1,e2]
   have hnb:=OD (d:=d) hs (show (0:Int)≤(i:Nat)∧((i:Nat):Int)<l.k by omega) uz
   obtain⟨n,hn⟩:∃n,iO l i x d=n:=⟨_,rfl⟩
   rw[hn]at hnb ⊢
   have kO:cQ ⟨x.ev,x.jo,x.en,x.does,n,x.node,x.has,x.nx,x.out⟩=cQ x:=by rw[← hn];exact Nc l i d x
   have jA:∀y,(W.set i ⟨x.ev,x.jo,x.en,x.does,n,x.node,x.has,x.nx,x.out⟩).set i y=W.set i y:=fun y=>List.set_set ..
   have nz:bC s l (W.set i ⟨x.ev,x.jo,x.en,x.does,n,x.node,x.has,x.nx,x.out⟩) ws D=bC s l W ws D:=by
    rw[j9 (ws:=ws) (D:=D) (x':=⟨x.ev,x.jo,x.en,x.does,n,x.node,x.has,x.nx,x.out⟩) hx (fun _ _=>rfl) rfl rfl D,kO,oI (kv hx)];rfl
   have Kc:RJ s l hs (W.set i ⟨x.ev,x.jo,x.en,x.does,n,x.node,x.has,x.nx,x.out⟩) ws D T M∧∀j,n=.join j→j.at_<nW l∨(j.at_=0∧j.ek=false∧j.changed=false):=by
    rcases uz.now with h0 | ⟨h0,hk⟩
    ·have hb:gn l i x.does x.node x.nx x.out d=n:=by rw[← hn];unfold iO;rw[h0]
     refine⟨hR.aad hx h0 uz d hb,fun j hj=>.inr ?_⟩
     rw[hj]at hb
     unfold gn at hb
     (repeat' split at hb) <;> first | (cases hb;exact⟨rfl,rfl,rfl⟩) | cases hb
    ·have h1:x.now=n:=by
      rw[← hn];unfold iO
      cases ac5:x.now with
      | none=>rw[ac5]at h0;exact h0.elim
      | _=>rfl
     refine⟨?_,fun j hj=>.inl ?_⟩
     ·rw[← h1,oI hx];exact hR
     ·rw[h1,hj]at hk;exact hk
   obtain⟨hR2,tZ⟩:=Kc
   have fR:(W.set i ⟨x.ev,x.jo,x.en,x.does,n,x.node,x.has,x.nx,x.out⟩)[i]?=some ⟨x.ev,x.jo,x.en,x.does,n,x.node,x.has,x.nx,x.out⟩:=by rw[List.getElem?_set,if_pos rfl,if_pos hi]
   have:=ZH hR2 hM hF.fl.2 fR he uz.node uz.nx uz.head hnb tZ
   unfold oa at this
   rw[jA,nz]at this
   exact this
end
end Go.Proofs.YtnpidbjdilnhlaaGreat
