import Derived.Test.YtnikdflhefijbaaGreatBq19
import Derived.Test.YtnikdflhefijbaaGreatBq7
import Derived.Test.YtnikdflhefijbaaGreatBq13
namespace Go.Proofs.YtnikdflhefijbaaGreat
open Go.RowKit
set_option maxRecDepth 100000
set_option maxHeartbeats 4000000
def gP(s:Sy)(l:Lay)(x:WS)(ws:List Int):WS×List Int:=
 (if (gy bJ l x.node x.now ws).2.2=true then eN s l x (gy bJ l x.node x.now ws).1 else ⟨x.ev,x.jo,x.en,x.does,(gy bJ l x.node x.now ws).1,x.node,x.has,x.nx,x.out⟩,(gy bJ l x.node x.now ws).2.1)
theorem rY{s:Sy}{l:Lay}{ev jo:Int}{en:Bool}{does node:Int}{now:Nw}{has:Bool}{nx out:List Int}{ws ws':List Int}{n':Nw}{b:Bool}(h:gy bJ l node now ws=(n',ws',b)):gP s l ⟨ev,jo,en,does,now,node,has,nx,out⟩ ws=(if b=true then eN s l ⟨ev,jo,en,does,now,node,has,nx,out⟩ n' else ⟨ev,jo,en,does,n',node,has,nx,out⟩,ws'):=by
 unfold gP;dsimp only;rw[h]
section
variable {l:Lay} {node:Int} {ws ws':List Int} {b:Bool}
theorem Vw{t t':Tk}(h:lD bJ t ws=(t',ws',b)):gy bJ l node (.take t) ws=(.take t',ws',b):=by
 show (Nw.take (lD bJ t ws).1,(lD bJ t ws).2)=_;rw[h]
theorem Eg{t t':Jn}(h:iO bJ t ws=(t',ws',b)):gy bJ l node (.join t) ws=(.join t',ws',b):=by
 show (Nw.join (iO bJ t ws).1,(iO bJ t ws).2)=_;rw[h]
theorem Vx{t t':List Int}(h:nj bJ l (bc l node) t ws=(t',ws',b)):gy bJ l node (.read t) ws=(.read t',ws',b):=by
 show (Nw.read (nj bJ l (bc l node) t ws).1,(nj bJ l (bc l node) t ws).2)=_;rw[h]
theorem ah7{t t':DQ}(h:fK bJ t ws=(t',ws',b)):gy bJ l node (.pop t) ws=(.pop t',ws',b):=by
 show (Nw.pop (fK bJ t ws).1,(fK bJ t ws).2)=_;rw[h]
theorem afo{t t':DQ}(h:gH bJ t ws=(t',ws',b)):gy bJ l node (.push t) ws=(.push t',ws',b):=by
 show (Nw.push (gH bJ t ws).1,(gH bJ t ws).2)=_;rw[h]
theorem adi{t t':DQ}(h:gU bJ t ws=(t',ws',b)):gy bJ l node (.cu t) ws=(.cu t',ws',b):=by
 show (Nw.cu (gU bJ t ws).1,(gU bJ t ws).2)=_;rw[h]
end
def rn(s:Sy)(l:Lay)(hs:LS s l)(W:List WS)(ws:List Int)(D:List (List Nat))(M i:Nat)(X:WS×List Int):Prop:=
 ∃D' T',RJ s l hs (W.set i X.1) X.2 D' T' (M+1)∧SX.Tr (cS s l hs) (bV s l W ws D) i (bV s l (W.set i X.1) X.2 D')
section
variable {s:Sy} {l:Lay} {hs:LS s l} {W:List WS} {ws:List Int} {D:List (List Nat)} {T:Nat→Nat} {M:Nat}
theorem Ie{α:Type}(f:α→Nat)(m:Nat):∀{l:List α},(∀x∈l,f x≤m)→SX.aI f l≤l.length*m
 | [],_=>bC _
 |a::l,h=>by
  have h1:=h a (b9 ..);have h2:=Ie f m (l:=l) fun x hx=>h x (cQ _ hx);show f a+SX.aI f l≤(l.length+1)*m;rw[lU];omega
theorem UP:∀(n:Nat) (l:List Nat),(∀v,l.count v≤1)→(∀v∈l,v<n)→l.length≤n
 | 0,l,_,h2=>by
  cases l with
  |nil=>exact aQ _
  |cons a l=>exact absurd (h2 a (b9 ..)) (oJ _)
 |n+1,l,h1,h2=>by
  have h3:=UP n (l.erase n) (fun v=>ff (List.Sublist.count_le v (List.erase_sublist ..)) (h1 v)) (fun v hv=>by
   have h4:=h2 v (List.mem_of_mem_erase hv)
   rcases AM (C1 h4) with h5 | rfl
   ·exact h5
   ·have h6:0<(l.erase v).count v:=List.count_pos_iff.2 hv;rw[List.count_erase_self]at h6;have:=h1 v
    omega)
  have h7:l.length≤(l.erase n).length+1:=by
   rw[List.length_erase];split <;> omega
  omega
theorem RJ.Fx(hR:RJ s l hs W ws D T M){j:Nat}{c:List Nat}(hc:D[j]?=some c):c.length≤nN s∧∀v∈c,v<nN s:=by
 have h1:∀v∈c,v<nN s:=hR.ti.oN c (bU hc);refine⟨UP _ _ (fun v=>?_) h1,h1⟩;have h2:=hR.ti.tok v;have h3:c.count v≤SX.aI (fun l:List Nat=>l.count v) D:=SX.zA (fun l:List Nat=>l.count v) D j c hc;unfold SX.tok at h2;have h4:SX.aI (fun l:List Nat=>l.count v) (bV s l W ws D).dq=SX.aI (fun l:List Nat=>l.count v) D:=rfl;rw[h4]at h2;split at h2 <;> omega
theorem RJ.aH(hR:RJ s l hs W ws D T M):ws.getD (nN s*nW l+nN s) 0≤100000:=by
 have h1:=hR.ti.aH;have hn:=hs.nn;have hk:=hs.k2;have hl:=hR.len
 have h2:SX.aI List.length (bV s l W ws D).dq≤D.length*256:=Ie _ _ fun c hc=>by
  obtain⟨j,hj⟩:=lq.1 hc;have:=(hR.Fx hj).1;omega
 have h3:SX.aI SX.cw (bV s l W ws D).ph≤(W.map dC).length*2:=Ie _ _ fun p _=>by
  cases p <;> simp[SX.cw]
 rw[bX]at h3;have h4:(bV s l W ws D).aH=(ws.getD (nN s*nW l+nN s) 0).toNat:=rfl;have h5:=hR.dl;have h6:D.length*256≤64*256:=jm _ (by omega);have h7:=hR.lu;omega
theorem RJ.bound(hR:RJ s l hs W ws D T M)(hM:M<1000000000){j:Nat}{c:List Nat}(hc:D[j]?=some c):T j+(jV c).length<4000000000000000000:=by
 have h1:=(hR.Fx hc).1;have h2:=hR.top j;have h3:=hs.nn;rw[bX];omega
theorem RJ.at_(hR:RJ s l hs W ws D T M){i:Nat}{x:WS}(hx:W[i]?=some x):∃c,D[i]?=some c:=by
 have hi:=(bZ.1 hx).1;exact⟨D[i]'(by rw[hR.dl];exact hi),bB _⟩
theorem RJ.lo(hR:RJ s l hs W ws D T M):nN s*nW l+nN s<ws.length:=by
 rw[hR.fl];have:=hs.size;have h2:=hs.low;omega
theorem ui(hR:RJ s l hs W ws D T M)(i:Nat){t:Nat}(h:t≤M+1)(j:Nat):(if j=i then t else T j)≤M+1:=by
 have:=hR.top j;split <;> omega
theorem oU(hR:RJ s l hs W ws D T M)(j:Nat):T j≤M+1:=by
 have:=hR.top j;omega
theorem kb{A:SX.AP}{S S' S'':SX.AS}{i:Nat}(e:S'=S'')(h:SX.Tr A S i S''):SX.Tr A S i S':=e▸h
theorem acC(hR:RJ s l hs W ws D T M){i:Nat}{ev jo:Int}{v:Nat}{has:Bool}{nx out:List Int}(hv:v<nN s)
  (hx:W[i]?=some ⟨ev,jo,false,3,.clear ⟨de l,dA l,v,false⟩,v,has,nx,out⟩) :
  rn s l hs W ws D M i (gP s l ⟨ev,jo,false,3,.clear ⟨de l,dA l,v,false⟩,v,has,nx,out⟩ ws):=by
 have e:gP s l ⟨ev,jo,false,3,.clear ⟨de l,dA l,v,false⟩,v,has,nx,out⟩ ws=(⟨ev,jo,false,4,.none,v,has,nx,out⟩,if (0:Int)≤(v:Nat) then iE ws (wr (de l+(v:Nat))) 0 else ws):=rfl;rw[e,af (by omega),hs.BW hv,lX];have qx:=hR.lo;refine⟨D,T,RJ.fin hR hx (by rw[cz]) ?_ rfl (pX hR hx (by rw[cz]) (fun a ha=>?_) (fun z h=>by cases h) rfl) (oU hR) (.inl rfl) (.inl rfl) (fun j h=>by cases h) (fun j h=>by cases h) ?_⟩
 ·rw[kp,ag (by omega)];exact hR.lu
 ·rw[kp,ag (by omega)]
 ·refine kb (UT (ws:=ws) (D:=D) hx hv (by omega) (by rfl) (by rfl) (by rfl)) ?_;exact SX.Tr.clear v (ni hx)
theorem acB(hR:RJ s l hs W ws D T M){i:Nat}{ev jo node:Int}{has:Bool}{nx out:List Int}
  (hx:W[i]?=some ⟨ev,jo,false,2,.quiet ⟨de l,dA l,false,false⟩,node,has,nx,out⟩) :
  rn s l hs W ws D M i (gP s l ⟨ev,jo,false,2,.quiet ⟨de l,dA l,false,false⟩,node,has,nx,out⟩ ws):=by
 have e:gP s l ⟨ev,jo,false,2,.quiet ⟨de l,dA l,false,false⟩,node,has,nx,out⟩ ws=(⟨ev,jo,decide (gY ws (dA l)=0),vZ l,.none,node,has,nx,out⟩,ws):=rfl;rw[e,hs.count,oS];have X7:=hR.lu;refine⟨D,T,RJ.fin hR hx rfl hR.lu rfl (pX hR hx rfl (fun a ha=>rfl) (fun z h=>by cases h) rfl) (oU hR) (.inl rfl) (.inl rfl) (fun j h=>by cases h) (fun j h=>by cases h) ?_⟩;refine kb (mD (ws:=ws) (D:=D) hx (fun _ _=>rfl) (by rfl) (by rfl) D) ?_
 by_cases h0:ws.getD (nN s*nW l+nN s) 0=0
 ·rw[bu h0];exact SX.Tr.uI (ni hx) (show (ws.getD (nN s*nW l+nN s) 0).toNat=0 by omega)
 ·rw[cf h0]
  have hp:dC ⟨ev,jo,false,vZ l,.none,node,has,nx,out⟩=.idle (if (cS s l hs).k<2 then 0 else 1) 0:=by
   show Aq (vZ l) _ _ _ _=.idle (if l.k.toNat<2 then 0 else 1) 0;unfold vZ
   by_cases hk:l.k<2
   ·rw[af hk,af (by omega)];rfl
   ·rw[ag hk,ag (by omega)];rfl
  rw[hp];exact SX.Tr.ask (ni hx) (show (ws.getD (nN s*nW l+nN s) 0).toNat≠0 by omega)
theorem aaE(hR:RJ s l hs W ws D T M){i:Nat}{ev jo:Int}{v:Nat}{has:Bool}{nx out:List Int}
  (hx:W[i]?=some ⟨ev,jo,false,8,.dK ⟨de l,dA l,0,false⟩,v,has,nx,out⟩) :
  rn s l hs W ws D M i (gP s l ⟨ev,jo,false,8,.dK ⟨de l,dA l,0,false⟩,v,has,nx,out⟩ ws):=by
 have e:gP s l ⟨ev,jo,false,8,.dK ⟨de l,dA l,0,false⟩,v,has,nx,out⟩ ws=(⟨ev,jo,false,0,.none,v,false,nx,out⟩,nS ws (dA l) 18446744073709551615):=rfl;have qx:=hR.lo;have X7:=hR.lu;have hc:=hR.aH
 have h1:1≤(ws.getD (nN s*nW l+nN s) 0).toNat:=by
  have h2:=hR.ti.aH;have h3:=SX.zA SX.cw (bV s l W ws D).ph i _ (ni (s:=s) (l:=l) (ws:=ws) (D:=D) hx);have h4:SX.cw (dC ⟨ev,jo,false,8,.dK ⟨de l,dA l,0,false⟩,v,has,nx,out⟩)=1:=rfl;have h5:(bV s l W ws D).aH=(ws.getD (nN s*nW l+nN s) 0).toNat:=rfl;omega
 have hw:nS ws (dA l) 18446744073709551615=ws.set (nN s*nW l+nN s) (ws.getD (nN s*nW l+nN s) 0-1):=by
  unfold nS;rw[hs.count,af (DE (by omega) (by omega)),oS,lX]
  congr 1
  omega
 rw[e,hw];refine⟨D,T,RJ.fin hR hx (by rw[cz]) ?_ rfl (pX hR hx (by rw[cz]) (fun a ha=>?_) (fun z h=>by cases h) rfl) (oU hR) (.inl rfl) (.inl rfl) (fun j h=>by cases h) (fun j h=>by cases h) ?_⟩
 ·rw[kp,af ⟨rfl,qx⟩];omega
 ·rw[kp,ag (by omega)]
 ·refine kb (VT (ws:=ws) (D:=D) hx qx (by rfl) (by rfl) (by rfl)) ?_;rw[show (ws.getD (nN s*nW l+nN s) 0-1).toNat=(bV s l W ws D).aH-1 by show _=(ws.getD (nN s*nW l+nN s) 0).toNat-1;omega];exact SX.Tr.dK v (ni hx)
theorem acz(hR:RJ s l hs W ws D T M){i:Nat}{ev jo:Int}{v u:Nat}{has:Bool}{nx out:List Int}(hu:u<nN s)
  (hx:W[i]?=some ⟨ev,jo,false,6,.take ⟨de l,dA l,u,false,false,false⟩,v,has,u::nx,out⟩) :
  rn s l hs W ws D M i (gP s l ⟨ev,jo,false,6,.take ⟨de l,dA l,u,false,false,false⟩,v,has,u::nx,out⟩ ws):=by
 have qx:=hR.lo;obtain⟨k1,k2⟩:=IN (ws:=ws) (a:=nN s*nW l+u) (by omega) 0 1
 by_cases hf:ws.getD (nN s*nW l+u) 0=0
 ·rw[bu hf]at k1;rw[af hf]at k2
  have e:gP s l ⟨ev,jo,false,6,.take ⟨de l,dA l,u,false,false,false⟩,v,has,u::nx,out⟩ ws=(⟨ev,jo,false,6,.take ⟨de l,dA l,u,true,false,true⟩,v,has,u::nx,out⟩,ws.set (nN s*nW l+u) 1):=by
   have e1:lD bJ ⟨de l,dA l,u,false,false,false⟩ ws=(⟨de l,dA l,u,true,false,true⟩,ws.set (nN s*nW l+u) 1,false):=by
    show (if (0:Int)≤(u:Nat) then (if oc ws (wr (de l+(u:Nat))) 0=true then ((⟨de l,dA l,u,true,false,true⟩:Tk),jy ws (wr (de l+(u:Nat))) 0 1,false) else (⟨de l,dA l,u,false,true,true⟩,jy ws (wr (de l+(u:Nat))) 0 1,true)) else (⟨de l,dA l,u,false,true,true⟩,ws,true))=_;rw[af (by omega),hs.BW hu,k1,k2];rfl
   exact rY (Vw e1)
  rw[e];refine⟨D,T,RJ.fin hR hx (by rw[cz]) ?_ rfl (pX hR hx (by rw[cz]) (fun a ha=>?_) (fun z h=>by cases h) rfl) (oU hR) (.inl rfl) (.inl rfl) (fun j h=>by cases h) (fun j h=>by cases h) ?_⟩
  ·rw[kp,ag (by omega)];exact hR.lu
  ·rw[kp,ag (by omega)]
  ·refine kb (UT (ws:=ws) (D:=D) hx hu (by omega) (by rfl) (by rfl) (by rfl)) ?_;exact SX.Tr.flag v out u (nx.map Int.toNat) (ni hx) (cf fun h=>h.2 hf)
 ·rw[cf hf]at k1;rw[ag hf]at k2
  have e:gP s l ⟨ev,jo,false,6,.take ⟨de l,dA l,u,false,false,false⟩,v,has,u::nx,out⟩ ws=(⟨ev,jo,false,kP (u::nx),.none,v,has,nx,out⟩,ws):=by
   have e1:lD bJ ⟨de l,dA l,u,false,false,false⟩ ws=(⟨de l,dA l,u,false,true,true⟩,ws,true):=by
    show (if (0:Int)≤(u:Nat) then (if oc ws (wr (de l+(u:Nat))) 0=true then ((⟨de l,dA l,u,true,false,true⟩:Tk),jy ws (wr (de l+(u:Nat))) 0 1,false) else (⟨de l,dA l,u,false,true,true⟩,jy ws (wr (de l+(u:Nat))) 0 1,true)) else (⟨de l,dA l,u,false,true,true⟩,ws,true))=_;rw[af (by omega),hs.BW hu,k1,k2];rfl
   exact rY (Vw e1)
  rw[e];refine⟨D,T,RJ.fin hR hx rfl hR.lu rfl (pX hR hx rfl (fun a ha=>rfl) (fun z h=>by cases h) rfl) (oU hR) (.inl rfl) (.inl rfl) (fun j h=>by cases h) (fun j h=>by cases h) ?_⟩;refine kb (mD (ws:=ws) (D:=D) hx (fun _ _=>rfl) (by rfl) (by rfl) D) ?_;dsimp only;rw[Ed (nx:=nx) (does:=kP (u::nx)) rfl];exact SX.Tr.uN v out u (nx.map Int.toNat) (ni hx) (bu ⟨hu,hf⟩)
theorem acy(hR:RJ s l hs W ws D T M){i:Nat}{ev jo:Int}{v u:Nat}{has:Bool}{nx out:List Int}
  (hx:W[i]?=some ⟨ev,jo,false,6,.take ⟨de l,dA l,u,true,false,true⟩,v,has,u::nx,out⟩) :
  rn s l hs W ws D M i (gP s l ⟨ev,jo,false,6,.take ⟨de l,dA l,u,true,false,true⟩,v,has,u::nx,out⟩ ws):=by
 have e:gP s l ⟨ev,jo,false,6,.take ⟨de l,dA l,u,true,false,true⟩,v,has,u::nx,out⟩ ws=(⟨ev,jo,false,7,.none,v,has,u::nx,out⟩,nS ws (dA l) 1):=rfl;have qx:=hR.lo;have X7:=hR.lu;have hc:=hR.aH
 have hw:nS ws (dA l) 1=ws.set (nN s*nW l+nN s) (ws.getD (nN s*nW l+nN s) 0+1):=by
  unfold nS;rw[hs.count,af (DE (by omega) (by omega)),oS,lX]
  congr 1
  omega
 rw[e,hw];refine⟨D,T,RJ.fin hR hx (by rw[cz]) ?_ rfl (pX hR hx (by rw[cz]) (fun a ha=>?_) (fun z h=>by cases h) rfl) (oU hR) (.inl rfl) (.inl rfl) (fun j h=>by cases h) (fun j h=>by cases h) ?_⟩
 ·rw[kp,af ⟨rfl,qx⟩];omega
 ·rw[kp,ag (by omega)]
 ·refine kb (VT (ws:=ws) (D:=D) hx qx (by rfl) (by rfl) (by rfl)) ?_;rw[show (ws.getD (nN s*nW l+nN s) 0+1).toNat=(bV s l W ws D).aH+1 by show _=(ws.getD (nN s*nW l+nN s) 0).toNat+1;omega];exact SX.Tr.add v out u (nx.map Int.toNat) (ni hx)
theorem aeP(hR:RJ s l hs W ws D T M)(hM:M<1000000000)(Pu:MV s l ws){i:Nat}{ev jo:Int}{v:Nat}{has:Bool}{nx out y:List Int}(hv:v<nN s)
  (hy:y.length<nW l∨(nW l=0∧y=[])) (hk:∀i,i<y.length→gd s.what s.w i (wd y i)) (hx:W[i]?=some ⟨ev,jo,false,4,.read y,v,has,nx,out⟩) :
  rn s l hs W ws D M i (gP s l ⟨ev,jo,false,4,.read y,v,has,nx,out⟩ ws):=by
 have hE:=(hR.ev _ (bU hx)).1;have Gu:=(hR.ev _ (bU hx)).2.1;dsimp only at hE Gu;have hew:wr (ev+1)=ev+1:=by show IntKind.i64.wrap _=_;rw[IntKind.wrap_i64];omega
 have done:∀y':List Int,((y.length+1=nW l∧y'=y++[(bV s l W ws D).cell v y.length])∨(nW l=0∧y'=[]))→eS s.what s.w y'→rn s l hs W ws D M i (eN s l ⟨ev,jo,false,4,.read y,v,has,nx,out⟩ (.read y'),ws):=by
  intro y' vc Cg;have hn:jA s v=0:=(HB (L6 hs.im) ⟨by omega,by have:=hs.nn;omega⟩).symm;rw[ae2 (Ue hn Cg.v)];dsimp only;rw[hew];refine⟨D,T,RJ.fin hR hx rfl hR.lu rfl (pX hR hx rfl (fun a ha=>rfl) (fun z h=>by cases h) rfl) (oU hR) (.inr rfl) (.inl rfl) (fun j h=>by cases h) (fun j h=>by cases h) ?_⟩;refine kb (ahr (ws:=ws) (D:=D) hx (show (ev+1).toNat=ev.toNat+1 by omega) (by rfl)) ?_;dsimp only;rw[Ed (does:=wk s v) rfl];exact SX.Tr.uu v y y' (ni hx) vc
 by_cases hl:y.length<nW l
 ·have eQ:gY ws (wr (bc l v+(y.length:Nat)))=(bV s l W ws D).cell v y.length:=by
   rw[hs.B0 hv hl,oS];show _=if _ then _ else _
   rw[af ⟨hv,hl⟩]
  have oy:=agP (l:=l) (base:=bc l v) hl eQ
  have e:gP s l ⟨ev,jo,false,4,.read y,v,has,nx,out⟩ ws=(if decide (y.length+1=cw l.words)=true then eN s l ⟨ev,jo,false,4,.read y,v,has,nx,out⟩ (.read (y++[(bV s l W ws D).cell v y.length])) else ⟨ev,jo,false,4,.read (y++[(bV s l W ws D).cell v y.length]),v,has,nx,out⟩,ws):=by
   exact rY (Vx oy)
  rw[e]
  have sx:gd s.what s.w y.length ((bV s l W ws D).cell v y.length):=by
   rw[← eQ,hs.B0 hv hl];exact Pu.load hv hl
  by_cases he:y.length+1=nW l
  ·rw[af (bu he)];refine done _ (.inl ⟨he,rfl⟩) ((hs.sh).2 ⟨by simp;omega,fun j hj=>?_⟩);rw[s7,V5]
   by_cases h2:j<y.length
   ·rw[af h2];exact hk j h2
   ·rw[ag h2,af (by omega),show j=y.length by omega];exact sx
  ·rw[ag (by rw[cf he];decide)];refine⟨D,T,RJ.fin hR hx rfl hR.lu rfl (pX hR hx rfl (fun a ha=>rfl) (fun z h=>by cases h) rfl) (oU hR) (.inl rfl) (.inl rfl) (fun j h=>by cases h) (fun j h=>by cases h) ?_⟩;refine kb (mD (ws:=ws) (D:=D) hx (fun _ _=>rfl) (by rfl) (by rfl) D) ?_;exact SX.Tr.ur v y (ni hx) (show y.length+1<nW l by omega)
 ·obtain⟨h0,rfl⟩:=hy.resolve_left hl
  have e:gP s l ⟨ev,jo,false,4,.read [],v,has,nx,out⟩ ws=(eN s l ⟨ev,jo,false,4,.read [],v,has,nx,out⟩ (.read []),ws):=by
   have e1:nj bJ l (bc l v) [] ws=([],ws,true):=ag (by show ¬0<cw l.words;show ¬0<nW l;omega);exact rY (Vx e1)
  rw[e];exact done _ (.inr ⟨h0,rfl⟩) ((hs.sh).2 ⟨by rw[h0];rfl,fun j hj=>by omega⟩)
theorem Vg(hs:LS s l){ev jo:Int}{v u:Nat}{has:Bool}{nx out:List Int}(j:Jn)(nF:0≤jo)(hjo2:jo<1000000000)(hw:j.words=l.words)(CG:j.fM=false):
  ∃x':WS,(if (ic j).2=true then eN s l ⟨ev,jo,false,5,.join j,v,has,u::nx,out⟩ (.join (ic j).1) else ⟨ev,jo,false,5,.join (ic j).1,v,has,u::nx,out⟩)=x'∧dC x'=(SX.dU (cS s l hs) v out u (nx.map Int.toNat) j.at_ j.changed).1∧x'.ev=ev∧x'.jo.toNat=jo.toNat+(SX.dU (cS s l hs) v out u (nx.map Int.toNat) j.at_ j.changed).2∧(x'.jo=jo∨x'.jo=jo+1)∧(∀z,x'.now≠.cu z)∧tb x'.now=none∧(∀j,x'.now=.join j→j.fM=false)∧(∀q,x'.now≠.push q):=by
 have hjw:wr (jo+1)=jo+1:=by show IntKind.i64.wrap _=_;rw[IntKind.wrap_i64];omega
 unfold SX.dU
 by_cases h1:j.at_+1<cw l.words
 ·have Ax:ic j=({ j with at_:=j.at_+1 },false):=by unfold ic;rw[hw,af h1]
  rw[Ax,af (show j.at_+1<(cS s l hs).W from h1)];dsimp only;rw[ag go2];refine⟨_,rfl,?_,rfl,rfl,.inl rfl,fun z h=>Nw.noConfusion h,rfl,fun j' h=>?_,fun q h=>Nw.noConfusion h⟩
  ·show SX.Ph.join _ _ _ _ _ (if j.fM=true then _ else _) _=_;rw[CG];rfl
  ·cases h;exact CG
 ·have Ax:ic j=({ j with at_:=j.at_+1,ended:=true },true):=by unfold ic;rw[hw,ag h1]
  rw[Ax,ag (show ¬j.at_+1<(cS s l hs).W from h1)];dsimp only;rw[af rfl];cases hc:j.changed with
  |true=>
   have e:eN s l ⟨ev,jo,false,5,.join j,v,has,u::nx,out⟩ (.join { j with at_:=j.at_+1,ended:=true })=⟨ev,jo+1,false,6,.none,v,has,u::nx,out⟩:=by
    show (if j.changed=true then _ else _)=_;rw[af hc];dsimp only;rw[hjw]
   rw[hc]at e;refine⟨_,e,?_,rfl,?_,.inr rfl,fun z h=>Nw.noConfusion h,rfl,fun j' h=>Nw.noConfusion h,fun q h=>Nw.noConfusion h⟩
   ·rw[af rfl];rfl
   ·rw[af rfl];show (jo+1).toNat=jo.toNat+1;omega
  |false=>
   have e:eN s l ⟨ev,jo,false,5,.join j,v,has,u::nx,out⟩ (.join { j with at_:=j.at_+1,ended:=true })=⟨ev,jo,false,kP (u::nx),.none,v,has,nx,out⟩:=by
    show (if j.changed=true then _ else _)=_;rw[ag (by rw[hc];decide)];rfl
   rw[hc]at e;refine⟨_,e,?_,rfl,?_,.inl rfl,fun z h=>Nw.noConfusion h,rfl,fun j' h=>Nw.noConfusion h,fun q h=>Nw.noConfusion h⟩
   ·rw[ag go2];exact Ed (nx:=nx) (does:=kP (u::nx)) rfl
   ·rw[ag go2];rfl
theorem aeR(hR:RJ s l hs W ws D T M)(hM:M<1000000000){i:Nat}{ev jo:Int}{v u:Nat}{has:Bool}{nx out:List Int}(hu:u<nN s)(j:Jn)
  (hj:j.base=bc l u∧j.what=l.what∧j.words=l.words∧j.a=out) (kB:j.ended=false) (ck:j.at_≤nW l) (yr:j.at_<nW l∨(j.at_=0∧j.fM=false∧j.changed=false)) (ail:j.fM=true→j.at_<nW l)
  (hx:W[i]?=some ⟨ev,jo,false,5,.join j,v,has,u::nx,out⟩) :
  rn s l hs W ws D M i (gP s l ⟨ev,jo,false,5,.join j,v,has,u::nx,out⟩ ws):=by
 have hE:=hR.ev _ (bU hx);dsimp only at hE;have hJ:=hR.jn _ (bU hx) j rfl;have hp:=ni (s:=s) (l:=l) (ws:=ws) (D:=D) hx;have qx:=hR.lo;obtain⟨base,what,words,a,changed,ended,tries,at_,fM,xx⟩:=j;obtain⟨rfl,rfl,rfl,rfl⟩:=hj;dsimp only at kB ck yr ail hJ;subst kB
 by_cases h0:at_=nW l
 ·obtain⟨h1,h2,h3⟩:=yr.resolve_left (by omega);subst h1 h2 h3;have AH:nW l=0:=h0.symm
  have e:gP s l ⟨ev,jo,false,5,.join ⟨bc l u,l.what,l.words,a,false,false,tries,0,false,xx⟩,v,has,u::nx,a⟩ ws=(⟨ev,jo,false,kP (u::nx),.none,v,has,nx,a⟩,ws):=by
   have e1:iO bJ ⟨bc l u,l.what,l.words,a,false,false,tries,0,false,xx⟩ ws=(⟨bc l u,l.what,l.words,a,false,true,tries,0,false,xx⟩,ws,true):=by
    exact af h0
   exact rY (Eg e1)
  rw[e];refine⟨D,T,RJ.fin hR hx rfl hR.lu rfl (pX hR hx rfl (fun a ha=>rfl) (fun z h=>by cases h) rfl) (oU hR) (.inl rfl) (.inl rfl) (fun j h=>by cases h) (fun j h=>by cases h) ?_⟩;refine kb (mD (ws:=ws) (D:=D) hx (fun _ _=>rfl) (by rfl) (by rfl) D) ?_;dsimp only;rw[Ed (nx:=nx) (does:=kP (u::nx)) rfl];exact SX.Tr.none v a u (nx.map Int.toNat) hp AH
 have ab:at_<nW l:=by omega
 have eQ:ws.getD (u*nW l+at_) 0=(bV s l W ws D).cell u at_:=by
  show _=if _ then _ else _
  rw[af ⟨hu,ab⟩]
 have l7:=ud hu ab;have Kw:=hs.B0 hu ab;have Pn:=hs.what;have PK:wd a at_=a.getD at_ 0:=(s7 a at_).symm;cases fM with
 |true=>
  have hJ:=hJ rfl;obtain⟨k1,k2⟩:=IN (ws:=ws) (a:=u*nW l+at_) (by omega) xx (da l.what xx (wd a at_))
  by_cases hf:ws.getD (u*nW l+at_) 0=xx
  ·rw[bu hf]at k1;rw[af hf]at k2;obtain⟨x',ki,q1,q2,q3,q4,q5,q6,q7,q8⟩:=Vg hs (ev:=ev) (v:=v) (u:=u) (has:=has) (nx:=nx) (out:=a) ⟨bc l u,l.what,l.words,a,true,false,tries,at_,false,xx⟩ hE.2.2.1 (by omega) rfl rfl
   have e:gP s l ⟨ev,jo,false,5,.join ⟨bc l u,l.what,l.words,a,changed,false,tries,at_,true,xx⟩,v,has,u::nx,a⟩ ws=(x',ws.set (u*nW l+at_) (da l.what xx (wd a at_))):=by
    have e1:iO bJ ⟨bc l u,l.what,l.words,a,changed,false,tries,at_,true,xx⟩ ws=((ic ⟨bc l u,l.what,l.words,a,true,false,tries,at_,false,xx⟩).1,ws.set (u*nW l+at_) (da l.what xx (wd a at_)),(ic ⟨bc l u,l.what,l.words,a,true,false,tries,at_,false,xx⟩).2):=by
     show (if at_=cw l.words then ((⟨bc l u,l.what,l.words,a,changed,true,tries,at_,true,xx⟩:Jn),ws,true) else if oc ws (wr (bc l u+(at_:Nat))) xx=true then ((ic ⟨bc l u,l.what,l.words,a,true,false,tries,at_,false,xx⟩).1,jy ws (wr (bc l u+(at_:Nat))) xx (da l.what xx (wd a at_)),(ic ⟨bc l u,l.what,l.words,a,true,false,tries,at_,false,xx⟩).2) else (⟨bc l u,l.what,l.words,a,changed,false,wr (tries+1),at_,false,xx⟩,jy ws (wr (bc l u+(at_:Nat))) xx (da l.what xx (wd a at_)),false))=_;rw[ag h0,Kw,k1,k2,af rfl]
    rw[← ki];exact rY (Eg e1)
   rw[e];refine⟨D,T,RJ.fin hR hx (by rw[cz]) ?_ rfl (pX hR hx (by rw[cz]) (fun a ha=>?_) q5 q6.symm) (oU hR) (.inl q2) q4 (fun j h h2=>absurd ((q7 j h).symm.trans h2) (by decide)) (fun q h=>absurd h (q8 q)) ?_⟩
   ·rw[kp,ag (by omega)];exact hR.lu
   ·rw[kp,ag (by omega)]
   ·refine kb (ae7 (ws:=ws) (D:=D) hx hu ab (by omega) (by rfl) q2 _ q3) ?_;rw[q1];rw[PK,Pn]at hJ ⊢;have h9:xx=(bV s l W ws D).cell u at_:=hf.symm.trans eQ;have hp:(bV s l W ws D).ph[i]?=some (.join v a u (nx.map Int.toNat) at_ (some xx) changed):=hp;rw[h9]at hp hJ ⊢;exact SX.Tr.uW v a u (nx.map Int.toNat) at_ changed hp ab hJ
  ·rw[cf hf]at k1;rw[ag hf]at k2
   have e:gP s l ⟨ev,jo,false,5,.join ⟨bc l u,l.what,l.words,a,changed,false,tries,at_,true,xx⟩,v,has,u::nx,a⟩ ws=(⟨ev,jo,false,5,.join ⟨bc l u,l.what,l.words,a,changed,false,wr (tries+1),at_,false,xx⟩,v,has,u::nx,a⟩,ws):=by
    have e1:iO bJ ⟨bc l u,l.what,l.words,a,changed,false,tries,at_,true,xx⟩ ws=(⟨bc l u,l.what,l.words,a,changed,false,wr (tries+1),at_,false,xx⟩,ws,false):=by
     show (if at_=cw l.words then ((⟨bc l u,l.what,l.words,a,changed,true,tries,at_,true,xx⟩:Jn),ws,true) else if oc ws (wr (bc l u+(at_:Nat))) xx=true then ((ic ⟨bc l u,l.what,l.words,a,true,false,tries,at_,false,xx⟩).1,jy ws (wr (bc l u+(at_:Nat))) xx (da l.what xx (wd a at_)),(ic ⟨bc l u,l.what,l.words,a,true,false,tries,at_,false,xx⟩).2) else (⟨bc l u,l.what,l.words,a,changed,false,wr (tries+1),at_,false,xx⟩,jy ws (wr (bc l u+(at_:Nat))) xx (da l.what xx (wd a at_)),false))=_;rw[ag h0,Kw,k1,k2,ag (by decide)]
    exact rY (Eg e1)
   rw[e];refine⟨D,T,RJ.fin hR hx rfl hR.lu rfl (pX hR hx rfl (fun a ha=>rfl) (fun z h=>by cases h) rfl) (oU hR) (.inl rfl) (.inl rfl) (fun j h h2=>by cases h;cases h2) (fun j h=>by cases h) ?_⟩;refine kb (mD (ws:=ws) (D:=D) hx (fun _ _=>rfl) (by rfl) (by rfl) D) ?_;exact SX.Tr.lost v a u (nx.map Int.toNat) at_ changed xx hp ab (fun h=>hf (eQ.trans h))
 |false=>
  by_cases hf:da l.what (ws.getD (u*nW l+at_) 0) (wd a at_)=ws.getD (u*nW l+at_) 0
  ·obtain⟨x',ki,q1,q2,q3,q4,q5,q6,q7,q8⟩:=Vg hs (ev:=ev) (v:=v) (u:=u) (has:=has) (nx:=nx) (out:=a) ⟨bc l u,l.what,l.words,a,changed,false,tries,at_,false,ws.getD (u*nW l+at_) 0⟩ hE.2.2.1 (by omega) rfl rfl
   have e:gP s l ⟨ev,jo,false,5,.join ⟨bc l u,l.what,l.words,a,changed,false,tries,at_,false,xx⟩,v,has,u::nx,a⟩ ws=(x',ws):=by
    have e1:iO bJ ⟨bc l u,l.what,l.words,a,changed,false,tries,at_,false,xx⟩ ws=((ic ⟨bc l u,l.what,l.words,a,changed,false,tries,at_,false,ws.getD (u*nW l+at_) 0⟩).1,ws,(ic ⟨bc l u,l.what,l.words,a,changed,false,tries,at_,false,ws.getD (u*nW l+at_) 0⟩).2):=by
     show (if at_=cw l.words then ((⟨bc l u,l.what,l.words,a,changed,true,tries,at_,false,xx⟩:Jn),ws,true) else if da l.what (gY ws (wr (bc l u+(at_:Nat)))) (wd a at_)=gY ws (wr (bc l u+(at_:Nat))) then ((ic ⟨bc l u,l.what,l.words,a,changed,false,tries,at_,false,gY ws (wr (bc l u+(at_:Nat)))⟩).1,ws,(ic ⟨bc l u,l.what,l.words,a,changed,false,tries,at_,false,gY ws (wr (bc l u+(at_:Nat)))⟩).2) else (⟨bc l u,l.what,l.words,a,changed,false,tries,at_,true,gY ws (wr (bc l u+(at_:Nat)))⟩,ws,false))=_;rw[ag h0,Kw,oS,af hf]
    rw[← ki];exact rY (Eg e1)
   rw[e];refine⟨D,T,RJ.fin hR hx rfl hR.lu rfl (pX hR hx rfl (fun a ha=>rfl) q5 q6.symm) (oU hR) (.inl q2) q4 (fun j h h2=>absurd ((q7 j h).symm.trans h2) (by decide)) (fun q h=>absurd h (q8 q)) ?_⟩;refine kb (ahq (ws:=ws) (D:=D) hx q2 _ q3) ?_;rw[q1];refine SX.Tr.same v a u (nx.map Int.toNat) at_ changed hp ab ?_;show da s.what _ _=_;rw[← eQ,← PK,← Pn];exact hf
  ·have e:gP s l ⟨ev,jo,false,5,.join ⟨bc l u,l.what,l.words,a,changed,false,tries,at_,false,xx⟩,v,has,u::nx,a⟩ ws=(⟨ev,jo,false,5,.join ⟨bc l u,l.what,l.words,a,changed,false,tries,at_,true,ws.getD (u*nW l+at_) 0⟩,v,has,u::nx,a⟩,ws):=by
    have e1:iO bJ ⟨bc l u,l.what,l.words,a,changed,false,tries,at_,false,xx⟩ ws=(⟨bc l u,l.what,l.words,a,changed,false,tries,at_,true,ws.getD (u*nW l+at_) 0⟩,ws,false):=by
     show (if at_=cw l.words then ((⟨bc l u,l.what,l.words,a,changed,true,tries,at_,false,xx⟩:Jn),ws,true) else if da l.what (gY ws (wr (bc l u+(at_:Nat)))) (wd a at_)=gY ws (wr (bc l u+(at_:Nat))) then ((ic ⟨bc l u,l.what,l.words,a,changed,false,tries,at_,false,gY ws (wr (bc l u+(at_:Nat)))⟩).1,ws,(ic ⟨bc l u,l.what,l.words,a,changed,false,tries,at_,false,gY ws (wr (bc l u+(at_:Nat)))⟩).2) else (⟨bc l u,l.what,l.words,a,changed,false,tries,at_,true,gY ws (wr (bc l u+(at_:Nat)))⟩,ws,false))=_;rw[ag h0,Kw,oS,ag hf]
    exact rY (Eg e1)
   rw[e];refine⟨D,T,RJ.fin hR hx rfl hR.lu rfl (pX hR hx rfl (fun a ha=>rfl) (fun z h=>by cases h) rfl) (oU hR) (.inl rfl) (.inl rfl) (fun j h h2=>by cases h;exact hf) (fun j h=>by cases h) ?_⟩;refine kb (mD (ws:=ws) (D:=D) hx (fun _ _=>rfl) (by rfl) (by rfl) D) ?_;have h9:dC ⟨ev,jo,false,5,.join ⟨bc l u,l.what,l.words,a,changed,false,tries,at_,true,ws.getD (u*nW l+at_) 0⟩,v,has,u::nx,a⟩=.join v a u (nx.map Int.toNat) at_ (some ((bV s l W ws D).cell u at_)) changed:=by rw[← eQ];rfl
   rw[h9];refine SX.Tr.load v a u (nx.map Int.toNat) at_ changed hp ab ?_;show ¬da s.what _ _=_;rw[← eQ,← PK,← Pn];exact hf
end
set_option maxHeartbeats 4000000
theorem agU{q q':DQ}{ws ws':List Int}(he:q.ended=false)(h:fK bJ q ws=(q',ws',false)):q'.at_=q.at_+1:=by
 unfold fK at h;rw[he,ag (by decide)]at h
 (repeat' split at h) <;> cases h <;> rfl
theorem af5{q q':DQ}{ws ws':List Int}(he:q.ended=false)(h:gH bJ q ws=(q',ws',false)):q'.at_=q.at_+1∧q.at_<3:=by
 unfold gH at h;rw[he,ag (by decide)]at h
 by_cases h0:q.at_=0
 ·rw[af h0]at h;cases h;exact⟨rfl,by omega⟩
 by_cases h1:q.at_=1
 ·rw[ag h0,af h1]at h;split at h
  ·cases h
  ·cases h;exact⟨rfl,by omega⟩
 by_cases h2:q.at_=2
 ·rw[ag h0,ag h1,af h2]at h;cases h;exact⟨rfl,by omega⟩
 ·rw[ag h0,ag h1,ag h2]at h;cases h
theorem acV{q q':DQ}{ws ws':List Int}(he:q.ended=false)(hk:q.ok=false)(h:gH bJ q ws=(q',ws',true))(ho:q'.ok=true)(h3:q.at_≤3):q.at_=3:=by
 unfold gH at h;rw[he,ag (by decide)]at h
 by_cases h0:q.at_=0
 ·rw[af h0]at h;cases h
 by_cases h1:q.at_=1
 ·rw[ag h0,af h1]at h;split at h
  ·cases h;exact absurd (hk.symm.trans ho) (by decide)
  ·cases h
 by_cases h2:q.at_=2
 ·rw[ag h0,ag h1,af h2]at h;cases h
 ·omega
theorem acw{q q':DQ}{ws ws':List Int}(he:q.ended=false)(h:gU bJ q ws=(q',ws',false)):q'.at_=q.at_+1∧q.at_<3:=by
 unfold gU at h;rw[he,ag (by decide)]at h
 by_cases h0:q.at_=0
 ·rw[af h0]at h;cases h;exact⟨rfl,by omega⟩
 by_cases h1:q.at_=1
 ·rw[ag h0,af h1]at h;split at h
  ·cases h
  ·cases h;exact⟨rfl,by omega⟩
 by_cases h2:q.at_=2
 ·rw[ag h0,ag h1,af h2]at h;cases h;exact⟨rfl,by omega⟩
 ·rw[ag h0,ag h1,ag h2]at h;cases h
theorem abO{c:List Nat}{c':List Int}{n:Int}(h:jV c=c'++[n]):∃(c0:List Nat) (v:Nat),c=c0++[v]∧c'=jV c0∧n=(v:Int):=by
 obtain⟨l1,l2,h1,h2,h3⟩:=List.map_eq_append_iff.1 h;obtain⟨v,h4,h5⟩:=List.map_eq_singleton_iff.1 h3;exact⟨l1,v,by rw[h1,h4],h2.symm,h5.symm⟩
theorem To{c:List Nat}{c':List Int}{n:Int}(h:jV c=n::c'):∃(v:Nat) (c0:List Nat),c=v::c0∧n=(v:Int)∧c'=jV c0:=by
 cases c with
 |nil=>cases h
 |cons v c0=>
  have h:(v:Int)::jV c0=n::c':=h
  injection h with h1 h2
  exact⟨v,c0,rfl,h1.symm,h2.symm⟩
theorem MG{c:List Nat}(h:jV c=[]):c=[]:=List.map_eq_nil_iff.1 h
theorem BF{s:Sy}{l:Lay}(hs:LS s l){v:Nat}(hv:v<nN s):rW l v=3∧pV l v=v:=by
 have h1:=hs.nn;have h2:=hs.n;have h3:wu l.n=(nN s:Int):=by show IntKind.u64.wrap _=_;rw[IntKind.wrap_u64];omega
 unfold rW pV;rw[h3,ag (by omega),ag (by omega)];exact⟨rfl,iZ (by omega) (by omega)⟩
theorem IM{ev jo does node:Int}{has:Bool}{nx out:List Int}(q:DQ):dC ⟨ev,jo,false,does,.pop q,node,has,nx,out⟩=if q.at_=5∧q.ok=true then .held q.x.toNat else .idle 0 q.at_:=rfl
section
variable {s:Sy} {l:Lay} {hs:LS s l} {W:List WS} {ws:List Int} {D:List (List Nat)} {T:Nat→Nat} {M:Nat}
theorem Nf(hs:LS s l){j:Nat}(hj:j≤64):ib s l j<1000000000:=by
 have h1:=hs.nn;have h2:=hs.ww;have h3:=s6 h1.2.2 h2.2;have h4:j*(nN s+3)≤64*259:=jN hj (by omega);unfold ib;omega
theorem Nx{i:Nat}{ws':List Int}(jG:∀a,¬(ib s l i≤a∧a<ib s l i+2+rm (eM l))→ws'.getD a 0=ws.getD a 0)(a:Nat)(h:a<nN s*nW l+nN s+1):ws'.getD a 0=ws.getD a 0:=
 jG a fun h2=>by unfold ib at h2;omega
theorem agF(hR:RJ s l hs W ws D T M)(hM:M<1000000000){i:Nat}{ev jo:Int}{node:Int}{has:Bool}{nx out:List Int}(q:DQ)(kB:q.ended=false)(h5:q.at_≤5)(hxq:0≤q.x)
  (hx:W[i]?=some ⟨ev,jo,false,0,.pop q,node,has,nx,out⟩) :
  rn s l hs W ws D M i (gP s l ⟨ev,jo,false,0,.pop q,node,has,nx,out⟩ ws):=by
 obtain⟨c,hc⟩:=hR.at_ hx;have hi:=(bZ.1 hx).1;have hlen:=hR.len;have eD:=hs.k2;have hD:=hR.di i c hc;rw[Bu hx]at hD;have hD:DI (ib s l i) (eM l) ws (some (true,q)) (mg s l W i) (T i) (jV c):=hD;obtain⟨q',ws',e,aq⟩:∃q' ws' e,fK bJ q ws=(q',ws',e):=⟨_,_,_,rfl⟩
 obtain⟨h1,jG,hb,EW⟩:=agV hD (Nf hs (by omega)) (hR.bound hM hc) aq;have fB:=Nx (s:=s) (l:=l) jG;have Ku:=hR.Fx hc;have iw:0≤ws'.getD (nN s*nW l+nN s) 0:=by rw[fB _ (by omega)];exact hR.lu
 have hp:=ni (s:=s) (l:=l) (ws:=ws) (D:=D) hx;have Ab:=hR.top i
 have F4:gP s l ⟨ev,jo,false,0,.pop q,node,has,nx,out⟩ ws=(if e=true then eN s l ⟨ev,jo,false,0,.pop q,node,has,nx,out⟩ (.pop q') else ⟨ev,jo,false,0,.pop q',node,has,nx,out⟩,ws'):=by
  exact rY (ah7 aq)
 rw[F4]
 have kH:¬(q.at_=5∧q.ok=true)→(bV s l W ws D).ph[i]?=some (.idle 0 q.at_):=fun h=>by
  rw[hp,IM,ag h]
 rcases EW with ⟨rfl,h6,h7,hd⟩ | ⟨rfl,h6,qw,sE,hd⟩ | ⟨rfl,qw,h6,sE,hd⟩ | ⟨rfl,qw,h6,c',sE,hd⟩ | ⟨rfl,qw,h6,h7,Kn,sE,hd⟩
 ·rw[ag (by decide)];have ck:=agU kB aq;have lh:=yj hR hx (x':=⟨ev,jo,false,0,.pop q',node,has,nx,out⟩) h1 jG (fun z h=>by cases h) hd;rw[oR hc]at lh;refine⟨D,_,RJ.fin hR hx h1 iw rfl lh (ui hR i (by omega)) (.inl rfl) (.inl rfl) (fun j h=>by cases h) (fun j h=>by cases h) ?_⟩;refine kb (mD (ws:=ws) (D:=D) hx fB (by rfl) (by rfl) D) ?_
  have h9:dC ⟨ev,jo,false,0,.pop q',node,has,nx,out⟩=.idle 0 (q.at_+1):=by
   rw[IM,ag fun h=>by rw[h7 h.1]at h;exact absurd h.2 (by decide),ck]
  rw[h9];exact SX.Tr.uK q.at_ (kH fun h=>h6 h.1) (Nat.lt_of_le_of_ne h5 h6)
 ·rw[ag (by decide)];obtain⟨v,c0,rfl,F5,iY⟩:=To sE;have nH:=MG iY.symm;subst nH;refine⟨D.set i [],_,RJ.fin hR hx h1 iw (by rw[cz]) (yj hR hx (x':=⟨ev,jo,false,0,.pop q',node,has,nx,out⟩) (c':=[]) h1 jG (fun z h=>by cases h) hd) (ui hR i (by omega)) (.inl rfl) (.inl rfl) (fun j h=>by cases h) (fun j h=>by cases h) ?_⟩;refine kb (mD (ws:=ws) (D:=D) hx fB (by rfl) (by rfl) (D.set i [])) ?_
  have h9:dC ⟨ev,jo,false,0,.pop q',node,has,nx,out⟩=.held v:=by
   rw[IM,af ⟨h6,qw⟩,F5];rfl
  rw[h9];have ho:Ah (ib s l i) (eM l) (mg s l W i) (T i) (jV [v]) q:=hD.ow;exact SX.Tr.cas v q.at_ (kH fun h=>absurd (ho.a5 h.1) (by simp)) hc
 ·rw[af rfl];have nH:=MG sE;subst nH;have hb:eN s l ⟨ev,jo,false,0,.pop q,node,has,nx,out⟩ (.pop q')=⟨ev,jo,false,rT l,.none,node,has,nx,out⟩:=ag (by rw[qw];decide);rw[hb];have lh:=yj hR hx (x':=⟨ev,jo,false,rT l,.none,node,has,nx,out⟩) h1 jG (fun z h=>by cases h) hd;rw[oR hc]at lh;refine⟨D,_,RJ.fin hR hx h1 iw rfl lh (ui hR i (by omega)) (.inl rfl) (.inl rfl) (fun j h=>by cases h) (fun j h=>by cases h) ?_⟩;refine kb (mD (ws:=ws) (D:=D) hx fB (by rfl) (by rfl) D) ?_
  have h9:dC ⟨ev,jo,false,rT l,.none,node,has,nx,out⟩=.idle (if (cS s l hs).k<2 then 2 else 1) 0:=by
   show Aq (rT l) _ _ _ _=.idle (if l.k.toNat<2 then 2 else 1) 0;unfold rT
   by_cases hk:l.k<2
   ·rw[af hk,af (by omega)];rfl
   ·rw[ag hk,ag (by omega)];rfl
  rw[h9];exact SX.Tr.uL q.at_ (kH fun h=>by have:=h6 h.1;rw[this]at h;exact absurd h.2 (by decide)) hc
 ·rw[af rfl];obtain⟨c0,v,rfl,rfl,F5⟩:=abO sE;have hv:v<nN s:=Ku.2 v (by simp)
  have hb:eN s l ⟨ev,jo,false,0,.pop q,node,has,nx,out⟩ (.pop q')=⟨ev,jo,false,3,.none,v,true,nx,out⟩:=by
   show (if q'.ok=true then _ else _)=_;rw[af qw,F5,(BF hs hv).1,(BF hs hv).2]
  rw[hb];refine⟨D.set i c0,_,RJ.fin hR hx h1 iw (by rw[cz]) (yj hR hx (x':=⟨ev,jo,false,3,.none,v,true,nx,out⟩) (c':=c0) h1 jG (fun z h=>by cases h) hd) (ui hR i (by omega)) (.inl rfl) (.inl rfl) (fun j h=>by cases h) (fun j h=>by cases h) ?_⟩;refine kb (mD (ws:=ws) (D:=D) hx fB (by rfl) (by rfl) (D.set i c0)) ?_;exact SX.Tr.pop v c0 q.at_ (kH fun h=>by omega) hc
 ·rw[af rfl];have nH:=MG sE;subst nH
  have XY:(bV s l W ws D).ph[i]?=some (.held q.x.toNat):=by
   rw[hp,IM,af ⟨h6,h7⟩]
  have hv:q.x.toNat<nN s:=hR.ti.at_ XY (v:=q.x.toNat) (by simp[SX.nodes]);have xe:q.x=(q.x.toNat:Int):=by omega
  have hb:eN s l ⟨ev,jo,false,0,.pop q,node,has,nx,out⟩ (.pop q')=⟨ev,jo,false,3,.none,(q.x.toNat:Int),true,nx,out⟩:=by
   show (if q'.ok=true then _ else _)=_;rw[af qw,Kn,xe,bG,(BF hs hv).1,(BF hs hv).2]
  rw[hb];have lh:=yj hR hx (x':=⟨ev,jo,false,3,.none,(q.x.toNat:Int),true,nx,out⟩) (c':=[]) h1 jG (fun z h=>by cases h) hd;rw[oR hc]at lh;refine⟨D,_,RJ.fin hR hx h1 iw rfl lh (ui hR i (by omega)) (.inl rfl) (.inl rfl) (fun j h=>by cases h) (fun j h=>by cases h) ?_⟩;refine kb (mD (ws:=ws) (D:=D) hx fB (by rfl) (by rfl) D) ?_;exact SX.Tr.vv q.x.toNat XY
theorem aeQ(hR:RJ s l hs W ws D T M)(hM:M<1000000000){i:Nat}{ev jo:Int}{v u:Nat}{has:Bool}{nx out:List Int}(q:DQ)(kB:q.ended=false)(bM:q.ok=false)(h3:q.at_≤3)
  (hx:W[i]?=some ⟨ev,jo,false,7,.push q,v,has,u::nx,out⟩) :
  rn s l hs W ws D M i (gP s l ⟨ev,jo,false,7,.push q,v,has,u::nx,out⟩ ws):=by
 obtain⟨c,hc⟩:=hR.at_ hx;have hi:=(bZ.1 hx).1;have hlen:=hR.len;have eD:=hs.k2;have hD:=hR.di i c hc;rw[Bu hx]at hD;have hD:DI (ib s l i) (eM l) ws (some (false,q)) (mg s l W i) (T i) (jV c):=hD;have Kn:q.n=(u:Int):=hR.pn _ (bU hx) q rfl;obtain⟨q',ws',e,aq⟩:∃q' ws' e,gH bJ q ws=(q',ws',e):=⟨_,_,_,rfl⟩
 obtain⟨h1,jG,hn,hb,EW⟩:=af6 hD (Nf hs (by omega)) (hR.bound hM hc) aq;have fB:=Nx (s:=s) (l:=l) jG;have Ku:=hR.Fx hc;have iw:0≤ws'.getD (nN s*nW l+nN s) 0:=by rw[fB _ (by omega)];exact hR.lu
 have hp:=ni (s:=s) (l:=l) (ws:=ws) (D:=D) hx;have hp:(bV s l W ws D).ph[i]?=some (.push v out u (nx.map Int.toNat) q.at_):=hp;have Ab:=hR.top i
 have F4:gP s l ⟨ev,jo,false,7,.push q,v,has,u::nx,out⟩ ws=(if e=true then ⟨ev,jo,false,kP (u::nx),.none,v,has,nx,out⟩ else ⟨ev,jo,false,7,.push q',v,has,u::nx,out⟩,ws'):=by
  exact rY (afo aq)
 rw[F4]
 rcases EW with ⟨rfl,hd⟩ | ⟨rfl,qw,ajq,hd⟩ | ⟨rfl,qw,oY,hd⟩
 ·rw[ag (by decide)];have ck:=af5 kB aq;have lh:=yj hR hx (x':=⟨ev,jo,false,7,.push q',v,has,u::nx,out⟩) h1 jG (fun z h=>by cases h) hd;rw[oR hc]at lh;refine⟨D,_,RJ.fin hR hx h1 iw rfl lh (ui hR i (by omega)) (.inl rfl) (.inl rfl) (fun j h=>by cases h) (fun q2 h=>by cases h;exact hn.trans Kn) ?_⟩;refine kb (mD (ws:=ws) (D:=D) hx fB (by rfl) (by rfl) D) ?_;have h9:dC ⟨ev,jo,false,7,.push q',v,has,u::nx,out⟩=.push v out u (nx.map Int.toNat) (q.at_+1):=by rw[← ck.1];rfl
  rw[h9];exact SX.Tr.uv v out u (nx.map Int.toNat) q.at_ hp ck.2
 ·rw[hs.room.2,bX]at ajq;omega
 ·rw[af rfl];have h4:=acV kB bM aq qw h3
  have hd:DI (ib s l i) (eM l) ws' none (mg s l W i) (T i) (jV (c++[u])):=by
   show DI _ _ _ _ _ _ (List.map _ (c++[u]));rw[cF];rw[Kn]at hd;exact hd
  refine⟨D.set i (c++[u]),_,RJ.fin hR hx h1 iw (by rw[cz]) (yj hR hx (x':=⟨ev,jo,false,kP (u::nx),.none,v,has,nx,out⟩) h1 jG (fun z h=>by cases h) hd) (ui hR i (by omega)) (.inl rfl) (.inl rfl) (fun j h=>by cases h) (fun j h=>by cases h) ?_⟩;refine kb (mD (ws:=ws) (D:=D) hx fB (by rfl) (by rfl) (D.set i (c++[u]))) ?_;dsimp only;rw[Ed (nx:=nx) (does:=kP (u::nx)) rfl];rw[h4]at hp;exact SX.Tr.push v out u (nx.map Int.toNat) c hp hc
theorem acA(hR:RJ s l hs W ws D T M)(hM:M<1000000000){i j:Nat}{ev jo:Int}{node:Int}{has:Bool}{nx out:List Int}(q:DQ)(kB:q.ended=false)(hj:(j:Int)<l.k)(Je:q.base=(ib s l j:Int))
  (hx:W[i]?=some ⟨ev,jo,false,1,.cu q,node,has,nx,out⟩) :
  rn s l hs W ws D M i (gP s l ⟨ev,jo,false,1,.cu q,node,has,nx,out⟩ ws):=by
 have hlen:=hR.len;have Kr:j<D.length:=by rw[hR.dl];omega
 obtain⟨c,hc⟩:∃c,D[j]?=some c:=⟨D[j],bB Kr⟩
 have eD:=hs.k2;have hD:=hR.di j c hc;obtain⟨q',ws',e,aq⟩:∃q' ws' e,gU bJ q ws=(q',ws',e):=⟨_,_,_,rfl⟩
 obtain⟨h1,jG,hb,EW⟩:=acx hD ⟨i,_,hx,rfl,Je⟩ kB (Nf hs (by omega)) (hR.bound hM hc) aq;have fB:=Nx (s:=s) (l:=l) jG;have Ku:=hR.Fx hc;have iw:0≤ws'.getD (nN s*nW l+nN s) 0:=by rw[fB _ (by omega)];exact hR.lu
 have hp:=ni (s:=s) (l:=l) (ws:=ws) (D:=D) hx;have hp:(bV s l W ws D).ph[i]?=some (.idle 1 q.at_):=hp;have Ab:=hR.top j
 have F4:gP s l ⟨ev,jo,false,1,.cu q,node,has,nx,out⟩ ws=(if e=true then eN s l ⟨ev,jo,false,1,.cu q,node,has,nx,out⟩ (.cu q') else ⟨ev,jo,false,1,.cu q',node,has,nx,out⟩,ws'):=by
  exact rY (adi aq)
 rw[F4]
 rcases EW with ⟨rfl,mn,hd⟩ | ⟨rfl,qw,hd⟩ | ⟨rfl,qw,c',sE,hd⟩
 ·rw[ag (by decide)];have ck:=acw kB aq;have lh:=IU (c':=c) hR hx (x':=⟨ev,jo,false,1,.cu q',node,has,nx,out⟩) Kr h1 jG (.inl ⟨rfl,hb.trans Je⟩) rfl (hd.rb fun z hz=>hz.imp id fun h=>h.2);rw[oR hc]at lh;refine⟨D,_,RJ.fin hR hx h1 iw rfl lh (ui hR j (by omega)) (.inl rfl) (.inl rfl) (fun j h=>by cases h) (fun j h=>by cases h) ?_⟩;refine kb (mD (ws:=ws) (D:=D) hx fB (by rfl) (by rfl) D) ?_;have h9:dC ⟨ev,jo,false,1,.cu q',node,has,nx,out⟩=.idle 1 (q.at_+1):=by rw[← ck.1];rfl
  rw[h9];exact SX.Tr.uj q.at_ hp ck.2
 ·rw[af rfl];have sF:eN s l ⟨ev,jo,false,1,.cu q,node,has,nx,out⟩ (.cu q')=⟨ev,jo,false,2,.none,node,has,nx,out⟩:=ag (by rw[qw];decide);rw[sF];have lh:=IU (c':=c) (q':=q') hR hx (x':=⟨ev,jo,false,2,.none,node,has,nx,out⟩) Kr h1 jG (.inr fun z h=>by cases h) rfl (hd.rb fun z hz=>hz.elim id fun h=>by cases h.1);rw[oR hc]at lh;refine⟨D,_,RJ.fin hR hx h1 iw rfl lh (ui hR j (by omega)) (.inl rfl) (.inl rfl) (fun j h=>by cases h) (fun j h=>by cases h) ?_⟩;refine kb (mD (ws:=ws) (D:=D) hx fB (by rfl) (by rfl) D) ?_;exact SX.Tr.uk q.at_ hp
 ·rw[af rfl];obtain⟨v,c0,rfl,F5,rfl⟩:=To sE;have hv:v<nN s:=Ku.2 v (by simp)
  have sF:eN s l ⟨ev,jo,false,1,.cu q,node,has,nx,out⟩ (.cu q')=⟨ev,jo,false,3,.none,v,true,nx,out⟩:=by
   show (if q'.ok=true then _ else _)=_;rw[af qw,F5,(BF hs hv).1,(BF hs hv).2]
  rw[sF];refine⟨D.set j c0,_,RJ.fin hR hx h1 iw (by rw[cz]) (IU (c':=c0) (q':=q') hR hx (x':=⟨ev,jo,false,3,.none,v,true,nx,out⟩) Kr h1 jG (.inr fun z h=>by cases h) rfl (hd.rb fun z hz=>hz.elim id fun h=>by cases h.1)) (ui hR j (by omega)) (.inl rfl) (.inl rfl) (fun j h=>by cases h) (fun j h=>by cases h) ?_⟩;refine kb (mD (ws:=ws) (D:=D) hx fB (by rfl) (by rfl) (D.set j c0)) ?_;exact SX.Tr.cu j v c0 q.at_ hp hc
theorem RJ.aho(hR:RJ s l hs W ws D T M){i:Nat}{x:WS}(hx:W[i]?=some x)(hn:x.now=.none)(hw:WV s l i x)(d:Int){n:Nw}(hb:ji l i x.does x.node x.nx x.out d=n):
  RJ s l hs (W.set i ⟨x.ev,x.jo,x.en,x.does,n,x.node,x.has,x.nx,x.out⟩) ws D T M:=by
 have hi:=(bZ.1 hx).1;have hlen:=hR.len;have eD:=hs.k2;have qm:(0:Int)≤(i:Nat)∧((i:Nat):Int)<l.k:=by omega
 have kH:dC ⟨x.ev,x.jo,x.en,x.does,n,x.node,x.has,x.nx,x.out⟩=dC x:=by
  have:=Ud l i d x;rw[show kN l i x d=n by unfold kN;rw[hn];exact hb]at this;exact this
 have oF:bV s l (W.set i ⟨x.ev,x.jo,x.en,x.does,n,x.node,x.has,x.nx,x.out⟩) ws D=bV s l W ws D:=by
  rw[mD (ws:=ws) (D:=D) (x':=⟨x.ev,x.jo,x.en,x.does,n,x.node,x.has,x.nx,x.out⟩) hx (fun _ _=>rfl) rfl rfl D,kH,oR (ni hx)];rfl
 have Xn:l9 W i=none:=by rw[Bu hx,hn];rfl
 have key:(∀(j:Nat) (c:List Nat),D[j]?=some c→DI (ib s l j) (eM l) ws (l9 (W.set i ⟨x.ev,x.jo,x.en,x.does,n,x.node,x.has,x.nx,x.out⟩) j) (mg s l (W.set i ⟨x.ev,x.jo,x.en,x.does,n,x.node,x.has,x.nx,x.out⟩) j) (T j) (jV c))→(∀j,n=.join j→j.fM=true→da j.what j.x (wd j.a j.at_)≠j.x)→(∀q,n=.push q→q.n=x.nx.headD 0)→RJ s l hs (W.set i ⟨x.ev,x.jo,x.en,x.does,n,x.node,x.has,x.nx,x.out⟩) ws D T M:=by
  intro lh Ax tF;refine⟨by rw[cz];exact hR.len,hR.fl,hR.lu,by rw[cz];exact hR.dl,lh,hR.top,fun y hy=>?_,fun y hy=>?_,fun y hy=>?_,by rw[oF];exact hR.ti⟩
  ·rcases A4 hy with hy | rfl
   ·exact hR.ev y hy
   ·exact hR.ev x (bU hx)
  ·rcases A4 hy with hy | rfl
   ·exact hR.jn y hy
   ·exact Ax
  ·rcases A4 hy with hy | rfl
   ·exact hR.pn y hy
   ·exact tF
 have plain:(∀z,n≠.cu z)→tb n=none→∀(j:Nat) (c:List Nat),D[j]?=some c→DI (ib s l j) (eM l) ws (l9 (W.set i ⟨x.ev,x.jo,x.en,x.does,n,x.node,x.has,x.nx,x.out⟩) j) (mg s l (W.set i ⟨x.ev,x.jo,x.en,x.does,n,x.node,x.has,x.nx,x.out⟩) j) (T j) (jV c):=fun h1 h2=>
  pX hR hx (x':=⟨x.ev,x.jo,x.en,x.does,n,x.node,x.has,x.nx,x.out⟩) rfl (fun _ _=>rfl) h1 (by rw[hn];exact h2.symm)
 have own:(∀z,n≠.cu z)→(∀c,D[i]?=some c→DI (ib s l i) (eM l) ws (tb n) (mg s l W i) (T i) (jV c))→∀(j:Nat) (c:List Nat),D[j]?=some c→DI (ib s l j) (eM l) ws (l9 (W.set i ⟨x.ev,x.jo,x.en,x.does,n,x.node,x.has,x.nx,x.out⟩) j) (mg s l (W.set i ⟨x.ev,x.jo,x.en,x.does,n,x.node,x.has,x.nx,x.out⟩) j) (T j) (jV c):=fun h1 h2 j c hj=>by
  obtain⟨c0,iw⟩:=hR.at_ hx;have:=yj hR hx (x':=⟨x.ev,x.jo,x.en,x.does,n,x.node,x.has,x.nx,x.out⟩) (c':=c0) (T':=T i) rfl (fun _ _=>rfl) h1 (h2 c0 iw);rw[oR iw]at this;have h3:=this j c hj;have e:(if j=i then T i else T j)=T j:=by split <;> simp_all
  rw[e]at h3;exact h3
 have Gi:=hs.yu (k:=i) (by omega)
 by_cases h0:x.does=0
 ·rw[JX h0]at hb;subst hb;refine key (own (fun z h=>by cases h) fun c hc=>?_) (fun j h=>by cases h) (fun q h=>by cases h);have:=hR.di i c hc;rw[Xn]at this;exact this.pop Gi rfl rfl rfl rfl
 by_cases h1:x.does=1
 ·rw[JW h1]at hb;subst hb;obtain⟨v,hv,hvk⟩:=Sr hs qm (hw.Cs h1) d;rw[hv];have hvD:v<D.length:=by rw[hR.dl];omega
  obtain⟨c0,iw⟩:∃c,D[v]?=some c:=⟨D[v],bB hvD⟩
  have hdv:=hs.yu (k:=v) (by omega);rw[hv]at key;refine key (fun j c hj=>?_) (fun j h=>by cases h) (fun q h=>by cases h);have h4:=IU hR hx (x':=⟨x.ev,x.jo,x.en,x.does,.cu (vM (jr l v) (eM l) 0),x.node,x.has,x.nx,x.out⟩) (q':=vM (jr l v) (eM l) 0) (c':=c0) (T':=T v) hvD rfl (fun _ _=>rfl) (.inl ⟨rfl,hdv⟩) (by rw[hn];rfl) (((hR.di v c0 iw).Cs (z:=vM (jr l v) (eM l) 0) hdv rfl rfl rfl).rb fun z hz=>hz.imp id fun h=>h.2);rw[oR iw]at h4;have h3:=h4 j c hj;have e:(if j=v then T v else T j)=T j:=by split <;> simp_all
  rw[e]at h3;exact h3
 by_cases h2:x.does=2
 ·rw[JV h2]at hb;subst hb;exact key (plain (fun z h=>by cases h) rfl) (fun j h=>by cases h) (fun q h=>by cases h)
 by_cases h3:x.does=3
 ·rw[JU h3]at hb;subst hb;exact key (plain (fun z h=>by cases h) rfl) (fun j h=>by cases h) (fun q h=>by cases h)
 by_cases h4:x.does=4
 ·rw[JT h4]at hb;subst hb;exact key (plain (fun z h=>by cases h) rfl) (fun j h=>by cases h) (fun q h=>by cases h)
 by_cases h5:x.does=5
 ·rw[JS h5]at hb;subst hb;exact key (plain (fun z h=>by cases h) rfl) (fun j h h2=>by cases h;cases h2) (fun q h=>by cases h)
 by_cases h6:x.does=6
 ·rw[JR h6]at hb;subst hb;exact key (plain (fun z h=>by cases h) rfl) (fun j h=>by cases h) (fun q h=>by cases h)
 by_cases h7:x.does=7
 ·rw[JQ h7]at hb;subst hb;obtain⟨u,hu,fh⟩:=M9 hw.nx (hw.head (.inr (.inr h7)));refine key (own (fun z h=>by cases h) fun c hc=>?_) (fun j h=>by cases h) (fun q h=>?_)
  ·have:=hR.di i c hc;rw[Xn]at this;exact this.push Gi rfl rfl rfl rfl
  ·cases h;have:=hs.nn;show wu (x.nx.headD 0)=_;rw[hu];show IntKind.u64.wrap _=_;rw[IntKind.wrap_u64];omega
 rw[JP h0 h1 h2 h3 h4 h5 h6 h7]at hb;subst hb;exact key (plain (fun z h=>by cases h) rfl) (fun j h=>by cases h) (fun q h=>by cases h)
theorem agG(hR:RJ s l hs W ws D T M)(hM:M<1000000000)(Pu:MV s l ws){i:Nat}{x:WS}(hx:W[i]?=some x)(he:x.en=false)(qY:0≤x.node∧x.node<s.n)(cP:∀u∈x.nx,0≤u∧u<s.n)(hh:x.does=5∨x.does=6∨x.does=7→0<x.nx.length)
  (hb:Aa s l i x.does x.node x.nx x.out x.now) (yr:∀j,x.now=.join j→j.at_<nW l∨(j.at_=0∧j.fM=false∧j.changed=false)):rn s l hs W ws D M i (gP s l x ws):=by
 obtain⟨ev,jo,en,does,now,node,has,nx,out⟩:=x;have he:en=false:=he;subst he;have qY:0≤node∧node<s.n:=qY;have hnn:=hs.nn;obtain⟨v,rfl⟩:=mY qY.1;have hv:v<nN s:=by omega
 have cP:∀u∈nx,0≤u∧u<s.n:=cP;have hh:does=5∨does=6∨does=7→0<nx.length:=hh
 have head:0<nx.length→∃(u:Nat) (r:List Int),nx=(u:Int)::r∧u<nN s:=fun h=>by
  cases nx with
  |nil=>cases h
  |cons z r=>
   have:=cP z (b9 ..);obtain⟨u,rfl⟩:=mY this.1;exact⟨u,r,rfl,by omega⟩
 have hb:Aa s l i does v nx out now:=hb;have yr:∀j,now=.join j→j.at_<nW l∨(j.at_=0∧j.fM=false∧j.changed=false):=yr;cases now with
 |none=>exact hb.elim
 |pop q=>
  obtain⟨rfl,h1,h2,h3⟩:=hb;exact agF hR hM q h1.en h1.at_ h1.x.1 hx
 |cu q=>
  obtain⟨rfl,h1,⟨j,hj,h2⟩,h3⟩:=hb;have eD:=hs.k2;exact acA hR hM q h1.en hj (h2.trans (hs.yu (by omega))) hx
 |quiet t=>
  obtain⟨rfl,rfl⟩:=hb;exact acB hR hx
 |clear t=>
  obtain⟨rfl,rfl⟩:=hb;exact acC hR hv hx
 |read y=>
  obtain⟨rfl,h1,h2⟩:=hb;exact aeP hR hM Pu hv h1 h2 hx
 |join j=>
  obtain⟨rfl,h1,h2,h3,h4,h5⟩:=hb;obtain⟨u,r,rfl,hu⟩:=head (hh (.inl rfl));exact aeR hR hM hu j h1 h2 h3 (yr j rfl) (fun h=>(h5 h).1) hx
 |take t=>
  obtain⟨rfl,j7,rfl⟩:=hb;obtain⟨u,r,rfl,hu⟩:=head (hh (.inr (.inl rfl)));cases j7 with
  |true=>exact acy hR hx
  |false=>exact acz hR hu hx
 |push q=>
  obtain⟨rfl,h1,h2,h3,h4⟩:=hb;obtain⟨u,r,rfl,hu⟩:=head (hh (.inr (.inr rfl)));exact aeQ hR hM q h1.en h4 h1.at_ hx
 |dK t=>
  obtain⟨rfl,rfl⟩:=hb;exact aaE hR hx
theorem aay{s:Sy}{l:Lay}{who d:Int}{x:WS}{ws:List Int}(he:x.en=false):((dB bJ s l who x d ws).1,(dB bJ s l who x d ws).2.1)=gP s l ⟨x.ev,x.jo,x.en,x.does,kN l who x d,x.node,x.has,x.nx,x.out⟩ ws:=by
 unfold dB gP;rw[he,ag go2];dsimp only
 by_cases h:(gy bJ l x.node (kN l who x d) ws).2.2=true
 ·rw[af h,af h];refine Prod.ext ?_ rfl;dsimp only;generalize kN l who x d=m at h ⊢;cases m with
  |none=>exact absurd h go2
  |_=>simp only[gy,eN,he]
 ·rw[ag h,ag h]
theorem RJ.step(hR:RJ s l hs W ws D T M)(hM:M<1000000000)(hF:uD s l ⟨W,ws⟩)(i:Nat)(d:Int):
  ∃D' T',RJ s l hs (ej s l ⟨W,ws⟩ i d).1.W (ej s l ⟨W,ws⟩ i d).1.ws D' T' (M+1)∧SX.Tr (cS s l hs) (bV s l W ws D) i (bV s l (ej s l ⟨W,ws⟩ i d).1.W (ej s l ⟨W,ws⟩ i d).1.ws D'):=by
 have mj:∀{W ws D T},RJ s l hs W ws D T M→RJ s l hs W ws D T (M+1):=fun h=>⟨h.len,h.fl,h.lu,h.dl,h.di,oU h,fun x hx=>by have:=h.ev x hx;omega,h.jn,h.pn,h.ti⟩
 cases hx:W[i]? with
 |none=>
  have e:ej s l ⟨W,ws⟩ i d=(⟨W,ws⟩,true):=by unfold ej;dsimp only;rw[hx]
  rw[e];exact⟨D,T,mj hR,SX.Tr.stay (.inr (by show (W.map dC)[i]?=none;rw[fk,hx];rfl))⟩
 |some x=>
  rw[Bm (a:=⟨W,ws⟩) hx];dsimp only;have rE:=hF.wv i x hx;have hi:=(bZ.1 hx).1;have hlen:=hR.len;cases he:x.en with
  |true=>
   have e:dB bJ s l i x d ws=(x,ws,true):=af he;rw[e];dsimp only;rw[oR hx];refine⟨D,T,mj hR,SX.Tr.stay (.inl ?_)⟩;rw[ni hx];unfold dC;rw[af he]
  |false=>
   have e:=aay (s:=s) (l:=l) (who:=i) (d:=d) (ws:=ws) he;have e1:=congrArg Prod.fst e;have e2:=congrArg Prod.snd e;dsimp only at e1 e2;rw[e1,e2];have hnb:=Vy (d:=d) hs (show (0:Int)≤(i:Nat)∧((i:Nat):Int)<l.k by omega) rE;obtain⟨n,hn⟩:∃n,kN l i x d=n:=⟨_,rfl⟩
   rw[hn]at hnb ⊢;have kH:dC ⟨x.ev,x.jo,x.en,x.does,n,x.node,x.has,x.nx,x.out⟩=dC x:=by rw[← hn];exact Ud l i d x
   have kA:∀y,(W.set i ⟨x.ev,x.jo,x.en,x.does,n,x.node,x.has,x.nx,x.out⟩).set i y=W.set i y:=fun y=>List.set_set ..
   have oF:bV s l (W.set i ⟨x.ev,x.jo,x.en,x.does,n,x.node,x.has,x.nx,x.out⟩) ws D=bV s l W ws D:=by
    rw[mD (ws:=ws) (D:=D) (x':=⟨x.ev,x.jo,x.en,x.does,n,x.node,x.has,x.nx,x.out⟩) hx (fun _ _=>rfl) rfl rfl D,kH,oR (ni hx)];rfl
   have Gq:RJ s l hs (W.set i ⟨x.ev,x.jo,x.en,x.does,n,x.node,x.has,x.nx,x.out⟩) ws D T M∧∀j,n=.join j→j.at_<nW l∨(j.at_=0∧j.fM=false∧j.changed=false):=by
    rcases rE.now with h0 | ⟨h0,hk⟩
    ·have hb:ji l i x.does x.node x.nx x.out d=n:=by rw[← hn];unfold kN;rw[h0]
     refine⟨hR.aho hx h0 rE d hb,fun j hj=>.inr ?_⟩;rw[hj]at hb;unfold ji at hb
     (repeat' split at hb) <;> first | (cases hb;exact⟨rfl,rfl,rfl⟩) | cases hb
    ·have h1:x.now=n:=by
      rw[← hn];unfold kN;cases Ad:x.now with
      |none=>rw[Ad]at h0;exact h0.elim
      |_=>rfl
     refine⟨?_,fun j hj=>.inl ?_⟩
     ·rw[← h1,oR hx];exact hR
     ·rw[h1,hj]at hk;exact hk
   obtain⟨Kz,yr⟩:=Gq;have iJ:(W.set i ⟨x.ev,x.jo,x.en,x.does,n,x.node,x.has,x.nx,x.out⟩)[i]?=some ⟨x.ev,x.jo,x.en,x.does,n,x.node,x.has,x.nx,x.out⟩:=by rw[eA,af rfl,af hi]
   have:=agG Kz hM hF.fl.2 iJ he rE.node rE.nx rE.head hnb yr;unfold rn at this;rw[kA,oF]at this;exact this
end
set_option maxHeartbeats 4000000
def dP(s:Sy)(l:Lay):List Int:=BX s l (List.replicate (om l) 0)
def W0(l:Lay):List WS:=List.replicate l.k.toNat oh
def pH(s:Sy)(l:Lay)(ar:List (Int×Int×Unit))(x:jQ WA):jQ WA:=j4 (ej s l) (fun a _=>a) l.k.toNat ar x
def Aj(s:Sy)(l:Lay):jQ WA:=⟨⟨W0 l,dP s l⟩,List.replicate l.k.toNat 0,List.replicate l.k.toNat false,0⟩
def dr(s:Sy)(l:Lay)(ar:List (Int×Int×Unit)):jQ WA:=pH s l ar (Aj s l)
def AT(W:List WS):Int:=W.foldl (fun a x=>wr (a+x.ev)) 0
def Ar(W:List WS):Int:=W.foldl (fun a x=>wr (a+x.jo)) 0
theorem adM{W:List WS}{i:Nat}(h:i<W.length):wr (AT (W.take i)+W[i].ev)=AT (W.take (i+1)):=by
 unfold AT;rw[ft h,sK];rfl
theorem ads{W:List WS}{i:Nat}(h:i<W.length):wr (Ar (W.take i)+W[i].jo)=Ar (W.take (i+1)):=by
 unfold Ar;rw[ft h,sK];rfl
set_option maxHeartbeats 4000000
theorem TR{b:Nat}{a ws:List Int}{x:Nat}(h:x<b):∀k,(o9 b a ws k).getD x 0=ws.getD x 0
 | 0=>rfl
 |k+1=>by rw[o9,rR _ _ _ _ (by omega)];exact TR h k
theorem TS{b:Nat}{a ws:List Int}{i:Nat}:∀k,i<k→b+k≤ws.length→(o9 b a ws k).getD (b+i) 0=wd a i
 | 0,h,_=>absurd h (oJ _)
 |k+1,h,hl=>by
  rw[o9]
  by_cases e:i=k
  ·subst e;rw[BH _ _ _ _ (by rw[Lu];omega),af rfl]
  ·rw[rR _ _ _ _ (by omega)];exact TS k (by omega) (by omega)
section
variable {N W:Nat} {st:Nat→List Int} {ws:List Int}
theorem Tn{v i:Nat}(hi:i<W):∀k,k≤N→v<k→N*W+N≤ws.length→(nV N W st ws k).getD (v*W+i) 0=wd (st v) i
 | 0,_,h,_=>absurd h (oJ _)
 |k+1,hk,h,hl=>by
  have h6:(k+1)*W≤N*W:=jm _ hk;have h7:=ud (N:=N) (show v<N by omega) hi;rw[oH]at h6;rw[nV,rR _ _ _ _ (by omega)]
  by_cases e:v=k
  ·subst e;exact TS W hi (by rw[A0];omega)
  ·have h8:=ud (N:=k) (show v<k by omega) hi;rw[TR h8];exact Tn hi k (by omega) (by omega) hl
theorem R8{v:Nat}:∀k,k≤N→v<k→N*W+N≤ws.length→(nV N W st ws k).getD (N*W+v) 0=1
 | 0,_,h,_=>absurd h (oJ _)
 |k+1,hk,h,hl=>by
  have h6:(k+1)*W≤N*W:=jm _ hk;rw[oH]at h6;rw[nV]
  by_cases e:v=k
  ·subst e;rw[BH _ _ _ _ (by rw[Lu,A0];omega),af rfl]
  ·rw[rR _ _ _ _ (by omega),TU W (by omega)];exact R8 k (by omega) (by omega) hl
end
theorem Iy{b r:Nat}{l ws:List Int}{a:Nat}(hr:0<r)(ha:a<b+2∨b+2+r≤a):∀k,(kM b r l ws k).getD a 0=ws.getD a 0
 | 0=>rfl
 |k+1=>by
  have:=mU (1+k) hr;rw[kM,rR _ _ _ _ (by omega)];exact Iy hr ha k
theorem VN{b r:Nat}{l ws:List Int}{i:Nat}(hr:0<r)(hl:b+2+r≤ws.length):∀k,k≤r→i<k→(kM b r l ws k).getD (b+2+(1+i) % r) 0=l.getD i 0
 | 0,_,h=>absurd h (oJ _)
 |k+1,hk,h=>by
  rw[kM]
  by_cases e:i=k
  ·subst e;have:=mU (1+i) hr;rw[BH _ _ _ _ (by rw[R6];omega),af rfl]
  ·have:=Wl (a:=1+i) (c:=1+k) (m:=r) (by omega) (by omega);rw[rR _ _ _ _ (by omega)];exact VN hr hl k (by omega) (by omega)
theorem VO{b r:Nat}{l ws:List Int}{a:Nat}(hr:0<r)(ha:a<b∨b+2+r≤a):(oO b r l ws).getD a 0=ws.getD a 0:=by
 rw[oO,Iy hr (by omega),rR _ _ _ _ (by omega),rR _ _ _ _ (by omega)]
theorem afL{b r:Nat}{l ws:List Int}(hr:0<r)(hl:b+2+r≤ws.length):(oO b r l ws).getD b 0=1:=by
 rw[oO,Iy hr (by omega),rR _ _ _ _ (by omega),BH _ _ _ _ (by omega),af rfl]
theorem afN{b r:Nat}{l ws:List Int}(hr:0<r)(hl:b+2+r≤ws.length):(oO b r l ws).getD (b+1) 0=((1+l.length:Nat):Int):=by
 rw[oO,Iy hr (by omega),BH _ _ _ _ (by rw[cz];omega),af rfl]
theorem afM{b r:Nat}{l ws:List Int}{i:Nat}(hr:0<r)(hl:b+2+r≤ws.length)(hk:l.length≤r)(hi:i<l.length):(oO b r l ws).getD (b+2+(1+i) % r) 0=l.getD i 0:=by
 rw[oO];exact VN hr (by rw[cz,cz];exact hl) _ hk hi
section
variable {b0 N:Nat} {ls:List (List Int)} {ws:List Int}
theorem VL{a:Nat}(ha:a<b0):∀k,(lM b0 (N+3) (N+1) ls ws k).getD a 0=ws.getD a 0
 | 0=>rfl
 |k+1=>by rw[lM,VO (by omega) (by omega)];exact VL ha k
theorem Wz{j a:Nat}(h2:a<b0+j*(N+3)+(N+3)):∀k,j<k→(lM b0 (N+3) (N+1) ls ws k).getD a 0=(lM b0 (N+3) (N+1) ls ws (j+1)).getD a 0
 | 0,h=>absurd h (oJ _)
 |k+1,h=>by
  by_cases e:j=k
  ·subst e;rfl
  ·have h3:=jm (N+3) (show j+1≤k by omega);rw[oH]at h3;rw[lM,VO (by omega) (by omega)];exact Wz h2 k (by omega)
end
theorem afO{N W:Nat}{st:Nat→List Int}{ls:List (List Int)}{ws:List Int}{j:Nat}{c:List Int}{cap:Int}(JH:rm cap=N+1)(hl:N*W+N+1+ls.length*(N+3)≤ws.length)(hj:ls[j]?=some c)(hc:c.length≤N):DB (N*W+N+1+j*(N+3)) cap (zX N W st ls ws) 0 1 c:=by
 have iM:=(bZ.1 hj).1;have h3:=jm (N+3) (show j+1≤ls.length by omega);rw[oH]at h3
 have mj:∀a,a<N*W+N+1+j*(N+3)+(N+3)→(zX N W st ls ws).getD a 0=(oO (N*W+N+1+j*(N+3)) (N+1) c (lM (N*W+N+1) (N+3) (N+1) ls ((nV N W st ws N).set (N*W+N) (N:Int)) j)).getD a 0:=fun a ha=>by
  rw[zX,Wz ha _ iM,lM];have e:ls.getD j []=c:=by rw[aZ,hj];rfl
  rw[e]
 have hlen:(lM (N*W+N+1) (N+3) (N+1) ls ((nV N W st ws N).set (N*W+N) (N:Int)) j).length=ws.length:=by rw[Rl,cz,A0]
 refine⟨by rw[YM,JH];omega,?_,aQ _,?_,by omega,fun i hi=>?_⟩
 ·rw[mj _ (by omega),afL (by omega) (by omega)];rfl
 ·rw[mj _ (by omega),afN (by omega) (by omega)];rfl
 ·rw[JH];have:=mU (1+i) (show 0<N+1 by omega);rw[mj _ (by omega),afM (by omega) (by omega) (by omega) hi,aZ,bB hi];rfl
section
variable {s:Sy} {l:Lay} (hs:LS s l)
include hs
theorem LS.Dj{v i:Nat}(hi:i<nW l):gd s.what s.w i (wd (gJ s v) i):=by
 have h:=(hs.sh).1 (Hv hs.fit hs.im v);rw[← s7];exact h.2 i hi
theorem VH{v:Nat}{ws:List Int}(h:qq s l ws):∀k,k≤nW l→qq s l (o9 (v*nW l) (gJ s v) ws k)
 | 0,_=>h
 |k+1,hk=>by
  have ih:=VH h k (by omega) (v:=v);rw[o9];exact⟨by rw[cz];exact ih.1,ih.2.acH (by omega) (hs.Dj (by omega))⟩
theorem UK{ws:List Int}(h:qq s l ws):∀k,qq s l (nV (nN s) (nW l) (fun v=>gJ s v) ws k)
 | 0=>h
 |k+1=>by
  rw[nV];exact (VH hs (UK h k) _ (aQ _)).hi (by omega) (by unfold bK;omega)
theorem Wy{b r:Nat}{x ws:List Int}(hb:nN s*nW l≤b)(hx:∀z∈x,0≤z∧z<(nN s:Int))(h:qq s l ws):∀k,qq s l (kM b r x ws k)
 | 0=>h
 |k+1=>by
  rw[kM];refine (Wy hb hx h k).hi (by omega) ?_;have hn:=hs.nn;rw[aZ];cases hk:x[k]? with
  |none=>exact Bj
  |some z=>
   have:=hx z (bU hk);show bK z;unfold bK;omega
theorem Wx{ls:List (List Int)}{ws:List Int}(hx:∀x∈ls,x.length≤256∧∀z∈x,0≤z∧z<(nN s:Int))(h:qq s l ws):∀k,qq s l (lM (nN s*nW l+nN s+1) (nN s+3) (nN s+1) ls ws k)
 | 0=>h
 |k+1=>by
  rw[lM,oO]
  have h2:(ls.getD k []).length≤256∧∀z∈ls.getD k [],0≤z∧z<(nN s:Int):=by
   rw[aZ];cases hk:ls[k]? with
   |none=>exact⟨bC _,fun z hz=>by cases hz⟩
   |some x=>exact hx x (bU hk)
  refine Wy hs (by omega) h2.2 (((Wx hx h k).hi (by omega) (by unfold bK;omega)).hi (by omega) ?_) _;unfold bK;omega
theorem VJ(bM:kQ s l):qq s l (dP s l):=by
 unfold dP BX zX;have hn:=hs.nn;refine Wx hs (bM.rows hn.2.2) (qq.hi (UK hs ⟨fQ,afs s l _⟩ _) (by omega) ?_) _;unfold bK;omega
end
theorem MP{α:Type}(g:α→Nat)(f:α→Nat)(k:Nat):∀(al:List α),(∀x∈al,f x<k)→SX.aI (fun u=>SX.aI g (al.filter fun x=>decide (f x=u))) (List.range k)=SX.aI g al
 | [],_=>by
  have:∀l:List Nat,SX.aI (fun u=>SX.aI g (([]:List α).filter fun x=>decide (f x=u))) l=0:=fun l=>by
   induction l with
   |nil=>rfl
   |cons a l ih=>show 0+_=0;rw[dI];exact ih
  exact this _
 |a::al,h=>by
  have ih:=MP g f k al fun x hx=>h x (cQ _ hx)
  have h1:=SX.Ic (f:=fun u=>SX.aI g ((a::al).filter fun x=>decide (f x=u))) (g:=fun u=>SX.aI g (al.filter fun x=>decide (f x=u))) (u:=f a) (l:=List.range k) CY (fF.2 (h a (b9 ..))) (fun u _ hu=>by
   show SX.aI g _=SX.aI g _
   rw[GO,ag (by rw[cf fun e=>hu e.symm];decide)])
  have h2:SX.aI g ((a::al).filter fun x=>decide (f x=f a))=g a+SX.aI g (al.filter fun x=>decide (f x=f a)):=by
   rw[GO,af (bu rfl)];rfl
  rw[ih]at h1;rw[h2]at h1;show _=g a+SX.aI g al;omega
theorem HP{α:Type}(l:List α):SX.aI (fun _=>1) l=l.length:=by
 induction l with
 |nil=>rfl
 |cons a l ih=>show 1+SX.aI _ l=l.length+1;omega
theorem acu(v:Nat)(l:List Int):SX.aI (fun x:Int=>if x.toNat=v then 1 else 0) l=(l.map Int.toNat).count v:=by
 induction l with
 |nil=>rfl
 |cons a l ih=>
  show (if a.toNat=v then 1 else 0)+SX.aI _ l=_;rw[pJ,List.count_cons,ih]
  by_cases h:a.toNat=v
  ·rw[if_pos h,if_pos (by simp[h])];omega
  ·rw[if_neg h,if_neg (by simp[h])];omega
theorem Mg{α β:Type}(f:α→Nat)(g:β→α)(l:List β):SX.aI f (l.map g)=SX.aI (fun x=>f (g x)) l:=by
 unfold SX.aI;rw[KM];rfl
def D0(s:Sy)(l:Lay):List (List Nat):=(qi s l).map fun c=>c.map Int.toNat
theorem NR{s:Sy}{l:Lay}(bM:kQ s l)(g:Nat→Nat):SX.aI (fun c=>SX.aI g c) (D0 s l)=SX.aI (fun x:Int=>g x.toNat) (og (nN s) s.aN s.entry).reverse:=by
 have h1:∀x∈(og (nN s) s.aN s.entry).reverse,((n5 (nN s) l.k.toNat s.aN).getD x.toNat 0).toNat<l.k.toNat:=fun x hx=>by
  have h2:=bM.all.rg x (xr.1 hx);have:=bM.own x.toNat (by omega);omega
 rw[← MP (fun x:Int=>g x.toNat) (fun x=>((n5 (nN s) l.k.toNat s.aN).getD x.toNat 0).toNat) l.k.toNat _ h1];unfold D0 qi B9 nR;rw[KM,Mg];refine SX.Bb fun u hu=>?_;show SX.aI g ((List.filter _ _).map Int.toNat)=_;rw[Mg]
 congr 1
 refine List.filter_congr fun x hx=>?_;have h2:=bM.all.rg x (xr.1 hx);have h3:=bM.own x.toNat (by omega)
 by_cases h:(n5 (nN s) l.k.toNat s.aN).getD x.toNat 0=(u:Int)
 ·rw[bu h,bu (by omega)]
 ·rw[cf h,cf (by omega)]
theorem adV(v:Nat)(c:List Nat):c.count v=SX.aI (fun z=>if z=v then 1 else 0) c:=by
 induction c with
 |nil=>rfl
 |cons a c ih=>
  show _=(if a=v then 1 else 0)+SX.aI _ c;rw[← ih,List.count_cons]
  by_cases h:a=v
  ·rw[if_pos h,if_pos (by simp[h])];omega
  ·rw[if_neg h,if_neg (by simp[h])];omega
theorem W9{s:Sy}{l:Lay}(bM:kQ s l):SX.aI List.length (D0 s l)=nN s:=by
 have h:=NR bM fun _=>1;have h2:SX.aI List.length (D0 s l)=SX.aI (fun c=>SX.aI (fun _=>1) c) (D0 s l):=SX.Bb fun c _=>(HP c).symm;rw[h2,h,HP,tQ,bM.all.len]
theorem aez{s:Sy}{l:Lay}(bM:kQ s l)(v:Nat):SX.aI (fun c=>c.count v) (D0 s l)=if v<nN s then 1 else 0:=by
 have h:=NR bM fun z=>if z=v then 1 else 0
 have h2:SX.aI (fun c=>c.count v) (D0 s l)=SX.aI (fun c=>SX.aI (fun z=>if z=v then 1 else 0) c) (D0 s l):=SX.Bb fun c _=>adV v c;rw[h2,h,acu]
 have cg:((og (nN s) s.aN s.entry).reverse.map Int.toNat).Nodup:=by
  refine vF.2 (List.Pairwise.imp_of_mem (fun {a b} ha hb aS e=>aS ?_) ((List.reverse_perm _).nodup_iff.2 bM.all.nd));have h3:=bM.all.rg a (xr.1 ha);have h4:=bM.all.rg b (xr.1 hb);omega
 rw[cg.count]
 by_cases hv:v<nN s
 ·rw[af hv,af (cX.2 ⟨(v:Int),xr.2 (bM.all.all v ⟨by omega,by omega⟩),bG _⟩)]
 ·rw[ag hv,ag fun h=>?_];obtain⟨z,hz,rfl⟩:=cX.1 h;have:=bM.all.rg z (xr.1 hz);omega
section
variable {s:Sy} {l:Lay} (hs:LS s l) (bM:kQ s l)
include hs bM
theorem XF{j:Nat}{c:List Nat}(h:(D0 s l)[j]?=some c):(qi s l)[j]?=some (jV c)∧c.length≤nN s:=by
 unfold D0 at h;rw[fk]at h;cases hx:(qi s l)[j]? with
 |none=>rw[hx]at h;cases h
 |some x=>
  rw[hx]at h;cases h;have hn:=hs.nn;have h1:=bM.rows hn.2.2 x (bU hx)
  have e:jV (x.map Int.toNat)=x:=by
   show (x.map Int.toNat).map _=x;rw[KM]
   conv=>rhs;rw[← List.map_id x]
   refine xv fun z hz=>?_;have:=h1.2 z hz;show ((z.toNat:Nat):Int)=z;omega
  refine⟨by rw[e],?_⟩;rw[bX];have iJ:=bU hx;unfold qi B9 nR at iJ;obtain⟨u,_,rfl⟩:=cX.1 iJ;have hlen:=Da (fun y=>decide ((n5 (nN s) l.k.toNat s.aN).getD y.toNat 0=(u:Int))) (og (nN s) s.aN s.entry).reverse;rw[tQ,bM.all.len]at hlen;exact hlen
end
theorem Vf{α:Type}{f:α→Nat}{x:α}(h:f x=0)(k:Nat):SX.aI f (List.replicate k x)=0:=SX.rO fun y hy=>by rw[y8 hy];exact h
theorem MB{s:Sy}{l:Lay}{a:Nat}(ha:a<nN s*nW l+nN s+1)(ws:List Int):(BX s l ws).getD a 0=((nV (nN s) (nW l) (fun v=>gJ s v) ws (nN s)).set (nN s*nW l+nN s) (nN s:Int)).getD a 0:=VL ha _
theorem L7{s:Sy}{l:Lay}(hs:LS s l):(∀v i,v<nN s→i<nW l→(dP s l).getD (v*nW l+i) 0=wd (gJ s v) i)∧(∀v,v<nN s→(dP s l).getD (nN s*nW l+v) 0=1)∧(dP s l).getD (nN s*nW l+nN s) 0=(nN s:Int):=by
 have eO:=hs.size.2.2;have fB:=hs.low;have xh:(List.replicate (om l) (0:Int)).length=om l:=fQ;refine⟨fun v i hv hi=>?_,fun v hv=>?_,?_⟩
 ·have:=ud hv hi;unfold dP;rw[MB (by omega),rR _ _ _ _ (by omega),Tn hi _ (aQ _) hv (by rw[xh];omega)]
 ·unfold dP;rw[MB (by omega),rR _ _ _ _ (by omega),R8 _ (aQ _) hv (by rw[xh];omega)]
 ·unfold dP;rw[MB (by omega),BH _ _ _ _ (by rw[A0,xh];omega),af rfl]
section
variable {s:Sy} {l:Lay} {hs:LS s l} (bM:kQ s l)
include bM
theorem Ka:RJ s l hs (W0 l) (dP s l) (D0 s l) (fun _=>1) 1:=by
 have mr:=hs.k1;have cT:=Q8 s l;have hn:=hs.nn;have KC:(D0 s l).length=l.k.toNat:=by unfold D0;rw[bX,cT]
 have AH:(W0 l).length=l.k.toNat:=fQ;obtain⟨iY,nH,CM⟩:=L7 hs;have gD:=VJ hs bM;have Ae:∀x∈W0 l,x=oh:=fun x hx=>y8 hx
 have kH:∀p∈(bV s l (W0 l) (dP s l) (D0 s l)).ph,p=.idle 0 0:=fun p hp=>by
  obtain⟨x,hx,rfl⟩:=cX.1 hp;rw[Ae x hx];rfl
 refine⟨by rw[AH];omega,gD.1,by rw[CM];omega,by rw[KC,AH],fun j c hj=>?_,fun _=>aQ _,fun x hx=>?_,fun x hx=>?_,fun x hx=>?_,?_⟩
 ·have iM:=(bZ.1 hj).1;obtain⟨h1,h2⟩:=XF hs bM hj;have hW:(W0 l)[j]?=some oh:=by unfold W0;rw[vK,af (by omega)]
  rw[Bu hW];refine⟨?_,trivial,fun z hz=>?_⟩
  ·refine afO hs.room.2 ?_ h1 (by rw[bX];exact h2);rw[cT,fQ];obtain⟨m,hm,Pv,sA⟩:=hs.kk;have sD:=hs.yu sA;rw[show l.k.toNat=m by omega];unfold om;rw[hm,sD];omega
  ·obtain⟨i,x,hx,h3,_⟩:=hz;rw[Ae x (bU hx)]at h3;cases h3
 ·rw[Ae x hx];exact⟨by decide,by decide,by decide,by decide⟩
 ·rw[Ae x hx];exact fun j h=>by cases h
 ·rw[Ae x hx];exact fun j h=>by cases h
 ·refine⟨fun v=>?_,?_,fun c hc v hv=>?_,fun p hp v hv=>?_⟩
  ·unfold SX.tok;have h1:SX.aI (SX.jk v) (bV s l (W0 l) (dP s l) (D0 s l)).ph=0:=SX.rO fun p hp=>by rw[kH p hp];rfl
   have h2:SX.aI (fun l:List Nat=>l.count v) (bV s l (W0 l) (dP s l) (D0 s l)).dq=if v<nN s then 1 else 0:=aez bM v
   rw[h1,h2];show _=if decide (v<nN s∧¬(dP s l).getD (nN s*nW l+v) 0=0)=true then 1 else 0
   by_cases hv:v<nN s
   ·rw[nH v hv,af hv,af (bu ⟨hv,by decide⟩)]
   ·rw[ag hv,ag (by rw[cf fun h=>hv h.1];decide)]
  ·show ((dP s l).getD (nN s*nW l+nN s) 0).toNat=SX.aI List.length (D0 s l)+SX.aI SX.cw (bV s l (W0 l) (dP s l) (D0 s l)).ph;have h1:SX.aI SX.cw (bV s l (W0 l) (dP s l) (D0 s l)).ph=0:=SX.rO fun p hp=>by rw[kH p hp];rfl
   rw[CM,h1,W9 bM];omega
  ·obtain⟨j,hj⟩:=lq.1 hc;obtain⟨h1,h2⟩:=XF hs bM hj;have:=(bM.rows hn.2.2 _ (bU h1)).2 (v:Int) (cX.2 ⟨v,hv,rfl⟩);show v<nN s;omega
  ·rw[kH p hp]at hv;cases hv
theorem NA(hs:LS s l):uD s l ⟨W0 l,dP s l⟩:=by
 have mr:=hs.k1;refine⟨by show ((W0 l).length:Int)=l.k;unfold W0;rw[fQ];omega,VJ hs bM,fun i x hx=>?_⟩;rw[y8 (bU hx)];exact wv0 hs i
end
set_option maxHeartbeats 4000000
theorem It{s:Sy}{k:Int}(he:cM s k=0):(je s k).k=k:=by unfold je lP;rw[he];rfl
theorem Mc{k:Nat}{v:AV}{acc:Hp}{cs:List AV}(h:Acc 1 k v acc cs)(hk:0<k):∃b,v=.ae b 0 k 1∧acc=[(b,cs)]:=by
 cases h with
 |nil=>omega
 |ae b k cs h=>exact⟨b,rfl,rfl⟩
def GZ(s:Sy)(l:Lay)(bs bp p:Nat)(L:List Nat)(S:Hp):Prop:=S=(bs,cc s)::(bp,ep (.ptr p 0) l .an .an .an 0)::eU s l (dc L) (List.replicate L.length jJ)
theorem acD(s:Sy)(l:Lay)(k bs bp p:Nat)(hf:Fit s)(he:cM s l.k=0)(hL:je s l.k=l)(hk:l.k=k)(L:List Nat)(S τ:Hp)(ab:L.length<k)(hS:GZ s l bs bp p L S):ACalls Tryz.prog 99 (.int .i64 L.length::[.ptr bs 0,.ptr bp 0]) (S++τ) (fun r σ'=>∃w S',r=.ptr w 0∧σ'=S'++τ∧GZ s l bs bp p (L++[w]) S'):=by
 unfold GZ at hS;subst hS;refine (ahB bs bp L.length s l (.ptr p 0) .an .an .an 0 (eU s l (dc L) (List.replicate L.length jJ)++τ) hf he hL (by omega)).XG (.refl _) ?_;rintro _ _ ⟨w,rfl,rfl⟩;refine⟨((bs,cc s)::(bp,ep (.ptr p 0) l .an .an .an 0)::eU s l (dc (L++[w])) (List.replicate (L++[w]).length jJ))++τ,?_,w,_,rfl,rfl,rfl⟩;rw[ace];have h:=nO [[(bs,cc s),(bp,ep (.ptr p 0) l .an .an .an 0)],eU s l (dc L) (List.replicate L.length jJ),WB s l L.length w 0 .an [] oh] τ (a:=[0,1,2]) (b:=[2,0,1]) (by decide);have e:((bs,cc s)::(bp,ep (.ptr p 0) l .an .an .an 0)::(eU s l (dc L) (List.replicate L.length jJ)++WB s l L.length w 0 .an [] oh))++τ=[(bs,cc s),(bp,ep (.ptr p 0) l .an .an .an 0)]++(eU s l (dc L) (List.replicate L.length jJ)++(WB s l L.length w 0 .an [] oh++τ)):=by simp
 rw[e];exact h
theorem TP(l:Lay)(k bp lw:Nat)(mv:AV)(L:List Nat)(hL:L.length=k)(L':List Nat)(S τ:Hp)(ab:L'.length<k)(hS:S=[(bp,ep mv l (.ae lw 0 k 1) .an .an 0),(lw,L.map pW)]∧L'=L.take L'.length):ACalls Tryz.prog 103 (.int .i64 L'.length::[.ptr bp 0]) (S++τ) (fun r σ'=>∃w S',r=.iface 168 (.ptr w 0)∧σ'=S'++τ∧(S'=[(bp,ep mv l (.ae lw 0 k 1) .an .an 0),(lw,L.map pW)]∧L'++[w]=L.take (L'++[w]).length)):=by
 obtain⟨rfl,hL'⟩:=hS;refine (ahA bp lw L'.length k L l mv .an .an 0 τ hL ab).mono ?_;rintro _ _ ⟨rfl,rfl⟩;refine⟨L.getD L'.length 0,_,rfl,rfl,rfl,?_⟩;rw[bQ,sN,ft (by omega),← hL',aZ,bB (by omega)];rfl
theorem UW(s:Sy)(l:Lay)(hs:LS s l)(bM:kQ s l)(p q lb k:Nat)(L:List Nat)(ar:List (Int×Int×Unit))(σ:Hp)(hL:L.length=k)(hk:l.k=k)(eD:k≤64)(pj:ar.length≤100000):
  ACalls Tryz.prog 101 [ny p,.ae lb 0 k 1,.ah l4 ar] ((lb,L.map iW)::(cm p q (dP s l) (eU s l (dc L) (List.replicate L.length jJ))++σ)) (fun r σ'=>∃Z:List WZ,Z.map (·.x)=(dr s l ar).a.W∧r=.agg [.ah (.int .i64) (dr s l ar).st,.ah .bool (dr s l ar).dn,.int .i64 (dr s l ar).us]∧σ'=(lb,L.map iW)::(cm p q (dr s l ar).a.ws (eU s l (dc L) Z)++σ)):=by
 have hI:((dc L).length:Int)=l.k:=by rw[DW];omega
 have oF:sP.abs ⟨dP s l,List.replicate L.length jJ⟩=⟨W0 l,dP s l⟩:=by
  show WA.mk ((List.replicate L.length jJ).map (·.x)) (dP s l)=_;rw[List.map_replicate];unfold W0;rw[show l.k.toNat=L.length by omega];rfl
 have hl:(Ev s l hs p q (dc L) (DX L) hI).L.length=k:=by
  show ((dc L).map _).length=_;rw[bX,DW];exact hL
 have hLL:(Ev s l hs p q (dc L) (DX L) hI).L=L.map iW:=adx L
 have hE:=aiG (Ev s l hs p q (dc L) (DX L) hI) lb ar (⟨dP s l,List.replicate L.length jJ⟩:sP) σ (by omega) pj (by
  show uD s l (sP.abs ⟨dP s l,List.replicate L.length jJ⟩)
  rw[oF];exact NA bM hs) (fun _ _=>rfl)
 have fV:(Ev s l hs p q (dc L) (DX L) hI).run ar (sP.abs ⟨dP s l,List.replicate L.length jJ⟩)=dr s l ar:=by
  unfold AWorld.run AWorld.init;rw[hl,hLL,oF]
  have e1:(L.map iW).map isNil=List.replicate k false:=by
   rw[← hL,KM];exact List.map_eq_replicate_iff.2 fun _ _=>rfl
  rw[e1];unfold dr pH Aj;rw[show l.k.toNat=k by omega];rfl
 have Gu:ACalls Tryz.prog 101 [ny p,.ae lb 0 k 1,.ah l4 ar] ((lb,L.map iW)::(cm p q (dP s l) (eU s l (dc L) (List.replicate L.length jJ))++σ)) (MJ (Ev s l hs p q (dc L) (DX L) hI) ar (sP.abs ⟨dP s l,List.replicate L.length jJ⟩) [(lb,L.map iW)] σ):=by
  rw[hl,hLL]at hE;exact hE
 refine Gu.mono ?_;rintro _ _ ⟨t',h1,rfl,rfl⟩;have h1:sP.abs t'=(dr s l ar).a:=Eq.trans h1 (congrArg jQ.a fV);rw[fV];refine⟨t'.Z,congrArg WA.W h1,rfl,?_⟩;have h2:t'.ws=(dr s l ar).a.ws:=congrArg WA.ws h1;rw[← h2];rfl
theorem Tw(s:Sy)(k:Nat)(l:Lay)(hl:je s k=l)(ar:List (Int×Int×Unit))(σ:Hp)(hf:Fit s)(he:cM s k=0)(pj:ar.length≤100000):
  ACalls Tryz.prog 41 [.agg (cc s),.int .i64 k,.ah l4 ar] σ (fun r σ'=>∃(p q lw:Nat) (L:List Nat) (Z:List WZ),r=.tup [.agg (ep (.ptr p 0) l (.ae lw 0 k 1) (.ah (.int .i64) (dr s l ar).st) (.ah .bool (dr s l ar).dn) (dr s l ar).us),.int .i64 0]∧L.length=k∧Z.map (·.x)=(dr s l ar).a.W∧σ'=(lw,L.map pW)::cm p q (dr s l ar).a.ws (eU s l (dc L) Z++σ)∧kQ s l):=by
 obtain⟨hs,Gs⟩:=zS hf he;obtain⟨Cx,fY,mQ⟩:=hs.size;obtain⟨mr,eD⟩:=(Ms he).2;have Xr:=fun p q ws σ (eO:om (je s k)≤ws.length)=>agq s k p q ws σ hf he eO;have hk:l.k=k:=by rw[← hl];exact It he
 have e1:AV.tup [.agg (ik (je s k)),.int .i64 (cM s k)]=.tup [.agg (ik l),.int .i64 (cM s k)]:=by rw[hl]
 have Gu:cM s l.k=0:=by rw[hk];exact he
 have hL2:je s l.k=l:=by rw[hk];exact hl
 rw[hl]at hs Cx fY mQ Xr;refine ay Tryz.func41 ?_;generalize hE:cM s k=E at e1 he;intro bs;intro br;intro bp;refine aa 2 ?_;refine ax [] (sS (NM s k _ hf) (hE▸e1)) ?_;refine aj 0 ?_;refine dX (fun c1=>?_) (fun c1=>?_)
 ·have c1:¬(cM s (↑k:Int)=0):=by simpa using c1
  refine aj 1 ?_;refine aa 1 ?_;exact absurd (hE.trans he) c1
 ·have c1:cM s (↑k:Int)=0:=by simpa using c1
  refine aa 0 ?_;refine ax [] (WT l _) ?_
  (refine .mk [] _ (ajU _ _) ?_;rintro _ _ ⟨p,q,rfl,rfl⟩)
  rw[mQ];obtain⟨us,gv⟩:∃us,List.replicate (om l) (0:Int)=us:=⟨_,rfl⟩
  have gi:us.length=om l:=by rw[← gv];exact fQ
  rw[gv,← gi];refine aj 2 ?_;refine aa 2 ?_;refine aa 4 ?_
  (refine .mk [] _ (Xr p q us _ (by omega)) ?_;rintro _ _ ⟨rfl,rfl,bM⟩)
  have aj3:BX s l us=dP s l:=by rw[← gv];rfl
  rw[aj3];refine .perm (σ2:=[(bs,cc s),(bp,ep (.ptr p 0) l .an .an .an 0)]++cm p q (dP s l) ((br,ep .cW ⟨0,0,0,0⟩ .an .an .an 0)::σ)) _ (nO [[(bs,cc s)],[(bp,ep (.ptr p 0) l .an .an .an 0)],cm p q (dP s l) [],[(br,ep .cW ⟨0,0,0,0⟩ .an .an .an 0)]] σ (a:=[0,1,2,3]) (b:=[2,1,3,0]) (by decide)) (ahP 99 [.ptr bs 0,.ptr bp 0] (GZ s l bs bp p) _ _ rfl k (by omega) (fun L S τ h1 h2=>acD s l k bs bp p hf Gu hL2 hk L S τ h1 h2)) ?_;rintro v _ ⟨L,S',acc,hL,CP,cj,rfl⟩;unfold GZ at CP;subst CP;obtain⟨lw,rfl,rfl⟩:=Mc cj (by omega);refine⟨_,.refl _,?_⟩;refine aj 2 ?_;refine .sched [] (ru [0,3,4,6] (.alt 1 (cJ [2,5,7,8,9]) (cJ [5,1,2,7,8,9]))) (by kernel_rfl) ?_;refine And.intro ?_ ?_
  ·refine aa 2 ?_;refine .perm (σ2:=[(bp,ep (.ptr p 0) l (.ae lw 0 k 1) .an .an 0),(lw,L.map pW)]++((bs,cc s)::(eU s l (dc L) (List.replicate L.length jJ)++cm p q (dP s l) ((br,ep .cW ⟨0,0,0,0⟩ .an .an .an 0)::σ)))) _ (nO [[(bp,ep (.ptr p 0) l (.ae lw 0 k 1) .an .an 0)],[(lw,L.map pW)],[(bs,cc s)],eU s l (dc L) (List.replicate L.length jJ),cm p q (dP s l) [],[(br,ep .cW ⟨0,0,0,0⟩ .an .an .an 0)]] σ (a:=[0,1,2,3,4,5]) (b:=[1,2,0,3,4,5]) (by decide)) (W2 103 [.ptr bp 0] (fun L' S=>S=[(bp,ep (.ptr p 0) l (.ae lw 0 k 1) .an .an 0),(lw,L.map pW)]∧L'=L.take L'.length) _ _ ⟨rfl,rfl⟩ k (by omega) (fun L' S τ h1 h2=>TP l k bp lw (.ptr p 0) L hL L' S τ h1 h2)) ?_;rintro v2 _ ⟨L',S2,ajM,OP,⟨rfl,Gn⟩,EY,rfl⟩;rw[OP,← hL,ga]at Gn;rw[Gn]at EY;obtain⟨lb,rfl,rfl⟩:=Mc EY (by omega);refine⟨_,.refl _,?_⟩;have hR:=UW s l hs bM p q lb k L ar ([(bp,ep (.ptr p 0) l (.ae lw 0 k 1) .an .an 0),(br,ep .cW ⟨0,0,0,0⟩ .an .an .an 0),(bs,cc s),(lw,L.map pW)]++σ) hL hk (by omega) pj;refine .perm _ (nO [[(lb,L.map iW)],cm p q (dP s l) [],eU s l (dc L) (List.replicate L.length jJ),[(bp,ep (.ptr p 0) l (.ae lw 0 k 1) .an .an 0)],[(br,ep .cW ⟨0,0,0,0⟩ .an .an .an 0)],[(bs,cc s)],[(lw,L.map pW)]] σ (a:=[0,1,2,3,4,5,6]) (b:=[0,3,6,5,2,1,4]) (by decide)) hR ?_;rintro _ _ ⟨Z,hZ,rfl,rfl⟩;refine⟨_,nO [[(lb,L.map iW)],cm p q (dr s l ar).a.ws [],eU s l (dc L) Z,[(bp,ep (.ptr p 0) l (.ae lw 0 k 1) .an .an 0)],[(br,ep .cW ⟨0,0,0,0⟩ .an .an .an 0)],[(bs,cc s)],[(lw,L.map pW)]] σ (a:=[0,3,4,5,6,1,2]) (b:=[0,1,2,3,4,5,6]) (by decide),?_⟩;refine aj 1 ?_;refine aa 1 ?_;refine aj 2 ?_;refine aa 2 ?_;exact .drop 0 4 (.done ⟨p,q,lw,L,Z,rfl,hL,hZ,rfl,bM⟩)
  ·refine .perm (σ2:=[(bp,ep (.ptr p 0) l (.ae lw 0 k 1) .an .an 0),(lw,L.map pW)]++((bs,cc s)::(eU s l (dc L) (List.replicate L.length jJ)++cm p q (dP s l) ((br,ep .cW ⟨0,0,0,0⟩ .an .an .an 0)::σ)))) _ (nO [[(bp,ep (.ptr p 0) l (.ae lw 0 k 1) .an .an 0)],[(lw,L.map pW)],[(bs,cc s)],eU s l (dc L) (List.replicate L.length jJ),cm p q (dP s l) [],[(br,ep .cW ⟨0,0,0,0⟩ .an .an .an 0)]] σ (a:=[0,1,2,3,4,5]) (b:=[1,2,0,3,4,5]) (by decide)) (W2 103 [.ptr bp 0] (fun L' S=>S=[(bp,ep (.ptr p 0) l (.ae lw 0 k 1) .an .an 0),(lw,L.map pW)]∧L'=L.take L'.length) _ _ ⟨rfl,rfl⟩ k (by omega) (fun L' S τ h1 h2=>TP l k bp lw (.ptr p 0) L hL L' S τ h1 h2)) ?_;rintro v2 _ ⟨L',S2,ajM,OP,⟨rfl,Gn⟩,EY,rfl⟩;rw[OP,← hL,ga]at Gn;rw[Gn]at EY;obtain⟨lb,rfl,rfl⟩:=Mc EY (by omega);refine⟨_,.refl _,?_⟩;refine aa 1 ?_;have hR:=UW s l hs bM p q lb k L ar ([(bp,ep (.ptr p 0) l (.ae lw 0 k 1) .an .an 0),(br,ep .cW ⟨0,0,0,0⟩ .an .an .an 0),(bs,cc s),(lw,L.map pW)]++σ) hL hk (by omega) pj;refine .perm _ (nO [[(lb,L.map iW)],cm p q (dP s l) [],eU s l (dc L) (List.replicate L.length jJ),[(bp,ep (.ptr p 0) l (.ae lw 0 k 1) .an .an 0)],[(br,ep .cW ⟨0,0,0,0⟩ .an .an .an 0)],[(bs,cc s)],[(lw,L.map pW)]] σ (a:=[0,1,2,3,4,5,6]) (b:=[0,3,6,5,2,1,4]) (by decide)) hR ?_;rintro _ _ ⟨Z,hZ,rfl,rfl⟩;refine⟨_,nO [[(lb,L.map iW)],cm p q (dr s l ar).a.ws [],eU s l (dc L) Z,[(bp,ep (.ptr p 0) l (.ae lw 0 k 1) .an .an 0)],[(br,ep .cW ⟨0,0,0,0⟩ .an .an .an 0)],[(bs,cc s)],[(lw,L.map pW)]] σ (a:=[0,3,4,5,6,1,2]) (b:=[0,1,2,3,4,5,6]) (by decide),?_⟩;refine aj 1 ?_;refine aa 1 ?_;refine aj 2 ?_;refine aa 2 ?_;exact .drop 0 4 (.done ⟨p,q,lw,L,Z,rfl,hL,hZ,rfl,bM⟩)
set_option maxHeartbeats 4000000
theorem ags(s:Sy)(l:Lay)(p q lw n:Nat)(L:List Nat)(Z:List WZ)(W:List WS)(st:List Int)(dn:List Bool)(us:Int)(ws:List Int)(σ:Hp)(hW:Z.map (·.x)=W)(hL:L.length=n)(hZ:W.length=n)(hn:n≤64):
  ACalls Tryz.prog 44 [.agg (ep (.ptr p 0) l (.ae lw 0 n 1) (.ah (.int .i64) st) (.ah .bool dn) us)] ((lw,L.map pW)::cm p q ws (eU s l (dc L) Z++σ)) (aC (.tup [.int .i64 (AT W),.int .i64 (Ar W)]) ((lw,L.map pW)::cm p q ws (eU s l (dc L) Z++σ))):=by
 have hZl:Z.length=n:=by rw[← hZ,← hW,bX]
 refine ay Tryz.func44 ?_;intro b1;refine aa 0 ?_;refine ca (S:=Nat) (fun i=>[(4,.int .i64 (AT (W.take i))),(5,.int .i64 (Ar (W.take i))),(9,.ae lw 0 n 1),(10,.int .i64 n),(11,.int .i64 i)]) (fun _=>(b1,ep (.ptr p 0) l (.ae lw 0 n 1) (.ah (.int .i64) st) (.ah .bool dn) us)::(lw,L.map pW)::cm p q ws (eU s l (dc L) Z++σ)) (fun i=>i≤n) (fun i=>n-i) 0 ⟨bC _,⟨rfl,rfl,rfl,rfl,rfl,trivial⟩,rfl⟩ ?_;intro i g fE;have hi:i≤n:=fE;clear fE;refine ao (p:=(i:Int)<(n:Int)) (fun ab=>?_) (fun au=>?_);rotate_left
 ·have au:i=n:=by omega
  have e:W.take i=W:=eR (by omega);rw[e];exact .drop 0 1 (.done ⟨rfl,rfl⟩)
 have ab:i<n:=by omega
 have hg:(L.map pW)[0+((i:Int)).toNat*1]?=some (.ptr L[i] 0):=by
  rw[bG,dS,dI,fk,bB (by omega)];rfl
 refine aO ?_;refine aW 1 rfl (jz rfl hg) ?_;have hw:=U4 (s:=s) (l:=l) (I:=dc L) (Z:=Z) (i:=i) (by rw[DW];omega) (by omega);have hI:(dc L)[i]'(by rw[DW];omega)=(i,L[i]):=by simp[dc]
 have hx:Z[i].x=W[i]:=by
  have:(Z.map (·.x))[i]'(by rw[bX];omega)=Z[i].x:=KQ ..;rw[← this];congr 1
 rw[hI,hx]at hw;have lT:=adM (W:=W) (i:=i) (by omega);have nF:=ads (W:=W) (i:=i) (by omega);generalize W[i]=x at hw lT nF
 have hp:((b1,ep (.ptr p 0) l (.ae lw 0 n 1) (.ah (.int .i64) st) (.ah .bool dn) us)::(lw,L.map pW)::cm p q ws (eU s l (dc L) Z++σ)).Perm ((L[i],er s l i x.ev x.jo x.en x.does (Kb Z[i].r x.now) x.node x.has x.nx x.out)::(Kc l x.node Z[i].r Z[i].c Z[i].acc x.now++((b1,ep (.ptr p 0) l (.ae lw 0 n 1) (.ah (.int .i64) st) (.ah .bool dn) us)::(lw,L.map pW)::cm p q ws ((((dc L).zip Z).eraseIdx i).flatMap (yI s l)++σ)))):=by
  refine (List.Perm.append_left [_,_,_,_] (List.Perm.append_right σ hw)).trans ?_;have h:=nO [[(b1,ep (.ptr p 0) l (.ae lw 0 n 1) (.ah (.int .i64) st) (.ah .bool dn) us),(lw,L.map pW)],cm p q ws [],[(L[i],er s l i x.ev x.jo x.en x.does (Kb Z[i].r x.now) x.node x.has x.nx x.out)],Kc l x.node Z[i].r Z[i].c Z[i].acc x.now,(((dc L).zip Z).eraseIdx i).flatMap (yI s l)] σ (a:=[0,1,2,3,4]) (b:=[2,3,0,1,4]) (by decide);unfold WB;rw[CW,dW];exact h
 refine .eb (.perm hp.symm (.refl _)) ?_;refine .quiet (by kernel_rfl) ?_;refine aa 0 ?_;refine aa 0 ?_;exact a8 (i+1) (by show n-(i+1)<n-i;omega) ab ⟨congrArg (AV.int .i64) lT,congrArg (AV.int .i64) nF,rfl,rfl,aX (by omega),trivial⟩ (.perm hp (.refl _))
abbrev zM(cH:List (List Int))(ev jo us:Int):List AV:=[.ah (.slice (.int .u64)) cH,.int .i64 ev,.int .i64 jo,.int .i64 us]
def qQ:List AV:=[.an,.int .i64 0,.int .i64 0,.int .i64 0]
theorem ac7(s:Sy)(k:Nat)(l:Lay)(hl:je s k=l)(ar:List (Int×Int×Unit))(σ:Hp)(hf:Fit s)(he:cM s k=0)(pj:ar.length≤100000)(eD:k≤64)(eK:(dr s l ar).dn.length=k)(hd:(dr s l ar).dn.all id=false):ACalls Tryz.prog 13 [.agg (cc s),.int .i64 k,.ah l4 ar] σ (fun r σ'=>r=.tup [.agg qQ,.int .i64 11]∧σ'=σ∧kQ s l):=by
 have hF:=fun σ=>XD (.ah (.int .i64) (dr s l ar).st) (dr s l ar).us (dr s l ar).dn σ (by omega);rw[hd]at hF;refine ay Tryz.func13 ?_;intro b3;intro b6;refine aa 1 ?_;refine .perm _ (.refl _) (Tw s k l hl ar _ hf he pj) ?_;rintro _ _ ⟨p,q,lw,L,Z,rfl,hL,hZ,rfl,bM⟩;refine⟨_,nO [[(lw,L.map pW)],cm p q (dr s l ar).a.ws [],eU s l (dc L) Z,[(b6,qQ)],[(b3,cc s)]] σ (a:=[0,3,4,1,2]) (b:=[0,1,2,3,4]) (by decide),?_⟩;generalize (dr s l ar)=x at hF hZ;intro aF;refine aj 0 ?_;refine aa 0 ?_;refine ax [] (hF _) ?_;refine aj 2 ?_;refine aa 2 ?_;exact .drop 0 6 (Ti (eU s l (dc L) Z) (.done ⟨rfl,rfl,bM⟩))
theorem ahC(s:Sy)(k:Nat)(l:Lay)(hl:je s k=l)(ar:List (Int×Int×Unit))(σ:Hp)(hf:Fit s)(he:cM s k=0)(pj:ar.length≤100000)(eD:k≤64)(hn:l.n=(nN s:Int))(mq:nN s≤100000)(eK:(dr s l ar).dn.length=k)(sG:(dr s l ar).a.W.length=k)(hd:(dr s l ar).dn.all id=true):ACalls Tryz.prog 13 [.agg (cc s),.int .i64 k,.ah l4 ar] σ (fun r σ'=>r=.tup [.agg (zM (wG l (dr s l ar).a.ws (nN s)) (AT (dr s l ar).a.W) (Ar (dr s l ar).a.W) (dr s l ar).us),.int .i64 0]∧σ'=σ∧kQ s l):=by
 have hF:=fun σ=>XD (.ah (.int .i64) (dr s l ar).st) (dr s l ar).us (dr s l ar).dn σ (by omega);rw[hd]at hF;refine ay Tryz.func13 ?_;intro b3;intro b6;refine aa 1 ?_;refine .perm _ (.refl _) (Tw s k l hl ar _ hf he pj) ?_;rintro _ _ ⟨p,q,lw,L,Z,rfl,hL,hZ,rfl,bM⟩;refine⟨_,nO [[(lw,L.map pW)],cm p q (dr s l ar).a.ws [],eU s l (dc L) Z,[(b6,qQ)],[(b3,cc s)]] σ (a:=[0,3,4,1,2]) (b:=[0,1,2,3,4]) (by decide),?_⟩;generalize (dr s l ar)=x at hF hZ sG ⊢;intro aF;refine aj 0 ?_;refine aa 0 ?_;refine ax [] (hF _) ?_;obtain⟨P,hP⟩:∃P,P=(aF,ep (.ptr p 0) l (.ae lw 0 k 1) (.ah (.int .i64) x.st) (.ah .bool x.dn) x.us):=⟨_,rfl⟩
 have q1:(cm p q x.a.ws (P::(lw,L.map pW)::(b6,qQ)::(b3,cc s)::(eU s l (dc L) Z++σ))).Perm (P::(lw,L.map pW)::(b6,qQ)::(b3,cc s)::cm p q x.a.ws (eU s l (dc L) Z++σ)):=nO [[P,(lw,L.map pW),(b6,qQ),(b3,cc s)],cm p q x.a.ws [],eU s l (dc L) Z] σ (a:=[1,0,2]) (b:=[0,1,2]) (by decide);have q2:∀Q,(cm p q x.a.ws (Q::P::(lw,L.map pW)::(b6,qQ)::(b3,cc s)::(eU s l (dc L) Z++σ))).Perm (Q::P::(lw,L.map pW)::(b6,qQ)::(b3,cc s)::cm p q x.a.ws (eU s l (dc L) Z++σ)):=fun Q=>nO [[Q,P,(lw,L.map pW),(b6,qQ),(b3,cc s)],cm p q x.a.ws [],eU s l (dc L) Z] σ (a:=[1,0,2]) (b:=[0,1,2]) (by decide);subst hP;refine .meet (S:=Nat) (fun b=>[(6,.ptr b6 0),(8,.ptr aF 0),(10,.ptr b 0)]) (fun b=>(b,zM (wG l x.a.ws (nN s)) 0 0 x.us)::(aF,ep (.ptr p 0) l (.ae lw 0 k 1) (.ah (.int .i64) x.st) (.ah .bool x.dn) x.us)::(lw,L.map pW)::(b6,qQ)::(b3,cc s)::cm p q x.a.ws (eU s l (dc L) Z++σ)) (by kernel_rfl) ?_ ?_
 ·repeat' first
   |exact dh.mk _ ⟨rfl,rfl,rfl,trivial⟩ (aL rfl)
   |refine And.intro ?_ ?_
   |refine aa 0 ?_
   |refine aa 1 ?_
   |refine aj 0 ?_
   |(refine .perm _ q1 (Sc p q l (nN s) _ _ hn mq) ?_;rintro _ _ ⟨rfl,rfl⟩;refine⟨_,q1.symm,?_⟩)
   |(refine .perm _ (q2 _) (Sc p q l (nN s) _ _ hn mq) ?_;rintro _ _ ⟨rfl,rfl⟩;refine⟨_,(q2 _).symm,?_⟩)
   |intro b
 intro b g;refine aa 1 ?_;refine .perm _ (nO [[(lw,L.map pW)],cm p q x.a.ws [],eU s l (dc L) Z,[(b,zM (wG l x.a.ws (nN s)) 0 0 x.us)],[(aF,ep (.ptr p 0) l (.ae lw 0 k 1) (.ah (.int .i64) x.st) (.ah .bool x.dn) x.us)],[(b6,qQ)],[(b3,cc s)]] σ (a:=[0,1,2,3,4,5,6]) (b:=[3,4,0,5,6,1,2]) (by decide)) (ags s l p q lw k L Z _ _ _ _ _ _ hZ hL sG eD) ?_;rintro _ _ ⟨rfl,rfl⟩;refine⟨_,nO [[(lw,L.map pW)],cm p q x.a.ws [],eU s l (dc L) Z,[(b,zM (wG l x.a.ws (nN s)) 0 0 x.us)],[(aF,ep (.ptr p 0) l (.ae lw 0 k 1) (.ah (.int .i64) x.st) (.ah .bool x.dn) x.us)],[(b6,qQ)],[(b3,cc s)]] σ (a:=[3,4,0,5,6,1,2]) (b:=[0,1,2,3,4,5,6]) (by decide),?_⟩;refine aj 0 ?_;refine aj 0 ?_;refine aa 0 ?_;refine aj 3 ?_;refine aa 3 ?_;exact .drop 0 7 (Ti (eU s l (dc L) Z) (.done ⟨rfl,rfl,bM⟩))
end Go.Proofs.YtnikdflhefijbaaGreat
