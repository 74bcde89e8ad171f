import Derived.Test.YtnikdflhefijbaaGreatBn48
namespace Go.Proofs.YtnikdflhefijbaaGreat
open Go.RowKit
set_option maxRecDepth 100000
set_option maxHeartbeats 4000000
def gu(s:Sy)(l:Lay)(x:WS)(ws:List Int):WS×List Int:=
 (if (fT bB l x.node x.now ws).2.2=true then eg s l x (fT bB l x.node x.now ws).1 else ⟨x.ev,x.jo,x.en,x.does,(fT bB l x.node x.now ws).1,x.node,x.has,x.nx,x.out⟩,(fT bB l x.node x.now ws).2.1)
theorem qR{s:Sy}{l:Lay}{ev jo:Int}{en:Bool}{does node:Int}{now:Nw}{has:Bool}{nx out:List Int}{ws ws':List Int}{n':Nw}{b:Bool}(h:fT bB l node now ws=(n',ws',b)):gu s l ⟨ev,jo,en,does,now,node,has,nx,out⟩ ws=(if b=true then eg s l ⟨ev,jo,en,does,now,node,has,nx,out⟩ n' else ⟨ev,jo,en,does,n',node,has,nx,out⟩,ws'):=by
 unfold gu;dsimp only;rw[h]
section
variable {l:Lay} {node:Int} {ws ws':List Int} {b:Bool}
theorem SS{t t':Tk}(h:kM bB t ws=(t',ws',b)):fT bB l node (.take t) ws=(.take t',ws',b):=by
 show (Nw.take (kM bB t ws).1,(kM bB t ws).2)=_;rw[h]
theorem Cs{t t':Jn}(h:ij bB t ws=(t',ws',b)):fT bB l node (.join t) ws=(.join t',ws',b):=by
 show (Nw.join (ij bB t ws).1,(ij bB t ws).2)=_;rw[h]
theorem SU{t t':List Int}(h:mm bB l (aS l node) t ws=(t',ws',b)):fT bB l node (.read t) ws=(.read t',ws',b):=by
 show (Nw.read (mm bB l (aS l node) t ws).1,(mm bB l (aS l node) t ws).2)=_;rw[h]
theorem adK{t t':DQ}(h:e9 bB t ws=(t',ws',b)):fT bB l node (.pop t) ws=(.pop t',ws',b):=by
 show (Nw.pop (e9 bB t ws).1,(e9 bB t ws).2)=_;rw[h]
theorem acd{t t':DQ}(h:gj bB t ws=(t',ws',b)):fT bB l node (.push t) ws=(.push t',ws',b):=by
 show (Nw.push (gj bB t ws).1,(gj bB t ws).2)=_;rw[h]
theorem aai{t t':DQ}(h:gx bB t ws=(t',ws',b)):fT bB l node (.cu t) ws=(.cu t',ws',b):=by
 show (Nw.cu (gx bB t ws).1,(gx bB t ws).2)=_;rw[h]
end
def qh(s:Sy)(l:Lay)(hs:LS s l)(W:List WS)(ws:List Int)(D:List (List Nat))(M i:Nat)(X:WS×List Int):Prop:=
 ∃D' T',RJ s l hs (W.set i X.1) X.2 D' T' (M+1)∧SX.Tr (lS s l hs) (cj s l W ws D) i (cj s l (W.set i X.1) X.2 D')
section
variable {s:Sy} {l:Lay} {hs:LS s l} {W:List WS} {ws:List Int} {D:List (List Nat)} {T:Nat→Nat} {M:Nat}
theorem KT{α:Type}(f:α→Nat)(m:Nat):∀{l:List α},(∀x∈l,f x≤m)→SX.aK f l≤l.length*m
 | [],_=>bA _
 |a::l,h=>by
  have h1:=h a (cm ..)
  have h2:=KT f m (l:=l) fun x hx=>h x (cY _ hx)
  show f a+SX.aK f l≤(l.length+1)*m
  rw[qy];omega
theorem Sb:∀(n:Nat) (l:List Nat),(∀v,l.count v≤1)→(∀v∈l,v<n)→l.length≤n
 | 0,l,_,h2=>by
  cases l with
  |nil=>exact aU _
  |cons a l=>exact absurd (h2 a (cm ..)) (nE _)
 |n+1,l,h1,h2=>by
  have h3:=Sb n (l.erase n) (fun v=>fD (List.Sublist.count_le v (List.erase_sublist ..)) (h1 v)) (fun v hv=>by
   have h4:=h2 v (List.mem_of_mem_erase hv)
   rcases Bl (EE h4) with h5 | rfl
   ·exact h5
   ·have h6:0<(l.erase v).count v:=List.count_pos_iff.2 hv
    rw[List.count_erase_self]at h6
    have:=h1 v
    omega)
  have h7:l.length≤(l.erase n).length+1:=by
   rw[List.length_erase];split <;> omega
  omega
theorem RJ.DF(hR:RJ s l hs W ws D T M){j:Nat}{c:List Nat}(hc:D[j]?=some c):c.length≤nN s∧∀v∈c,v<nN s:=by
 have h1:∀v∈c,v<nN s:=hR.ti.nG c (cq hc)
 refine⟨Sb _ _ (fun v=>?_) h1,h1⟩
 have h2:=hR.ti.tok v
 have h3:c.count v≤SX.aK (fun l:List Nat=>l.count v) D:=SX.Cl (fun l:List Nat=>l.count v) D j c hc
 unfold SX.tok at h2
 have h4:SX.aK (fun l:List Nat=>l.count v) (cj s l W ws D).dq=SX.aK (fun l:List Nat=>l.count v) D:=rfl
 rw[h4]at h2
 split at h2 <;> omega
theorem RJ.aG(hR:RJ s l hs W ws D T M):ws.getD (nN s*nW l+nN s) 0≤100000:=by
 have h1:=hR.ti.aG
 have hn:=hs.nn
 have hk:=hs.k2
 have hl:=hR.len
 have h2:SX.aK List.length (cj s l W ws D).dq≤D.length*256:=KT _ _ fun c hc=>by
  obtain⟨j,hj⟩:=rF.1 hc
  have:=(hR.DF hj).1
  omega
 have h3:SX.aK SX.cw (cj s l W ws D).ph≤(W.map dL).length*2:=KT _ _ fun p _=>by
  cases p <;> simp[SX.cw]
 rw[cd]at h3
 have h4:(cj s l W ws D).aG=(ws.getD (nN s*nW l+nN s) 0).toNat:=rfl
 have h5:=hR.dl
 have h6:D.length*256≤64*256:=lO _ (by omega)
 have h7:=hR.kF
 omega
theorem RJ.bound(hR:RJ s l hs W ws D T M)(hM:M<1000000000){j:Nat}{c:List Nat}(hc:D[j]?=some c):T j+(jh c).length<4000000000000000000:=by
 have h1:=(hR.DF hc).1
 have h2:=hR.top j
 have h3:=hs.nn
 rw[cd];omega
theorem RJ.at_(hR:RJ s l hs W ws D T M){i:Nat}{x:WS}(hx:W[i]?=some x):∃c,D[i]?=some c:=by
 have hi:=(cf.1 hx).1
 exact⟨D[i]'(by rw[hR.dl];exact hi),bJ _⟩
theorem RJ.lo(hR:RJ s l hs W ws D T M):nN s*nW l+nN s<ws.length:=by
 rw[hR.fl]
 have:=hs.size
 have h2:=hs.low
 omega
theorem sX(hR:RJ s l hs W ws D T M)(i:Nat){t:Nat}(h:t≤M+1)(j:Nat):(if j=i then t else T j)≤M+1:=by
 have:=hR.top j
 split <;> omega
theorem nM(hR:RJ s l hs W ws D T M)(j:Nat):T j≤M+1:=by
 have:=hR.top j
 omega
theorem jC{A:SX.AP}{S S' S'':SX.AS}{i:Nat}(e:S'=S'')(h:SX.Tr A S i S''):SX.Tr A S i S':=e▸h
theorem ZV(hR:RJ s l hs W ws D T M){i:Nat}{ev jo:Int}{v:Nat}{has:Bool}{nx out:List Int}(hv:v<nN s)
  (hx:W[i]?=some ⟨ev,jo,false,3,.clear ⟨cO l,cF l,v,false⟩,v,has,nx,out⟩) :
  qh s l hs W ws D M i (gu s l ⟨ev,jo,false,3,.clear ⟨cO l,cF l,v,false⟩,v,has,nx,out⟩ ws):=by
 have e:gu s l ⟨ev,jo,false,3,.clear ⟨cO l,cF l,v,false⟩,v,has,nx,out⟩ ws=(⟨ev,jo,false,4,.none,v,has,nx,out⟩,if (0:Int)≤(v:Nat) then gX ws (wr (cO l+(v:Nat))) 0 else ws):=rfl
 rw[e,ai (by omega),hs.Ap hv,lh]
 have pD:=hR.lo
 refine⟨D,T,RJ.fin hR hx (by rw[cM]) ?_ rfl (oZ hR hx (by rw[cM]) (fun a ha=>?_) (fun z h=>by cases h) rfl) (nM hR) (.inl rfl) (.inl rfl) (fun j h=>by cases h) (fun j h=>by cases h) ?_⟩
 ·rw[jV,ah (by omega)];exact hR.kF
 ·rw[jV,ah (by omega)]
 ·refine jC (Sf (ws:=ws) (D:=D) hx hv (by omega) (by rfl) (by rfl) (by rfl)) ?_
  exact SX.Tr.clear v (ml hx)
theorem ZU(hR:RJ s l hs W ws D T M){i:Nat}{ev jo node:Int}{has:Bool}{nx out:List Int}
  (hx:W[i]?=some ⟨ev,jo,false,2,.quiet ⟨cO l,cF l,false,false⟩,node,has,nx,out⟩) :
  qh s l hs W ws D M i (gu s l ⟨ev,jo,false,2,.quiet ⟨cO l,cF l,false,false⟩,node,has,nx,out⟩ ws):=by
 have e:gu s l ⟨ev,jo,false,2,.quiet ⟨cO l,cF l,false,false⟩,node,has,nx,out⟩ ws=(⟨ev,jo,decide (dx ws (cF l)=0),uj l,.none,node,has,nx,out⟩,ws):=rfl
 rw[e,hs.count,nJ]
 have VA:=hR.kF
 refine⟨D,T,RJ.fin hR hx rfl hR.kF rfl (oZ hR hx rfl (fun a ha=>rfl) (fun z h=>by cases h) rfl) (nM hR) (.inl rfl) (.inl rfl) (fun j h=>by cases h) (fun j h=>by cases h) ?_⟩
 refine jC (lV (ws:=ws) (D:=D) hx (fun _ _=>rfl) (by rfl) (by rfl) D) ?_
 by_cases h0:ws.getD (nN s*nW l+nN s) 0=0
 ·rw[aV h0]
  exact SX.Tr.yD (ml hx) (show (ws.getD (nN s*nW l+nN s) 0).toNat=0 by omega)
 ·rw[bR h0]
  have hp:dL ⟨ev,jo,false,uj l,.none,node,has,nx,out⟩=.idle (if (lS s l hs).k<2 then 0 else 1) 0:=by
   show DV (uj l) _ _ _ _=.idle (if l.k.toNat<2 then 0 else 1) 0
   unfold uj
   by_cases hk:l.k<2
   ·rw[ai hk,ai (by omega)];rfl
   ·rw[ah hk,ah (by omega)];rfl
  rw[hp]
  exact SX.Tr.ask (ml hx) (show (ws.getD (nN s*nW l+nN s) 0).toNat≠0 by omega)
theorem Yf(hR:RJ s l hs W ws D T M){i:Nat}{ev jo:Int}{v:Nat}{has:Bool}{nx out:List Int}
  (hx:W[i]?=some ⟨ev,jo,false,8,.dT ⟨cO l,cF l,0,false⟩,v,has,nx,out⟩) :
  qh s l hs W ws D M i (gu s l ⟨ev,jo,false,8,.dT ⟨cO l,cF l,0,false⟩,v,has,nx,out⟩ ws):=by
 have e:gu s l ⟨ev,jo,false,8,.dT ⟨cO l,cF l,0,false⟩,v,has,nx,out⟩ ws=(⟨ev,jo,false,0,.none,v,false,nx,out⟩,mT ws (cF l) 18446744073709551615):=rfl
 have pD:=hR.lo
 have VA:=hR.kF
 have hc:=hR.aG
 have h1:1≤(ws.getD (nN s*nW l+nN s) 0).toNat:=by
  have h2:=hR.ti.aG
  have h3:=SX.Cl SX.cw (cj s l W ws D).ph i _ (ml (s:=s) (l:=l) (ws:=ws) (D:=D) hx)
  have h4:SX.cw (dL ⟨ev,jo,false,8,.dT ⟨cO l,cF l,0,false⟩,v,has,nx,out⟩)=1:=rfl
  have h5:(cj s l W ws D).aG=(ws.getD (nN s*nW l+nN s) 0).toNat:=rfl
  omega
 have hw:mT ws (cF l) 18446744073709551615=ws.set (nN s*nW l+nN s) (ws.getD (nN s*nW l+nN s) 0-1):=by
  unfold mT
  rw[hs.count,ai (BU (by omega) (by omega)),nJ,lh]
  congr 1
  omega
 rw[e,hw]
 refine⟨D,T,RJ.fin hR hx (by rw[cM]) ?_ rfl (oZ hR hx (by rw[cM]) (fun a ha=>?_) (fun z h=>by cases h) rfl) (nM hR) (.inl rfl) (.inl rfl) (fun j h=>by cases h) (fun j h=>by cases h) ?_⟩
 ·rw[jV,ai ⟨rfl,pD⟩];omega
 ·rw[jV,ah (by omega)]
 ·refine jC (Tl (ws:=ws) (D:=D) hx pD (by rfl) (by rfl) (by rfl)) ?_
  rw[show (ws.getD (nN s*nW l+nN s) 0-1).toNat=(cj s l W ws D).aG-1 by show _=(ws.getD (nN s*nW l+nN s) 0).toNat-1;omega]
  exact SX.Tr.dT v (ml hx)
theorem ZS(hR:RJ s l hs W ws D T M){i:Nat}{ev jo:Int}{v u:Nat}{has:Bool}{nx out:List Int}(hu:u<nN s)
  (hx:W[i]?=some ⟨ev,jo,false,6,.take ⟨cO l,cF l,u,false,false,false⟩,v,has,u::nx,out⟩) :
  qh s l hs W ws D M i (gu s l ⟨ev,jo,false,6,.take ⟨cO l,cF l,u,false,false,false⟩,v,has,u::nx,out⟩ ws):=by
 have pD:=hR.lo
 obtain⟨k1,k2⟩:=GS (ws:=ws) (a:=nN s*nW l+u) (by omega) 0 1
 by_cases hf:ws.getD (nN s*nW l+u) 0=0
 ·rw[aV hf]at k1
  rw[ai hf]at k2
  have e:gu s l ⟨ev,jo,false,6,.take ⟨cO l,cF l,u,false,false,false⟩,v,has,u::nx,out⟩ ws=(⟨ev,jo,false,6,.take ⟨cO l,cF l,u,true,false,true⟩,v,has,u::nx,out⟩,ws.set (nN s*nW l+u) 1):=by
   have e1:kM bB ⟨cO l,cF l,u,false,false,false⟩ ws=(⟨cO l,cF l,u,true,false,true⟩,ws.set (nN s*nW l+u) 1,false):=by
    show (if (0:Int)≤(u:Nat) then (if nk ws (wr (cO l+(u:Nat))) 0=true then ((⟨cO l,cF l,u,true,false,true⟩:Tk),iM ws (wr (cO l+(u:Nat))) 0 1,false) else (⟨cO l,cF l,u,false,true,true⟩,iM ws (wr (cO l+(u:Nat))) 0 1,true)) else (⟨cO l,cF l,u,false,true,true⟩,ws,true))=_
    rw[ai (by omega),hs.Ap hu,k1,k2];rfl
   exact qR (SS e1)
  rw[e]
  refine⟨D,T,RJ.fin hR hx (by rw[cM]) ?_ rfl (oZ hR hx (by rw[cM]) (fun a ha=>?_) (fun z h=>by cases h) rfl) (nM hR) (.inl rfl) (.inl rfl) (fun j h=>by cases h) (fun j h=>by cases h) ?_⟩
  ·rw[jV,ah (by omega)];exact hR.kF
  ·rw[jV,ah (by omega)]
  ·refine jC (Sf (ws:=ws) (D:=D) hx hu (by omega) (by rfl) (by rfl) (by rfl)) ?_
   exact SX.Tr.flag v out u (nx.map Int.toNat) (ml hx) (bR fun h=>h.2 hf)
 ·rw[bR hf]at k1
  rw[ah hf]at k2
  have e:gu s l ⟨ev,jo,false,6,.take ⟨cO l,cF l,u,false,false,false⟩,v,has,u::nx,out⟩ ws=(⟨ev,jo,false,kj (u::nx),.none,v,has,nx,out⟩,ws):=by
   have e1:kM bB ⟨cO l,cF l,u,false,false,false⟩ ws=(⟨cO l,cF l,u,false,true,true⟩,ws,true):=by
    show (if (0:Int)≤(u:Nat) then (if nk ws (wr (cO l+(u:Nat))) 0=true then ((⟨cO l,cF l,u,true,false,true⟩:Tk),iM ws (wr (cO l+(u:Nat))) 0 1,false) else (⟨cO l,cF l,u,false,true,true⟩,iM ws (wr (cO l+(u:Nat))) 0 1,true)) else (⟨cO l,cF l,u,false,true,true⟩,ws,true))=_
    rw[ai (by omega),hs.Ap hu,k1,k2];rfl
   exact qR (SS e1)
  rw[e]
  refine⟨D,T,RJ.fin hR hx rfl hR.kF rfl (oZ hR hx rfl (fun a ha=>rfl) (fun z h=>by cases h) rfl) (nM hR) (.inl rfl) (.inl rfl) (fun j h=>by cases h) (fun j h=>by cases h) ?_⟩
  refine jC (lV (ws:=ws) (D:=D) hx (fun _ _=>rfl) (by rfl) (by rfl) D) ?_
  dsimp only
  rw[Cp (nx:=nx) (does:=kj (u::nx)) rfl]
  exact SX.Tr.yJ v out u (nx.map Int.toNat) (ml hx) (aV ⟨hu,hf⟩)
theorem ZR(hR:RJ s l hs W ws D T M){i:Nat}{ev jo:Int}{v u:Nat}{has:Bool}{nx out:List Int}
  (hx:W[i]?=some ⟨ev,jo,false,6,.take ⟨cO l,cF l,u,true,false,true⟩,v,has,u::nx,out⟩) :
  qh s l hs W ws D M i (gu s l ⟨ev,jo,false,6,.take ⟨cO l,cF l,u,true,false,true⟩,v,has,u::nx,out⟩ ws):=by
 have e:gu s l ⟨ev,jo,false,6,.take ⟨cO l,cF l,u,true,false,true⟩,v,has,u::nx,out⟩ ws=(⟨ev,jo,false,7,.none,v,has,u::nx,out⟩,mT ws (cF l) 1):=rfl
 have pD:=hR.lo
 have VA:=hR.kF
 have hc:=hR.aG
 have hw:mT ws (cF l) 1=ws.set (nN s*nW l+nN s) (ws.getD (nN s*nW l+nN s) 0+1):=by
  unfold mT
  rw[hs.count,ai (BU (by omega) (by omega)),nJ,lh]
  congr 1
  omega
 rw[e,hw]
 refine⟨D,T,RJ.fin hR hx (by rw[cM]) ?_ rfl (oZ hR hx (by rw[cM]) (fun a ha=>?_) (fun z h=>by cases h) rfl) (nM hR) (.inl rfl) (.inl rfl) (fun j h=>by cases h) (fun j h=>by cases h) ?_⟩
 ·rw[jV,ai ⟨rfl,pD⟩];omega
 ·rw[jV,ah (by omega)]
 ·refine jC (Tl (ws:=ws) (D:=D) hx pD (by rfl) (by rfl) (by rfl)) ?_
  rw[show (ws.getD (nN s*nW l+nN s) 0+1).toNat=(cj s l W ws D).aG+1 by show _=(ws.getD (nN s*nW l+nN s) 0).toNat+1;omega]
  exact SX.Tr.add v out u (nx.map Int.toNat) (ml hx)
theorem abD(hR:RJ s l hs W ws D T M)(hM:M<1000000000)(Nr:MV s l ws){i:Nat}{ev jo:Int}{v:Nat}{has:Bool}{nx out y:List Int}(hv:v<nN s)
  (hy:y.length<nW l∨(nW l=0∧y=[])) (hk:∀i,i<y.length→fG s.what s.w i (wd y i)) (hx:W[i]?=some ⟨ev,jo,false,4,.read y,v,has,nx,out⟩) :
  qh s l hs W ws D M i (gu s l ⟨ev,jo,false,4,.read y,v,has,nx,out⟩ ws):=by
 have hE:=(hR.ev _ (cq hx)).1
 have zd:=(hR.ev _ (cq hx)).2.1
 dsimp only at hE zd
 have hew:wr (ev+1)=ev+1:=by show IntKind.i64.wrap _=_;rw[IntKind.wrap_i64];omega
 have done:∀y':List Int,((y.length+1=nW l∧y'=y++[(cj s l W ws D).cell v y.length])∨(nW l=0∧y'=[]))→dY s.what s.w y'→qh s l hs W ws D M i (eg s l ⟨ev,jo,false,4,.read y,v,has,nx,out⟩ (.read y'),ws):=by
  intro y' tF yK
  have hn:iO s v=0:=(FE (Kc hs.fW) ⟨by omega,by have:=hs.nn;omega⟩).symm
  rw[aaS (RD hn yK.v)]
  dsimp only
  rw[hew]
  refine⟨D,T,RJ.fin hR hx rfl hR.kF rfl (oZ hR hx rfl (fun a ha=>rfl) (fun z h=>by cases h) rfl) (nM hR) (.inr rfl) (.inl rfl) (fun j h=>by cases h) (fun j h=>by cases h) ?_⟩
  refine jC (ae4 (ws:=ws) (D:=D) hx (show (ev+1).toNat=ev.toNat+1 by omega) (by rfl)) ?_
  dsimp only
  rw[Cp (does:=uz s v) rfl]
  exact SX.Tr.yp v y y' (ml hx) tF
 by_cases hl:y.length<nW l
 ·have ej:dx ws (wr (aS l v+(y.length:Nat)))=(cj s l W ws D).cell v y.length:=by
   rw[hs.As hv hl,nJ]
   show _=if _ then _ else _
   rw[ai ⟨hv,hl⟩]
  have nu:=adv (l:=l) (base:=aS l v) hl ej
  have e:gu s l ⟨ev,jo,false,4,.read y,v,has,nx,out⟩ ws=(if decide (y.length+1=cw l.words)=true then eg s l ⟨ev,jo,false,4,.read y,v,has,nx,out⟩ (.read (y++[(cj s l W ws D).cell v y.length])) else ⟨ev,jo,false,4,.read (y++[(cj s l W ws D).cell v y.length]),v,has,nx,out⟩,ws):=by
   exact qR (SU nu)
  rw[e]
  have sl:fG s.what s.w y.length ((cj s l W ws D).cell v y.length):=by
   rw[← ej,hs.As hv hl]
   exact Nr.load hv hl
  by_cases he:y.length+1=nW l
  ·rw[ai (aV he)]
   refine done _ (.inl ⟨he,rfl⟩) ((hs.qZ).2 ⟨by simp;omega,fun j hj=>?_⟩)
   rw[s6,TA]
   by_cases h2:j<y.length
   ·rw[ai h2];exact hk j h2
   ·rw[ah h2,ai (by omega),show j=y.length by omega];exact sl
  ·rw[ah (by rw[bR he];decide)]
   refine⟨D,T,RJ.fin hR hx rfl hR.kF rfl (oZ hR hx rfl (fun a ha=>rfl) (fun z h=>by cases h) rfl) (nM hR) (.inl rfl) (.inl rfl) (fun j h=>by cases h) (fun j h=>by cases h) ?_⟩
   refine jC (lV (ws:=ws) (D:=D) hx (fun _ _=>rfl) (by rfl) (by rfl) D) ?_
   exact SX.Tr.yo v y (ml hx) (show y.length+1<nW l by omega)
 ·obtain⟨h0,rfl⟩:=hy.resolve_left hl
  have e:gu s l ⟨ev,jo,false,4,.read [],v,has,nx,out⟩ ws=(eg s l ⟨ev,jo,false,4,.read [],v,has,nx,out⟩ (.read []),ws):=by
   have e1:mm bB l (aS l v) [] ws=([],ws,true):=ah (by show ¬0<cw l.words;show ¬0<nW l;omega)
   exact qR (SU e1)
  rw[e]
  exact done _ (.inr ⟨h0,rfl⟩) ((hs.qZ).2 ⟨by rw[h0];rfl,fun j hj=>by omega⟩)
theorem SE(hs:LS s l){ev jo:Int}{v u:Nat}{has:Bool}{nx out:List Int}(j:Jn)(mH:0≤jo)(hjo2:jo<1000000000)(hw:j.words=l.words)(A1:j.ff=false):
  ∃x':WS,(if (gH j).2=true then eg s l ⟨ev,jo,false,5,.join j,v,has,u::nx,out⟩ (.join (gH j).1) else ⟨ev,jo,false,5,.join (gH j).1,v,has,u::nx,out⟩)=x'∧dL x'=(SX.eV (lS s l hs) v out u (nx.map Int.toNat) j.at_ j.changed).1∧x'.ev=ev∧x'.jo.toNat=jo.toNat+(SX.eV (lS s l hs) v out u (nx.map Int.toNat) j.at_ j.changed).2∧(x'.jo=jo∨x'.jo=jo+1)∧(∀z,x'.now≠.cu z)∧rY x'.now=none∧(∀j,x'.now=.join j→j.ff=false)∧(∀q,x'.now≠.push q):=by
 have hjw:wr (jo+1)=jo+1:=by show IntKind.i64.wrap _=_;rw[IntKind.wrap_i64];omega
 unfold SX.eV
 by_cases h1:j.at_+1<cw l.words
 ·have y6:gH j=({ j with at_:=j.at_+1 },false):=by unfold gH;rw[hw,ai h1]
  rw[y6,ai (show j.at_+1<(lS s l hs).W from h1)]
  dsimp only
  rw[ah Bj]
  refine⟨_,rfl,?_,rfl,rfl,.inl rfl,fun z h=>Nw.noConfusion h,rfl,fun j' h=>?_,fun q h=>Nw.noConfusion h⟩
  ·show SX.Ph.join _ _ _ _ _ (if j.ff=true then _ else _) _=_
   rw[A1];rfl
  ·cases h;exact A1
 ·have y6:gH j=({ j with at_:=j.at_+1,ended:=true },true):=by unfold gH;rw[hw,ah h1]
  rw[y6,ah (show ¬j.at_+1<(lS s l hs).W from h1)]
  dsimp only
  rw[ai rfl]
  cases hc:j.changed with
  |true=>
   have e:eg s l ⟨ev,jo,false,5,.join j,v,has,u::nx,out⟩ (.join { j with at_:=j.at_+1,ended:=true })=⟨ev,jo+1,false,6,.none,v,has,u::nx,out⟩:=by
    show (if j.changed=true then _ else _)=_
    rw[ai hc]
    dsimp only
    rw[hjw]
   rw[hc]at e
   refine⟨_,e,?_,rfl,?_,.inr rfl,fun z h=>Nw.noConfusion h,rfl,fun j' h=>Nw.noConfusion h,fun q h=>Nw.noConfusion h⟩
   ·rw[ai rfl];rfl
   ·rw[ai rfl];show (jo+1).toNat=jo.toNat+1;omega
  |false=>
   have e:eg s l ⟨ev,jo,false,5,.join j,v,has,u::nx,out⟩ (.join { j with at_:=j.at_+1,ended:=true })=⟨ev,jo,false,kj (u::nx),.none,v,has,nx,out⟩:=by
    show (if j.changed=true then _ else _)=_
    rw[ah (by rw[hc];decide)]
    rfl
   rw[hc]at e
   refine⟨_,e,?_,rfl,?_,.inl rfl,fun z h=>Nw.noConfusion h,rfl,fun j' h=>Nw.noConfusion h,fun q h=>Nw.noConfusion h⟩
   ·rw[ah Bj];exact Cp (nx:=nx) (does:=kj (u::nx)) rfl
   ·rw[ah Bj];rfl
theorem abF(hR:RJ s l hs W ws D T M)(hM:M<1000000000){i:Nat}{ev jo:Int}{v u:Nat}{has:Bool}{nx out:List Int}(hu:u<nN s)(j:Jn)
  (hj:j.base=aS l u∧j.what=l.what∧j.words=l.words∧j.a=out) (kV:j.ended=false) (dR:j.at_≤nW l) (wS:j.at_<nW l∨(j.at_=0∧j.ff=false∧j.changed=false)) (aeU:j.ff=true→j.at_<nW l)
  (hx:W[i]?=some ⟨ev,jo,false,5,.join j,v,has,u::nx,out⟩) :
  qh s l hs W ws D M i (gu s l ⟨ev,jo,false,5,.join j,v,has,u::nx,out⟩ ws):=by
 have hE:=hR.ev _ (cq hx)
 dsimp only at hE
 have hJ:=hR.jn _ (cq hx) j rfl
 have hp:=ml (s:=s) (l:=l) (ws:=ws) (D:=D) hx
 have pD:=hR.lo
 obtain⟨base,what,words,a,changed,ended,tries,at_,ff,xx⟩:=j
 obtain⟨rfl,rfl,rfl,rfl⟩:=hj
 dsimp only at kV dR wS aeU hJ
 subst kV
 by_cases h0:at_=nW l
 ·obtain⟨h1,h2,h3⟩:=wS.resolve_left (by omega)
  subst h1 h2 h3
  have IJ:nW l=0:=h0.symm
  have e:gu s l ⟨ev,jo,false,5,.join ⟨aS l u,l.what,l.words,a,false,false,tries,0,false,xx⟩,v,has,u::nx,a⟩ ws=(⟨ev,jo,false,kj (u::nx),.none,v,has,nx,a⟩,ws):=by
   have e1:ij bB ⟨aS l u,l.what,l.words,a,false,false,tries,0,false,xx⟩ ws=(⟨aS l u,l.what,l.words,a,false,true,tries,0,false,xx⟩,ws,true):=by
    exact ai h0
   exact qR (Cs e1)
  rw[e]
  refine⟨D,T,RJ.fin hR hx rfl hR.kF rfl (oZ hR hx rfl (fun a ha=>rfl) (fun z h=>by cases h) rfl) (nM hR) (.inl rfl) (.inl rfl) (fun j h=>by cases h) (fun j h=>by cases h) ?_⟩
  refine jC (lV (ws:=ws) (D:=D) hx (fun _ _=>rfl) (by rfl) (by rfl) D) ?_
  dsimp only
  rw[Cp (nx:=nx) (does:=kj (u::nx)) rfl]
  exact SX.Tr.none v a u (nx.map Int.toNat) hp IJ
 have ab:at_<nW l:=by omega
 have ej:ws.getD (u*nW l+at_) 0=(cj s l W ws D).cell u at_:=by
  show _=if _ then _ else _
  rw[ai ⟨hu,ab⟩]
 have lv:=sT hu ab
 have IH:=hs.As hu ab
 have Nh:=hs.what
 have NK:wd a at_=a.getD at_ 0:=(s6 a at_).symm
 cases ff with
 |true=>
  have hJ:=hJ rfl
  obtain⟨k1,k2⟩:=GS (ws:=ws) (a:=u*nW l+at_) (by omega) xx (cT l.what xx (wd a at_))
  by_cases hf:ws.getD (u*nW l+at_) 0=xx
  ·rw[aV hf]at k1
   rw[ai hf]at k2
   obtain⟨x',jL,q1,q2,q3,q4,q5,q6,q7,q8⟩:=SE hs (ev:=ev) (v:=v) (u:=u) (has:=has) (nx:=nx) (out:=a) ⟨aS l u,l.what,l.words,a,true,false,tries,at_,false,xx⟩ hE.2.2.1 (by omega) rfl rfl
   have e:gu s l ⟨ev,jo,false,5,.join ⟨aS l u,l.what,l.words,a,changed,false,tries,at_,true,xx⟩,v,has,u::nx,a⟩ ws=(x',ws.set (u*nW l+at_) (cT l.what xx (wd a at_))):=by
    have e1:ij bB ⟨aS l u,l.what,l.words,a,changed,false,tries,at_,true,xx⟩ ws=((gH ⟨aS l u,l.what,l.words,a,true,false,tries,at_,false,xx⟩).1,ws.set (u*nW l+at_) (cT l.what xx (wd a at_)),(gH ⟨aS l u,l.what,l.words,a,true,false,tries,at_,false,xx⟩).2):=by
     show (if at_=cw l.words then ((⟨aS l u,l.what,l.words,a,changed,true,tries,at_,true,xx⟩:Jn),ws,true) else if nk ws (wr (aS l u+(at_:Nat))) xx=true then ((gH ⟨aS l u,l.what,l.words,a,true,false,tries,at_,false,xx⟩).1,iM ws (wr (aS l u+(at_:Nat))) xx (cT l.what xx (wd a at_)),(gH ⟨aS l u,l.what,l.words,a,true,false,tries,at_,false,xx⟩).2) else (⟨aS l u,l.what,l.words,a,changed,false,wr (tries+1),at_,false,xx⟩,iM ws (wr (aS l u+(at_:Nat))) xx (cT l.what xx (wd a at_)),false))=_
     rw[ah h0,IH,k1,k2,ai rfl]
    rw[← jL]
    exact qR (Cs e1)
   rw[e]
   refine⟨D,T,RJ.fin hR hx (by rw[cM]) ?_ rfl (oZ hR hx (by rw[cM]) (fun a ha=>?_) q5 q6.symm) (nM hR) (.inl q2) q4 (fun j h h2=>absurd ((q7 j h).symm.trans h2) (by decide)) (fun q h=>absurd h (q8 q)) ?_⟩
   ·rw[jV,ah (by omega)];exact hR.kF
   ·rw[jV,ah (by omega)]
   ·refine jC (aaW (ws:=ws) (D:=D) hx hu ab (by omega) (by rfl) q2 _ q3) ?_
    rw[q1]
    rw[NK,Nh]at hJ ⊢
    have h9:xx=(cj s l W ws D).cell u at_:=hf.symm.trans ej
    have hp:(cj s l W ws D).ph[i]?=some (.join v a u (nx.map Int.toNat) at_ (some xx) changed):=hp
    rw[h9]at hp hJ ⊢
    exact SX.Tr.yT v a u (nx.map Int.toNat) at_ changed hp ab hJ
  ·rw[bR hf]at k1
   rw[ah hf]at k2
   have e:gu s l ⟨ev,jo,false,5,.join ⟨aS l u,l.what,l.words,a,changed,false,tries,at_,true,xx⟩,v,has,u::nx,a⟩ ws=(⟨ev,jo,false,5,.join ⟨aS l u,l.what,l.words,a,changed,false,wr (tries+1),at_,false,xx⟩,v,has,u::nx,a⟩,ws):=by
    have e1:ij bB ⟨aS l u,l.what,l.words,a,changed,false,tries,at_,true,xx⟩ ws=(⟨aS l u,l.what,l.words,a,changed,false,wr (tries+1),at_,false,xx⟩,ws,false):=by
     show (if at_=cw l.words then ((⟨aS l u,l.what,l.words,a,changed,true,tries,at_,true,xx⟩:Jn),ws,true) else if nk ws (wr (aS l u+(at_:Nat))) xx=true then ((gH ⟨aS l u,l.what,l.words,a,true,false,tries,at_,false,xx⟩).1,iM ws (wr (aS l u+(at_:Nat))) xx (cT l.what xx (wd a at_)),(gH ⟨aS l u,l.what,l.words,a,true,false,tries,at_,false,xx⟩).2) else (⟨aS l u,l.what,l.words,a,changed,false,wr (tries+1),at_,false,xx⟩,iM ws (wr (aS l u+(at_:Nat))) xx (cT l.what xx (wd a at_)),false))=_
     rw[ah h0,IH,k1,k2,ah (by decide)]
    exact qR (Cs e1)
   rw[e]
   refine⟨D,T,RJ.fin hR hx rfl hR.kF rfl (oZ hR hx rfl (fun a ha=>rfl) (fun z h=>by cases h) rfl) (nM hR) (.inl rfl) (.inl rfl) (fun j h h2=>by cases h;cases h2) (fun j h=>by cases h) ?_⟩
   refine jC (lV (ws:=ws) (D:=D) hx (fun _ _=>rfl) (by rfl) (by rfl) D) ?_
   exact SX.Tr.lost v a u (nx.map Int.toNat) at_ changed xx hp ab (fun h=>hf (ej.trans h))
 |false=>
  by_cases hf:cT l.what (ws.getD (u*nW l+at_) 0) (wd a at_)=ws.getD (u*nW l+at_) 0
  ·obtain⟨x',jL,q1,q2,q3,q4,q5,q6,q7,q8⟩:=SE hs (ev:=ev) (v:=v) (u:=u) (has:=has) (nx:=nx) (out:=a) ⟨aS l u,l.what,l.words,a,changed,false,tries,at_,false,ws.getD (u*nW l+at_) 0⟩ hE.2.2.1 (by omega) rfl rfl
   have e:gu s l ⟨ev,jo,false,5,.join ⟨aS l u,l.what,l.words,a,changed,false,tries,at_,false,xx⟩,v,has,u::nx,a⟩ ws=(x',ws):=by
    have e1:ij bB ⟨aS l u,l.what,l.words,a,changed,false,tries,at_,false,xx⟩ ws=((gH ⟨aS l u,l.what,l.words,a,changed,false,tries,at_,false,ws.getD (u*nW l+at_) 0⟩).1,ws,(gH ⟨aS l u,l.what,l.words,a,changed,false,tries,at_,false,ws.getD (u*nW l+at_) 0⟩).2):=by
     show (if at_=cw l.words then ((⟨aS l u,l.what,l.words,a,changed,true,tries,at_,false,xx⟩:Jn),ws,true) else if cT l.what (dx ws (wr (aS l u+(at_:Nat)))) (wd a at_)=dx ws (wr (aS l u+(at_:Nat))) then ((gH ⟨aS l u,l.what,l.words,a,changed,false,tries,at_,false,dx ws (wr (aS l u+(at_:Nat)))⟩).1,ws,(gH ⟨aS l u,l.what,l.words,a,changed,false,tries,at_,false,dx ws (wr (aS l u+(at_:Nat)))⟩).2) else (⟨aS l u,l.what,l.words,a,changed,false,tries,at_,true,dx ws (wr (aS l u+(at_:Nat)))⟩,ws,false))=_
     rw[ah h0,IH,nJ,ai hf]
    rw[← jL]
    exact qR (Cs e1)
   rw[e]
   refine⟨D,T,RJ.fin hR hx rfl hR.kF rfl (oZ hR hx rfl (fun a ha=>rfl) q5 q6.symm) (nM hR) (.inl q2) q4 (fun j h h2=>absurd ((q7 j h).symm.trans h2) (by decide)) (fun q h=>absurd h (q8 q)) ?_⟩
   refine jC (ae3 (ws:=ws) (D:=D) hx q2 _ q3) ?_
   rw[q1]
   refine SX.Tr.same v a u (nx.map Int.toNat) at_ changed hp ab ?_
   show cT s.what _ _=_
   rw[← ej,← NK,← Nh];exact hf
  ·have e:gu s l ⟨ev,jo,false,5,.join ⟨aS l u,l.what,l.words,a,changed,false,tries,at_,false,xx⟩,v,has,u::nx,a⟩ ws=(⟨ev,jo,false,5,.join ⟨aS l u,l.what,l.words,a,changed,false,tries,at_,true,ws.getD (u*nW l+at_) 0⟩,v,has,u::nx,a⟩,ws):=by
    have e1:ij bB ⟨aS l u,l.what,l.words,a,changed,false,tries,at_,false,xx⟩ ws=(⟨aS l u,l.what,l.words,a,changed,false,tries,at_,true,ws.getD (u*nW l+at_) 0⟩,ws,false):=by
     show (if at_=cw l.words then ((⟨aS l u,l.what,l.words,a,changed,true,tries,at_,false,xx⟩:Jn),ws,true) else if cT l.what (dx ws (wr (aS l u+(at_:Nat)))) (wd a at_)=dx ws (wr (aS l u+(at_:Nat))) then ((gH ⟨aS l u,l.what,l.words,a,changed,false,tries,at_,false,dx ws (wr (aS l u+(at_:Nat)))⟩).1,ws,(gH ⟨aS l u,l.what,l.words,a,changed,false,tries,at_,false,dx ws (wr (aS l u+(at_:Nat)))⟩).2) else (⟨aS l u,l.what,l.words,a,changed,false,tries,at_,true,dx ws (wr (aS l u+(at_:Nat)))⟩,ws,false))=_
     rw[ah h0,IH,nJ,ah hf]
    exact qR (Cs e1)
   rw[e]
   refine⟨D,T,RJ.fin hR hx rfl hR.kF rfl (oZ hR hx rfl (fun a ha=>rfl) (fun z h=>by cases h) rfl) (nM hR) (.inl rfl) (.inl rfl) (fun j h h2=>by cases h;exact hf) (fun j h=>by cases h) ?_⟩
   refine jC (lV (ws:=ws) (D:=D) hx (fun _ _=>rfl) (by rfl) (by rfl) D) ?_
   have h9:dL ⟨ev,jo,false,5,.join ⟨aS l u,l.what,l.words,a,changed,false,tries,at_,true,ws.getD (u*nW l+at_) 0⟩,v,has,u::nx,a⟩=.join v a u (nx.map Int.toNat) at_ (some ((cj s l W ws D).cell u at_)) changed:=by rw[← ej];rfl
   rw[h9]
   refine SX.Tr.load v a u (nx.map Int.toNat) at_ changed hp ab ?_
   show ¬cT s.what _ _=_
   rw[← ej,← NK,← Nh];exact hf
end
end Go.Proofs.YtnikdflhefijbaaGreat
