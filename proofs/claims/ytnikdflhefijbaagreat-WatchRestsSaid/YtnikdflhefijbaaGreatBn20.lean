import Derived.Test.YtnikdflhefijbaaGreatBn19
import Derived.Test.YtnikdflhefijbaaGreatBn18
namespace Go.Proofs.YtnikdflhefijbaaGreat
open Go.RowKit
set_option maxRecDepth 100000
set_option maxHeartbeats 4000000
def gN(s:Sy)(l:Lay)(x:WS)(ws:List Int):WS×List Int:=
 (if (gn bJ l x.node x.now ws).2.2=true then dV s l x (gn bJ l x.node x.now ws).1 else ⟨x.ev,x.jo,x.en,x.does,(gn bJ l x.node x.now ws).1,x.node,x.has,x.nx,x.out⟩,(gn bJ l x.node x.now ws).2.1)
theorem rI{s:Sy}{l:Lay}{ev jo:Int}{en:Bool}{does node:Int}{now:Nw}{has:Bool}{nx out:List Int}{ws ws':List Int}{n':Nw}{b:Bool}(h:gn bJ l node now ws=(n',ws',b)):gN s l ⟨ev,jo,en,does,now,node,has,nx,out⟩ ws=(if b=true then dV s l ⟨ev,jo,en,does,now,node,has,nx,out⟩ n' else ⟨ev,jo,en,does,n',node,has,nx,out⟩,ws'):=by
 unfold gN;dsimp only;rw[h]
section
variable {l:Lay} {node:Int} {ws ws':List Int} {b:Bool}
theorem UC{t t':Tk}(h:k8 bJ t ws=(t',ws',b)):gn bJ l node (.take t) ws=(.take t',ws',b):=by
 show (Nw.take (k8 bJ t ws).1,(k8 bJ t ws).2)=_;rw[h]
theorem DH{t t':Jn}(h:iI bJ t ws=(t',ws',b)):gn bJ l node (.join t) ws=(.join t',ws',b):=by
 show (Nw.join (iI bJ t ws).1,(iI bJ t ws).2)=_;rw[h]
theorem UD{t t':List Int}(h:mM bJ l (bg l node) t ws=(t',ws',b)):gn bJ l node (.read t) ws=(.read t',ws',b):=by
 show (Nw.read (mM bJ l (bg l node) t ws).1,(mM bJ l (bg l node) t ws).2)=_;rw[h]
theorem ag1{t t':DQ}(h:fE bJ t ws=(t',ws',b)):gn bJ l node (.pop t) ws=(.pop t',ws',b):=by
 show (Nw.pop (fE bJ t ws).1,(fE bJ t ws).2)=_;rw[h]
theorem aeh{t t':DQ}(h:gD bJ t ws=(t',ws',b)):gn bJ l node (.push t) ws=(.push t',ws',b):=by
 show (Nw.push (gD bJ t ws).1,(gD bJ t ws).2)=_;rw[h]
theorem ac6{t t':DQ}(h:gR bJ t ws=(t',ws',b)):gn bJ l node (.cC t) ws=(.cC t',ws',b):=by
 show (Nw.cC (gR bJ t ws).1,(gR bJ t ws).2)=_;rw[h]
end
def qM(s:Sy)(l:Lay)(hs:LS s l)(W:List WS)(ws:List Int)(D:List (List Nat))(M i:Nat)(X:WS×List Int):Prop:=
 ∃D' T',RJ s l hs (W.set i X.1) X.2 D' T' (M+1)∧SX.Tr (kU s l hs) (cu s l W ws D) i (cu s l (W.set i X.1) X.2 D')
section
variable {s:Sy} {l:Lay} {hs:LS s l} {W:List WS} {ws:List Int} {D:List (List Nat)} {T:Nat→Nat} {M:Nat}
theorem Mn{α:Type}(f:α→Nat)(m:Nat):∀{l:List α},(∀x∈l,f x≤m)→SX.aN f l≤l.length*m
 | [],_=>bA _
 |a::l,h=>by
  have h1:=h a (cj ..)
  have h2:=Mn f m (l:=l) fun x hx=>h x (dp _ hx)
  show f a+SX.aN f l≤(l.length+1)*m
  rw[qc];omega
theorem TM:∀(n:Nat) (l:List Nat),(∀v,l.count v≤1)→(∀v∈l,v<n)→l.length≤n
 | 0,l,_,h2=>by
  cases l with
  |nil=>exact a8 _
  |cons a l=>exact absurd (h2 a (cj ..)) (og _)
 |n+1,l,h1,h2=>by
  have h3:=TM n (l.erase n) (fun v=>eH (List.Sublist.count_le v (List.erase_sublist ..)) (h1 v)) (fun v hv=>by
   have h4:=h2 v (List.mem_of_mem_erase hv)
   rcases Cx (Cu h4) with h5 | rfl
   ·exact h5
   ·have h6:0<(l.erase v).count v:=List.count_pos_iff.2 hv
    rw[List.count_erase_self]at h6
    have:=h1 v
    omega)
  have h7:l.length≤(l.erase n).length+1:=by
   rw[List.length_erase];split <;> omega
  omega
theorem RJ.EW(hR:RJ s l hs W ws D T M){j:Nat}{c:List Nat}(hc:D[j]?=some c):c.length≤nN s∧∀v∈c,v<nN s:=by
 have h1:∀v∈c,v<nN s:=hR.ti.om c (cx hc)
 refine⟨TM _ _ (fun v=>?_) h1,h1⟩
 have h2:=hR.ti.tok v
 have h3:c.count v≤SX.aN (fun l:List Nat=>l.count v) D:=SX.AZ (fun l:List Nat=>l.count v) D j c hc
 unfold SX.tok at h2
 have h4:SX.aN (fun l:List Nat=>l.count v) (cu s l W ws D).dq=SX.aN (fun l:List Nat=>l.count v) D:=rfl
 rw[h4]at h2
 split at h2 <;> omega
theorem RJ.aH(hR:RJ s l hs W ws D T M):ws.getD (nN s*nW l+nN s) 0≤100000:=by
 have h1:=hR.ti.aH
 have hn:=hs.nn
 have hk:=hs.k2
 have hl:=hR.len
 have h2:SX.aN List.length (cu s l W ws D).dq≤D.length*256:=Mn _ _ fun c hc=>by
  obtain⟨j,hj⟩:=re.1 hc
  have:=(hR.EW hj).1
  omega
 have h3:SX.aN SX.cw (cu s l W ws D).ph≤(W.map dP).length*2:=Mn _ _ fun p _=>by
  cases p <;> simp[SX.cw]
 rw[cg]at h3
 have h4:(cu s l W ws D).aH=(ws.getD (nN s*nW l+nN s) 0).toNat:=rfl
 have h5:=hR.dl
 have h6:D.length*256≤64*256:=lI _ (by omega)
 have h7:=hR.kA
 omega
theorem RJ.bound(hR:RJ s l hs W ws D T M)(hM:M<1000000000){j:Nat}{c:List Nat}(hc:D[j]?=some c):T j+(jF c).length<4000000000000000000:=by
 have h1:=(hR.EW hc).1
 have h2:=hR.top j
 have h3:=hs.nn
 rw[cg];omega
theorem RJ.at_(hR:RJ s l hs W ws D T M){i:Nat}{x:WS}(hx:W[i]?=some x):∃c,D[i]?=some c:=by
 have hi:=(ck.1 hx).1
 exact⟨D[i]'(by rw[hR.dl];exact hi),bh _⟩
theorem RJ.lo(hR:RJ s l hs W ws D T M):nN s*nW l+nN s<ws.length:=by
 rw[hR.fl]
 have:=hs.size
 have h2:=hs.low
 omega
theorem tM(hR:RJ s l hs W ws D T M)(i:Nat){t:Nat}(h:t≤M+1)(j:Nat):(if j=i then t else T j)≤M+1:=by
 have:=hR.top j
 split <;> omega
theorem ox(hR:RJ s l hs W ws D T M)(j:Nat):T j≤M+1:=by
 have:=hR.top j
 omega
theorem jS{A:SX.AP}{S S' S'':SX.AS}{i:Nat}(e:S'=S'')(h:SX.Tr A S i S''):SX.Tr A S i S':=e▸h
theorem abu(hR:RJ s l hs W ws D T M){i:Nat}{ev jo:Int}{v:Nat}{has:Bool}{nx out:List Int}(hv:v<nN s)
  (hx:W[i]?=some ⟨ev,jo,false,3,.clear ⟨cO l,cq l,v,false⟩,v,has,nx,out⟩) :
  qM s l hs W ws D M i (gN s l ⟨ev,jo,false,3,.clear ⟨cO l,cq l,v,false⟩,v,has,nx,out⟩ ws):=by
 have e:gN s l ⟨ev,jo,false,3,.clear ⟨cO l,cq l,v,false⟩,v,has,nx,out⟩ ws=(⟨ev,jo,false,4,.none,v,has,nx,out⟩,if (0:Int)≤(v:Nat) then iv ws (wr (cO l+(v:Nat))) 0 else ws):=rfl
 rw[e,ah (by omega),hs.zy hv,lJ]
 have p7:=hR.lo
 refine⟨D,T,RJ.fin hR hx (by rw[cR]) ?_ rfl (pE hR hx (by rw[cR]) (fun a ha=>?_) (fun z h=>by cases h) rfl) (ox hR) (.inl rfl) (.inl rfl) (fun j h=>by cases h) (fun j h=>by cases h) ?_⟩
 ·rw[ka,ag (by omega)];exact hR.kA
 ·rw[ka,ag (by omega)]
 ·refine jS (TQ (ws:=ws) (D:=D) hx hv (by omega) (by rfl) (by rfl) (by rfl)) ?_
  exact SX.Tr.clear v (mL hx)
theorem abt(hR:RJ s l hs W ws D T M){i:Nat}{ev jo node:Int}{has:Bool}{nx out:List Int}
  (hx:W[i]?=some ⟨ev,jo,false,2,.quiet ⟨cO l,cq l,false,false⟩,node,has,nx,out⟩) :
  qM s l hs W ws D M i (gN s l ⟨ev,jo,false,2,.quiet ⟨cO l,cq l,false,false⟩,node,has,nx,out⟩ ws):=by
 have e:gN s l ⟨ev,jo,false,2,.quiet ⟨cO l,cq l,false,false⟩,node,has,nx,out⟩ ws=(⟨ev,jo,decide (cc ws (cq l)=0),vc l,.none,node,has,nx,out⟩,ws):=rfl
 rw[e,hs.count,lK]
 have Xj:=hR.kA
 refine⟨D,T,RJ.fin hR hx rfl hR.kA rfl (pE hR hx rfl (fun a ha=>rfl) (fun z h=>by cases h) rfl) (ox hR) (.inl rfl) (.inl rfl) (fun j h=>by cases h) (fun j h=>by cases h) ?_⟩
 refine jS (mg (ws:=ws) (D:=D) hx (fun _ _=>rfl) (by rfl) (by rfl) D) ?_
 by_cases h0:ws.getD (nN s*nW l+nN s) 0=0
 ·rw[aT h0]
  exact SX.Tr.zF (mL hx) (show (ws.getD (nN s*nW l+nN s) 0).toNat=0 by omega)
 ·rw[bS h0]
  have hp:dP ⟨ev,jo,false,vc l,.none,node,has,nx,out⟩=.idle (if (kU s l hs).k<2 then 0 else 1) 0:=by
   show Fa (vc l) _ _ _ _=.idle (if l.k.toNat<2 then 0 else 1) 0
   unfold vc
   by_cases hk:l.k<2
   ·rw[ah hk,ah (by omega)];rfl
   ·rw[ag hk,ag (by omega)];rfl
  rw[hp]
  exact SX.Tr.ask (mL hx) (show (ws.getD (nN s*nW l+nN s) 0).toNat≠0 by omega)
theorem ZV(hR:RJ s l hs W ws D T M){i:Nat}{ev jo:Int}{v:Nat}{has:Bool}{nx out:List Int}
  (hx:W[i]?=some ⟨ev,jo,false,8,.ee ⟨cO l,cq l,0,false⟩,v,has,nx,out⟩) :
  qM s l hs W ws D M i (gN s l ⟨ev,jo,false,8,.ee ⟨cO l,cq l,0,false⟩,v,has,nx,out⟩ ws):=by
 have e:gN s l ⟨ev,jo,false,8,.ee ⟨cO l,cq l,0,false⟩,v,has,nx,out⟩ ws=(⟨ev,jo,false,0,.none,v,false,nx,out⟩,ns ws (cq l) 18446744073709551615):=rfl
 have p7:=hR.lo
 have Xj:=hR.kA
 have hc:=hR.aH
 have h1:1≤(ws.getD (nN s*nW l+nN s) 0).toNat:=by
  have h2:=hR.ti.aH
  have h3:=SX.AZ SX.cw (cu s l W ws D).ph i _ (mL (s:=s) (l:=l) (ws:=ws) (D:=D) hx)
  have h4:SX.cw (dP ⟨ev,jo,false,8,.ee ⟨cO l,cq l,0,false⟩,v,has,nx,out⟩)=1:=rfl
  have h5:(cu s l W ws D).aH=(ws.getD (nN s*nW l+nN s) 0).toNat:=rfl
  omega
 have hw:ns ws (cq l) 18446744073709551615=ws.set (nN s*nW l+nN s) (ws.getD (nN s*nW l+nN s) 0-1):=by
  unfold ns
  rw[hs.count,ah (C6 (by omega) (by omega)),lK,lJ]
  congr 1
  omega
 rw[e,hw]
 refine⟨D,T,RJ.fin hR hx (by rw[cR]) ?_ rfl (pE hR hx (by rw[cR]) (fun a ha=>?_) (fun z h=>by cases h) rfl) (ox hR) (.inl rfl) (.inl rfl) (fun j h=>by cases h) (fun j h=>by cases h) ?_⟩
 ·rw[ka,ah ⟨rfl,p7⟩];omega
 ·rw[ka,ag (by omega)]
 ·refine jS (UY (ws:=ws) (D:=D) hx p7 (by rfl) (by rfl) (by rfl)) ?_
  rw[show (ws.getD (nN s*nW l+nN s) 0-1).toNat=(cu s l W ws D).aH-1 by show _=(ws.getD (nN s*nW l+nN s) 0).toNat-1;omega]
  exact SX.Tr.ee v (mL hx)
theorem abq(hR:RJ s l hs W ws D T M){i:Nat}{ev jo:Int}{v u:Nat}{has:Bool}{nx out:List Int}(hu:u<nN s)
  (hx:W[i]?=some ⟨ev,jo,false,6,.take ⟨cO l,cq l,u,false,false,false⟩,v,has,u::nx,out⟩) :
  qM s l hs W ws D M i (gN s l ⟨ev,jo,false,6,.take ⟨cO l,cq l,u,false,false,false⟩,v,has,u::nx,out⟩ ws):=by
 have p7:=hR.lo
 obtain⟨k1,k2⟩:=Ia (ws:=ws) (a:=nN s*nW l+u) (by omega) 0 1
 by_cases hf:ws.getD (nN s*nW l+u) 0=0
 ·rw[aT hf]at k1
  rw[ah hf]at k2
  have e:gN s l ⟨ev,jo,false,6,.take ⟨cO l,cq l,u,false,false,false⟩,v,has,u::nx,out⟩ ws=(⟨ev,jo,false,6,.take ⟨cO l,cq l,u,true,false,true⟩,v,has,u::nx,out⟩,ws.set (nN s*nW l+u) 1):=by
   have e1:k8 bJ ⟨cO l,cq l,u,false,false,false⟩ ws=(⟨cO l,cq l,u,true,false,true⟩,ws.set (nN s*nW l+u) 1,false):=by
    show (if (0:Int)≤(u:Nat) then (if nL ws (wr (cO l+(u:Nat))) 0=true then ((⟨cO l,cq l,u,true,false,true⟩:Tk),je ws (wr (cO l+(u:Nat))) 0 1,false) else (⟨cO l,cq l,u,false,true,true⟩,je ws (wr (cO l+(u:Nat))) 0 1,true)) else (⟨cO l,cq l,u,false,true,true⟩,ws,true))=_
    rw[ah (by omega),hs.zy hu,k1,k2];rfl
   exact rI (UC e1)
  rw[e]
  refine⟨D,T,RJ.fin hR hx (by rw[cR]) ?_ rfl (pE hR hx (by rw[cR]) (fun a ha=>?_) (fun z h=>by cases h) rfl) (ox hR) (.inl rfl) (.inl rfl) (fun j h=>by cases h) (fun j h=>by cases h) ?_⟩
  ·rw[ka,ag (by omega)];exact hR.kA
  ·rw[ka,ag (by omega)]
  ·refine jS (TQ (ws:=ws) (D:=D) hx hu (by omega) (by rfl) (by rfl) (by rfl)) ?_
   exact SX.Tr.flag v out u (nx.map Int.toNat) (mL hx) (bS fun h=>h.2 hf)
 ·rw[bS hf]at k1
  rw[ag hf]at k2
  have e:gN s l ⟨ev,jo,false,6,.take ⟨cO l,cq l,u,false,false,false⟩,v,has,u::nx,out⟩ ws=(⟨ev,jo,false,kD (u::nx),.none,v,has,nx,out⟩,ws):=by
   have e1:k8 bJ ⟨cO l,cq l,u,false,false,false⟩ ws=(⟨cO l,cq l,u,false,true,true⟩,ws,true):=by
    show (if (0:Int)≤(u:Nat) then (if nL ws (wr (cO l+(u:Nat))) 0=true then ((⟨cO l,cq l,u,true,false,true⟩:Tk),je ws (wr (cO l+(u:Nat))) 0 1,false) else (⟨cO l,cq l,u,false,true,true⟩,je ws (wr (cO l+(u:Nat))) 0 1,true)) else (⟨cO l,cq l,u,false,true,true⟩,ws,true))=_
    rw[ah (by omega),hs.zy hu,k1,k2];rfl
   exact rI (UC e1)
  rw[e]
  refine⟨D,T,RJ.fin hR hx rfl hR.kA rfl (pE hR hx rfl (fun a ha=>rfl) (fun z h=>by cases h) rfl) (ox hR) (.inl rfl) (.inl rfl) (fun j h=>by cases h) (fun j h=>by cases h) ?_⟩
  refine jS (mg (ws:=ws) (D:=D) hx (fun _ _=>rfl) (by rfl) (by rfl) D) ?_
  dsimp only
  rw[DD (nx:=nx) (does:=kD (u::nx)) rfl]
  exact SX.Tr.zL v out u (nx.map Int.toNat) (mL hx) (aT ⟨hu,hf⟩)
theorem abp(hR:RJ s l hs W ws D T M){i:Nat}{ev jo:Int}{v u:Nat}{has:Bool}{nx out:List Int}
  (hx:W[i]?=some ⟨ev,jo,false,6,.take ⟨cO l,cq l,u,true,false,true⟩,v,has,u::nx,out⟩) :
  qM s l hs W ws D M i (gN s l ⟨ev,jo,false,6,.take ⟨cO l,cq l,u,true,false,true⟩,v,has,u::nx,out⟩ ws):=by
 have e:gN s l ⟨ev,jo,false,6,.take ⟨cO l,cq l,u,true,false,true⟩,v,has,u::nx,out⟩ ws=(⟨ev,jo,false,7,.none,v,has,u::nx,out⟩,ns ws (cq l) 1):=rfl
 have p7:=hR.lo
 have Xj:=hR.kA
 have hc:=hR.aH
 have hw:ns ws (cq l) 1=ws.set (nN s*nW l+nN s) (ws.getD (nN s*nW l+nN s) 0+1):=by
  unfold ns
  rw[hs.count,ah (C6 (by omega) (by omega)),lK,lJ]
  congr 1
  omega
 rw[e,hw]
 refine⟨D,T,RJ.fin hR hx (by rw[cR]) ?_ rfl (pE hR hx (by rw[cR]) (fun a ha=>?_) (fun z h=>by cases h) rfl) (ox hR) (.inl rfl) (.inl rfl) (fun j h=>by cases h) (fun j h=>by cases h) ?_⟩
 ·rw[ka,ah ⟨rfl,p7⟩];omega
 ·rw[ka,ag (by omega)]
 ·refine jS (UY (ws:=ws) (D:=D) hx p7 (by rfl) (by rfl) (by rfl)) ?_
  rw[show (ws.getD (nN s*nW l+nN s) 0+1).toNat=(cu s l W ws D).aH+1 by show _=(ws.getD (nN s*nW l+nN s) 0).toNat+1;omega]
  exact SX.Tr.add v out u (nx.map Int.toNat) (mL hx)
theorem adJ(hR:RJ s l hs W ws D T M)(hM:M<1000000000)(OM:MV s l ws){i:Nat}{ev jo:Int}{v:Nat}{has:Bool}{nx out y:List Int}(hv:v<nN s)
  (hy:y.length<nW l∨(nW l=0∧y=[])) (hk:∀i,i<y.length→fX s.what s.w i (wd y i)) (hx:W[i]?=some ⟨ev,jo,false,4,.read y,v,has,nx,out⟩) :
  qM s l hs W ws D M i (gN s l ⟨ev,jo,false,4,.read y,v,has,nx,out⟩ ws):=by
 have hE:=(hR.ev _ (cx hx)).1
 have Aj:=(hR.ev _ (cx hx)).2.1
 dsimp only at hE Aj
 have hew:wr (ev+1)=ev+1:=by show IntKind.i64.wrap _=_;rw[IntKind.wrap_i64];omega
 have done:∀y':List Int,((y.length+1=nW l∧y'=y++[(cu s l W ws D).cell v y.length])∨(nW l=0∧y'=[]))→eI s.what s.w y'→qM s l hs W ws D M i (dV s l ⟨ev,jo,false,4,.read y,v,has,nx,out⟩ (.read y'),ws):=by
  intro y' uu BJ
  have hn:jg s v=0:=(GZ (C8 hs.gK) ⟨by omega,by have:=hs.nn;omega⟩).symm
  rw[acN (S6 hn BJ.v)]
  dsimp only
  rw[hew]
  refine⟨D,T,RJ.fin hR hx rfl hR.kA rfl (pE hR hx rfl (fun a ha=>rfl) (fun z h=>by cases h) rfl) (ox hR) (.inr rfl) (.inl rfl) (fun j h=>by cases h) (fun j h=>by cases h) ?_⟩
  refine jS (agr (ws:=ws) (D:=D) hx (show (ev+1).toNat=ev.toNat+1 by omega) (by rfl)) ?_
  dsimp only
  rw[DD (does:=vr s v) rfl]
  exact SX.Tr.zn v y y' (mL hx) uu
 by_cases hl:y.length<nW l
 ·have eG:cc ws (wr (bg l v+(y.length:Nat)))=(cu s l W ws D).cell v y.length:=by
   rw[hs.By hv hl,lK]
   show _=if _ then _ else _
   rw[ah ⟨hv,hl⟩]
  have nX:=afM (l:=l) (base:=bg l v) hl eG
  have e:gN s l ⟨ev,jo,false,4,.read y,v,has,nx,out⟩ ws=(if decide (y.length+1=cw l.words)=true then dV s l ⟨ev,jo,false,4,.read y,v,has,nx,out⟩ (.read (y++[(cu s l W ws D).cell v y.length])) else ⟨ev,jo,false,4,.read (y++[(cu s l W ws D).cell v y.length]),v,has,nx,out⟩,ws):=by
   exact rI (UD nX)
  rw[e]
  have sY:fX s.what s.w y.length ((cu s l W ws D).cell v y.length):=by
   rw[← eG,hs.By hv hl]
   exact OM.load hv hl
  by_cases he:y.length+1=nW l
  ·rw[ah (aT he)]
   refine done _ (.inl ⟨he,rfl⟩) ((hs.rU).2 ⟨by simp;omega,fun j hj=>?_⟩)
   rw[sG,Vd]
   by_cases h2:j<y.length
   ·rw[ah h2];exact hk j h2
   ·rw[ag h2,ah (by omega),show j=y.length by omega];exact sY
  ·rw[ag (by rw[bS he];decide)]
   refine⟨D,T,RJ.fin hR hx rfl hR.kA rfl (pE hR hx rfl (fun a ha=>rfl) (fun z h=>by cases h) rfl) (ox hR) (.inl rfl) (.inl rfl) (fun j h=>by cases h) (fun j h=>by cases h) ?_⟩
   refine jS (mg (ws:=ws) (D:=D) hx (fun _ _=>rfl) (by rfl) (by rfl) D) ?_
   exact SX.Tr.zm v y (mL hx) (show y.length+1<nW l by omega)
 ·obtain⟨h0,rfl⟩:=hy.resolve_left hl
  have e:gN s l ⟨ev,jo,false,4,.read [],v,has,nx,out⟩ ws=(dV s l ⟨ev,jo,false,4,.read [],v,has,nx,out⟩ (.read []),ws):=by
   have e1:mM bJ l (bg l v) [] ws=([],ws,true):=ag (by show ¬0<cw l.words;show ¬0<nW l;omega)
   exact rI (UD e1)
  rw[e]
  exact done _ (.inr ⟨h0,rfl⟩) ((hs.rU).2 ⟨by rw[h0];rfl,fun j hj=>by omega⟩)
theorem Ul(hs:LS s l){ev jo:Int}{v u:Nat}{has:Bool}{nx out:List Int}(j:Jn)(l6:0≤jo)(hjo2:jo<1000000000)(hw:j.words=l.words)(Ca:j.fG=false):
  ∃x':WS,(if (gZ j).2=true then dV s l ⟨ev,jo,false,5,.join j,v,has,u::nx,out⟩ (.join (gZ j).1) else ⟨ev,jo,false,5,.join (gZ j).1,v,has,u::nx,out⟩)=x'∧dP x'=(SX.ft (kU s l hs) v out u (nx.map Int.toNat) j.at_ j.changed).1∧x'.ev=ev∧x'.jo.toNat=jo.toNat+(SX.ft (kU s l hs) v out u (nx.map Int.toNat) j.at_ j.changed).2∧(x'.jo=jo∨x'.jo=jo+1)∧(∀z,x'.now≠.cC z)∧sJ x'.now=none∧(∀j,x'.now=.join j→j.fG=false)∧(∀q,x'.now≠.push q):=by
 have hjw:wr (jo+1)=jo+1:=by show IntKind.i64.wrap _=_;rw[IntKind.wrap_i64];omega
 unfold SX.ft
 by_cases h1:j.at_+1<cw l.words
 ·have Ac:gZ j=({ j with at_:=j.at_+1 },false):=by unfold gZ;rw[hw,ah h1]
  rw[Ac,ah (show j.at_+1<(kU s l hs).W from h1)]
  dsimp only
  rw[ag Cv]
  refine⟨_,rfl,?_,rfl,rfl,.inl rfl,fun z h=>Nw.noConfusion h,rfl,fun j' h=>?_,fun q h=>Nw.noConfusion h⟩
  ·show SX.Ph.join _ _ _ _ _ (if j.fG=true then _ else _) _=_
   rw[Ca];rfl
  ·cases h;exact Ca
 ·have Ac:gZ j=({ j with at_:=j.at_+1,ended:=true },true):=by unfold gZ;rw[hw,ag h1]
  rw[Ac,ag (show ¬j.at_+1<(kU s l hs).W from h1)]
  dsimp only
  rw[ah rfl]
  cases hc:j.changed with
  |true=>
   have e:dV s l ⟨ev,jo,false,5,.join j,v,has,u::nx,out⟩ (.join { j with at_:=j.at_+1,ended:=true })=⟨ev,jo+1,false,6,.none,v,has,u::nx,out⟩:=by
    show (if j.changed=true then _ else _)=_
    rw[ah hc]
    dsimp only
    rw[hjw]
   rw[hc]at e
   refine⟨_,e,?_,rfl,?_,.inr rfl,fun z h=>Nw.noConfusion h,rfl,fun j' h=>Nw.noConfusion h,fun q h=>Nw.noConfusion h⟩
   ·rw[ah rfl];rfl
   ·rw[ah rfl];show (jo+1).toNat=jo.toNat+1;omega
  |false=>
   have e:dV s l ⟨ev,jo,false,5,.join j,v,has,u::nx,out⟩ (.join { j with at_:=j.at_+1,ended:=true })=⟨ev,jo,false,kD (u::nx),.none,v,has,nx,out⟩:=by
    show (if j.changed=true then _ else _)=_
    rw[ag (by rw[hc];decide)]
    rfl
   rw[hc]at e
   refine⟨_,e,?_,rfl,?_,.inl rfl,fun z h=>Nw.noConfusion h,rfl,fun j' h=>Nw.noConfusion h,fun q h=>Nw.noConfusion h⟩
   ·rw[ag Cv];exact DD (nx:=nx) (does:=kD (u::nx)) rfl
   ·rw[ag Cv];rfl
theorem adL(hR:RJ s l hs W ws D T M)(hM:M<1000000000){i:Nat}{ev jo:Int}{v u:Nat}{has:Bool}{nx out:List Int}(hu:u<nN s)(j:Jn)
  (hj:j.base=bg l u∧j.what=l.what∧j.words=l.words∧j.a=out) (lA:j.ended=false) (eb:j.at_≤nW l) (xO:j.at_<nW l∨(j.at_=0∧j.fG=false∧j.changed=false)) (ahe:j.fG=true→j.at_<nW l)
  (hx:W[i]?=some ⟨ev,jo,false,5,.join j,v,has,u::nx,out⟩) :
  qM s l hs W ws D M i (gN s l ⟨ev,jo,false,5,.join j,v,has,u::nx,out⟩ ws):=by
 have hE:=hR.ev _ (cx hx)
 dsimp only at hE
 have hJ:=hR.jn _ (cx hx) j rfl
 have hp:=mL (s:=s) (l:=l) (ws:=ws) (D:=D) hx
 have p7:=hR.lo
 obtain⟨base,what,words,a,changed,ended,tries,at_,fG,xx⟩:=j
 obtain⟨rfl,rfl,rfl,rfl⟩:=hj
 dsimp only at lA eb xO ahe hJ
 subst lA
 by_cases h0:at_=nW l
 ·obtain⟨h1,h2,h3⟩:=xO.resolve_left (by omega)
  subst h1 h2 h3
  have J5:nW l=0:=h0.symm
  have e:gN s l ⟨ev,jo,false,5,.join ⟨bg l u,l.what,l.words,a,false,false,tries,0,false,xx⟩,v,has,u::nx,a⟩ ws=(⟨ev,jo,false,kD (u::nx),.none,v,has,nx,a⟩,ws):=by
   have e1:iI bJ ⟨bg l u,l.what,l.words,a,false,false,tries,0,false,xx⟩ ws=(⟨bg l u,l.what,l.words,a,false,true,tries,0,false,xx⟩,ws,true):=by
    exact ah h0
   exact rI (DH e1)
  rw[e]
  refine⟨D,T,RJ.fin hR hx rfl hR.kA rfl (pE hR hx rfl (fun a ha=>rfl) (fun z h=>by cases h) rfl) (ox hR) (.inl rfl) (.inl rfl) (fun j h=>by cases h) (fun j h=>by cases h) ?_⟩
  refine jS (mg (ws:=ws) (D:=D) hx (fun _ _=>rfl) (by rfl) (by rfl) D) ?_
  dsimp only
  rw[DD (nx:=nx) (does:=kD (u::nx)) rfl]
  exact SX.Tr.none v a u (nx.map Int.toNat) hp J5
 have ab:at_<nW l:=by omega
 have eG:ws.getD (u*nW l+at_) 0=(cu s l W ws D).cell u at_:=by
  show _=if _ then _ else _
  rw[ah ⟨hu,ab⟩]
 have lQ:=tI hu ab
 have J3:=hs.By hu ab
 have OD:=hs.what
 have O5:wd a at_=a.getD at_ 0:=(sG a at_).symm
 cases fG with
 |true=>
  have hJ:=hJ rfl
  obtain⟨k1,k2⟩:=Ia (ws:=ws) (a:=u*nW l+at_) (by omega) xx (de l.what xx (wd a at_))
  by_cases hf:ws.getD (u*nW l+at_) 0=xx
  ·rw[aT hf]at k1
   rw[ah hf]at k2
   obtain⟨x',jA,q1,q2,q3,q4,q5,q6,q7,q8⟩:=Ul hs (ev:=ev) (v:=v) (u:=u) (has:=has) (nx:=nx) (out:=a) ⟨bg l u,l.what,l.words,a,true,false,tries,at_,false,xx⟩ hE.2.2.1 (by omega) rfl rfl
   have e:gN s l ⟨ev,jo,false,5,.join ⟨bg l u,l.what,l.words,a,changed,false,tries,at_,true,xx⟩,v,has,u::nx,a⟩ ws=(x',ws.set (u*nW l+at_) (de l.what xx (wd a at_))):=by
    have e1:iI bJ ⟨bg l u,l.what,l.words,a,changed,false,tries,at_,true,xx⟩ ws=((gZ ⟨bg l u,l.what,l.words,a,true,false,tries,at_,false,xx⟩).1,ws.set (u*nW l+at_) (de l.what xx (wd a at_)),(gZ ⟨bg l u,l.what,l.words,a,true,false,tries,at_,false,xx⟩).2):=by
     show (if at_=cw l.words then ((⟨bg l u,l.what,l.words,a,changed,true,tries,at_,true,xx⟩:Jn),ws,true) else if nL ws (wr (bg l u+(at_:Nat))) xx=true then ((gZ ⟨bg l u,l.what,l.words,a,true,false,tries,at_,false,xx⟩).1,je ws (wr (bg l u+(at_:Nat))) xx (de l.what xx (wd a at_)),(gZ ⟨bg l u,l.what,l.words,a,true,false,tries,at_,false,xx⟩).2) else (⟨bg l u,l.what,l.words,a,changed,false,wr (tries+1),at_,false,xx⟩,je ws (wr (bg l u+(at_:Nat))) xx (de l.what xx (wd a at_)),false))=_
     rw[ag h0,J3,k1,k2,ah rfl]
    rw[← jA]
    exact rI (DH e1)
   rw[e]
   refine⟨D,T,RJ.fin hR hx (by rw[cR]) ?_ rfl (pE hR hx (by rw[cR]) (fun a ha=>?_) q5 q6.symm) (ox hR) (.inl q2) q4 (fun j h h2=>absurd ((q7 j h).symm.trans h2) (by decide)) (fun q h=>absurd h (q8 q)) ?_⟩
   ·rw[ka,ag (by omega)];exact hR.kA
   ·rw[ka,ag (by omega)]
   ·refine jS (acR (ws:=ws) (D:=D) hx hu ab (by omega) (by rfl) q2 _ q3) ?_
    rw[q1]
    rw[O5,OD]at hJ ⊢
    have h9:xx=(cu s l W ws D).cell u at_:=hf.symm.trans eG
    have hp:(cu s l W ws D).ph[i]?=some (.join v a u (nx.map Int.toNat) at_ (some xx) changed):=hp
    rw[h9]at hp hJ ⊢
    exact SX.Tr.zT v a u (nx.map Int.toNat) at_ changed hp ab hJ
  ·rw[bS hf]at k1
   rw[ag hf]at k2
   have e:gN s l ⟨ev,jo,false,5,.join ⟨bg l u,l.what,l.words,a,changed,false,tries,at_,true,xx⟩,v,has,u::nx,a⟩ ws=(⟨ev,jo,false,5,.join ⟨bg l u,l.what,l.words,a,changed,false,wr (tries+1),at_,false,xx⟩,v,has,u::nx,a⟩,ws):=by
    have e1:iI bJ ⟨bg l u,l.what,l.words,a,changed,false,tries,at_,true,xx⟩ ws=(⟨bg l u,l.what,l.words,a,changed,false,wr (tries+1),at_,false,xx⟩,ws,false):=by
     show (if at_=cw l.words then ((⟨bg l u,l.what,l.words,a,changed,true,tries,at_,true,xx⟩:Jn),ws,true) else if nL ws (wr (bg l u+(at_:Nat))) xx=true then ((gZ ⟨bg l u,l.what,l.words,a,true,false,tries,at_,false,xx⟩).1,je ws (wr (bg l u+(at_:Nat))) xx (de l.what xx (wd a at_)),(gZ ⟨bg l u,l.what,l.words,a,true,false,tries,at_,false,xx⟩).2) else (⟨bg l u,l.what,l.words,a,changed,false,wr (tries+1),at_,false,xx⟩,je ws (wr (bg l u+(at_:Nat))) xx (de l.what xx (wd a at_)),false))=_
     rw[ag h0,J3,k1,k2,ag (by decide)]
    exact rI (DH e1)
   rw[e]
   refine⟨D,T,RJ.fin hR hx rfl hR.kA rfl (pE hR hx rfl (fun a ha=>rfl) (fun z h=>by cases h) rfl) (ox hR) (.inl rfl) (.inl rfl) (fun j h h2=>by cases h;cases h2) (fun j h=>by cases h) ?_⟩
   refine jS (mg (ws:=ws) (D:=D) hx (fun _ _=>rfl) (by rfl) (by rfl) D) ?_
   exact SX.Tr.lost v a u (nx.map Int.toNat) at_ changed xx hp ab (fun h=>hf (eG.trans h))
 |false=>
  by_cases hf:de l.what (ws.getD (u*nW l+at_) 0) (wd a at_)=ws.getD (u*nW l+at_) 0
  ·obtain⟨x',jA,q1,q2,q3,q4,q5,q6,q7,q8⟩:=Ul hs (ev:=ev) (v:=v) (u:=u) (has:=has) (nx:=nx) (out:=a) ⟨bg l u,l.what,l.words,a,changed,false,tries,at_,false,ws.getD (u*nW l+at_) 0⟩ hE.2.2.1 (by omega) rfl rfl
   have e:gN s l ⟨ev,jo,false,5,.join ⟨bg l u,l.what,l.words,a,changed,false,tries,at_,false,xx⟩,v,has,u::nx,a⟩ ws=(x',ws):=by
    have e1:iI bJ ⟨bg l u,l.what,l.words,a,changed,false,tries,at_,false,xx⟩ ws=((gZ ⟨bg l u,l.what,l.words,a,changed,false,tries,at_,false,ws.getD (u*nW l+at_) 0⟩).1,ws,(gZ ⟨bg l u,l.what,l.words,a,changed,false,tries,at_,false,ws.getD (u*nW l+at_) 0⟩).2):=by
     show (if at_=cw l.words then ((⟨bg l u,l.what,l.words,a,changed,true,tries,at_,false,xx⟩:Jn),ws,true) else if de l.what (cc ws (wr (bg l u+(at_:Nat)))) (wd a at_)=cc ws (wr (bg l u+(at_:Nat))) then ((gZ ⟨bg l u,l.what,l.words,a,changed,false,tries,at_,false,cc ws (wr (bg l u+(at_:Nat)))⟩).1,ws,(gZ ⟨bg l u,l.what,l.words,a,changed,false,tries,at_,false,cc ws (wr (bg l u+(at_:Nat)))⟩).2) else (⟨bg l u,l.what,l.words,a,changed,false,tries,at_,true,cc ws (wr (bg l u+(at_:Nat)))⟩,ws,false))=_
     rw[ag h0,J3,lK,ah hf]
    rw[← jA]
    exact rI (DH e1)
   rw[e]
   refine⟨D,T,RJ.fin hR hx rfl hR.kA rfl (pE hR hx rfl (fun a ha=>rfl) q5 q6.symm) (ox hR) (.inl q2) q4 (fun j h h2=>absurd ((q7 j h).symm.trans h2) (by decide)) (fun q h=>absurd h (q8 q)) ?_⟩
   refine jS (agq (ws:=ws) (D:=D) hx q2 _ q3) ?_
   rw[q1]
   refine SX.Tr.same v a u (nx.map Int.toNat) at_ changed hp ab ?_
   show de s.what _ _=_
   rw[← eG,← O5,← OD];exact hf
  ·have e:gN s l ⟨ev,jo,false,5,.join ⟨bg l u,l.what,l.words,a,changed,false,tries,at_,false,xx⟩,v,has,u::nx,a⟩ ws=(⟨ev,jo,false,5,.join ⟨bg l u,l.what,l.words,a,changed,false,tries,at_,true,ws.getD (u*nW l+at_) 0⟩,v,has,u::nx,a⟩,ws):=by
    have e1:iI bJ ⟨bg l u,l.what,l.words,a,changed,false,tries,at_,false,xx⟩ ws=(⟨bg l u,l.what,l.words,a,changed,false,tries,at_,true,ws.getD (u*nW l+at_) 0⟩,ws,false):=by
     show (if at_=cw l.words then ((⟨bg l u,l.what,l.words,a,changed,true,tries,at_,false,xx⟩:Jn),ws,true) else if de l.what (cc ws (wr (bg l u+(at_:Nat)))) (wd a at_)=cc ws (wr (bg l u+(at_:Nat))) then ((gZ ⟨bg l u,l.what,l.words,a,changed,false,tries,at_,false,cc ws (wr (bg l u+(at_:Nat)))⟩).1,ws,(gZ ⟨bg l u,l.what,l.words,a,changed,false,tries,at_,false,cc ws (wr (bg l u+(at_:Nat)))⟩).2) else (⟨bg l u,l.what,l.words,a,changed,false,tries,at_,true,cc ws (wr (bg l u+(at_:Nat)))⟩,ws,false))=_
     rw[ag h0,J3,lK,ag hf]
    exact rI (DH e1)
   rw[e]
   refine⟨D,T,RJ.fin hR hx rfl hR.kA rfl (pE hR hx rfl (fun a ha=>rfl) (fun z h=>by cases h) rfl) (ox hR) (.inl rfl) (.inl rfl) (fun j h h2=>by cases h;exact hf) (fun j h=>by cases h) ?_⟩
   refine jS (mg (ws:=ws) (D:=D) hx (fun _ _=>rfl) (by rfl) (by rfl) D) ?_
   have h9:dP ⟨ev,jo,false,5,.join ⟨bg l u,l.what,l.words,a,changed,false,tries,at_,true,ws.getD (u*nW l+at_) 0⟩,v,has,u::nx,a⟩=.join v a u (nx.map Int.toNat) at_ (some ((cu s l W ws D).cell u at_)) changed:=by rw[← eG];rfl
   rw[h9]
   refine SX.Tr.load v a u (nx.map Int.toNat) at_ changed hp ab ?_
   show ¬de s.what _ _=_
   rw[← eG,← O5,← OD];exact hf
end
set_option maxHeartbeats 4000000
theorem afR{q q':DQ}{ws ws':List Int}(he:q.ended=false)(h:fE bJ q ws=(q',ws',false)):q'.at_=q.at_+1:=by
 unfold fE at h
 rw[he,ag (by decide)]at h
 (repeat' split at h) <;> cases h <;> rfl
theorem adZ{q q':DQ}{ws ws':List Int}(he:q.ended=false)(h:gD bJ q ws=(q',ws',false)):q'.at_=q.at_+1∧q.at_<3:=by
 unfold gD at h
 rw[he,ag (by decide)]at h
 by_cases h0:q.at_=0
 ·rw[ah h0]at h;cases h;exact⟨rfl,by omega⟩
 by_cases h1:q.at_=1
 ·rw[ag h0,ah h1]at h
  split at h
  ·cases h
  ·cases h;exact⟨rfl,by omega⟩
 by_cases h2:q.at_=2
 ·rw[ag h0,ag h1,ah h2]at h;cases h;exact⟨rfl,by omega⟩
 ·rw[ag h0,ag h1,ag h2]at h;cases h
theorem abM{q q':DQ}{ws ws':List Int}(he:q.ended=false)(hk:q.ok=false)(h:gD bJ q ws=(q',ws',true))(ho:q'.ok=true)(h3:q.at_≤3):q.at_=3:=by
 unfold gD at h
 rw[he,ag (by decide)]at h
 by_cases h0:q.at_=0
 ·rw[ah h0]at h;cases h
 by_cases h1:q.at_=1
 ·rw[ag h0,ah h1]at h
  split at h
  ·cases h;exact absurd (hk.symm.trans ho) (by decide)
  ·cases h
 by_cases h2:q.at_=2
 ·rw[ag h0,ag h1,ah h2]at h;cases h
 ·omega
theorem abn{q q':DQ}{ws ws':List Int}(he:q.ended=false)(h:gR bJ q ws=(q',ws',false)):q'.at_=q.at_+1∧q.at_<3:=by
 unfold gR at h
 rw[he,ag (by decide)]at h
 by_cases h0:q.at_=0
 ·rw[ah h0]at h;cases h;exact⟨rfl,by omega⟩
 by_cases h1:q.at_=1
 ·rw[ag h0,ah h1]at h
  split at h
  ·cases h
  ·cases h;exact⟨rfl,by omega⟩
 by_cases h2:q.at_=2
 ·rw[ag h0,ag h1,ah h2]at h;cases h;exact⟨rfl,by omega⟩
 ·rw[ag h0,ag h1,ag h2]at h;cases h
theorem aaI{c:List Nat}{c':List Int}{n:Int}(h:jF c=c'++[n]):∃(c0:List Nat) (v:Nat),c=c0++[v]∧c'=jF c0∧n=(v:Int):=by
 obtain⟨l1,l2,h1,h2,h3⟩:=List.map_eq_append_iff.1 h
 obtain⟨v,h4,h5⟩:=List.map_eq_singleton_iff.1 h3
 exact⟨l1,v,by rw[h1,h4],h2.symm,h5.symm⟩
theorem Sn{c:List Nat}{c':List Int}{n:Int}(h:jF c=n::c'):∃(v:Nat) (c0:List Nat),c=v::c0∧n=(v:Int)∧c'=jF c0:=by
 cases c with
 |nil=>cases h
 |cons v c0=>
  have h:(v:Int)::jF c0=n::c':=h
  injection h with h1 h2
  exact⟨v,c0,rfl,h1.symm,h2.symm⟩
theorem Ma{c:List Nat}(h:jF c=[]):c=[]:=List.map_eq_nil_iff.1 h
theorem Bf{s:Sy}{l:Lay}(hs:LS s l){v:Nat}(hv:v<nN s):rG l v=3∧pD l v=v:=by
 have h1:=hs.nn
 have h2:=hs.n
 have h3:wu l.n=(nN s:Int):=by show IntKind.u64.wrap _=_;rw[IntKind.wrap_u64];omega
 unfold rG pD
 rw[h3,ag (by omega),ag (by omega)]
 exact⟨rfl,iG (by omega) (by omega)⟩
theorem H9{ev jo does node:Int}{has:Bool}{nx out:List Int}(q:DQ):dP ⟨ev,jo,false,does,.pop q,node,has,nx,out⟩=if q.at_=5∧q.ok=true then .held q.x.toNat else .idle 0 q.at_:=rfl
section
variable {s:Sy} {l:Lay} {hs:LS s l} {W:List WS} {ws:List Int} {D:List (List Nat)} {T:Nat→Nat} {M:Nat}
theorem HS(hs:LS s l){j:Nat}(hj:j≤64):gm s l j<1000000000:=by
 have h1:=hs.nn
 have h2:=hs.ww
 have h3:=sF h1.2.2 h2.2
 have h4:j*(nN s+3)≤64*259:=uF hj (by omega)
 unfold gm;omega
theorem MW{i:Nat}{ws':List Int}(jr:∀a,¬(gm s l i≤a∧a<gm s l i+2+rm (eC l))→ws'.getD a 0=ws.getD a 0)(a:Nat)(h:a<nN s*nW l+nN s+1):ws'.getD a 0=ws.getD a 0:=
 jr a fun h2=>by unfold gm at h2;omega
theorem afC(hR:RJ s l hs W ws D T M)(hM:M<1000000000){i:Nat}{ev jo:Int}{node:Int}{has:Bool}{nx out:List Int}(q:DQ)(lA:q.ended=false)(h5:q.at_≤5)(hxq:0≤q.x)
  (hx:W[i]?=some ⟨ev,jo,false,0,.pop q,node,has,nx,out⟩) :
  qM s l hs W ws D M i (gN s l ⟨ev,jo,false,0,.pop q,node,has,nx,out⟩ ws):=by
 obtain⟨c,hc⟩:=hR.at_ hx
 have hi:=(ck.1 hx).1
 have hlen:=hR.len
 have ei:=hs.k2
 have hD:=hR.di i c hc
 rw[y5 hx]at hD
 have hD:DI (gm s l i) (eC l) ws (some (true,q)) (lX s l W i) (T i) (jF c):=hD
 obtain⟨q',ws',e,an⟩:∃q' ws' e,fE bJ q ws=(q',ws',e):=⟨_,_,_,rfl⟩
 obtain⟨h1,jr,hb,Ej⟩:=afS hD (HS hs (by omega)) (hR.bound hM hc) an
 have fv:=MW (s:=s) (l:=l) jr
 have J1:=hR.EW hc
 have gW:0≤ws'.getD (nN s*nW l+nN s) 0:=by rw[fv _ (by omega)];exact hR.kA
 have hp:=mL (s:=s) (l:=l) (ws:=ws) (D:=D) hx
 have zM:=hR.top i
 have Fl:gN s l ⟨ev,jo,false,0,.pop q,node,has,nx,out⟩ ws=(if e=true then dV s l ⟨ev,jo,false,0,.pop q,node,has,nx,out⟩ (.pop q') else ⟨ev,jo,false,0,.pop q',node,has,nx,out⟩,ws'):=by
  exact rI (ag1 an)
 rw[Fl]
 have ng:¬(q.at_=5∧q.ok=true)→(cu s l W ws D).ph[i]?=some (.idle 0 q.at_):=fun h=>by
  rw[hp,H9,ag h]
 rcases Ej with ⟨rfl,h6,h7,hd⟩ | ⟨rfl,h6,pZ,se,hd⟩ | ⟨rfl,pZ,h6,se,hd⟩ | ⟨rfl,pZ,h6,c',se,hd⟩ | ⟨rfl,pZ,h6,h7,JR,se,hd⟩
 ·rw[ag (by decide)]
  have eb:=afR lA an
  have kR:=xI hR hx (x':=⟨ev,jo,false,0,.pop q',node,has,nx,out⟩) h1 jr (fun z h=>by cases h) hd
  rw[rr hc]at kR
  refine⟨D,_,RJ.fin hR hx h1 gW rfl kR (tM hR i (by omega)) (.inl rfl) (.inl rfl) (fun j h=>by cases h) (fun j h=>by cases h) ?_⟩
  refine jS (mg (ws:=ws) (D:=D) hx fv (by rfl) (by rfl) D) ?_
  have h9:dP ⟨ev,jo,false,0,.pop q',node,has,nx,out⟩=.idle 0 (q.at_+1):=by
   rw[H9,ag fun h=>by rw[h7 h.1]at h;exact absurd h.2 (by decide),eb]
  rw[h9]
  exact SX.Tr.zH q.at_ (ng fun h=>h6 h.1) (Nat.lt_of_le_of_ne h5 h6)
 ·rw[ag (by decide)]
  obtain⟨v,c0,rfl,Fm,mB⟩:=Sn se
  have oa:=Ma mB.symm
  subst oa
  refine⟨D.set i [],_,RJ.fin hR hx h1 gW (by rw[cR]) (xI hR hx (x':=⟨ev,jo,false,0,.pop q',node,has,nx,out⟩) (c':=[]) h1 jr (fun z h=>by cases h) hd) (tM hR i (by omega)) (.inl rfl) (.inl rfl) (fun j h=>by cases h) (fun j h=>by cases h) ?_⟩
  refine jS (mg (ws:=ws) (D:=D) hx fv (by rfl) (by rfl) (D.set i [])) ?_
  have h9:dP ⟨ev,jo,false,0,.pop q',node,has,nx,out⟩=.held v:=by
   rw[H9,ah ⟨h6,pZ⟩,Fm];rfl
  rw[h9]
  have ho:zR (gm s l i) (eC l) (lX s l W i) (T i) (jF [v]) q:=hD.ow
  exact SX.Tr.cas v q.at_ (ng fun h=>absurd (ho.a5 h.1) (by simp)) hc
 ·rw[ah rfl]
  have oa:=Ma se
  subst oa
  have hb:dV s l ⟨ev,jo,false,0,.pop q,node,has,nx,out⟩ (.pop q')=⟨ev,jo,false,rC l,.none,node,has,nx,out⟩:=ag (by rw[pZ];decide)
  rw[hb]
  have kR:=xI hR hx (x':=⟨ev,jo,false,rC l,.none,node,has,nx,out⟩) h1 jr (fun z h=>by cases h) hd
  rw[rr hc]at kR
  refine⟨D,_,RJ.fin hR hx h1 gW rfl kR (tM hR i (by omega)) (.inl rfl) (.inl rfl) (fun j h=>by cases h) (fun j h=>by cases h) ?_⟩
  refine jS (mg (ws:=ws) (D:=D) hx fv (by rfl) (by rfl) D) ?_
  have h9:dP ⟨ev,jo,false,rC l,.none,node,has,nx,out⟩=.idle (if (kU s l hs).k<2 then 2 else 1) 0:=by
   show Fa (rC l) _ _ _ _=.idle (if l.k.toNat<2 then 2 else 1) 0
   unfold rC
   by_cases hk:l.k<2
   ·rw[ah hk,ah (by omega)];rfl
   ·rw[ag hk,ag (by omega)];rfl
  rw[h9]
  exact SX.Tr.zI q.at_ (ng fun h=>by have:=h6 h.1;rw[this]at h;exact absurd h.2 (by decide)) hc
 ·rw[ah rfl]
  obtain⟨c0,v,rfl,rfl,Fm⟩:=aaI se
  have hv:v<nN s:=J1.2 v (by simp)
  have hb:dV s l ⟨ev,jo,false,0,.pop q,node,has,nx,out⟩ (.pop q')=⟨ev,jo,false,3,.none,v,true,nx,out⟩:=by
   show (if q'.ok=true then _ else _)=_
   rw[ah pZ,Fm,(Bf hs hv).1,(Bf hs hv).2]
  rw[hb]
  refine⟨D.set i c0,_,RJ.fin hR hx h1 gW (by rw[cR]) (xI hR hx (x':=⟨ev,jo,false,3,.none,v,true,nx,out⟩) (c':=c0) h1 jr (fun z h=>by cases h) hd) (tM hR i (by omega)) (.inl rfl) (.inl rfl) (fun j h=>by cases h) (fun j h=>by cases h) ?_⟩
  refine jS (mg (ws:=ws) (D:=D) hx fv (by rfl) (by rfl) (D.set i c0)) ?_
  exact SX.Tr.pop v c0 q.at_ (ng fun h=>by omega) hc
 ·rw[ah rfl]
  have oa:=Ma se
  subst oa
  have W9:(cu s l W ws D).ph[i]?=some (.held q.x.toNat):=by
   rw[hp,H9,ah ⟨h6,h7⟩]
  have hv:q.x.toNat<nN s:=hR.ti.at_ W9 (v:=q.x.toNat) (by simp[SX.nodes])
  have B3:q.x=(q.x.toNat:Int):=by omega
  have hb:dV s l ⟨ev,jo,false,0,.pop q,node,has,nx,out⟩ (.pop q')=⟨ev,jo,false,3,.none,(q.x.toNat:Int),true,nx,out⟩:=by
   show (if q'.ok=true then _ else _)=_
   rw[ah pZ,JR,B3,bC,(Bf hs hv).1,(Bf hs hv).2]
  rw[hb]
  have kR:=xI hR hx (x':=⟨ev,jo,false,3,.none,(q.x.toNat:Int),true,nx,out⟩) (c':=[]) h1 jr (fun z h=>by cases h) hd
  rw[rr hc]at kR
  refine⟨D,_,RJ.fin hR hx h1 gW rfl kR (tM hR i (by omega)) (.inl rfl) (.inl rfl) (fun j h=>by cases h) (fun j h=>by cases h) ?_⟩
  refine jS (mg (ws:=ws) (D:=D) hx fv (by rfl) (by rfl) D) ?_
  exact SX.Tr.Ak q.x.toNat W9
theorem adK(hR:RJ s l hs W ws D T M)(hM:M<1000000000){i:Nat}{ev jo:Int}{v u:Nat}{has:Bool}{nx out:List Int}(q:DQ)(lA:q.ended=false)(cb:q.ok=false)(h3:q.at_≤3)
  (hx:W[i]?=some ⟨ev,jo,false,7,.push q,v,has,u::nx,out⟩) :
  qM s l hs W ws D M i (gN s l ⟨ev,jo,false,7,.push q,v,has,u::nx,out⟩ ws):=by
 obtain⟨c,hc⟩:=hR.at_ hx
 have hi:=(ck.1 hx).1
 have hlen:=hR.len
 have ei:=hs.k2
 have hD:=hR.di i c hc
 rw[y5 hx]at hD
 have hD:DI (gm s l i) (eC l) ws (some (false,q)) (lX s l W i) (T i) (jF c):=hD
 have JR:q.n=(u:Int):=hR.pn _ (cx hx) q rfl
 obtain⟨q',ws',e,an⟩:∃q' ws' e,gD bJ q ws=(q',ws',e):=⟨_,_,_,rfl⟩
 obtain⟨h1,jr,hn,hb,Ej⟩:=ae0 hD (HS hs (by omega)) (hR.bound hM hc) an
 have fv:=MW (s:=s) (l:=l) jr
 have J1:=hR.EW hc
 have gW:0≤ws'.getD (nN s*nW l+nN s) 0:=by rw[fv _ (by omega)];exact hR.kA
 have hp:=mL (s:=s) (l:=l) (ws:=ws) (D:=D) hx
 have hp:(cu s l W ws D).ph[i]?=some (.push v out u (nx.map Int.toNat) q.at_):=hp
 have zM:=hR.top i
 have Fl:gN s l ⟨ev,jo,false,7,.push q,v,has,u::nx,out⟩ ws=(if e=true then ⟨ev,jo,false,kD (u::nx),.none,v,has,nx,out⟩ else ⟨ev,jo,false,7,.push q',v,has,u::nx,out⟩,ws'):=by
  exact rI (aeh an)
 rw[Fl]
 rcases Ej with ⟨rfl,hd⟩ | ⟨rfl,pZ,aiq,hd⟩ | ⟨rfl,pZ,oG,hd⟩
 ·rw[ag (by decide)]
  have eb:=adZ lA an
  have kR:=xI hR hx (x':=⟨ev,jo,false,7,.push q',v,has,u::nx,out⟩) h1 jr (fun z h=>by cases h) hd
  rw[rr hc]at kR
  refine⟨D,_,RJ.fin hR hx h1 gW rfl kR (tM hR i (by omega)) (.inl rfl) (.inl rfl) (fun j h=>by cases h) (fun q2 h=>by cases h;exact hn.trans JR) ?_⟩
  refine jS (mg (ws:=ws) (D:=D) hx fv (by rfl) (by rfl) D) ?_
  have h9:dP ⟨ev,jo,false,7,.push q',v,has,u::nx,out⟩=.push v out u (nx.map Int.toNat) (q.at_+1):=by rw[← eb.1];rfl
  rw[h9]
  exact SX.Tr.zo v out u (nx.map Int.toNat) q.at_ hp eb.2
 ·rw[hs.room.2,cg]at aiq
  omega
 ·rw[ah rfl]
  have h4:=abM lA cb an pZ h3
  have hd:DI (gm s l i) (eC l) ws' none (lX s l W i) (T i) (jF (c++[u])):=by
   show DI _ _ _ _ _ _ (List.map _ (c++[u]))
   rw[cW]
   rw[JR]at hd
   exact hd
  refine⟨D.set i (c++[u]),_,RJ.fin hR hx h1 gW (by rw[cR]) (xI hR hx (x':=⟨ev,jo,false,kD (u::nx),.none,v,has,nx,out⟩) h1 jr (fun z h=>by cases h) hd) (tM hR i (by omega)) (.inl rfl) (.inl rfl) (fun j h=>by cases h) (fun j h=>by cases h) ?_⟩
  refine jS (mg (ws:=ws) (D:=D) hx fv (by rfl) (by rfl) (D.set i (c++[u]))) ?_
  dsimp only
  rw[DD (nx:=nx) (does:=kD (u::nx)) rfl]
  rw[h4]at hp
  exact SX.Tr.push v out u (nx.map Int.toNat) c hp hc
theorem abr(hR:RJ s l hs W ws D T M)(hM:M<1000000000){i j:Nat}{ev jo:Int}{node:Int}{has:Bool}{nx out:List Int}(q:DQ)(lA:q.ended=false)(hj:(j:Int)<l.k)(IF:q.base=(gm s l j:Int))
  (hx:W[i]?=some ⟨ev,jo,false,1,.cC q,node,has,nx,out⟩) :
  qM s l hs W ws D M i (gN s l ⟨ev,jo,false,1,.cC q,node,has,nx,out⟩ ws):=by
 have hlen:=hR.len
 have JW:j<D.length:=by rw[hR.dl];omega
 obtain⟨c,hc⟩:∃c,D[j]?=some c:=⟨D[j],bh JW⟩
 have ei:=hs.k2
 have hD:=hR.di j c hc
 obtain⟨q',ws',e,an⟩:∃q' ws' e,gR bJ q ws=(q',ws',e):=⟨_,_,_,rfl⟩
 obtain⟨h1,jr,hb,Ej⟩:=abo hD ⟨i,_,hx,rfl,IF⟩ lA (HS hs (by omega)) (hR.bound hM hc) an
 have fv:=MW (s:=s) (l:=l) jr
 have J1:=hR.EW hc
 have gW:0≤ws'.getD (nN s*nW l+nN s) 0:=by rw[fv _ (by omega)];exact hR.kA
 have hp:=mL (s:=s) (l:=l) (ws:=ws) (D:=D) hx
 have hp:(cu s l W ws D).ph[i]?=some (.idle 1 q.at_):=hp
 have zM:=hR.top j
 have Fl:gN s l ⟨ev,jo,false,1,.cC q,node,has,nx,out⟩ ws=(if e=true then dV s l ⟨ev,jo,false,1,.cC q,node,has,nx,out⟩ (.cC q') else ⟨ev,jo,false,1,.cC q',node,has,nx,out⟩,ws'):=by
  exact rI (ac6 an)
 rw[Fl]
 rcases Ej with ⟨rfl,l5,hd⟩ | ⟨rfl,pZ,hd⟩ | ⟨rfl,pZ,c',se,hd⟩
 ·rw[ag (by decide)]
  have eb:=abn lA an
  have kR:=Ii (c':=c) hR hx (x':=⟨ev,jo,false,1,.cC q',node,has,nx,out⟩) JW h1 jr (.inl ⟨rfl,hb.trans IF⟩) rfl (hd.qH fun z hz=>hz.imp id fun h=>h.2)
  rw[rr hc]at kR
  refine⟨D,_,RJ.fin hR hx h1 gW rfl kR (tM hR j (by omega)) (.inl rfl) (.inl rfl) (fun j h=>by cases h) (fun j h=>by cases h) ?_⟩
  refine jS (mg (ws:=ws) (D:=D) hx fv (by rfl) (by rfl) D) ?_
  have h9:dP ⟨ev,jo,false,1,.cC q',node,has,nx,out⟩=.idle 1 (q.at_+1):=by rw[← eb.1];rfl
  rw[h9]
  exact SX.Tr.zd q.at_ hp eb.2
 ·rw[ah rfl]
  have sf:dV s l ⟨ev,jo,false,1,.cC q,node,has,nx,out⟩ (.cC q')=⟨ev,jo,false,2,.none,node,has,nx,out⟩:=ag (by rw[pZ];decide)
  rw[sf]
  have kR:=Ii (c':=c) (q':=q') hR hx (x':=⟨ev,jo,false,2,.none,node,has,nx,out⟩) JW h1 jr (.inr fun z h=>by cases h) rfl (hd.qH fun z hz=>hz.elim id fun h=>by cases h.1)
  rw[rr hc]at kR
  refine⟨D,_,RJ.fin hR hx h1 gW rfl kR (tM hR j (by omega)) (.inl rfl) (.inl rfl) (fun j h=>by cases h) (fun j h=>by cases h) ?_⟩
  refine jS (mg (ws:=ws) (D:=D) hx fv (by rfl) (by rfl) D) ?_
  exact SX.Tr.ze q.at_ hp
 ·rw[ah rfl]
  obtain⟨v,c0,rfl,Fm,rfl⟩:=Sn se
  have hv:v<nN s:=J1.2 v (by simp)
  have sf:dV s l ⟨ev,jo,false,1,.cC q,node,has,nx,out⟩ (.cC q')=⟨ev,jo,false,3,.none,v,true,nx,out⟩:=by
   show (if q'.ok=true then _ else _)=_
   rw[ah pZ,Fm,(Bf hs hv).1,(Bf hs hv).2]
  rw[sf]
  refine⟨D.set j c0,_,RJ.fin hR hx h1 gW (by rw[cR]) (Ii (c':=c0) (q':=q') hR hx (x':=⟨ev,jo,false,3,.none,v,true,nx,out⟩) JW h1 jr (.inr fun z h=>by cases h) rfl (hd.qH fun z hz=>hz.elim id fun h=>by cases h.1)) (tM hR j (by omega)) (.inl rfl) (.inl rfl) (fun j h=>by cases h) (fun j h=>by cases h) ?_⟩
  refine jS (mg (ws:=ws) (D:=D) hx fv (by rfl) (by rfl) (D.set j c0)) ?_
  exact SX.Tr.cC j v c0 q.at_ hp hc
theorem RJ.agn(hR:RJ s l hs W ws D T M){i:Nat}{x:WS}(hx:W[i]?=some x)(hn:x.now=.none)(hw:WV s l i x)(d:Int){n:Nw}(hb:iY l i x.does x.node x.nx x.out d=n):
  RJ s l hs (W.set i ⟨x.ev,x.jo,x.en,x.does,n,x.node,x.has,x.nx,x.out⟩) ws D T M:=by
 have hi:=(ck.1 hx).1
 have hlen:=hR.len
 have ei:=hs.k2
 have sL:(0:Int)≤(i:Nat)∧((i:Nat):Int)<l.k:=by omega
 have ng:dP ⟨x.ev,x.jo,x.en,x.does,n,x.node,x.has,x.nx,x.out⟩=dP x:=by
  have:=S5 l i d x
  rw[show kB l i x d=n by unfold kB;rw[hn];exact hb]at this
  exact this
 have qa:cu s l (W.set i ⟨x.ev,x.jo,x.en,x.does,n,x.node,x.has,x.nx,x.out⟩) ws D=cu s l W ws D:=by
  rw[mg (ws:=ws) (D:=D) (x':=⟨x.ev,x.jo,x.en,x.does,n,x.node,x.has,x.nx,x.out⟩) hx (fun _ _=>rfl) rfl rfl D,ng,rr (mL hx)];rfl
 have Wq:lS W i=none:=by rw[y5 hx,hn];rfl
 have key:(∀(j:Nat) (c:List Nat),D[j]?=some c→DI (gm s l j) (eC l) ws (lS (W.set i ⟨x.ev,x.jo,x.en,x.does,n,x.node,x.has,x.nx,x.out⟩) j) (lX s l (W.set i ⟨x.ev,x.jo,x.en,x.does,n,x.node,x.has,x.nx,x.out⟩) j) (T j) (jF c))→(∀j,n=.join j→j.fG=true→de j.what j.x (wd j.a j.at_)≠j.x)→(∀q,n=.push q→q.n=x.nx.headD 0)→RJ s l hs (W.set i ⟨x.ev,x.jo,x.en,x.does,n,x.node,x.has,x.nx,x.out⟩) ws D T M:=by
  intro kR Ac s6
  refine⟨by rw[cR];exact hR.len,hR.fl,hR.kA,by rw[cR];exact hR.dl,kR,hR.top,fun y hy=>?_,fun y hy=>?_,fun y hy=>?_,by rw[qa];exact hR.ti⟩
  ·rcases AD hy with hy | rfl
   ·exact hR.ev y hy
   ·exact hR.ev x (cx hx)
  ·rcases AD hy with hy | rfl
   ·exact hR.jn y hy
   ·exact Ac
  ·rcases AD hy with hy | rfl
   ·exact hR.pn y hy
   ·exact s6
 have plain:(∀z,n≠.cC z)→sJ n=none→∀(j:Nat) (c:List Nat),D[j]?=some c→DI (gm s l j) (eC l) ws (lS (W.set i ⟨x.ev,x.jo,x.en,x.does,n,x.node,x.has,x.nx,x.out⟩) j) (lX s l (W.set i ⟨x.ev,x.jo,x.en,x.does,n,x.node,x.has,x.nx,x.out⟩) j) (T j) (jF c):=fun h1 h2=>
  pE hR hx (x':=⟨x.ev,x.jo,x.en,x.does,n,x.node,x.has,x.nx,x.out⟩) rfl (fun _ _=>rfl) h1 (by rw[hn];exact h2.symm)
 have own:(∀z,n≠.cC z)→(∀c,D[i]?=some c→DI (gm s l i) (eC l) ws (sJ n) (lX s l W i) (T i) (jF c))→∀(j:Nat) (c:List Nat),D[j]?=some c→DI (gm s l j) (eC l) ws (lS (W.set i ⟨x.ev,x.jo,x.en,x.does,n,x.node,x.has,x.nx,x.out⟩) j) (lX s l (W.set i ⟨x.ev,x.jo,x.en,x.does,n,x.node,x.has,x.nx,x.out⟩) j) (T j) (jF c):=fun h1 h2 j c hj=>by
  obtain⟨c0,gW⟩:=hR.at_ hx
  have:=xI hR hx (x':=⟨x.ev,x.jo,x.en,x.does,n,x.node,x.has,x.nx,x.out⟩) (c':=c0) (T':=T i) rfl (fun _ _=>rfl) h1 (h2 c0 gW)
  rw[rr gW]at this
  have h3:=this j c hj
  have e:(if j=i then T i else T j)=T j:=by split <;> simp_all
  rw[e]at h3
  exact h3
 have Fz:=hs.vI (k:=i) (by omega)
 by_cases h0:x.does=0
 ·rw[Jq h0]at hb
  subst hb
  refine key (own (fun z h=>by cases h) fun c hc=>?_) (fun j h=>by cases h) (fun q h=>by cases h)
  have:=hR.di i c hc
  rw[Wq]at this
  exact this.pop Fz rfl rfl rfl rfl
 by_cases h1:x.does=1
 ·rw[Jp h1]at hb
  subst hb
  obtain⟨v,hv,hvk⟩:=RA hs sL (hw.BX h1) d
  rw[hv]
  have hvD:v<D.length:=by rw[hR.dl];omega
  obtain⟨c0,gW⟩:∃c,D[v]?=some c:=⟨D[v],bh hvD⟩
  have J0:=hs.vI (k:=v) (by omega)
  rw[hv]at key
  refine key (fun j c hj=>?_) (fun j h=>by cases h) (fun q h=>by cases h)
  have h4:=Ii hR hx (x':=⟨x.ev,x.jo,x.en,x.does,.cC (uP (ec l v) (eC l) 0),x.node,x.has,x.nx,x.out⟩) (q':=uP (ec l v) (eC l) 0) (c':=c0) (T':=T v) hvD rfl (fun _ _=>rfl) (.inl ⟨rfl,J0⟩) (by rw[hn];rfl) (((hR.di v c0 gW).BX (z:=uP (ec l v) (eC l) 0) J0 rfl rfl rfl).qH fun z hz=>hz.imp id fun h=>h.2)
  rw[rr gW]at h4
  have h3:=h4 j c hj
  have e:(if j=v then T v else T j)=T j:=by split <;> simp_all
  rw[e]at h3
  exact h3
 by_cases h2:x.does=2
 ·rw[Jo h2]at hb
  subst hb
  exact key (plain (fun z h=>by cases h) rfl) (fun j h=>by cases h) (fun q h=>by cases h)
 by_cases h3:x.does=3
 ·rw[Jm h3]at hb
  subst hb
  exact key (plain (fun z h=>by cases h) rfl) (fun j h=>by cases h) (fun q h=>by cases h)
 by_cases h4:x.does=4
 ·rw[Jl h4]at hb
  subst hb
  exact key (plain (fun z h=>by cases h) rfl) (fun j h=>by cases h) (fun q h=>by cases h)
 by_cases h5:x.does=5
 ·rw[Jk h5]at hb
  subst hb
  exact key (plain (fun z h=>by cases h) rfl) (fun j h h2=>by cases h;cases h2) (fun q h=>by cases h)
 by_cases h6:x.does=6
 ·rw[Jj h6]at hb
  subst hb
  exact key (plain (fun z h=>by cases h) rfl) (fun j h=>by cases h) (fun q h=>by cases h)
 by_cases h7:x.does=7
 ·rw[Ji h7]at hb
  subst hb
  obtain⟨u,hu,fD⟩:=ME hw.nx (hw.head (.inr (.inr h7)))
  refine key (own (fun z h=>by cases h) fun c hc=>?_) (fun j h=>by cases h) (fun q h=>?_)
  ·have:=hR.di i c hc
   rw[Wq]at this
   exact this.push Fz rfl rfl rfl rfl
  ·cases h
   have:=hs.nn
   show wu (x.nx.headD 0)=_
   rw[hu];show IntKind.u64.wrap _=_;rw[IntKind.wrap_u64];omega
 rw[Jh h0 h1 h2 h3 h4 h5 h6 h7]at hb
 subst hb
 exact key (plain (fun z h=>by cases h) rfl) (fun j h=>by cases h) (fun q h=>by cases h)
theorem afD(hR:RJ s l hs W ws D T M)(hM:M<1000000000)(OM:MV s l ws){i:Nat}{x:WS}(hx:W[i]?=some x)(he:x.en=false)(qD:0≤x.node∧x.node<s.n)(cU:∀u∈x.nx,0≤u∧u<s.n)(hh:x.does=5∨x.does=6∨x.does=7→0<x.nx.length)
  (hb:zK s l i x.does x.node x.nx x.out x.now) (xO:∀j,x.now=.join j→j.at_<nW l∨(j.at_=0∧j.fG=false∧j.changed=false)):qM s l hs W ws D M i (gN s l x ws):=by
 obtain⟨ev,jo,en,does,now,node,has,nx,out⟩:=x
 have he:en=false:=he
 subst he
 have qD:0≤node∧node<s.n:=qD
 have hnn:=hs.nn
 obtain⟨v,rfl⟩:=mH qD.1
 have hv:v<nN s:=by omega
 have cU:∀u∈nx,0≤u∧u<s.n:=cU
 have hh:does=5∨does=6∨does=7→0<nx.length:=hh
 have head:0<nx.length→∃(u:Nat) (r:List Int),nx=(u:Int)::r∧u<nN s:=fun h=>by
  cases nx with
  |nil=>cases h
  |cons z r=>
   have:=cU z (cj ..)
   obtain⟨u,rfl⟩:=mH this.1
   exact⟨u,r,rfl,by omega⟩
 have hb:zK s l i does v nx out now:=hb
 have xO:∀j,now=.join j→j.at_<nW l∨(j.at_=0∧j.fG=false∧j.changed=false):=xO
 cases now with
 |none=>exact hb.elim
 |pop q=>
  obtain⟨rfl,h1,h2,h3⟩:=hb
  exact afC hR hM q h1.en h1.at_ h1.x.1 hx
 |cC q=>
  obtain⟨rfl,h1,⟨j,hj,h2⟩,h3⟩:=hb
  have ei:=hs.k2
  exact abr hR hM q h1.en hj (h2.trans (hs.vI (by omega))) hx
 |quiet t=>
  obtain⟨rfl,rfl⟩:=hb
  exact abt hR hx
 |clear t=>
  obtain⟨rfl,rfl⟩:=hb
  exact abu hR hv hx
 |read y=>
  obtain⟨rfl,h1,h2⟩:=hb
  exact adJ hR hM OM hv h1 h2 hx
 |join j=>
  obtain⟨rfl,h1,h2,h3,h4,h5⟩:=hb
  obtain⟨u,r,rfl,hu⟩:=head (hh (.inl rfl))
  exact adL hR hM hu j h1 h2 h3 (xO j rfl) (fun h=>(h5 h).1) hx
 |take t=>
  obtain⟨rfl,j6,rfl⟩:=hb
  obtain⟨u,r,rfl,hu⟩:=head (hh (.inr (.inl rfl)))
  cases j6 with
  |true=>exact abp hR hx
  |false=>exact abq hR hu hx
 |push q=>
  obtain⟨rfl,h1,h2,h3,h4⟩:=hb
  obtain⟨u,r,rfl,hu⟩:=head (hh (.inr (.inr rfl)))
  exact adK hR hM q h1.en h4 h1.at_ hx
 |ee t=>
  obtain⟨rfl,rfl⟩:=hb
  exact ZV hR hx
theorem ZQ{s:Sy}{l:Lay}{who d:Int}{x:WS}{ws:List Int}(he:x.en=false):((dw bJ s l who x d ws).1,(dw bJ s l who x d ws).2.1)=gN s l ⟨x.ev,x.jo,x.en,x.does,kB l who x d,x.node,x.has,x.nx,x.out⟩ ws:=by
 unfold dw gN
 rw[he,ag Cv]
 dsimp only
 by_cases h:(gn bJ l x.node (kB l who x d) ws).2.2=true
 ·rw[ah h,ah h]
  refine Prod.ext ?_ rfl
  dsimp only
  generalize kB l who x d=m at h ⊢
  cases m with
  |none=>exact absurd h Cv
  |_=>simp only[gn,dV,he]
 ·rw[ag h,ag h]
theorem RJ.step(hR:RJ s l hs W ws D T M)(hM:M<1000000000)(hF:vL s l ⟨W,ws⟩)(i:Nat)(d:Int):
  ∃D' T',RJ s l hs (eZ s l ⟨W,ws⟩ i d).1.W (eZ s l ⟨W,ws⟩ i d).1.ws D' T' (M+1)∧SX.Tr (kU s l hs) (cu s l W ws D) i (cu s l (eZ s l ⟨W,ws⟩ i d).1.W (eZ s l ⟨W,ws⟩ i d).1.ws D'):=by
 have my:∀{W ws D T},RJ s l hs W ws D T M→RJ s l hs W ws D T (M+1):=fun h=>⟨h.len,h.fl,h.kA,h.dl,h.di,ox h,fun x hx=>by have:=h.ev x hx;omega,h.jn,h.pn,h.ti⟩
 cases hx:W[i]? with
 |none=>
  have e:eZ s l ⟨W,ws⟩ i d=(⟨W,ws⟩,true):=by unfold eZ;dsimp only;rw[hx]
  rw[e]
  exact⟨D,T,my hR,SX.Tr.stay (.inr (by show (W.map dP)[i]?=none;rw[fm,hx];rfl))⟩
 |some x=>
  rw[Dh (a:=⟨W,ws⟩) hx]
  dsimp only
  have yb:=hF.wv i x hx
  have hi:=(ck.1 hx).1
  have hlen:=hR.len
  cases he:x.en with
  |true=>
   have e:dw bJ s l i x d ws=(x,ws,true):=ah he
   rw[e]
   dsimp only
   rw[rr hx]
   refine⟨D,T,my hR,SX.Tr.stay (.inl ?_)⟩
   rw[mL hx]
   unfold dP
   rw[ah he]
  |false=>
   have e:=ZQ (s:=s) (l:=l) (who:=i) (d:=d) (ws:=ws) he
   have e1:=congrArg Prod.fst e
   have e2:=congrArg Prod.snd e
   dsimp only at e1 e2
   rw[e1,e2]
   have hnb:=UE (d:=d) hs (show (0:Int)≤(i:Nat)∧((i:Nat):Int)<l.k by omega) yb
   obtain⟨n,hn⟩:∃n,kB l i x d=n:=⟨_,rfl⟩
   rw[hn]at hnb ⊢
   have ng:dP ⟨x.ev,x.jo,x.en,x.does,n,x.node,x.has,x.nx,x.out⟩=dP x:=by rw[← hn];exact S5 l i d x
   have kj:∀y,(W.set i ⟨x.ev,x.jo,x.en,x.does,n,x.node,x.has,x.nx,x.out⟩).set i y=W.set i y:=fun y=>List.set_set ..
   have qa:cu s l (W.set i ⟨x.ev,x.jo,x.en,x.does,n,x.node,x.has,x.nx,x.out⟩) ws D=cu s l W ws D:=by
    rw[mg (ws:=ws) (D:=D) (x':=⟨x.ev,x.jo,x.en,x.does,n,x.node,x.has,x.nx,x.out⟩) hx (fun _ _=>rfl) rfl rfl D,ng,rr (mL hx)];rfl
   have Pg:RJ s l hs (W.set i ⟨x.ev,x.jo,x.en,x.does,n,x.node,x.has,x.nx,x.out⟩) ws D T M∧∀j,n=.join j→j.at_<nW l∨(j.at_=0∧j.fG=false∧j.changed=false):=by
    rcases yb.now with h0 | ⟨h0,hk⟩
    ·have hb:iY l i x.does x.node x.nx x.out d=n:=by rw[← hn];unfold kB;rw[h0]
     refine⟨hR.agn hx h0 yb d hb,fun j hj=>.inr ?_⟩
     rw[hj]at hb
     unfold iY at hb
     (repeat' split at hb) <;> first | (cases hb;exact⟨rfl,rfl,rfl⟩) | cases hb
    ·have h1:x.now=n:=by
      rw[← hn];unfold kB
      cases aie:x.now with
      |none=>rw[aie]at h0;exact h0.elim
      |_=>rfl
     refine⟨?_,fun j hj=>.inl ?_⟩
     ·rw[← h1,rr hx];exact hR
     ·rw[h1,hj]at hk;exact hk
   obtain⟨hR2,xO⟩:=Pg
   have iC:(W.set i ⟨x.ev,x.jo,x.en,x.does,n,x.node,x.has,x.nx,x.out⟩)[i]?=some ⟨x.ev,x.jo,x.en,x.does,n,x.node,x.has,x.nx,x.out⟩:=by rw[fj,ah rfl,ah hi]
   have:=afD hR2 hM hF.fl.2 iC he yb.node yb.nx yb.head hnb xO
   unfold qM at this
   rw[kj,qa]at this
   exact this
end
set_option maxHeartbeats 4000000
def eP(s:Sy)(l:Lay):List Int:=zA s l (List.replicate (nQ l) 0)
def W0(l:Lay):List WS:=List.replicate l.k.toNat nP
def sh(s:Sy)(l:Lay)(aC:List (Int×Int×Unit))(x:iF WA):iF WA:=mD (eZ s l) (fun a _=>a) l.k.toNat aC x
def x6(s:Sy)(l:Lay):iF WA:=⟨⟨W0 l,eP s l⟩,List.replicate l.k.toNat 0,List.replicate l.k.toNat false,0⟩
def dL(s:Sy)(l:Lay)(aC:List (Int×Int×Unit)):iF WA:=sh s l aC (x6 s l)
def qi(W:List WS):Int:=W.foldl (fun a x=>wr (a+x.ev)) 0
def pY(W:List WS):Int:=W.foldl (fun a x=>wr (a+x.jo)) 0
theorem acB{W:List WS}{i:Nat}(h:i<W.length):wr (qi (W.take i)+W[i].ev)=qi (W.take (i+1)):=by
 unfold qi;rw[ff h,uJ];rfl
theorem acg{W:List WS}{i:Nat}(h:i<W.length):wr (pY (W.take i)+W[i].jo)=pY (W.take (i+1)):=by
 unfold pY;rw[ff h,uJ];rfl
set_option maxHeartbeats 4000000
theorem SN{b:Nat}{a ws:List Int}{x:Nat}(h:x<b):∀k,(oN b a ws k).getD x 0=ws.getD x 0
 | 0=>rfl
 |k+1=>by rw[oN,ry _ _ _ _ (by omega)];exact SN h k
theorem SO{b:Nat}{a ws:List Int}{i:Nat}:∀k,i<k→b+k≤ws.length→(oN b a ws k).getD (b+i) 0=wd a i
 | 0,h,_=>absurd h (og _)
 |k+1,h,hl=>by
  rw[oN]
  by_cases e:i=k
  ·subst e
   rw[Bh _ _ _ _ (by rw[K7];omega),ah rfl]
  ·rw[ry _ _ _ _ (by omega)]
   exact SO k (by omega) (by omega)
section
variable {N W:Nat} {st:Nat→List Int} {ws:List Int}
theorem Sm{v i:Nat}(hi:i<W):∀k,k≤N→v<k→N*W+N≤ws.length→(nw N W st ws k).getD (v*W+i) 0=wd (st v) i
 | 0,_,h,_=>absurd h (og _)
 |k+1,hk,h,hl=>by
  have h6:(k+1)*W≤N*W:=lI _ hk
  have h7:=tI (N:=N) (show v<N by omega) hi
  rw[qe]at h6
  rw[nw,ry _ _ _ _ (by omega)]
  by_cases e:v=k
  ·subst e
   exact SO W hi (by rw[Az];omega)
  ·have h8:=tI (N:=k) (show v<k by omega) hi
   rw[SN h8]
   exact Sm hi k (by omega) (by omega) hl
theorem Ri{v:Nat}:∀k,k≤N→v<k→N*W+N≤ws.length→(nw N W st ws k).getD (N*W+v) 0=1
 | 0,_,h,_=>absurd h (og _)
 |k+1,hk,h,hl=>by
  have h6:(k+1)*W≤N*W:=lI _ hk
  rw[qe]at h6
  rw[nw]
  by_cases e:v=k
  ·subst e
   rw[Bh _ _ _ _ (by rw[K7,Az];omega),ah rfl]
  ·rw[ry _ _ _ _ (by omega),SP W (by omega)]
   exact Ri k (by omega) (by omega) hl
end
theorem HR{b r:Nat}{l ws:List Int}{a:Nat}(hr:0<r)(ha:a<b+2∨b+2+r≤a):∀k,(kz b r l ws k).getD a 0=ws.getD a 0
 | 0=>rfl
 |k+1=>by
  have:=ob (1+k) hr
  rw[kz,ry _ _ _ _ (by omega)];exact HR hr ha k
theorem US{b r:Nat}{l ws:List Int}{i:Nat}(hr:0<r)(hl:b+2+r≤ws.length):∀k,k≤r→i<k→(kz b r l ws k).getD (b+2+(1+i) % r) 0=l.getD i 0
 | 0,_,h=>absurd h (og _)
 |k+1,hk,h=>by
  rw[kz]
  by_cases e:i=k
  ·subst e
   have:=ob (1+i) hr
   rw[Bh _ _ _ _ (by rw[Rh];omega),ah rfl]
  ·have:=Vp (a:=1+i) (c:=1+k) (m:=r) (by omega) (by omega)
   rw[ry _ _ _ _ (by omega)]
   exact US hr hl k (by omega) (by omega)
theorem UT{b r:Nat}{l ws:List Int}{a:Nat}(hr:0<r)(ha:a<b∨b+2+r≤a):(oo b r l ws).getD a 0=ws.getD a 0:=by
 rw[oo,HR hr (by omega),ry _ _ _ _ (by omega),ry _ _ _ _ (by omega)]
theorem aeH{b r:Nat}{l ws:List Int}(hr:0<r)(hl:b+2+r≤ws.length):(oo b r l ws).getD b 0=1:=by
 rw[oo,HR hr (by omega),ry _ _ _ _ (by omega),Bh _ _ _ _ (by omega),ah rfl]
theorem aeJ{b r:Nat}{l ws:List Int}(hr:0<r)(hl:b+2+r≤ws.length):(oo b r l ws).getD (b+1) 0=((1+l.length:Nat):Int):=by
 rw[oo,HR hr (by omega),Bh _ _ _ _ (by rw[cR];omega),ah rfl]
theorem aeI{b r:Nat}{l ws:List Int}{i:Nat}(hr:0<r)(hl:b+2+r≤ws.length)(hk:l.length≤r)(hi:i<l.length):(oo b r l ws).getD (b+2+(1+i) % r) 0=l.getD i 0:=by
 rw[oo];exact US hr (by rw[cR,cR];exact hl) _ hk hi
section
variable {b0 N:Nat} {ls:List (List Int)} {ws:List Int}
theorem UQ{a:Nat}(ha:a<b0):∀k,(lB b0 (N+3) (N+1) ls ws k).getD a 0=ws.getD a 0
 | 0=>rfl
 |k+1=>by rw[lB,UT (by omega) (by omega)];exact UQ ha k
theorem VE{j a:Nat}(h2:a<b0+j*(N+3)+(N+3)):∀k,j<k→(lB b0 (N+3) (N+1) ls ws k).getD a 0=(lB b0 (N+3) (N+1) ls ws (j+1)).getD a 0
 | 0,h=>absurd h (og _)
 |k+1,h=>by
  by_cases e:j=k
  ·subst e;rfl
  ·have h3:=lI (N+3) (show j+1≤k by omega)
   rw[qe]at h3
   rw[lB,UT (by omega) (by omega)]
   exact VE h2 k (by omega)
end
theorem aeK{N W:Nat}{st:Nat→List Int}{ls:List (List Int)}{ws:List Int}{j:Nat}{c:List Int}{cap:Int}(Ja:rm cap=N+1)(hl:N*W+N+1+ls.length*(N+3)≤ws.length)(hj:ls[j]?=some c)(hc:c.length≤N):DB (N*W+N+1+j*(N+3)) cap (zB N W st ls ws) 0 1 c:=by
 have gP:=(ck.1 hj).1
 have h3:=lI (N+3) (show j+1≤ls.length by omega)
 rw[qe]at h3
 have my:∀a,a<N*W+N+1+j*(N+3)+(N+3)→(zB N W st ls ws).getD a 0=(oo (N*W+N+1+j*(N+3)) (N+1) c (lB (N*W+N+1) (N+3) (N+1) ls ((nw N W st ws N).set (N*W+N) (N:Int)) j)).getD a 0:=fun a ha=>by
  rw[zB,VE ha _ gP,lB]
  have e:ls.getD j []=c:=by rw[aZ,hj];rfl
  rw[e]
 have hlen:(lB (N*W+N+1) (N+3) (N+1) ls ((nw N W st ws N).set (N*W+N) (N:Int)) j).length=ws.length:=by rw[QD,cR,Az]
 refine⟨by rw[XY,Ja];omega,?_,a8 _,?_,by omega,fun i hi=>?_⟩
 ·rw[my _ (by omega),aeH (by omega) (by omega)];rfl
 ·rw[my _ (by omega),aeJ (by omega) (by omega)];rfl
 ·rw[Ja]
  have:=ob (1+i) (show 0<N+1 by omega)
  rw[my _ (by omega),aeI (by omega) (by omega) (by omega) hi,aZ,bh hi];rfl
section
variable {s:Sy} {l:Lay} (hs:LS s l)
include hs
theorem LS.GF{v i:Nat}(hi:i<nW l):fX s.what s.w i (wd (fp s v) i):=by
 have h:=(hs.rU).1 (GS hs.fit hs.gK v)
 rw[← sG];exact h.2 i hi
theorem UK{v:Nat}{ws:List Int}(h:pU s l ws):∀k,k≤nW l→pU s l (oN (v*nW l) (fp s v) ws k)
 | 0,_=>h
 |k+1,hk=>by
  have ih:=UK h k (by omega) (v:=v)
  rw[oN]
  exact⟨by rw[cR];exact ih.1,ih.2.abz (by omega) (hs.GF (by omega))⟩
theorem TC{ws:List Int}(h:pU s l ws):∀k,pU s l (nw (nN s) (nW l) (fun v=>fp s v) ws k)
 | 0=>h
 |k+1=>by
  rw[nw]
  exact (UK hs (TC h k) _ (a8 _)).hi (by omega) (by unfold bG;omega)
theorem VD{b r:Nat}{x ws:List Int}(hb:nN s*nW l≤b)(hx:∀z∈x,0≤z∧z<(nN s:Int))(h:pU s l ws):∀k,pU s l (kz b r x ws k)
 | 0=>h
 |k+1=>by
  rw[kz]
  refine (VD hb hx h k).hi (by omega) ?_
  have hn:=hs.nn
  rw[aZ]
  cases hk:x[k]? with
  |none=>exact AQ
  |some z=>
   have:=hx z (cx hk)
   show bG z
   unfold bG;omega
theorem VC{ls:List (List Int)}{ws:List Int}(hx:∀x∈ls,x.length≤256∧∀z∈x,0≤z∧z<(nN s:Int))(h:pU s l ws):∀k,pU s l (lB (nN s*nW l+nN s+1) (nN s+3) (nN s+1) ls ws k)
 | 0=>h
 |k+1=>by
  rw[lB,oo]
  have h2:(ls.getD k []).length≤256∧∀z∈ls.getD k [],0≤z∧z<(nN s:Int):=by
   rw[aZ]
   cases hk:ls[k]? with
   |none=>exact⟨bA _,fun z hz=>by cases hz⟩
   |some x=>exact hx x (cx hk)
  refine VD hs (by omega) h2.2 (((VC hx h k).hi (by omega) (by unfold bG;omega)).hi (by omega) ?_) _
  unfold bG;omega
theorem UL(cb:kE s l):pU s l (eP s l):=by
 unfold eP zA zB
 have hn:=hs.nn
 refine VC hs (cb.rows hn.2.2) (pU.hi (TC hs ⟨gl,ael s l _⟩ _) (by omega) ?_) _
 unfold bG;omega
end
theorem Uk{α:Type}(g:α→Nat)(f:α→Nat)(k:Nat):∀(al:List α),(∀x∈al,f x<k)→SX.aN (fun u=>SX.aN g (al.filter fun x=>decide (f x=u))) (List.range k)=SX.aN g al
 | [],_=>by
  have:∀l:List Nat,SX.aN (fun u=>SX.aN g (([]:List α).filter fun x=>decide (f x=u))) l=0:=fun l=>by
   induction l with
   |nil=>rfl
   |cons a l ih=>show 0+_=0;rw[dR];exact ih
  exact this _
 |a::al,h=>by
  have ih:=Uk g f k al fun x hx=>h x (dp _ hx)
  have h1:=SX.Mm (f:=fun u=>SX.aN g ((a::al).filter fun x=>decide (f x=u))) (g:=fun u=>SX.aN g (al.filter fun x=>decide (f x=u))) (u:=f a) (l:=List.range k) List.nodup_range (gy.2 (h a (cj ..))) (fun u _ hu=>by
   show SX.aN g _=SX.aN g _
   rw[CA,ag (by rw[bS fun e=>hu e.symm];decide)])
  have h2:SX.aN g ((a::al).filter fun x=>decide (f x=f a))=g a+SX.aN g (al.filter fun x=>decide (f x=f a)):=by
   rw[CA,ah (aT rfl)];rfl
  rw[ih]at h1
  rw[h2]at h1
  show _=g a+SX.aN g al
  omega
theorem SI{α:Type}(l:List α):SX.aN (fun _=>1) l=l.length:=by
 induction l with
 |nil=>rfl
 |cons a l ih=>show 1+SX.aN _ l=l.length+1;omega
theorem abl(v:Nat)(l:List Int):SX.aN (fun x:Int=>if x.toNat=v then 1 else 0) l=(l.map Int.toNat).count v:=by
 induction l with
 |nil=>rfl
 |cons a l ih=>
  show (if a.toNat=v then 1 else 0)+SX.aN _ l=_
  rw[pq,List.count_cons,ih]
  by_cases h:a.toNat=v
  ·rw[if_pos h,if_pos (by simp[h])];omega
  ·rw[if_neg h,if_neg (by simp[h])];omega
theorem SH{α β:Type}(f:α→Nat)(g:β→α)(l:List β):SX.aN f (l.map g)=SX.aN (fun x=>f (g x)) l:=by
 unfold SX.aN;rw[Kl];rfl
def D0(s:Sy)(l:Lay):List (List Nat):=(nE s l).map fun c=>c.map Int.toNat
theorem V9{s:Sy}{l:Lay}(cb:kE s l)(g:Nat→Nat):SX.aN (fun c=>SX.aN g c) (D0 s l)=SX.aN (fun x:Int=>g x.toNat) (oX (nN s) s.aO s.entry).reverse:=by
 have h1:∀x∈(oX (nN s) s.aO s.entry).reverse,((lT (nN s) l.k.toNat s.aO).getD x.toNat 0).toNat<l.k.toNat:=fun x hx=>by
  have h2:=cb.all.rg x (yw.1 hx)
  have:=cb.own x.toNat (by omega)
  omega
 rw[← Uk (fun x:Int=>g x.toNat) (fun x=>((lT (nN s) l.k.toNat s.aO).getD x.toNat 0).toNat) l.k.toNat _ h1]
 unfold D0 nE zE mO
 rw[Kl,SH]
 refine SX.CX fun u hu=>?_
 show SX.aN g ((List.filter _ _).map Int.toNat)=_
 rw[SH]
 congr 1
 refine List.filter_congr fun x hx=>?_
 have h2:=cb.all.rg x (yw.1 hx)
 have h3:=cb.own x.toNat (by omega)
 by_cases h:(lT (nN s) l.k.toNat s.aO).getD x.toNat 0=(u:Int)
 ·rw[aT h,aT (by omega)]
 ·rw[bS h,bS (by omega)]
theorem acJ(v:Nat)(c:List Nat):c.count v=SX.aN (fun z=>if z=v then 1 else 0) c:=by
 induction c with
 |nil=>rfl
 |cons a c ih=>
  show _=(if a=v then 1 else 0)+SX.aN _ c
  rw[← ih,List.count_cons]
  by_cases h:a=v
  ·rw[if_pos h,if_pos (by simp[h])];omega
  ·rw[if_neg h,if_neg (by simp[h])];omega
theorem Wa{s:Sy}{l:Lay}(cb:kE s l):SX.aN List.length (D0 s l)=nN s:=by
 have h:=V9 cb fun _=>1
 have h2:SX.aN List.length (D0 s l)=SX.aN (fun c=>SX.aN (fun _=>1) c) (D0 s l):=SX.CX fun c _=>(SI c).symm
 rw[h2,h,SI,tg,cb.all.len]
theorem adr{s:Sy}{l:Lay}(cb:kE s l)(v:Nat):SX.aN (fun c=>c.count v) (D0 s l)=if v<nN s then 1 else 0:=by
 have h:=V9 cb fun z=>if z=v then 1 else 0
 have h2:SX.aN (fun c=>c.count v) (D0 s l)=SX.aN (fun c=>SX.aN (fun z=>if z=v then 1 else 0) c) (D0 s l):=SX.CX fun c _=>acJ v c
 rw[h2,h,abl]
 have cf:((oX (nN s) s.aO s.entry).reverse.map Int.toNat).Nodup:=by
  refine Ct.2 (List.Pairwise.imp_of_mem (fun {a b} ha hb aX e=>aX ?_) ((List.reverse_perm _).nodup_iff.2 cb.all.nd))
  have h3:=cb.all.rg a (yw.1 ha)
  have h4:=cb.all.rg b (yw.1 hb)
  omega
 rw[cf.count]
 by_cases hv:v<nN s
 ·rw[ah hv,ah (dT.2 ⟨(v:Int),yw.2 (cb.all.all v ⟨by omega,by omega⟩),bC _⟩)]
 ·rw[ag hv,ag fun h=>?_]
  obtain⟨z,hz,rfl⟩:=dT.1 h
  have:=cb.all.rg z (yw.1 hz)
  omega
section
variable {s:Sy} {l:Lay} (hs:LS s l) (cb:kE s l)
include hs cb
theorem WM{j:Nat}{c:List Nat}(h:(D0 s l)[j]?=some c):(nE s l)[j]?=some (jF c)∧c.length≤nN s:=by
 unfold D0 at h
 rw[fm]at h
 cases hx:(nE s l)[j]? with
 |none=>rw[hx]at h;cases h
 |some x=>
  rw[hx]at h
  cases h
  have hn:=hs.nn
  have h1:=cb.rows hn.2.2 x (cx hx)
  have e:jF (x.map Int.toNat)=x:=by
   show (x.map Int.toNat).map _=x
   rw[Kl]
   conv=>rhs;rw[← List.map_id x]
   refine wS fun z hz=>?_
   have:=h1.2 z hz
   show ((z.toNat:Nat):Int)=z
   omega
  refine⟨by rw[e],?_⟩
  rw[cg]
  have iC:=cx hx
  unfold nE zE mO at iC
  obtain⟨u,_,rfl⟩:=dT.1 iC
  have hlen:=Gg (fun y=>decide ((lT (nN s) l.k.toNat s.aO).getD y.toNat 0=(u:Int))) (oX (nN s) s.aO s.entry).reverse
  rw[tg,cb.all.len]at hlen
  exact hlen
end
theorem Uj{α:Type}{f:α→Nat}{x:α}(h:f x=0)(k:Nat):SX.aN f (List.replicate k x)=0:=SX.wZ fun y hy=>by rw[Ar hy];exact h
theorem L5{s:Sy}{l:Lay}{a:Nat}(ha:a<nN s*nW l+nN s+1)(ws:List Int):(zA s l ws).getD a 0=((nw (nN s) (nW l) (fun v=>fp s v) ws (nN s)).set (nN s*nW l+nN s) (nN s:Int)).getD a 0:=UQ ha _
theorem Sg{s:Sy}{l:Lay}(hs:LS s l):(∀v i,v<nN s→i<nW l→(eP s l).getD (v*nW l+i) 0=wd (fp s v) i)∧(∀v,v<nN s→(eP s l).getD (nN s*nW l+v) 0=1)∧(eP s l).getD (nN s*nW l+nN s) 0=(nN s:Int):=by
 have eF:=hs.size.2.2
 have fv:=hs.low
 have wD:(List.replicate (nQ l) (0:Int)).length=nQ l:=gl
 refine⟨fun v i hv hi=>?_,fun v hv=>?_,?_⟩
 ·have:=tI hv hi
  unfold eP
  rw[L5 (by omega),ry _ _ _ _ (by omega),Sm hi _ (a8 _) hv (by rw[wD];omega)]
 ·unfold eP
  rw[L5 (by omega),ry _ _ _ _ (by omega),Ri _ (a8 _) hv (by rw[wD];omega)]
 ·unfold eP
  rw[L5 (by omega),Bh _ _ _ _ (by rw[Az,wD];omega),ah rfl]
section
variable {s:Sy} {l:Lay} {hs:LS s l} (cb:kE s l)
include cb
theorem rj0:RJ s l hs (W0 l) (eP s l) (D0 s l) (fun _=>1) 1:=by
 have n0:=hs.k1
 have df:=Qs s l
 have hn:=hs.nn
 have J9:(D0 s l).length=l.k.toNat:=by unfold D0;rw[cg,df]
 have J5:(W0 l).length=l.k.toNat:=gl
 obtain⟨mB,oa,FB⟩:=Sg hs
 have gx:=UL hs cb
 have zO:∀x∈W0 l,x=nP:=fun x hx=>Ar hx
 have ng:∀p∈(cu s l (W0 l) (eP s l) (D0 s l)).ph,p=.idle 0 0:=fun p hp=>by
  obtain⟨x,hx,rfl⟩:=dT.1 hp
  rw[zO x hx];rfl
 refine⟨by rw[J5];omega,gx.1,by rw[FB];omega,by rw[J9,J5],fun j c hj=>?_,fun _=>a8 _,fun x hx=>?_,fun x hx=>?_,fun x hx=>?_,?_⟩
 ·have gP:=(ck.1 hj).1
  obtain⟨h1,h2⟩:=WM hs cb hj
  have hW:(W0 l)[j]?=some nP:=by unfold W0;rw[wV,ah (by omega)]
  rw[y5 hW]
  refine⟨?_,trivial,fun z hz=>?_⟩
  ·refine aeK hs.room.2 ?_ h1 (by rw[cg];exact h2)
   rw[df,gl]
   obtain⟨m,hm,ON,uw⟩:=hs.kk
   have n9:=hs.vI uw
   rw[show l.k.toNat=m by omega]
   unfold nQ
   rw[hm,n9]
   omega
  ·obtain⟨i,x,hx,h3,_⟩:=hz
   rw[zO x (cx hx)]at h3
   cases h3
 ·rw[zO x hx];exact⟨by decide,by decide,by decide,by decide⟩
 ·rw[zO x hx];exact fun j h=>by cases h
 ·rw[zO x hx];exact fun j h=>by cases h
 ·refine⟨fun v=>?_,?_,fun c hc v hv=>?_,fun p hp v hv=>?_⟩
  ·unfold SX.tok
   have h1:SX.aN (SX.iZ v) (cu s l (W0 l) (eP s l) (D0 s l)).ph=0:=SX.wZ fun p hp=>by rw[ng p hp];rfl
   have h2:SX.aN (fun l:List Nat=>l.count v) (cu s l (W0 l) (eP s l) (D0 s l)).dq=if v<nN s then 1 else 0:=adr cb v
   rw[h1,h2]
   show _=if decide (v<nN s∧¬(eP s l).getD (nN s*nW l+v) 0=0)=true then 1 else 0
   by_cases hv:v<nN s
   ·rw[oa v hv,ah hv,ah (aT ⟨hv,by decide⟩)]
   ·rw[ag hv,ag (by rw[bS fun h=>hv h.1];decide)]
  ·show ((eP s l).getD (nN s*nW l+nN s) 0).toNat=SX.aN List.length (D0 s l)+SX.aN SX.cw (cu s l (W0 l) (eP s l) (D0 s l)).ph
   have h1:SX.aN SX.cw (cu s l (W0 l) (eP s l) (D0 s l)).ph=0:=SX.wZ fun p hp=>by rw[ng p hp];rfl
   rw[FB,h1,Wa cb];omega
  ·obtain⟨j,hj⟩:=re.1 hc
   obtain⟨h1,h2⟩:=WM hs cb hj
   have:=(cb.rows hn.2.2 _ (cx h1)).2 (v:Int) (dT.2 ⟨v,hv,rfl⟩)
   show v<nN s
   omega
  ·rw[ng p hp]at hv;cases hv
theorem VB(hs:LS s l):vL s l ⟨W0 l,eP s l⟩:=by
 have n0:=hs.k1
 refine⟨by show ((W0 l).length:Int)=l.k;unfold W0;rw[gl];omega,UL hs cb,fun i x hx=>?_⟩
 rw[Ar (cx hx)]
 exact wv0 hs i
end
end Go.Proofs.YtnikdflhefijbaaGreat
