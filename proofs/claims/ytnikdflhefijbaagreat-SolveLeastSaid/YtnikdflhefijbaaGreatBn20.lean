import Derived.Test.YtnikdflhefijbaaGreatBn19
import Derived.Test.YtnikdflhefijbaaGreatBn7
import Derived.Test.YtnikdflhefijbaaGreatBn12
namespace Go.Proofs.YtnikdflhefijbaaGreat
open Go.RowKit
set_option maxRecDepth 100000
set_option maxHeartbeats 4000000
def gD(s:Sy)(l:Lay)(x:WS)(ws:List Int):WS×List Int:=
 (if (gb bG l x.node x.now ws).2.2=true then ek s l x (gb bG l x.node x.now ws).1 else ⟨x.ev,x.jo,x.en,x.does,(gb bG l x.node x.now ws).1,x.node,x.has,x.nx,x.out⟩,(gb bG l x.node x.now ws).2.1)
theorem qV{s:Sy}{l:Lay}{ev jo:Int}{en:Bool}{does node:Int}{now:Nw}{has:Bool}{nx out:List Int}{ws ws':List Int}{n':Nw}{b:Bool}(h:gb bG l node now ws=(n',ws',b)):gD s l ⟨ev,jo,en,does,now,node,has,nx,out⟩ ws=(if b=true then ek s l ⟨ev,jo,en,does,now,node,has,nx,out⟩ n' else ⟨ev,jo,en,does,n',node,has,nx,out⟩,ws'):=by
 unfold gD;dsimp only;rw[h]
section
variable {l:Lay} {node:Int} {ws ws':List Int} {b:Bool}
theorem S1{t t':Tk}(h:kT bG t ws=(t',ws',b)):gb bG l node (.take t) ws=(.take t',ws',b):=by
 show (Nw.take (kT bG t ws).1,(kT bG t ws).2)=_;rw[h]
theorem CI{t t':Jn}(h:iA bG t ws=(t',ws',b)):gb bG l node (.join t) ws=(.join t',ws',b):=by
 show (Nw.join (iA bG t ws).1,(iA bG t ws).2)=_;rw[h]
theorem S3{t t':List Int}(h:mB bG l (aX l node) t ws=(t',ws',b)):gb bG l node (.read t) ws=(.read t',ws',b):=by
 show (Nw.read (mB bG l (aX l node) t ws).1,(mB bG l (aX l node) t ws).2)=_;rw[h]
theorem adY{t t':DQ}(h:fp bG t ws=(t',ws',b)):gb bG l node (.pop t) ws=(.pop t',ws',b):=by
 show (Nw.pop (fp bG t ws).1,(fp bG t ws).2)=_;rw[h]
theorem aco{t t':DQ}(h:gu bG t ws=(t',ws',b)):gb bG l node (.push t) ws=(.push t',ws',b):=by
 show (Nw.push (gu bG t ws).1,(gu bG t ws).2)=_;rw[h]
theorem aal{t t':DQ}(h:gF bG t ws=(t',ws',b)):gb bG l node (.cu t) ws=(.cu t',ws',b):=by
 show (Nw.cu (gF bG t ws).1,(gF bG t ws).2)=_;rw[h]
end
def qm(s:Sy)(l:Lay)(hs:LS s l)(W:List WS)(ws:List Int)(D:List (List Nat))(M i:Nat)(X:WS×List Int):Prop:=
 ∃D' T',RJ s l hs (W.set i X.1) X.2 D' T' (M+1)∧SX.Tr (kL s l hs) (cf s l W ws D) i (cf s l (W.set i X.1) X.2 D')
section
variable {s:Sy} {l:Lay} {hs:LS s l} {W:List WS} {ws:List Int} {D:List (List Nat)} {T:Nat→Nat} {M:Nat}
theorem K5{α:Type}(f:α→Nat)(m:Nat):∀{l:List α},(∀x∈l,f x≤m)→SX.aN f l≤l.length*m
 | [],_=>bD _
 |a::l,h=>by
  have h1:=h a (ck ..)
  have h2:=K5 f m (l:=l) fun x hx=>h x (cW _ hx)
  show f a+SX.aN f l≤(l.length+1)*m
  rw[qB];omega
theorem Si:∀(n:Nat) (l:List Nat),(∀v,l.count v≤1)→(∀v∈l,v<n)→l.length≤n
 | 0,l,_,h2=>by
  cases l with
  |nil=>exact a8 _
  |cons a l=>exact absurd (h2 a (ck ..)) (nR _)
 |n+1,l,h1,h2=>by
  have h3:=Si n (l.erase n) (fun v=>fx (List.Sublist.count_le v (List.erase_sublist ..)) (h1 v)) (fun v hv=>by
   have h4:=h2 v (List.mem_of_mem_erase hv)
   rcases BD (E2 h4) with h5 | rfl
   ·exact h5
   ·have h6:0<(l.erase v).count v:=List.count_pos_iff.2 hv
    rw[List.count_erase_self]at h6
    have:=h1 v
    omega)
  have h7:l.length≤(l.erase n).length+1:=by
   rw[List.length_erase];split <;> omega
  omega
theorem RJ.DX(hR:RJ s l hs W ws D T M){j:Nat}{c:List Nat}(hc:D[j]?=some c):c.length≤nN s∧∀v∈c,v<nN s:=by
 have h1:∀v∈c,v<nN s:=hR.ti.nT c (cq hc)
 refine⟨Si _ _ (fun v=>?_) h1,h1⟩
 have h2:=hR.ti.tok v
 have h3:c.count v≤SX.aN (fun l:List Nat=>l.count v) D:=SX.z7 (fun l:List Nat=>l.count v) D j c hc
 unfold SX.tok at h2
 have h4:SX.aN (fun l:List Nat=>l.count v) (cf s l W ws D).dq=SX.aN (fun l:List Nat=>l.count v) D:=rfl
 rw[h4]at h2
 split at h2 <;> omega
theorem RJ.aH(hR:RJ s l hs W ws D T M):ws.getD (nN s*nW l+nN s) 0≤100000:=by
 have h1:=hR.ti.aH
 have hn:=hs.nn
 have hk:=hs.k2
 have hl:=hR.len
 have h2:SX.aN List.length (cf s l W ws D).dq≤D.length*256:=K5 _ _ fun c hc=>by
  obtain⟨j,hj⟩:=qG.1 hc
  have:=(hR.DX hj).1
  omega
 have h3:SX.aN SX.cw (cf s l W ws D).ph≤(W.map dJ).length*2:=K5 _ _ fun p _=>by
  cases p <;> simp[SX.cw]
 rw[cm]at h3
 have h4:(cf s l W ws D).aH=(ws.getD (nN s*nW l+nN s) 0).toNat:=rfl
 have h5:=hR.dl
 have h6:D.length*256≤64*256:=lY _ (by omega)
 have h7:=hR.kK
 omega
theorem RJ.bound(hR:RJ s l hs W ws D T M)(hM:M<1000000000){j:Nat}{c:List Nat}(hc:D[j]?=some c):T j+(jC c).length<4000000000000000000:=by
 have h1:=(hR.DX hc).1
 have h2:=hR.top j
 have h3:=hs.nn
 rw[cm];omega
theorem RJ.at_(hR:RJ s l hs W ws D T M){i:Nat}{x:WS}(hx:W[i]?=some x):∃c,D[i]?=some c:=by
 have hi:=(cg.1 hx).1
 exact⟨D[i]'(by rw[hR.dl];exact hi),bF _⟩
theorem RJ.lo(hR:RJ s l hs W ws D T M):nN s*nW l+nN s<ws.length:=by
 rw[hR.fl]
 have:=hs.size
 have h2:=hs.low
 omega
theorem s4(hR:RJ s l hs W ws D T M)(i:Nat){t:Nat}(h:t≤M+1)(j:Nat):(if j=i then t else T j)≤M+1:=by
 have:=hR.top j
 split <;> omega
theorem nZ(hR:RJ s l hs W ws D T M)(j:Nat):T j≤M+1:=by
 have:=hR.top j
 omega
theorem jP{A:SX.AP}{S S' S'':SX.AS}{i:Nat}(e:S'=S'')(h:SX.Tr A S i S''):SX.Tr A S i S':=e▸h
theorem ZZ(hR:RJ s l hs W ws D T M){i:Nat}{ev jo:Int}{v:Nat}{has:Bool}{nx out:List Int}(hv:v<nN s)
  (hx:W[i]?=some ⟨ev,jo,false,3,.clear ⟨cX l,du l,v,false⟩,v,has,nx,out⟩) :
  qm s l hs W ws D M i (gD s l ⟨ev,jo,false,3,.clear ⟨cX l,du l,v,false⟩,v,has,nx,out⟩ ws):=by
 have e:gD s l ⟨ev,jo,false,3,.clear ⟨cX l,du l,v,false⟩,v,has,nx,out⟩ ws=(⟨ev,jo,false,4,.none,v,has,nx,out⟩,if (0:Int)≤(v:Nat) then ig ws (wr (cX l+(v:Nat))) 0 else ws):=rfl
 rw[e,ah (by omega),hs.AF hv,lC]
 have pG:=hR.lo
 refine⟨D,T,RJ.fin hR hx (by rw[cN]) ?_ rfl (o8 hR hx (by rw[cN]) (fun a ha=>?_) (fun z h=>by cases h) rfl) (nZ hR) (.inl rfl) (.inl rfl) (fun j h=>by cases h) (fun j h=>by cases h) ?_⟩
 ·rw[j6,ag (by omega)];exact hR.kK
 ·rw[j6,ag (by omega)]
 ·refine jP (Sm (ws:=ws) (D:=D) hx hv (by omega) (by rfl) (by rfl) (by rfl)) ?_
  exact SX.Tr.clear v (mA hx)
theorem ZY(hR:RJ s l hs W ws D T M){i:Nat}{ev jo node:Int}{has:Bool}{nx out:List Int}
  (hx:W[i]?=some ⟨ev,jo,false,2,.quiet ⟨cX l,du l,false,false⟩,node,has,nx,out⟩) :
  qm s l hs W ws D M i (gD s l ⟨ev,jo,false,2,.quiet ⟨cX l,du l,false,false⟩,node,has,nx,out⟩ ws):=by
 have e:gD s l ⟨ev,jo,false,2,.quiet ⟨cX l,du l,false,false⟩,node,has,nx,out⟩ ws=(⟨ev,jo,decide (gJ ws (du l)=0),um l,.none,node,has,nx,out⟩,ws):=rfl
 rw[e,hs.count,nX]
 have VB:=hR.kK
 refine⟨D,T,RJ.fin hR hx rfl hR.kK rfl (o8 hR hx rfl (fun a ha=>rfl) (fun z h=>by cases h) rfl) (nZ hR) (.inl rfl) (.inl rfl) (fun j h=>by cases h) (fun j h=>by cases h) ?_⟩
 refine jP (l6 (ws:=ws) (D:=D) hx (fun _ _=>rfl) (by rfl) (by rfl) D) ?_
 by_cases h0:ws.getD (nN s*nW l+nN s) 0=0
 ·rw[bu h0]
  exact SX.Tr.yJ (mA hx) (show (ws.getD (nN s*nW l+nN s) 0).toNat=0 by omega)
 ·rw[bZ h0]
  have hp:dJ ⟨ev,jo,false,um l,.none,node,has,nx,out⟩=.idle (if (kL s l hs).k<2 then 0 else 1) 0:=by
   show Ec (um l) _ _ _ _=.idle (if l.k.toNat<2 then 0 else 1) 0
   unfold um
   by_cases hk:l.k<2
   ·rw[ah hk,ah (by omega)];rfl
   ·rw[ag hk,ag (by omega)];rfl
  rw[hp]
  exact SX.Tr.ask (mA hx) (show (ws.getD (nN s*nW l+nN s) 0).toNat≠0 by omega)
theorem Yg(hR:RJ s l hs W ws D T M){i:Nat}{ev jo:Int}{v:Nat}{has:Bool}{nx out:List Int}
  (hx:W[i]?=some ⟨ev,jo,false,8,.dU ⟨cX l,du l,0,false⟩,v,has,nx,out⟩) :
  qm s l hs W ws D M i (gD s l ⟨ev,jo,false,8,.dU ⟨cX l,du l,0,false⟩,v,has,nx,out⟩ ws):=by
 have e:gD s l ⟨ev,jo,false,8,.dU ⟨cX l,du l,0,false⟩,v,has,nx,out⟩ ws=(⟨ev,jo,false,0,.none,v,false,nx,out⟩,ni ws (du l) 18446744073709551615):=rfl
 have pG:=hR.lo
 have VB:=hR.kK
 have hc:=hR.aH
 have h1:1≤(ws.getD (nN s*nW l+nN s) 0).toNat:=by
  have h2:=hR.ti.aH
  have h3:=SX.z7 SX.cw (cf s l W ws D).ph i _ (mA (s:=s) (l:=l) (ws:=ws) (D:=D) hx)
  have h4:SX.cw (dJ ⟨ev,jo,false,8,.dU ⟨cX l,du l,0,false⟩,v,has,nx,out⟩)=1:=rfl
  have h5:(cf s l W ws D).aH=(ws.getD (nN s*nW l+nN s) 0).toNat:=rfl
  omega
 have hw:ni ws (du l) 18446744073709551615=ws.set (nN s*nW l+nN s) (ws.getD (nN s*nW l+nN s) 0-1):=by
  unfold ni
  rw[hs.count,ah (Cb (by omega) (by omega)),nX,lC]
  congr 1
  omega
 rw[e,hw]
 refine⟨D,T,RJ.fin hR hx (by rw[cN]) ?_ rfl (o8 hR hx (by rw[cN]) (fun a ha=>?_) (fun z h=>by cases h) rfl) (nZ hR) (.inl rfl) (.inl rfl) (fun j h=>by cases h) (fun j h=>by cases h) ?_⟩
 ·rw[j6,ah ⟨rfl,pG⟩];omega
 ·rw[j6,ag (by omega)]
 ·refine jP (Tv (ws:=ws) (D:=D) hx pG (by rfl) (by rfl) (by rfl)) ?_
  rw[show (ws.getD (nN s*nW l+nN s) 0-1).toNat=(cf s l W ws D).aH-1 by show _=(ws.getD (nN s*nW l+nN s) 0).toNat-1;omega]
  exact SX.Tr.dU v (mA hx)
theorem ZW(hR:RJ s l hs W ws D T M){i:Nat}{ev jo:Int}{v u:Nat}{has:Bool}{nx out:List Int}(hu:u<nN s)
  (hx:W[i]?=some ⟨ev,jo,false,6,.take ⟨cX l,du l,u,false,false,false⟩,v,has,u::nx,out⟩) :
  qm s l hs W ws D M i (gD s l ⟨ev,jo,false,6,.take ⟨cX l,du l,u,false,false,false⟩,v,has,u::nx,out⟩ ws):=by
 have pG:=hR.lo
 obtain⟨k1,k2⟩:=Ha (ws:=ws) (a:=nN s*nW l+u) (by omega) 0 1
 by_cases hf:ws.getD (nN s*nW l+u) 0=0
 ·rw[bu hf]at k1
  rw[ah hf]at k2
  have e:gD s l ⟨ev,jo,false,6,.take ⟨cX l,du l,u,false,false,false⟩,v,has,u::nx,out⟩ ws=(⟨ev,jo,false,6,.take ⟨cX l,du l,u,true,false,true⟩,v,has,u::nx,out⟩,ws.set (nN s*nW l+u) 1):=by
   have e1:kT bG ⟨cX l,du l,u,false,false,false⟩ ws=(⟨cX l,du l,u,true,false,true⟩,ws.set (nN s*nW l+u) 1,false):=by
    show (if (0:Int)≤(u:Nat) then (if nD ws (wr (cX l+(u:Nat))) 0=true then ((⟨cX l,du l,u,true,false,true⟩:Tk),jb ws (wr (cX l+(u:Nat))) 0 1,false) else (⟨cX l,du l,u,false,true,true⟩,jb ws (wr (cX l+(u:Nat))) 0 1,true)) else (⟨cX l,du l,u,false,true,true⟩,ws,true))=_
    rw[ah (by omega),hs.AF hu,k1,k2];rfl
   exact qV (S1 e1)
  rw[e]
  refine⟨D,T,RJ.fin hR hx (by rw[cN]) ?_ rfl (o8 hR hx (by rw[cN]) (fun a ha=>?_) (fun z h=>by cases h) rfl) (nZ hR) (.inl rfl) (.inl rfl) (fun j h=>by cases h) (fun j h=>by cases h) ?_⟩
  ·rw[j6,ag (by omega)];exact hR.kK
  ·rw[j6,ag (by omega)]
  ·refine jP (Sm (ws:=ws) (D:=D) hx hu (by omega) (by rfl) (by rfl) (by rfl)) ?_
   exact SX.Tr.flag v out u (nx.map Int.toNat) (mA hx) (bZ fun h=>h.2 hf)
 ·rw[bZ hf]at k1
  rw[ag hf]at k2
  have e:gD s l ⟨ev,jo,false,6,.take ⟨cX l,du l,u,false,false,false⟩,v,has,u::nx,out⟩ ws=(⟨ev,jo,false,kv (u::nx),.none,v,has,nx,out⟩,ws):=by
   have e1:kT bG ⟨cX l,du l,u,false,false,false⟩ ws=(⟨cX l,du l,u,false,true,true⟩,ws,true):=by
    show (if (0:Int)≤(u:Nat) then (if nD ws (wr (cX l+(u:Nat))) 0=true then ((⟨cX l,du l,u,true,false,true⟩:Tk),jb ws (wr (cX l+(u:Nat))) 0 1,false) else (⟨cX l,du l,u,false,true,true⟩,jb ws (wr (cX l+(u:Nat))) 0 1,true)) else (⟨cX l,du l,u,false,true,true⟩,ws,true))=_
    rw[ah (by omega),hs.AF hu,k1,k2];rfl
   exact qV (S1 e1)
  rw[e]
  refine⟨D,T,RJ.fin hR hx rfl hR.kK rfl (o8 hR hx rfl (fun a ha=>rfl) (fun z h=>by cases h) rfl) (nZ hR) (.inl rfl) (.inl rfl) (fun j h=>by cases h) (fun j h=>by cases h) ?_⟩
  refine jP (l6 (ws:=ws) (D:=D) hx (fun _ _=>rfl) (by rfl) (by rfl) D) ?_
  dsimp only
  rw[CF (nx:=nx) (does:=kv (u::nx)) rfl]
  exact SX.Tr.yQ v out u (nx.map Int.toNat) (mA hx) (bu ⟨hu,hf⟩)
theorem ZV(hR:RJ s l hs W ws D T M){i:Nat}{ev jo:Int}{v u:Nat}{has:Bool}{nx out:List Int}
  (hx:W[i]?=some ⟨ev,jo,false,6,.take ⟨cX l,du l,u,true,false,true⟩,v,has,u::nx,out⟩) :
  qm s l hs W ws D M i (gD s l ⟨ev,jo,false,6,.take ⟨cX l,du l,u,true,false,true⟩,v,has,u::nx,out⟩ ws):=by
 have e:gD s l ⟨ev,jo,false,6,.take ⟨cX l,du l,u,true,false,true⟩,v,has,u::nx,out⟩ ws=(⟨ev,jo,false,7,.none,v,has,u::nx,out⟩,ni ws (du l) 1):=rfl
 have pG:=hR.lo
 have VB:=hR.kK
 have hc:=hR.aH
 have hw:ni ws (du l) 1=ws.set (nN s*nW l+nN s) (ws.getD (nN s*nW l+nN s) 0+1):=by
  unfold ni
  rw[hs.count,ah (Cb (by omega) (by omega)),nX,lC]
  congr 1
  omega
 rw[e,hw]
 refine⟨D,T,RJ.fin hR hx (by rw[cN]) ?_ rfl (o8 hR hx (by rw[cN]) (fun a ha=>?_) (fun z h=>by cases h) rfl) (nZ hR) (.inl rfl) (.inl rfl) (fun j h=>by cases h) (fun j h=>by cases h) ?_⟩
 ·rw[j6,ah ⟨rfl,pG⟩];omega
 ·rw[j6,ag (by omega)]
 ·refine jP (Tv (ws:=ws) (D:=D) hx pG (by rfl) (by rfl) (by rfl)) ?_
  rw[show (ws.getD (nN s*nW l+nN s) 0+1).toNat=(cf s l W ws D).aH+1 by show _=(ws.getD (nN s*nW l+nN s) 0).toNat+1;omega]
  exact SX.Tr.add v out u (nx.map Int.toNat) (mA hx)
theorem abM(hR:RJ s l hs W ws D T M)(hM:M<1000000000)(Ny:MV s l ws){i:Nat}{ev jo:Int}{v:Nat}{has:Bool}{nx out y:List Int}(hv:v<nN s)
  (hy:y.length<nW l∨(nW l=0∧y=[])) (hk:∀i,i<y.length→fO s.what s.w i (wd y i)) (hx:W[i]?=some ⟨ev,jo,false,4,.read y,v,has,nx,out⟩) :
  qm s l hs W ws D M i (gD s l ⟨ev,jo,false,4,.read y,v,has,nx,out⟩ ws):=by
 have hE:=(hR.ev _ (cq hx)).1
 have EP:=(hR.ev _ (cq hx)).2.1
 dsimp only at hE EP
 have hew:wr (ev+1)=ev+1:=by show IntKind.i64.wrap _=_;rw[IntKind.wrap_i64];omega
 have done:∀y':List Int,((y.length+1=nW l∧y'=y++[(cf s l W ws D).cell v y.length])∨(nW l=0∧y'=[]))→eu s.what s.w y'→qm s l hs W ws D M i (ek s l ⟨ev,jo,false,4,.read y,v,has,nx,out⟩ (.read y'),ws):=by
  intro y' tH yR
  have hn:jd s v=0:=(F4 (QS hs.iS) ⟨by omega,by have:=hs.nn;omega⟩).symm
  rw[ab0 (RL hn yR.v)]
  dsimp only
  rw[hew]
  refine⟨D,T,RJ.fin hR hx rfl hR.kK rfl (o8 hR hx rfl (fun a ha=>rfl) (fun z h=>by cases h) rfl) (nZ hR) (.inr rfl) (.inl rfl) (fun j h=>by cases h) (fun j h=>by cases h) ?_⟩
  refine jP (aei (ws:=ws) (D:=D) hx (show (ev+1).toNat=ev.toNat+1 by omega) (by rfl)) ?_
  dsimp only
  rw[CF (does:=uD s v) rfl]
  exact SX.Tr.yx v y y' (mA hx) tH
 by_cases hl:y.length<nW l
 ·have er:gJ ws (wr (aX l v+(y.length:Nat)))=(cf s l W ws D).cell v y.length:=by
   rw[hs.AI hv hl,nX]
   show _=if _ then _ else _
   rw[ah ⟨hv,hl⟩]
  have nL:=adJ (l:=l) (base:=aX l v) hl er
  have e:gD s l ⟨ev,jo,false,4,.read y,v,has,nx,out⟩ ws=(if decide (y.length+1=cw l.words)=true then ek s l ⟨ev,jo,false,4,.read y,v,has,nx,out⟩ (.read (y++[(cf s l W ws D).cell v y.length])) else ⟨ev,jo,false,4,.read (y++[(cf s l W ws D).cell v y.length]),v,has,nx,out⟩,ws):=by
   exact qV (S3 nL)
  rw[e]
  have sq:fO s.what s.w y.length ((cf s l W ws D).cell v y.length):=by
   rw[← er,hs.AI hv hl]
   exact Ny.load hv hl
  by_cases he:y.length+1=nW l
  ·rw[ah (bu he)]
   refine done _ (.inl ⟨he,rfl⟩) ((hs.re).2 ⟨by simp;omega,fun j hj=>?_⟩)
   rw[rX,TL]
   by_cases h2:j<y.length
   ·rw[ah h2];exact hk j h2
   ·rw[ag h2,ah (by omega),show j=y.length by omega];exact sq
  ·rw[ag (by rw[bZ he];decide)]
   refine⟨D,T,RJ.fin hR hx rfl hR.kK rfl (o8 hR hx rfl (fun a ha=>rfl) (fun z h=>by cases h) rfl) (nZ hR) (.inl rfl) (.inl rfl) (fun j h=>by cases h) (fun j h=>by cases h) ?_⟩
   refine jP (l6 (ws:=ws) (D:=D) hx (fun _ _=>rfl) (by rfl) (by rfl) D) ?_
   exact SX.Tr.yw v y (mA hx) (show y.length+1<nW l by omega)
 ·obtain⟨h0,rfl⟩:=hy.resolve_left hl
  have e:gD s l ⟨ev,jo,false,4,.read [],v,has,nx,out⟩ ws=(ek s l ⟨ev,jo,false,4,.read [],v,has,nx,out⟩ (.read []),ws):=by
   have e1:mB bG l (aX l v) [] ws=([],ws,true):=ag (by show ¬0<cw l.words;show ¬0<nW l;omega)
   exact qV (S3 e1)
  rw[e]
  exact done _ (.inr ⟨h0,rfl⟩) ((hs.re).2 ⟨by rw[h0];rfl,fun j hj=>by omega⟩)
theorem SJ(hs:LS s l){ev jo:Int}{v u:Nat}{has:Bool}{nx out:List Int}(j:Jn)(mS:0≤jo)(hjo2:jo<1000000000)(hw:j.words=l.words)(Bj:j.fu=false):
  ∃x':WS,(if (gQ j).2=true then ek s l ⟨ev,jo,false,5,.join j,v,has,u::nx,out⟩ (.join (gQ j).1) else ⟨ev,jo,false,5,.join (gQ j).1,v,has,u::nx,out⟩)=x'∧dJ x'=(SX.fe (kL s l hs) v out u (nx.map Int.toNat) j.at_ j.changed).1∧x'.ev=ev∧x'.jo.toNat=jo.toNat+(SX.fe (kL s l hs) v out u (nx.map Int.toNat) j.at_ j.changed).2∧(x'.jo=jo∨x'.jo=jo+1)∧(∀z,x'.now≠.cu z)∧r7 x'.now=none∧(∀j,x'.now=.join j→j.fu=false)∧(∀q,x'.now≠.push q):=by
 have hjw:wr (jo+1)=jo+1:=by show IntKind.i64.wrap _=_;rw[IntKind.wrap_i64];omega
 unfold SX.fe
 by_cases h1:j.at_+1<cw l.words
 ·have zd:gQ j=({ j with at_:=j.at_+1 },false):=by unfold gQ;rw[hw,ah h1]
  rw[zd,ah (show j.at_+1<(kL s l hs).W from h1)]
  dsimp only
  rw[ag BB]
  refine⟨_,rfl,?_,rfl,rfl,.inl rfl,fun z h=>Nw.noConfusion h,rfl,fun j' h=>?_,fun q h=>Nw.noConfusion h⟩
  ·show SX.Ph.join _ _ _ _ _ (if j.fu=true then _ else _) _=_
   rw[Bj];rfl
  ·cases h;exact Bj
 ·have zd:gQ j=({ j with at_:=j.at_+1,ended:=true },true):=by unfold gQ;rw[hw,ag h1]
  rw[zd,ag (show ¬j.at_+1<(kL s l hs).W from h1)]
  dsimp only
  rw[ah rfl]
  cases hc:j.changed with
  |true=>
   have e:ek s l ⟨ev,jo,false,5,.join j,v,has,u::nx,out⟩ (.join { j with at_:=j.at_+1,ended:=true })=⟨ev,jo+1,false,6,.none,v,has,u::nx,out⟩:=by
    show (if j.changed=true then _ else _)=_
    rw[ah hc]
    dsimp only
    rw[hjw]
   rw[hc]at e
   refine⟨_,e,?_,rfl,?_,.inr rfl,fun z h=>Nw.noConfusion h,rfl,fun j' h=>Nw.noConfusion h,fun q h=>Nw.noConfusion h⟩
   ·rw[ah rfl];rfl
   ·rw[ah rfl];show (jo+1).toNat=jo.toNat+1;omega
  |false=>
   have e:ek s l ⟨ev,jo,false,5,.join j,v,has,u::nx,out⟩ (.join { j with at_:=j.at_+1,ended:=true })=⟨ev,jo,false,kv (u::nx),.none,v,has,nx,out⟩:=by
    show (if j.changed=true then _ else _)=_
    rw[ag (by rw[hc];decide)]
    rfl
   rw[hc]at e
   refine⟨_,e,?_,rfl,?_,.inl rfl,fun z h=>Nw.noConfusion h,rfl,fun j' h=>Nw.noConfusion h,fun q h=>Nw.noConfusion h⟩
   ·rw[ag BB];exact CF (nx:=nx) (does:=kv (u::nx)) rfl
   ·rw[ag BB];rfl
theorem abO(hR:RJ s l hs W ws D T M)(hM:M<1000000000){i:Nat}{ev jo:Int}{v u:Nat}{has:Bool}{nx out:List Int}(hu:u<nN s)(j:Jn)
  (hj:j.base=aX l u∧j.what=l.what∧j.words=l.words∧j.a=out) (lf:j.ended=false) (cx:j.at_≤nW l) (w6:j.at_<nW l∨(j.at_=0∧j.fu=false∧j.changed=false)) (af6:j.fu=true→j.at_<nW l)
  (hx:W[i]?=some ⟨ev,jo,false,5,.join j,v,has,u::nx,out⟩) :
  qm s l hs W ws D M i (gD s l ⟨ev,jo,false,5,.join j,v,has,u::nx,out⟩ ws):=by
 have hE:=hR.ev _ (cq hx)
 dsimp only at hE
 have hJ:=hR.jn _ (cq hx) j rfl
 have hp:=mA (s:=s) (l:=l) (ws:=ws) (D:=D) hx
 have pG:=hR.lo
 obtain⟨base,what,words,a,changed,ended,tries,at_,fu,xx⟩:=j
 obtain⟨rfl,rfl,rfl,rfl⟩:=hj
 dsimp only at lf cx w6 af6 hJ
 subst lf
 by_cases h0:at_=nW l
 ·obtain⟨h1,h2,h3⟩:=w6.resolve_left (by omega)
  subst h1 h2 h3
  have I0:nW l=0:=h0.symm
  have e:gD s l ⟨ev,jo,false,5,.join ⟨aX l u,l.what,l.words,a,false,false,tries,0,false,xx⟩,v,has,u::nx,a⟩ ws=(⟨ev,jo,false,kv (u::nx),.none,v,has,nx,a⟩,ws):=by
   have e1:iA bG ⟨aX l u,l.what,l.words,a,false,false,tries,0,false,xx⟩ ws=(⟨aX l u,l.what,l.words,a,false,true,tries,0,false,xx⟩,ws,true):=by
    exact ah h0
   exact qV (CI e1)
  rw[e]
  refine⟨D,T,RJ.fin hR hx rfl hR.kK rfl (o8 hR hx rfl (fun a ha=>rfl) (fun z h=>by cases h) rfl) (nZ hR) (.inl rfl) (.inl rfl) (fun j h=>by cases h) (fun j h=>by cases h) ?_⟩
  refine jP (l6 (ws:=ws) (D:=D) hx (fun _ _=>rfl) (by rfl) (by rfl) D) ?_
  dsimp only
  rw[CF (nx:=nx) (does:=kv (u::nx)) rfl]
  exact SX.Tr.none v a u (nx.map Int.toNat) hp I0
 have ab:at_<nW l:=by omega
 have er:ws.getD (u*nW l+at_) 0=(cf s l W ws D).cell u at_:=by
  show _=if _ then _ else _
  rw[ah ⟨hu,ab⟩]
 have lH:=sW hu ab
 have IY:=hs.AI hu ab
 have Np:=hs.what
 have NR:wd a at_=a.getD at_ 0:=(rX a at_).symm
 cases fu with
 |true=>
  have hJ:=hJ rfl
  obtain⟨k1,k2⟩:=Ha (ws:=ws) (a:=u*nW l+at_) (by omega) xx (cT l.what xx (wd a at_))
  by_cases hf:ws.getD (u*nW l+at_) 0=xx
  ·rw[bu hf]at k1
   rw[ah hf]at k2
   obtain⟨x',jW,q1,q2,q3,q4,q5,q6,q7,q8⟩:=SJ hs (ev:=ev) (v:=v) (u:=u) (has:=has) (nx:=nx) (out:=a) ⟨aX l u,l.what,l.words,a,true,false,tries,at_,false,xx⟩ hE.2.2.1 (by omega) rfl rfl
   have e:gD s l ⟨ev,jo,false,5,.join ⟨aX l u,l.what,l.words,a,changed,false,tries,at_,true,xx⟩,v,has,u::nx,a⟩ ws=(x',ws.set (u*nW l+at_) (cT l.what xx (wd a at_))):=by
    have e1:iA bG ⟨aX l u,l.what,l.words,a,changed,false,tries,at_,true,xx⟩ ws=((gQ ⟨aX l u,l.what,l.words,a,true,false,tries,at_,false,xx⟩).1,ws.set (u*nW l+at_) (cT l.what xx (wd a at_)),(gQ ⟨aX l u,l.what,l.words,a,true,false,tries,at_,false,xx⟩).2):=by
     show (if at_=cw l.words then ((⟨aX l u,l.what,l.words,a,changed,true,tries,at_,true,xx⟩:Jn),ws,true) else if nD ws (wr (aX l u+(at_:Nat))) xx=true then ((gQ ⟨aX l u,l.what,l.words,a,true,false,tries,at_,false,xx⟩).1,jb ws (wr (aX l u+(at_:Nat))) xx (cT l.what xx (wd a at_)),(gQ ⟨aX l u,l.what,l.words,a,true,false,tries,at_,false,xx⟩).2) else (⟨aX l u,l.what,l.words,a,changed,false,wr (tries+1),at_,false,xx⟩,jb ws (wr (aX l u+(at_:Nat))) xx (cT l.what xx (wd a at_)),false))=_
     rw[ag h0,IY,k1,k2,ah rfl]
    rw[← jW]
    exact qV (CI e1)
   rw[e]
   refine⟨D,T,RJ.fin hR hx (by rw[cN]) ?_ rfl (o8 hR hx (by rw[cN]) (fun a ha=>?_) q5 q6.symm) (nZ hR) (.inl q2) q4 (fun j h h2=>absurd ((q7 j h).symm.trans h2) (by decide)) (fun q h=>absurd h (q8 q)) ?_⟩
   ·rw[j6,ag (by omega)];exact hR.kK
   ·rw[j6,ag (by omega)]
   ·refine jP (ab5 (ws:=ws) (D:=D) hx hu ab (by omega) (by rfl) q2 _ q3) ?_
    rw[q1]
    rw[NR,Np]at hJ ⊢
    have h9:xx=(cf s l W ws D).cell u at_:=hf.symm.trans er
    have hp:(cf s l W ws D).ph[i]?=some (.join v a u (nx.map Int.toNat) at_ (some xx) changed):=hp
    rw[h9]at hp hJ ⊢
    exact SX.Tr.yZ v a u (nx.map Int.toNat) at_ changed hp ab hJ
  ·rw[bZ hf]at k1
   rw[ag hf]at k2
   have e:gD s l ⟨ev,jo,false,5,.join ⟨aX l u,l.what,l.words,a,changed,false,tries,at_,true,xx⟩,v,has,u::nx,a⟩ ws=(⟨ev,jo,false,5,.join ⟨aX l u,l.what,l.words,a,changed,false,wr (tries+1),at_,false,xx⟩,v,has,u::nx,a⟩,ws):=by
    have e1:iA bG ⟨aX l u,l.what,l.words,a,changed,false,tries,at_,true,xx⟩ ws=(⟨aX l u,l.what,l.words,a,changed,false,wr (tries+1),at_,false,xx⟩,ws,false):=by
     show (if at_=cw l.words then ((⟨aX l u,l.what,l.words,a,changed,true,tries,at_,true,xx⟩:Jn),ws,true) else if nD ws (wr (aX l u+(at_:Nat))) xx=true then ((gQ ⟨aX l u,l.what,l.words,a,true,false,tries,at_,false,xx⟩).1,jb ws (wr (aX l u+(at_:Nat))) xx (cT l.what xx (wd a at_)),(gQ ⟨aX l u,l.what,l.words,a,true,false,tries,at_,false,xx⟩).2) else (⟨aX l u,l.what,l.words,a,changed,false,wr (tries+1),at_,false,xx⟩,jb ws (wr (aX l u+(at_:Nat))) xx (cT l.what xx (wd a at_)),false))=_
     rw[ag h0,IY,k1,k2,ag (by decide)]
    exact qV (CI e1)
   rw[e]
   refine⟨D,T,RJ.fin hR hx rfl hR.kK rfl (o8 hR hx rfl (fun a ha=>rfl) (fun z h=>by cases h) rfl) (nZ hR) (.inl rfl) (.inl rfl) (fun j h h2=>by cases h;cases h2) (fun j h=>by cases h) ?_⟩
   refine jP (l6 (ws:=ws) (D:=D) hx (fun _ _=>rfl) (by rfl) (by rfl) D) ?_
   exact SX.Tr.lost v a u (nx.map Int.toNat) at_ changed xx hp ab (fun h=>hf (er.trans h))
 |false=>
  by_cases hf:cT l.what (ws.getD (u*nW l+at_) 0) (wd a at_)=ws.getD (u*nW l+at_) 0
  ·obtain⟨x',jW,q1,q2,q3,q4,q5,q6,q7,q8⟩:=SJ hs (ev:=ev) (v:=v) (u:=u) (has:=has) (nx:=nx) (out:=a) ⟨aX l u,l.what,l.words,a,changed,false,tries,at_,false,ws.getD (u*nW l+at_) 0⟩ hE.2.2.1 (by omega) rfl rfl
   have e:gD s l ⟨ev,jo,false,5,.join ⟨aX l u,l.what,l.words,a,changed,false,tries,at_,false,xx⟩,v,has,u::nx,a⟩ ws=(x',ws):=by
    have e1:iA bG ⟨aX l u,l.what,l.words,a,changed,false,tries,at_,false,xx⟩ ws=((gQ ⟨aX l u,l.what,l.words,a,changed,false,tries,at_,false,ws.getD (u*nW l+at_) 0⟩).1,ws,(gQ ⟨aX l u,l.what,l.words,a,changed,false,tries,at_,false,ws.getD (u*nW l+at_) 0⟩).2):=by
     show (if at_=cw l.words then ((⟨aX l u,l.what,l.words,a,changed,true,tries,at_,false,xx⟩:Jn),ws,true) else if cT l.what (gJ ws (wr (aX l u+(at_:Nat)))) (wd a at_)=gJ ws (wr (aX l u+(at_:Nat))) then ((gQ ⟨aX l u,l.what,l.words,a,changed,false,tries,at_,false,gJ ws (wr (aX l u+(at_:Nat)))⟩).1,ws,(gQ ⟨aX l u,l.what,l.words,a,changed,false,tries,at_,false,gJ ws (wr (aX l u+(at_:Nat)))⟩).2) else (⟨aX l u,l.what,l.words,a,changed,false,tries,at_,true,gJ ws (wr (aX l u+(at_:Nat)))⟩,ws,false))=_
     rw[ag h0,IY,nX,ah hf]
    rw[← jW]
    exact qV (CI e1)
   rw[e]
   refine⟨D,T,RJ.fin hR hx rfl hR.kK rfl (o8 hR hx rfl (fun a ha=>rfl) q5 q6.symm) (nZ hR) (.inl q2) q4 (fun j h h2=>absurd ((q7 j h).symm.trans h2) (by decide)) (fun q h=>absurd h (q8 q)) ?_⟩
   refine jP (aeh (ws:=ws) (D:=D) hx q2 _ q3) ?_
   rw[q1]
   refine SX.Tr.same v a u (nx.map Int.toNat) at_ changed hp ab ?_
   show cT s.what _ _=_
   rw[← er,← NR,← Np];exact hf
  ·have e:gD s l ⟨ev,jo,false,5,.join ⟨aX l u,l.what,l.words,a,changed,false,tries,at_,false,xx⟩,v,has,u::nx,a⟩ ws=(⟨ev,jo,false,5,.join ⟨aX l u,l.what,l.words,a,changed,false,tries,at_,true,ws.getD (u*nW l+at_) 0⟩,v,has,u::nx,a⟩,ws):=by
    have e1:iA bG ⟨aX l u,l.what,l.words,a,changed,false,tries,at_,false,xx⟩ ws=(⟨aX l u,l.what,l.words,a,changed,false,tries,at_,true,ws.getD (u*nW l+at_) 0⟩,ws,false):=by
     show (if at_=cw l.words then ((⟨aX l u,l.what,l.words,a,changed,true,tries,at_,false,xx⟩:Jn),ws,true) else if cT l.what (gJ ws (wr (aX l u+(at_:Nat)))) (wd a at_)=gJ ws (wr (aX l u+(at_:Nat))) then ((gQ ⟨aX l u,l.what,l.words,a,changed,false,tries,at_,false,gJ ws (wr (aX l u+(at_:Nat)))⟩).1,ws,(gQ ⟨aX l u,l.what,l.words,a,changed,false,tries,at_,false,gJ ws (wr (aX l u+(at_:Nat)))⟩).2) else (⟨aX l u,l.what,l.words,a,changed,false,tries,at_,true,gJ ws (wr (aX l u+(at_:Nat)))⟩,ws,false))=_
     rw[ag h0,IY,nX,ag hf]
    exact qV (CI e1)
   rw[e]
   refine⟨D,T,RJ.fin hR hx rfl hR.kK rfl (o8 hR hx rfl (fun a ha=>rfl) (fun z h=>by cases h) rfl) (nZ hR) (.inl rfl) (.inl rfl) (fun j h h2=>by cases h;exact hf) (fun j h=>by cases h) ?_⟩
   refine jP (l6 (ws:=ws) (D:=D) hx (fun _ _=>rfl) (by rfl) (by rfl) D) ?_
   have h9:dJ ⟨ev,jo,false,5,.join ⟨aX l u,l.what,l.words,a,changed,false,tries,at_,true,ws.getD (u*nW l+at_) 0⟩,v,has,u::nx,a⟩=.join v a u (nx.map Int.toNat) at_ (some ((cf s l W ws D).cell u at_)) changed:=by rw[← er];rfl
   rw[h9]
   refine SX.Tr.load v a u (nx.map Int.toNat) at_ changed hp ab ?_
   show ¬cT s.what _ _=_
   rw[← er,← NR,← Np];exact hf
end
set_option maxHeartbeats 4000000
theorem adO{q q':DQ}{ws ws':List Int}(he:q.ended=false)(h:fp bG q ws=(q',ws',false)):q'.at_=q.at_+1:=by
 unfold fp at h
 rw[he,ag (by decide)]at h
 (repeat' split at h) <;> cases h <;> rfl
theorem ac5{q q':DQ}{ws ws':List Int}(he:q.ended=false)(h:gu bG q ws=(q',ws',false)):q'.at_=q.at_+1∧q.at_<3:=by
 unfold gu at h
 rw[he,ag (by decide)]at h
 by_cases h0:q.at_=0
 ·rw[ah h0]at h;cases h;exact⟨rfl,by omega⟩
 by_cases h1:q.at_=1
 ·rw[ag h0,ah h1]at h
  split at h
  ·cases h
  ·cases h;exact⟨rfl,by omega⟩
 by_cases h2:q.at_=2
 ·rw[ag h0,ag h1,ah h2]at h;cases h;exact⟨rfl,by omega⟩
 ·rw[ag h0,ag h1,ag h2]at h;cases h
theorem aa3{q q':DQ}{ws ws':List Int}(he:q.ended=false)(hk:q.ok=false)(h:gu bG q ws=(q',ws',true))(ho:q'.ok=true)(h3:q.at_≤3):q.at_=3:=by
 unfold gu at h
 rw[he,ag (by decide)]at h
 by_cases h0:q.at_=0
 ·rw[ah h0]at h;cases h
 by_cases h1:q.at_=1
 ·rw[ag h0,ah h1]at h
  split at h
  ·cases h;exact absurd (hk.symm.trans ho) (by decide)
  ·cases h
 by_cases h2:q.at_=2
 ·rw[ag h0,ag h1,ah h2]at h;cases h
 ·omega
theorem ZT{q q':DQ}{ws ws':List Int}(he:q.ended=false)(h:gF bG q ws=(q',ws',false)):q'.at_=q.at_+1∧q.at_<3:=by
 unfold gF at h
 rw[he,ag (by decide)]at h
 by_cases h0:q.at_=0
 ·rw[ah h0]at h;cases h;exact⟨rfl,by omega⟩
 by_cases h1:q.at_=1
 ·rw[ag h0,ah h1]at h
  split at h
  ·cases h
  ·cases h;exact⟨rfl,by omega⟩
 by_cases h2:q.at_=2
 ·rw[ag h0,ag h1,ah h2]at h;cases h;exact⟨rfl,by omega⟩
 ·rw[ag h0,ag h1,ag h2]at h;cases h
theorem Zg{c:List Nat}{c':List Int}{n:Int}(h:jC c=c'++[n]):∃(c0:List Nat) (v:Nat),c=c0++[v]∧c'=jC c0∧n=(v:Int):=by
 obtain⟨l1,l2,h1,h2,h3⟩:=List.map_eq_append_iff.1 h
 obtain⟨v,h4,h5⟩:=List.map_eq_singleton_iff.1 h3
 exact⟨l1,v,by rw[h1,h4],h2.symm,h5.symm⟩
theorem Q8{c:List Nat}{c':List Int}{n:Int}(h:jC c=n::c'):∃(v:Nat) (c0:List Nat),c=v::c0∧n=(v:Int)∧c'=jC c0:=by
 cases c with
 |nil=>cases h
 |cons v c0=>
  have h:(v:Int)::jC c0=n::c':=h
  injection h with h1 h2
  exact⟨v,c0,rfl,h1.symm,h2.symm⟩
theorem KT{c:List Nat}(h:jC c=[]):c=[]:=List.map_eq_nil_iff.1 h
theorem Ak{s:Sy}{l:Lay}(hs:LS s l){v:Nat}(hv:v<nN s):qT l v=3∧o7 l v=v:=by
 have h1:=hs.nn
 have h2:=hs.n
 have h3:wu l.n=(nN s:Int):=by show IntKind.u64.wrap _=_;rw[IntKind.wrap_u64];omega
 unfold qT o7
 rw[h3,ag (by omega),ag (by omega)]
 exact⟨rfl,iM (by omega) (by omega)⟩
theorem G9{ev jo does node:Int}{has:Bool}{nx out:List Int}(q:DQ):dJ ⟨ev,jo,false,does,.pop q,node,has,nx,out⟩=if q.at_=5∧q.ok=true then .held q.x.toNat else .idle 0 q.at_:=rfl
section
variable {s:Sy} {l:Lay} {hs:LS s l} {W:List WS} {ws:List Int} {D:List (List Nat)} {T:Nat→Nat} {M:Nat}
theorem Lr(hs:LS s l){j:Nat}(hj:j≤64):gO s l j<1000000000:=by
 have h1:=hs.nn
 have h2:=hs.ww
 have h3:=rW h1.2.2 h2.2
 have h4:j*(nN s+3)≤64*259:=tS hj (by omega)
 unfold gO;omega
theorem LH{i:Nat}{ws':List Int}(jk:∀a,¬(gO s l i≤a∧a<gO s l i+2+rm (eg l))→ws'.getD a 0=ws.getD a 0)(a:Nat)(h:a<nN s*nW l+nN s+1):ws'.getD a 0=ws.getD a 0:=
 jk a fun h2=>by unfold gO at h2;omega
theorem adz(hR:RJ s l hs W ws D T M)(hM:M<1000000000){i:Nat}{ev jo:Int}{node:Int}{has:Bool}{nx out:List Int}(q:DQ)(lf:q.ended=false)(h5:q.at_≤5)(hxq:0≤q.x)
  (hx:W[i]?=some ⟨ev,jo,false,0,.pop q,node,has,nx,out⟩) :
  qm s l hs W ws D M i (gD s l ⟨ev,jo,false,0,.pop q,node,has,nx,out⟩ ws):=by
 obtain⟨c,hc⟩:=hR.at_ hx
 have hi:=(cg.1 hx).1
 have hlen:=hR.len
 have dX:=hs.k2
 have hD:=hR.di i c hc
 rw[Aa hx]at hD
 have hD:DI (gO s l i) (eg l) ws (some (true,q)) (lO s l W i) (T i) (jC c):=hD
 obtain⟨q',ws',e,ao⟩:∃q' ws' e,fp bG q ws=(q',ws',e):=⟨_,_,_,rfl⟩
 obtain⟨h1,jk,hb,Dj⟩:=adP hD (Lr hs (by omega)) (hR.bound hM hc) ao
 have fg:=LH (s:=s) (l:=l) jk
 have IW:=hR.DX hc
 have iL:0≤ws'.getD (nN s*nW l+nN s) 0:=by rw[fg _ (by omega)];exact hR.kK
 have hp:=mA (s:=s) (l:=l) (ws:=ws) (D:=D) hx
 have yS:=hR.top i
 have Eo:gD s l ⟨ev,jo,false,0,.pop q,node,has,nx,out⟩ ws=(if e=true then ek s l ⟨ev,jo,false,0,.pop q,node,has,nx,out⟩ (.pop q') else ⟨ev,jo,false,0,.pop q',node,has,nx,out⟩,ws'):=by
  exact qV (adY ao)
 rw[Eo]
 have mP:¬(q.at_=5∧q.ok=true)→(cf s l W ws D).ph[i]?=some (.idle 0 q.at_):=fun h=>by
  rw[hp,G9,ag h]
 rcases Dj with ⟨rfl,h6,h7,hd⟩ | ⟨rfl,h6,pF,rC,hd⟩ | ⟨rfl,pF,h6,rC,hd⟩ | ⟨rfl,pF,h6,c',rC,hd⟩ | ⟨rfl,pF,h6,h7,IN,rC,hd⟩
 ·rw[ag (by decide)]
  have cx:=adO lf ao
  have kH:=wV hR hx (x':=⟨ev,jo,false,0,.pop q',node,has,nx,out⟩) h1 jk (fun z h=>by cases h) hd
  rw[qM hc]at kH
  refine⟨D,_,RJ.fin hR hx h1 iL rfl kH (s4 hR i (by omega)) (.inl rfl) (.inl rfl) (fun j h=>by cases h) (fun j h=>by cases h) ?_⟩
  refine jP (l6 (ws:=ws) (D:=D) hx fg (by rfl) (by rfl) D) ?_
  have h9:dJ ⟨ev,jo,false,0,.pop q',node,has,nx,out⟩=.idle 0 (q.at_+1):=by
   rw[G9,ag fun h=>by rw[h7 h.1]at h;exact absurd h.2 (by decide),cx]
  rw[h9]
  exact SX.Tr.yL q.at_ (mP fun h=>h6 h.1) (Nat.lt_of_le_of_ne h5 h6)
 ·rw[ag (by decide)]
  obtain⟨v,c0,rfl,Ep,mn⟩:=Q8 rC
  have nP:=KT mn.symm
  subst nP
  refine⟨D.set i [],_,RJ.fin hR hx h1 iL (by rw[cN]) (wV hR hx (x':=⟨ev,jo,false,0,.pop q',node,has,nx,out⟩) (c':=[]) h1 jk (fun z h=>by cases h) hd) (s4 hR i (by omega)) (.inl rfl) (.inl rfl) (fun j h=>by cases h) (fun j h=>by cases h) ?_⟩
  refine jP (l6 (ws:=ws) (D:=D) hx fg (by rfl) (by rfl) (D.set i [])) ?_
  have h9:dJ ⟨ev,jo,false,0,.pop q',node,has,nx,out⟩=.held v:=by
   rw[G9,ah ⟨h6,pF⟩,Ep];rfl
  rw[h9]
  have ho:yX (gO s l i) (eg l) (lO s l W i) (T i) (jC [v]) q:=hD.ow
  exact SX.Tr.cas v q.at_ (mP fun h=>absurd (ho.a5 h.1) (by simp)) hc
 ·rw[ah rfl]
  have nP:=KT rC
  subst nP
  have hb:ek s l ⟨ev,jo,false,0,.pop q,node,has,nx,out⟩ (.pop q')=⟨ev,jo,false,qQ l,.none,node,has,nx,out⟩:=ag (by rw[pF];decide)
  rw[hb]
  have kH:=wV hR hx (x':=⟨ev,jo,false,qQ l,.none,node,has,nx,out⟩) h1 jk (fun z h=>by cases h) hd
  rw[qM hc]at kH
  refine⟨D,_,RJ.fin hR hx h1 iL rfl kH (s4 hR i (by omega)) (.inl rfl) (.inl rfl) (fun j h=>by cases h) (fun j h=>by cases h) ?_⟩
  refine jP (l6 (ws:=ws) (D:=D) hx fg (by rfl) (by rfl) D) ?_
  have h9:dJ ⟨ev,jo,false,qQ l,.none,node,has,nx,out⟩=.idle (if (kL s l hs).k<2 then 2 else 1) 0:=by
   show Ec (qQ l) _ _ _ _=.idle (if l.k.toNat<2 then 2 else 1) 0
   unfold qQ
   by_cases hk:l.k<2
   ·rw[ah hk,ah (by omega)];rfl
   ·rw[ag hk,ag (by omega)];rfl
  rw[h9]
  exact SX.Tr.yM q.at_ (mP fun h=>by have:=h6 h.1;rw[this]at h;exact absurd h.2 (by decide)) hc
 ·rw[ah rfl]
  obtain⟨c0,v,rfl,rfl,Ep⟩:=Zg rC
  have hv:v<nN s:=IW.2 v (by simp)
  have hb:ek s l ⟨ev,jo,false,0,.pop q,node,has,nx,out⟩ (.pop q')=⟨ev,jo,false,3,.none,v,true,nx,out⟩:=by
   show (if q'.ok=true then _ else _)=_
   rw[ah pF,Ep,(Ak hs hv).1,(Ak hs hv).2]
  rw[hb]
  refine⟨D.set i c0,_,RJ.fin hR hx h1 iL (by rw[cN]) (wV hR hx (x':=⟨ev,jo,false,3,.none,v,true,nx,out⟩) (c':=c0) h1 jk (fun z h=>by cases h) hd) (s4 hR i (by omega)) (.inl rfl) (.inl rfl) (fun j h=>by cases h) (fun j h=>by cases h) ?_⟩
  refine jP (l6 (ws:=ws) (D:=D) hx fg (by rfl) (by rfl) (D.set i c0)) ?_
  exact SX.Tr.pop v c0 q.at_ (mP fun h=>by omega) hc
 ·rw[ah rfl]
  have nP:=KT rC
  subst nP
  have Vs:(cf s l W ws D).ph[i]?=some (.held q.x.toNat):=by
   rw[hp,G9,ah ⟨h6,h7⟩]
  have hv:q.x.toNat<nN s:=hR.ti.at_ Vs (v:=q.x.toNat) (by simp[SX.nodes])
  have No:q.x=(q.x.toNat:Int):=by omega
  have hb:ek s l ⟨ev,jo,false,0,.pop q,node,has,nx,out⟩ (.pop q')=⟨ev,jo,false,3,.none,(q.x.toNat:Int),true,nx,out⟩:=by
   show (if q'.ok=true then _ else _)=_
   rw[ah pF,IN,No,bM,(Ak hs hv).1,(Ak hs hv).2]
  rw[hb]
  have kH:=wV hR hx (x':=⟨ev,jo,false,3,.none,(q.x.toNat:Int),true,nx,out⟩) (c':=[]) h1 jk (fun z h=>by cases h) hd
  rw[qM hc]at kH
  refine⟨D,_,RJ.fin hR hx h1 iL rfl kH (s4 hR i (by omega)) (.inl rfl) (.inl rfl) (fun j h=>by cases h) (fun j h=>by cases h) ?_⟩
  refine jP (l6 (ws:=ws) (D:=D) hx fg (by rfl) (by rfl) D) ?_
  exact SX.Tr.zl q.x.toNat Vs
theorem abN(hR:RJ s l hs W ws D T M)(hM:M<1000000000){i:Nat}{ev jo:Int}{v u:Nat}{has:Bool}{nx out:List Int}(q:DQ)(lf:q.ended=false)(bO:q.ok=false)(h3:q.at_≤3)
  (hx:W[i]?=some ⟨ev,jo,false,7,.push q,v,has,u::nx,out⟩) :
  qm s l hs W ws D M i (gD s l ⟨ev,jo,false,7,.push q,v,has,u::nx,out⟩ ws):=by
 obtain⟨c,hc⟩:=hR.at_ hx
 have hi:=(cg.1 hx).1
 have hlen:=hR.len
 have dX:=hs.k2
 have hD:=hR.di i c hc
 rw[Aa hx]at hD
 have hD:DI (gO s l i) (eg l) ws (some (false,q)) (lO s l W i) (T i) (jC c):=hD
 have IN:q.n=(u:Int):=hR.pn _ (cq hx) q rfl
 obtain⟨q',ws',e,ao⟩:∃q' ws' e,gu bG q ws=(q',ws',e):=⟨_,_,_,rfl⟩
 obtain⟨h1,jk,hn,hb,Dj⟩:=ac6 hD (Lr hs (by omega)) (hR.bound hM hc) ao
 have fg:=LH (s:=s) (l:=l) jk
 have IW:=hR.DX hc
 have iL:0≤ws'.getD (nN s*nW l+nN s) 0:=by rw[fg _ (by omega)];exact hR.kK
 have hp:=mA (s:=s) (l:=l) (ws:=ws) (D:=D) hx
 have hp:(cf s l W ws D).ph[i]?=some (.push v out u (nx.map Int.toNat) q.at_):=hp
 have yS:=hR.top i
 have Eo:gD s l ⟨ev,jo,false,7,.push q,v,has,u::nx,out⟩ ws=(if e=true then ⟨ev,jo,false,kv (u::nx),.none,v,has,nx,out⟩ else ⟨ev,jo,false,7,.push q',v,has,u::nx,out⟩,ws'):=by
  exact qV (aco ao)
 rw[Eo]
 rcases Dj with ⟨rfl,hd⟩ | ⟨rfl,pF,ag6,hd⟩ | ⟨rfl,pF,oa,hd⟩
 ·rw[ag (by decide)]
  have cx:=ac5 lf ao
  have kH:=wV hR hx (x':=⟨ev,jo,false,7,.push q',v,has,u::nx,out⟩) h1 jk (fun z h=>by cases h) hd
  rw[qM hc]at kH
  refine⟨D,_,RJ.fin hR hx h1 iL rfl kH (s4 hR i (by omega)) (.inl rfl) (.inl rfl) (fun j h=>by cases h) (fun q2 h=>by cases h;exact hn.trans IN) ?_⟩
  refine jP (l6 (ws:=ws) (D:=D) hx fg (by rfl) (by rfl) D) ?_
  have h9:dJ ⟨ev,jo,false,7,.push q',v,has,u::nx,out⟩=.push v out u (nx.map Int.toNat) (q.at_+1):=by rw[← cx.1];rfl
  rw[h9]
  exact SX.Tr.yy v out u (nx.map Int.toNat) q.at_ hp cx.2
 ·rw[hs.room.2,cm]at ag6
  omega
 ·rw[ah rfl]
  have h4:=aa3 lf bO ao pF h3
  have hd:DI (gO s l i) (eg l) ws' none (lO s l W i) (T i) (jC (c++[u])):=by
   show DI _ _ _ _ _ _ (List.map _ (c++[u]))
   rw[cO]
   rw[IN]at hd
   exact hd
  refine⟨D.set i (c++[u]),_,RJ.fin hR hx h1 iL (by rw[cN]) (wV hR hx (x':=⟨ev,jo,false,kv (u::nx),.none,v,has,nx,out⟩) h1 jk (fun z h=>by cases h) hd) (s4 hR i (by omega)) (.inl rfl) (.inl rfl) (fun j h=>by cases h) (fun j h=>by cases h) ?_⟩
  refine jP (l6 (ws:=ws) (D:=D) hx fg (by rfl) (by rfl) (D.set i (c++[u]))) ?_
  dsimp only
  rw[CF (nx:=nx) (does:=kv (u::nx)) rfl]
  rw[h4]at hp
  exact SX.Tr.push v out u (nx.map Int.toNat) c hp hc
theorem ZX(hR:RJ s l hs W ws D T M)(hM:M<1000000000){i j:Nat}{ev jo:Int}{node:Int}{has:Bool}{nx out:List Int}(q:DQ)(lf:q.ended=false)(hj:(j:Int)<l.k)(HD:q.base=(gO s l j:Int))
  (hx:W[i]?=some ⟨ev,jo,false,1,.cu q,node,has,nx,out⟩) :
  qm s l hs W ws D M i (gD s l ⟨ev,jo,false,1,.cu q,node,has,nx,out⟩ ws):=by
 have hlen:=hR.len
 have IT:j<D.length:=by rw[hR.dl];omega
 obtain⟨c,hc⟩:∃c,D[j]?=some c:=⟨D[j],bF IT⟩
 have dX:=hs.k2
 have hD:=hR.di j c hc
 obtain⟨q',ws',e,ao⟩:∃q' ws' e,gF bG q ws=(q',ws',e):=⟨_,_,_,rfl⟩
 obtain⟨h1,jk,hb,Dj⟩:=ZU hD ⟨i,_,hx,rfl,HD⟩ lf (Lr hs (by omega)) (hR.bound hM hc) ao
 have fg:=LH (s:=s) (l:=l) jk
 have IW:=hR.DX hc
 have iL:0≤ws'.getD (nN s*nW l+nN s) 0:=by rw[fg _ (by omega)];exact hR.kK
 have hp:=mA (s:=s) (l:=l) (ws:=ws) (D:=D) hx
 have hp:(cf s l W ws D).ph[i]?=some (.idle 1 q.at_):=hp
 have yS:=hR.top j
 have Eo:gD s l ⟨ev,jo,false,1,.cu q,node,has,nx,out⟩ ws=(if e=true then ek s l ⟨ev,jo,false,1,.cu q,node,has,nx,out⟩ (.cu q') else ⟨ev,jo,false,1,.cu q',node,has,nx,out⟩,ws'):=by
  exact qV (aal ao)
 rw[Eo]
 rcases Dj with ⟨rfl,lT,hd⟩ | ⟨rfl,pF,hd⟩ | ⟨rfl,pF,c',rC,hd⟩
 ·rw[ag (by decide)]
  have cx:=ZT lf ao
  have kH:=Hf (c':=c) hR hx (x':=⟨ev,jo,false,1,.cu q',node,has,nx,out⟩) IT h1 jk (.inl ⟨rfl,hb.trans HD⟩) rfl (hd.qh fun z hz=>hz.imp id fun h=>h.2)
  rw[qM hc]at kH
  refine⟨D,_,RJ.fin hR hx h1 iL rfl kH (s4 hR j (by omega)) (.inl rfl) (.inl rfl) (fun j h=>by cases h) (fun j h=>by cases h) ?_⟩
  refine jP (l6 (ws:=ws) (D:=D) hx fg (by rfl) (by rfl) D) ?_
  have h9:dJ ⟨ev,jo,false,1,.cu q',node,has,nx,out⟩=.idle 1 (q.at_+1):=by rw[← cx.1];rfl
  rw[h9]
  exact SX.Tr.yl q.at_ hp cx.2
 ·rw[ah rfl]
  have rD:ek s l ⟨ev,jo,false,1,.cu q,node,has,nx,out⟩ (.cu q')=⟨ev,jo,false,2,.none,node,has,nx,out⟩:=ag (by rw[pF];decide)
  rw[rD]
  have kH:=Hf (c':=c) (q':=q') hR hx (x':=⟨ev,jo,false,2,.none,node,has,nx,out⟩) IT h1 jk (.inr fun z h=>by cases h) rfl (hd.qh fun z hz=>hz.elim id fun h=>by cases h.1)
  rw[qM hc]at kH
  refine⟨D,_,RJ.fin hR hx h1 iL rfl kH (s4 hR j (by omega)) (.inl rfl) (.inl rfl) (fun j h=>by cases h) (fun j h=>by cases h) ?_⟩
  refine jP (l6 (ws:=ws) (D:=D) hx fg (by rfl) (by rfl) D) ?_
  exact SX.Tr.ym q.at_ hp
 ·rw[ah rfl]
  obtain⟨v,c0,rfl,Ep,rfl⟩:=Q8 rC
  have hv:v<nN s:=IW.2 v (by simp)
  have rD:ek s l ⟨ev,jo,false,1,.cu q,node,has,nx,out⟩ (.cu q')=⟨ev,jo,false,3,.none,v,true,nx,out⟩:=by
   show (if q'.ok=true then _ else _)=_
   rw[ah pF,Ep,(Ak hs hv).1,(Ak hs hv).2]
  rw[rD]
  refine⟨D.set j c0,_,RJ.fin hR hx h1 iL (by rw[cN]) (Hf (c':=c0) (q':=q') hR hx (x':=⟨ev,jo,false,3,.none,v,true,nx,out⟩) IT h1 jk (.inr fun z h=>by cases h) rfl (hd.qh fun z hz=>hz.elim id fun h=>by cases h.1)) (s4 hR j (by omega)) (.inl rfl) (.inl rfl) (fun j h=>by cases h) (fun j h=>by cases h) ?_⟩
  refine jP (l6 (ws:=ws) (D:=D) hx fg (by rfl) (by rfl) (D.set j c0)) ?_
  exact SX.Tr.cu j v c0 q.at_ hp hc
theorem RJ.aef(hR:RJ s l hs W ws D T M){i:Nat}{x:WS}(hx:W[i]?=some x)(hn:x.now=.none)(hw:WV s l i x)(d:Int){n:Nw}(hb:iT l i x.does x.node x.nx x.out d=n):
  RJ s l hs (W.set i ⟨x.ev,x.jo,x.en,x.does,n,x.node,x.has,x.nx,x.out⟩) ws D T M:=by
 have hi:=(cg.1 hx).1
 have hlen:=hR.len
 have dX:=hs.k2
 have r9:(0:Int)≤(i:Nat)∧((i:Nat):Int)<l.k:=by omega
 have mP:dJ ⟨x.ev,x.jo,x.en,x.does,n,x.node,x.has,x.nx,x.out⟩=dJ x:=by
  have:=RK l i d x
  rw[show ku l i x d=n by unfold ku;rw[hn];exact hb]at this
  exact this
 have pJ:cf s l (W.set i ⟨x.ev,x.jo,x.en,x.does,n,x.node,x.has,x.nx,x.out⟩) ws D=cf s l W ws D:=by
  rw[l6 (ws:=ws) (D:=D) (x':=⟨x.ev,x.jo,x.en,x.does,n,x.node,x.has,x.nx,x.out⟩) hx (fun _ _=>rfl) rfl rfl D,mP,qM (mA hx)];rfl
 have UT:lJ W i=none:=by rw[Aa hx,hn];rfl
 have key:(∀(j:Nat) (c:List Nat),D[j]?=some c→DI (gO s l j) (eg l) ws (lJ (W.set i ⟨x.ev,x.jo,x.en,x.does,n,x.node,x.has,x.nx,x.out⟩) j) (lO s l (W.set i ⟨x.ev,x.jo,x.en,x.does,n,x.node,x.has,x.nx,x.out⟩) j) (T j) (jC c))→(∀j,n=.join j→j.fu=true→cT j.what j.x (wd j.a j.at_)≠j.x)→(∀q,n=.push q→q.n=x.nx.headD 0)→RJ s l hs (W.set i ⟨x.ev,x.jo,x.en,x.does,n,x.node,x.has,x.nx,x.out⟩) ws D T M:=by
  intro kH zd sx
  refine⟨by rw[cN];exact hR.len,hR.fl,hR.kK,by rw[cN];exact hR.dl,kH,hR.top,fun y hy=>?_,fun y hy=>?_,fun y hy=>?_,by rw[pJ];exact hR.ti⟩
  ·rcases zH hy with hy | rfl
   ·exact hR.ev y hy
   ·exact hR.ev x (cq hx)
  ·rcases zH hy with hy | rfl
   ·exact hR.jn y hy
   ·exact zd
  ·rcases zH hy with hy | rfl
   ·exact hR.pn y hy
   ·exact sx
 have plain:(∀z,n≠.cu z)→r7 n=none→∀(j:Nat) (c:List Nat),D[j]?=some c→DI (gO s l j) (eg l) ws (lJ (W.set i ⟨x.ev,x.jo,x.en,x.does,n,x.node,x.has,x.nx,x.out⟩) j) (lO s l (W.set i ⟨x.ev,x.jo,x.en,x.does,n,x.node,x.has,x.nx,x.out⟩) j) (T j) (jC c):=fun h1 h2=>
  o8 hR hx (x':=⟨x.ev,x.jo,x.en,x.does,n,x.node,x.has,x.nx,x.out⟩) rfl (fun _ _=>rfl) h1 (by rw[hn];exact h2.symm)
 have own:(∀z,n≠.cu z)→(∀c,D[i]?=some c→DI (gO s l i) (eg l) ws (r7 n) (lO s l W i) (T i) (jC c))→∀(j:Nat) (c:List Nat),D[j]?=some c→DI (gO s l j) (eg l) ws (lJ (W.set i ⟨x.ev,x.jo,x.en,x.does,n,x.node,x.has,x.nx,x.out⟩) j) (lO s l (W.set i ⟨x.ev,x.jo,x.en,x.does,n,x.node,x.has,x.nx,x.out⟩) j) (T j) (jC c):=fun h1 h2 j c hj=>by
  obtain⟨c0,iL⟩:=hR.at_ hx
  have:=wV hR hx (x':=⟨x.ev,x.jo,x.en,x.does,n,x.node,x.has,x.nx,x.out⟩) (c':=c0) (T':=T i) rfl (fun _ _=>rfl) h1 (h2 c0 iL)
  rw[qM iL]at this
  have h3:=this j c hj
  have e:(if j=i then T i else T j)=T j:=by split <;> simp_all
  rw[e]at h3
  exact h3
 have ED:=hs.w7 (k:=i) (by omega)
 by_cases h0:x.does=0
 ·rw[Io h0]at hb
  subst hb
  refine key (own (fun z h=>by cases h) fun c hc=>?_) (fun j h=>by cases h) (fun q h=>by cases h)
  have:=hR.di i c hc
  rw[UT]at this
  exact this.pop ED rfl rfl rfl rfl
 by_cases h1:x.does=1
 ·rw[Im h1]at hb
  subst hb
  obtain⟨v,hv,hvk⟩:=Qn hs r9 (hw.A9 h1) d
  rw[hv]
  have hvD:v<D.length:=by rw[hR.dl];omega
  obtain⟨c0,iL⟩:∃c,D[v]?=some c:=⟨D[v],bF hvD⟩
  have hdv:=hs.w7 (k:=v) (by omega)
  rw[hv]at key
  refine key (fun j c hj=>?_) (fun j h=>by cases h) (fun q h=>by cases h)
  have h4:=Hf hR hx (x':=⟨x.ev,x.jo,x.en,x.does,.cu (ua (iY l v) (eg l) 0),x.node,x.has,x.nx,x.out⟩) (q':=ua (iY l v) (eg l) 0) (c':=c0) (T':=T v) hvD rfl (fun _ _=>rfl) (.inl ⟨rfl,hdv⟩) (by rw[hn];rfl) (((hR.di v c0 iL).A9 (z:=ua (iY l v) (eg l) 0) hdv rfl rfl rfl).qh fun z hz=>hz.imp id fun h=>h.2)
  rw[qM iL]at h4
  have h3:=h4 j c hj
  have e:(if j=v then T v else T j)=T j:=by split <;> simp_all
  rw[e]at h3
  exact h3
 by_cases h2:x.does=2
 ·rw[Il h2]at hb
  subst hb
  exact key (plain (fun z h=>by cases h) rfl) (fun j h=>by cases h) (fun q h=>by cases h)
 by_cases h3:x.does=3
 ·rw[Ik h3]at hb
  subst hb
  exact key (plain (fun z h=>by cases h) rfl) (fun j h=>by cases h) (fun q h=>by cases h)
 by_cases h4:x.does=4
 ·rw[Ij h4]at hb
  subst hb
  exact key (plain (fun z h=>by cases h) rfl) (fun j h=>by cases h) (fun q h=>by cases h)
 by_cases h5:x.does=5
 ·rw[Ii h5]at hb
  subst hb
  exact key (plain (fun z h=>by cases h) rfl) (fun j h h2=>by cases h;cases h2) (fun q h=>by cases h)
 by_cases h6:x.does=6
 ·rw[Ih h6]at hb
  subst hb
  exact key (plain (fun z h=>by cases h) rfl) (fun j h=>by cases h) (fun q h=>by cases h)
 by_cases h7:x.does=7
 ·rw[Ig h7]at hb
  subst hb
  obtain⟨u,hu,fm⟩:=Ln hw.nx (hw.head (.inr (.inr h7)))
  refine key (own (fun z h=>by cases h) fun c hc=>?_) (fun j h=>by cases h) (fun q h=>?_)
  ·have:=hR.di i c hc
   rw[UT]at this
   exact this.push ED rfl rfl rfl rfl
  ·cases h
   have:=hs.nn
   show wu (x.nx.headD 0)=_
   rw[hu];show IntKind.u64.wrap _=_;rw[IntKind.wrap_u64];omega
 rw[Ie h0 h1 h2 h3 h4 h5 h6 h7]at hb
 subst hb
 exact key (plain (fun z h=>by cases h) rfl) (fun j h=>by cases h) (fun q h=>by cases h)
theorem adA(hR:RJ s l hs W ws D T M)(hM:M<1000000000)(Ny:MV s l ws){i:Nat}{x:WS}(hx:W[i]?=some x)(he:x.en=false)(qd:0≤x.node∧x.node<s.n)(cQ:∀u∈x.nx,0≤u∧u<s.n)(hh:x.does=5∨x.does=6∨x.does=7→0<x.nx.length)
  (hb:yP s l i x.does x.node x.nx x.out x.now) (w6:∀j,x.now=.join j→j.at_<nW l∨(j.at_=0∧j.fu=false∧j.changed=false)):qm s l hs W ws D M i (gD s l x ws):=by
 obtain⟨ev,jo,en,does,now,node,has,nx,out⟩:=x
 have he:en=false:=he
 subst he
 have qd:0≤node∧node<s.n:=qd
 have hnn:=hs.nn
 obtain⟨v,rfl⟩:=mu qd.1
 have hv:v<nN s:=by omega
 have cQ:∀u∈nx,0≤u∧u<s.n:=cQ
 have hh:does=5∨does=6∨does=7→0<nx.length:=hh
 have head:0<nx.length→∃(u:Nat) (r:List Int),nx=(u:Int)::r∧u<nN s:=fun h=>by
  cases nx with
  |nil=>cases h
  |cons z r=>
   have:=cQ z (ck ..)
   obtain⟨u,rfl⟩:=mu this.1
   exact⟨u,r,rfl,by omega⟩
 have hb:yP s l i does v nx out now:=hb
 have w6:∀j,now=.join j→j.at_<nW l∨(j.at_=0∧j.fu=false∧j.changed=false):=w6
 cases now with
 |none=>exact hb.elim
 |pop q=>
  obtain⟨rfl,h1,h2,h3⟩:=hb
  exact adz hR hM q h1.en h1.at_ h1.x.1 hx
 |cu q=>
  obtain⟨rfl,h1,⟨j,hj,h2⟩,h3⟩:=hb
  have dX:=hs.k2
  exact ZX hR hM q h1.en hj (h2.trans (hs.w7 (by omega))) hx
 |quiet t=>
  obtain⟨rfl,rfl⟩:=hb
  exact ZY hR hx
 |clear t=>
  obtain⟨rfl,rfl⟩:=hb
  exact ZZ hR hv hx
 |read y=>
  obtain⟨rfl,h1,h2⟩:=hb
  exact abM hR hM Ny hv h1 h2 hx
 |join j=>
  obtain⟨rfl,h1,h2,h3,h4,h5⟩:=hb
  obtain⟨u,r,rfl,hu⟩:=head (hh (.inl rfl))
  exact abO hR hM hu j h1 h2 h3 (w6 j rfl) (fun h=>(h5 h).1) hx
 |take t=>
  obtain⟨rfl,jZ,rfl⟩:=hb
  obtain⟨u,r,rfl,hu⟩:=head (hh (.inr (.inl rfl)))
  cases jZ with
  |true=>exact ZV hR hx
  |false=>exact ZW hR hu hx
 |push q=>
  obtain⟨rfl,h1,h2,h3,h4⟩:=hb
  obtain⟨u,r,rfl,hu⟩:=head (hh (.inr (.inr rfl)))
  exact abN hR hM q h1.en h4 h1.at_ hx
 |dU t=>
  obtain⟨rfl,rfl⟩:=hb
  exact Yg hR hx
theorem Yb{s:Sy}{l:Lay}{who d:Int}{x:WS}{ws:List Int}(he:x.en=false):((dC bG s l who x d ws).1,(dC bG s l who x d ws).2.1)=gD s l ⟨x.ev,x.jo,x.en,x.does,ku l who x d,x.node,x.has,x.nx,x.out⟩ ws:=by
 unfold dC gD
 rw[he,ag BB]
 dsimp only
 by_cases h:(gb bG l x.node (ku l who x d) ws).2.2=true
 ·rw[ah h,ah h]
  refine Prod.ext ?_ rfl
  dsimp only
  generalize ku l who x d=m at h ⊢
  cases m with
  |none=>exact absurd h BB
  |_=>simp only[gb,ek,he]
 ·rw[ag h,ag h]
theorem RJ.step(hR:RJ s l hs W ws D T M)(hM:M<1000000000)(hF:uQ s l ⟨W,ws⟩)(i:Nat)(d:Int):
  ∃D' T',RJ s l hs (fF s l ⟨W,ws⟩ i d).1.W (fF s l ⟨W,ws⟩ i d).1.ws D' T' (M+1)∧SX.Tr (kL s l hs) (cf s l W ws D) i (cf s l (fF s l ⟨W,ws⟩ i d).1.W (fF s l ⟨W,ws⟩ i d).1.ws D'):=by
 have mi:∀{W ws D T},RJ s l hs W ws D T M→RJ s l hs W ws D T (M+1):=fun h=>⟨h.len,h.fl,h.kK,h.dl,h.di,nZ h,fun x hx=>by have:=h.ev x hx;omega,h.jn,h.pn,h.ti⟩
 cases hx:W[i]? with
 |none=>
  have e:fF s l ⟨W,ws⟩ i d=(⟨W,ws⟩,true):=by unfold fF;dsimp only;rw[hx]
  rw[e]
  exact⟨D,T,mi hR,SX.Tr.stay (.inr (by show (W.map dJ)[i]?=none;rw[fo,hx];rfl))⟩
 |some x=>
  rw[Gg (a:=⟨W,ws⟩) hx]
  dsimp only
  have so:=hF.wv i x hx
  have hi:=(cg.1 hx).1
  have hlen:=hR.len
  cases he:x.en with
  |true=>
   have e:dC bG s l i x d ws=(x,ws,true):=ah he
   rw[e]
   dsimp only
   rw[qM hx]
   refine⟨D,T,mi hR,SX.Tr.stay (.inl ?_)⟩
   rw[mA hx]
   unfold dJ
   rw[ah he]
  |false=>
   have e:=Yb (s:=s) (l:=l) (who:=i) (d:=d) (ws:=ws) he
   have e1:=congrArg Prod.fst e
   have e2:=congrArg Prod.snd e
   dsimp only at e1 e2
   rw[e1,e2]
   have hnb:=S4 (d:=d) hs (show (0:Int)≤(i:Nat)∧((i:Nat):Int)<l.k by omega) so
   obtain⟨n,hn⟩:∃n,ku l i x d=n:=⟨_,rfl⟩
   rw[hn]at hnb ⊢
   have mP:dJ ⟨x.ev,x.jo,x.en,x.does,n,x.node,x.has,x.nx,x.out⟩=dJ x:=by rw[← hn];exact RK l i d x
   have k9:∀y,(W.set i ⟨x.ev,x.jo,x.en,x.does,n,x.node,x.has,x.nx,x.out⟩).set i y=W.set i y:=fun y=>List.set_set ..
   have pJ:cf s l (W.set i ⟨x.ev,x.jo,x.en,x.does,n,x.node,x.has,x.nx,x.out⟩) ws D=cf s l W ws D:=by
    rw[l6 (ws:=ws) (D:=D) (x':=⟨x.ev,x.jo,x.en,x.does,n,x.node,x.has,x.nx,x.out⟩) hx (fun _ _=>rfl) rfl rfl D,mP,qM (mA hx)];rfl
   have N4:RJ s l hs (W.set i ⟨x.ev,x.jo,x.en,x.does,n,x.node,x.has,x.nx,x.out⟩) ws D T M∧∀j,n=.join j→j.at_<nW l∨(j.at_=0∧j.fu=false∧j.changed=false):=by
    rcases so.now with h0 | ⟨h0,hk⟩
    ·have hb:iT l i x.does x.node x.nx x.out d=n:=by rw[← hn];unfold ku;rw[h0]
     refine⟨hR.aef hx h0 so d hb,fun j hj=>.inr ?_⟩
     rw[hj]at hb
     unfold iT at hb
     (repeat' split at hb) <;> first | (cases hb;exact⟨rfl,rfl,rfl⟩) | cases hb
    ·have h1:x.now=n:=by
      rw[← hn];unfold ku
      cases afV:x.now with
      |none=>rw[afV]at h0;exact h0.elim
      |_=>rfl
     refine⟨?_,fun j hj=>.inl ?_⟩
     ·rw[← h1,qM hx];exact hR
     ·rw[h1,hj]at hk;exact hk
   obtain⟨hR2,w6⟩:=N4
   have ir:(W.set i ⟨x.ev,x.jo,x.en,x.does,n,x.node,x.has,x.nx,x.out⟩)[i]?=some ⟨x.ev,x.jo,x.en,x.does,n,x.node,x.has,x.nx,x.out⟩:=by rw[e8,ah rfl,ah hi]
   have:=adA hR2 hM hF.fl.2 ir he so.node so.nx so.head hnb w6
   unfold qm at this
   rw[k9,pJ]at this
   exact this
end
set_option maxHeartbeats 4000000
def eJ(s:Sy)(l:Lay):List Int:=yE s l (List.replicate (nF l) 0)
def W0(l:Lay):List WS:=List.replicate l.k.toNat oJ
def zm(s:Sy)(l:Lay)(aC:List (Int×Int×Unit))(x:kM WA):kM WA:=lW (fF s l) (fun a _=>a) l.k.toNat aC x
def A3(s:Sy)(l:Lay):kM WA:=⟨⟨W0 l,eJ s l⟩,List.replicate l.k.toNat 0,List.replicate l.k.toNat false,0⟩
def dL(s:Sy)(l:Lay)(aC:List (Int×Int×Unit)):kM WA:=zm s l aC (A3 s l)
def zx(W:List WS):Int:=W.foldl (fun a x=>wr (a+x.ev)) 0
def za(W:List WS):Int:=W.foldl (fun a x=>wr (a+x.jo)) 0
theorem aaL{W:List WS}{i:Nat}(h:i<W.length):wr (zx (W.take i)+W[i].ev)=zx (W.take (i+1)):=by
 unfold zx;rw[fL h,tV];rfl
theorem aau{W:List WS}{i:Nat}(h:i<W.length):wr (za (W.take i)+W[i].jo)=za (W.take (i+1)):=by
 unfold za;rw[fL h,tV];rfl
set_option maxHeartbeats 4000000
theorem Rw{b:Nat}{a ws:List Int}{x:Nat}(h:x<b):∀k,(om b a ws k).getD x 0=ws.getD x 0
 | 0=>rfl
 |k+1=>by rw[om,qO _ _ _ _ (by omega)];exact Rw h k
theorem Ry{b:Nat}{a ws:List Int}{i:Nat}:∀k,i<k→b+k≤ws.length→(om b a ws k).getD (b+i) 0=wd a i
 | 0,h,_=>absurd h (nR _)
 |k+1,h,hl=>by
  rw[om]
  by_cases e:i=k
  ·subst e
   rw[Am _ _ _ _ (by rw[JP];omega),ah rfl]
  ·rw[qO _ _ _ _ (by omega)]
   exact Ry k (by omega) (by omega)
section
variable {N W:Nat} {st:Nat→List Int} {ws:List Int}
theorem Q7{v i:Nat}(hi:i<W):∀k,k≤N→v<k→N*W+N≤ws.length→(np N W st ws k).getD (v*W+i) 0=wd (st v) i
 | 0,_,h,_=>absurd h (nR _)
 |k+1,hk,h,hl=>by
  have h6:(k+1)*W≤N*W:=lY _ hk
  have h7:=sW (N:=N) (show v<N by omega) hi
  rw[qC]at h6
  rw[np,qO _ _ _ _ (by omega)]
  by_cases e:v=k
  ·subst e
   exact Ry W hi (by rw[zE];omega)
  ·have h8:=sW (N:=k) (show v<k by omega) hi
   rw[Rw h8]
   exact Q7 hi k (by omega) (by omega) hl
theorem P6{v:Nat}:∀k,k≤N→v<k→N*W+N≤ws.length→(np N W st ws k).getD (N*W+v) 0=1
 | 0,_,h,_=>absurd h (nR _)
 |k+1,hk,h,hl=>by
  have h6:(k+1)*W≤N*W:=lY _ hk
  rw[qC]at h6
  rw[np]
  by_cases e:v=k
  ·subst e
   rw[Am _ _ _ _ (by rw[JP,zE];omega),ah rfl]
  ·rw[qO _ _ _ _ (by omega),Rz W (by omega)]
   exact P6 k (by omega) (by omega) hl
end
theorem GU{b r:Nat}{l ws:List Int}{a:Nat}(hr:0<r)(ha:a<b+2∨b+2+r≤a):∀k,(kr b r l ws k).getD a 0=ws.getD a 0
 | 0=>rfl
 |k+1=>by
  have:=mT (1+k) hr
  rw[kr,qO _ _ _ _ (by omega)];exact GU hr ha k
theorem Tj{b r:Nat}{l ws:List Int}{i:Nat}(hr:0<r)(hl:b+2+r≤ws.length):∀k,k≤r→i<k→(kr b r l ws k).getD (b+2+(1+i) % r) 0=l.getD i 0
 | 0,_,h=>absurd h (nR _)
 |k+1,hk,h=>by
  rw[kr]
  by_cases e:i=k
  ·subst e
   have:=mT (1+i) hr
   rw[Am _ _ _ _ (by rw[P5];omega),ah rfl]
  ·have:=TW (a:=1+i) (c:=1+k) (m:=r) (by omega) (by omega)
   rw[qO _ _ _ _ (by omega)]
   exact Tj hr hl k (by omega) (by omega)
theorem Tl{b r:Nat}{l ws:List Int}{a:Nat}(hr:0<r)(ha:a<b∨b+2+r≤a):(nU b r l ws).getD a 0=ws.getD a 0:=by
 rw[nU,GU hr (by omega),qO _ _ _ _ (by omega),qO _ _ _ _ (by omega)]
theorem acL{b r:Nat}{l ws:List Int}(hr:0<r)(hl:b+2+r≤ws.length):(nU b r l ws).getD b 0=1:=by
 rw[nU,GU hr (by omega),qO _ _ _ _ (by omega),Am _ _ _ _ (by omega),ah rfl]
theorem acN{b r:Nat}{l ws:List Int}(hr:0<r)(hl:b+2+r≤ws.length):(nU b r l ws).getD (b+1) 0=((1+l.length:Nat):Int):=by
 rw[nU,GU hr (by omega),Am _ _ _ _ (by rw[cN];omega),ah rfl]
theorem acM{b r:Nat}{l ws:List Int}{i:Nat}(hr:0<r)(hl:b+2+r≤ws.length)(hk:l.length≤r)(hi:i<l.length):(nU b r l ws).getD (b+2+(1+i) % r) 0=l.getD i 0:=by
 rw[nU];exact Tj hr (by rw[cN,cN];exact hl) _ hk hi
section
variable {b0 N:Nat} {ls:List (List Int)} {ws:List Int}
theorem Tg{a:Nat}(ha:a<b0):∀k,(lh b0 (N+3) (N+1) ls ws k).getD a 0=ws.getD a 0
 | 0=>rfl
 |k+1=>by rw[lh,Tl (by omega) (by omega)];exact Tg ha k
theorem Uh{j a:Nat}(h2:a<b0+j*(N+3)+(N+3)):∀k,j<k→(lh b0 (N+3) (N+1) ls ws k).getD a 0=(lh b0 (N+3) (N+1) ls ws (j+1)).getD a 0
 | 0,h=>absurd h (nR _)
 |k+1,h=>by
  by_cases e:j=k
  ·subst e;rfl
  ·have h3:=lY (N+3) (show j+1≤k by omega)
   rw[qC]at h3
   rw[lh,Tl (by omega) (by omega)]
   exact Uh h2 k (by omega)
end
theorem acO{N W:Nat}{st:Nat→List Int}{ls:List (List Int)}{ws:List Int}{j:Nat}{c:List Int}{cap:Int}(H5:rm cap=N+1)(hl:N*W+N+1+ls.length*(N+3)≤ws.length)(hj:ls[j]?=some c)(hc:c.length≤N):DB (N*W+N+1+j*(N+3)) cap (yF N W st ls ws) 0 1 c:=by
 have iw:=(cg.1 hj).1
 have h3:=lY (N+3) (show j+1≤ls.length by omega)
 rw[qC]at h3
 have mi:∀a,a<N*W+N+1+j*(N+3)+(N+3)→(yF N W st ls ws).getD a 0=(nU (N*W+N+1+j*(N+3)) (N+1) c (lh (N*W+N+1) (N+3) (N+1) ls ((np N W st ws N).set (N*W+N) (N:Int)) j)).getD a 0:=fun a ha=>by
  rw[yF,Uh ha _ iw,lh]
  have e:ls.getD j []=c:=by rw[bg,hj];rfl
  rw[e]
 have hlen:(lh (N*W+N+1) (N+3) (N+1) ls ((np N W st ws N).set (N*W+N) (N:Int)) j).length=ws.length:=by rw[Pn,cN,zE]
 refine⟨by rw[We,H5];omega,?_,a8 _,?_,by omega,fun i hi=>?_⟩
 ·rw[mi _ (by omega),acL (by omega) (by omega)];rfl
 ·rw[mi _ (by omega),acN (by omega) (by omega)];rfl
 ·rw[H5]
  have:=mT (1+i) (show 0<N+1 by omega)
  rw[mi _ (by omega),acM (by omega) (by omega) (by omega) hi,bg,bF hi];rfl
section
variable {s:Sy} {l:Lay} (hs:LS s l)
include hs
theorem LS.FA{v i:Nat}(hi:i<nW l):fO s.what s.w i (wd (gv s v) i):=by
 have h:=(hs.re).1 (FU hs.fit hs.iS v)
 rw[← rX];exact h.2 i hi
theorem Ta{v:Nat}{ws:List Int}(h:pC s l ws):∀k,k≤nW l→pC s l (om (v*nW l) (gv s v) ws k)
 | 0,_=>h
 |k+1,hk=>by
  have ih:=Ta h k (by omega) (v:=v)
  rw[om]
  exact⟨by rw[cN];exact ih.1,ih.2.Z4 (by omega) (hs.FA (by omega))⟩
theorem Sc{ws:List Int}(h:pC s l ws):∀k,pC s l (np (nN s) (nW l) (fun v=>gv s v) ws k)
 | 0=>h
 |k+1=>by
  rw[np]
  exact (Ta hs (Sc h k) _ (a8 _)).hi (by omega) (by unfold bH;omega)
theorem Ug{b r:Nat}{x ws:List Int}(hb:nN s*nW l≤b)(hx:∀z∈x,0≤z∧z<(nN s:Int))(h:pC s l ws):∀k,pC s l (kr b r x ws k)
 | 0=>h
 |k+1=>by
  rw[kr]
  refine (Ug hb hx h k).hi (by omega) ?_
  have hn:=hs.nn
  rw[bg]
  cases hk:x[k]? with
  |none=>exact zS
  |some z=>
   have:=hx z (cq hk)
   show bH z
   unfold bH;omega
theorem Uf{ls:List (List Int)}{ws:List Int}(hx:∀x∈ls,x.length≤256∧∀z∈x,0≤z∧z<(nN s:Int))(h:pC s l ws):∀k,pC s l (lh (nN s*nW l+nN s+1) (nN s+3) (nN s+1) ls ws k)
 | 0=>h
 |k+1=>by
  rw[lh,nU]
  have h2:(ls.getD k []).length≤256∧∀z∈ls.getD k [],0≤z∧z<(nN s:Int):=by
   rw[bg]
   cases hk:ls[k]? with
   |none=>exact⟨bD _,fun z hz=>by cases hz⟩
   |some x=>exact hx x (cq hk)
  refine Ug hs (by omega) h2.2 (((Uf hx h k).hi (by omega) (by unfold bH;omega)).hi (by omega) ?_) _
  unfold bH;omega
theorem Tb(bO:j7 s l):pC s l (eJ s l):=by
 unfold eJ yE yF
 have hn:=hs.nn
 refine Uf hs (bO.rows hn.2.2) (pC.hi (Sc hs ⟨fZ,acs s l _⟩ _) (by omega) ?_) _
 unfold bH;omega
end
theorem SI{α:Type}(g:α→Nat)(f:α→Nat)(k:Nat):∀(al:List α),(∀x∈al,f x<k)→SX.aN (fun u=>SX.aN g (al.filter fun x=>decide (f x=u))) (List.range k)=SX.aN g al
 | [],_=>by
  have:∀l:List Nat,SX.aN (fun u=>SX.aN g (([]:List α).filter fun x=>decide (f x=u))) l=0:=fun l=>by
   induction l with
   |nil=>rfl
   |cons a l ih=>show 0+_=0;rw[ef];exact ih
  exact this _
 |a::al,h=>by
  have ih:=SI g f k al fun x hx=>h x (cW _ hx)
  have h1:=SX.K4 (f:=fun u=>SX.aN g ((a::al).filter fun x=>decide (f x=u))) (g:=fun u=>SX.aN g (al.filter fun x=>decide (f x=u))) (u:=f a) (l:=List.range k) List.nodup_range (gm.2 (h a (ck ..))) (fun u _ hu=>by
   show SX.aN g _=SX.aN g _
   rw[BH,ag (by rw[bZ fun e=>hu e.symm];decide)])
  have h2:SX.aN g ((a::al).filter fun x=>decide (f x=f a))=g a+SX.aN g (al.filter fun x=>decide (f x=f a)):=by
   rw[BH,ah (bu rfl)];rfl
  rw[ih]at h1
  rw[h2]at h1
  show _=g a+SX.aN g al
  omega
theorem Rr{α:Type}(l:List α):SX.aN (fun _=>1) l=l.length:=by
 induction l with
 |nil=>rfl
 |cons a l ih=>show 1+SX.aN _ l=l.length+1;omega
theorem ZR(v:Nat)(l:List Int):SX.aN (fun x:Int=>if x.toNat=v then 1 else 0) l=(l.map Int.toNat).count v:=by
 induction l with
 |nil=>rfl
 |cons a l ih=>
  show (if a.toNat=v then 1 else 0)+SX.aN _ l=_
  rw[oR,List.count_cons,ih]
  by_cases h:a.toNat=v
  ·rw[if_pos h,if_pos (by simp[h])];omega
  ·rw[if_neg h,if_neg (by simp[h])];omega
theorem Rq{α β:Type}(f:α→Nat)(g:β→α)(l:List β):SX.aN f (l.map g)=SX.aN (fun x=>f (g x)) l:=by
 unfold SX.aN;rw[Jd];rfl
def D0(s:Sy)(l:Lay):List (List Nat):=(nt s l).map fun c=>c.map Int.toNat
theorem UE{s:Sy}{l:Lay}(bO:j7 s l)(g:Nat→Nat):SX.aN (fun c=>SX.aN g c) (D0 s l)=SX.aN (fun x:Int=>g x.toNat) (oG (nN s) s.aW s.entry).reverse:=by
 have h1:∀x∈(oG (nN s) s.aW s.entry).reverse,((lK (nN s) l.k.toNat s.aW).getD x.toNat 0).toNat<l.k.toNat:=fun x hx=>by
  have h2:=bO.all.rg x (xH.1 hx)
  have:=bO.own x.toNat (by omega)
  omega
 rw[← SI (fun x:Int=>g x.toNat) (fun x=>((lK (nN s) l.k.toNat s.aW).getD x.toNat 0).toNat) l.k.toNat _ h1]
 unfold D0 nt yI mD
 rw[Jd,Rq]
 refine SX.B1 fun u hu=>?_
 show SX.aN g ((List.filter _ _).map Int.toNat)=_
 rw[Rq]
 congr 1
 refine List.filter_congr fun x hx=>?_
 have h2:=bO.all.rg x (xH.1 hx)
 have h3:=bO.own x.toNat (by omega)
 by_cases h:(lK (nN s) l.k.toNat s.aW).getD x.toNat 0=(u:Int)
 ·rw[bu h,bu (by omega)]
 ·rw[bZ h,bZ (by omega)]
theorem aaT(v:Nat)(c:List Nat):c.count v=SX.aN (fun z=>if z=v then 1 else 0) c:=by
 induction c with
 |nil=>rfl
 |cons a c ih=>
  show _=(if a=v then 1 else 0)+SX.aN _ c
  rw[← ih,List.count_cons]
  by_cases h:a=v
  ·rw[if_pos h,if_pos (by simp[h])];omega
  ·rw[if_neg h,if_neg (by simp[h])];omega
theorem UF{s:Sy}{l:Lay}(bO:j7 s l):SX.aN List.length (D0 s l)=nN s:=by
 have h:=UE bO fun _=>1
 have h2:SX.aN List.length (D0 s l)=SX.aN (fun c=>SX.aN (fun _=>1) c) (D0 s l):=SX.B1 fun c _=>(Rr c).symm
 rw[h2,h,Rr,sI,bO.all.len]
theorem abw{s:Sy}{l:Lay}(bO:j7 s l)(v:Nat):SX.aN (fun c=>c.count v) (D0 s l)=if v<nN s then 1 else 0:=by
 have h:=UE bO fun z=>if z=v then 1 else 0
 have h2:SX.aN (fun c=>c.count v) (D0 s l)=SX.aN (fun c=>SX.aN (fun z=>if z=v then 1 else 0) c) (D0 s l):=SX.B1 fun c _=>aaT v c
 rw[h2,h,ZR]
 have ca:((oG (nN s) s.aW s.entry).reverse.map Int.toNat).Nodup:=by
  refine BA.2 (List.Pairwise.imp_of_mem (fun {a b} ha hb aS e=>aS ?_) ((List.reverse_perm _).nodup_iff.2 bO.all.nd))
  have h3:=bO.all.rg a (xH.1 ha)
  have h4:=bO.all.rg b (xH.1 hb)
  omega
 rw[ca.count]
 by_cases hv:v<nN s
 ·rw[ah hv,ah (dP.2 ⟨(v:Int),xH.2 (bO.all.all v ⟨by omega,by omega⟩),bM _⟩)]
 ·rw[ag hv,ag fun h=>?_]
  obtain⟨z,hz,rfl⟩:=dP.1 h
  have:=bO.all.rg z (xH.1 hz)
  omega
section
variable {s:Sy} {l:Lay} (hs:LS s l) (bO:j7 s l)
include hs bO
theorem Vd{j:Nat}{c:List Nat}(h:(D0 s l)[j]?=some c):(nt s l)[j]?=some (jC c)∧c.length≤nN s:=by
 unfold D0 at h
 rw[fo]at h
 cases hx:(nt s l)[j]? with
 |none=>rw[hx]at h;cases h
 |some x=>
  rw[hx]at h
  cases h
  have hn:=hs.nn
  have h1:=bO.rows hn.2.2 x (cq hx)
  have e:jC (x.map Int.toNat)=x:=by
   show (x.map Int.toNat).map _=x
   rw[Jd]
   conv=>rhs;rw[← List.map_id x]
   refine vR fun z hz=>?_
   have:=h1.2 z hz
   show ((z.toNat:Nat):Int)=z
   omega
  refine⟨by rw[e],?_⟩
  rw[cm]
  have ir:=cq hx
  unfold nt yI mD at ir
  obtain⟨u,_,rfl⟩:=dP.1 ir
  have hlen:=Fa (fun y=>decide ((lK (nN s) l.k.toNat s.aW).getD y.toNat 0=(u:Int))) (oG (nN s) s.aW s.entry).reverse
  rw[sI,bO.all.len]at hlen
  exact hlen
end
theorem SH{α:Type}{f:α→Nat}{x:α}(h:f x=0)(k:Nat):SX.aN f (List.replicate k x)=0:=SX.vY fun y hy=>by rw[BK hy];exact h
theorem KO{s:Sy}{l:Lay}{a:Nat}(ha:a<nN s*nW l+nN s+1)(ws:List Int):(yE s l ws).getD a 0=((np (nN s) (nW l) (fun v=>gv s v) ws (nN s)).set (nN s*nW l+nN s) (nN s:Int)).getD a 0:=Tg ha _
theorem Q4{s:Sy}{l:Lay}(hs:LS s l):(∀v i,v<nN s→i<nW l→(eJ s l).getD (v*nW l+i) 0=wd (gv s v) i)∧(∀v,v<nN s→(eJ s l).getD (nN s*nW l+v) 0=1)∧(eJ s l).getD (nN s*nW l+nN s) 0=(nN s:Int):=by
 have eD:=hs.size.2.2
 have fg:=hs.low
 have vF:(List.replicate (nF l) (0:Int)).length=nF l:=fZ
 refine⟨fun v i hv hi=>?_,fun v hv=>?_,?_⟩
 ·have:=sW hv hi
  unfold eJ
  rw[KO (by omega),qO _ _ _ _ (by omega),Q7 hi _ (a8 _) hv (by rw[vF];omega)]
 ·unfold eJ
  rw[KO (by omega),qO _ _ _ _ (by omega),P6 _ (a8 _) hv (by rw[vF];omega)]
 ·unfold eJ
  rw[KO (by omega),Am _ _ _ _ (by rw[zE,vF];omega),ah rfl]
section
variable {s:Sy} {l:Lay} {hs:LS s l} (bO:j7 s l)
include bO
theorem rj0:RJ s l hs (W0 l) (eJ s l) (D0 s l) (fun _=>1) 1:=by
 have mR:=hs.k1
 have dg:=Pa s l
 have hn:=hs.nn
 have hD0:(D0 s l).length=l.k.toNat:=by unfold D0;rw[cm,dg]
 have I0:(W0 l).length=l.k.toNat:=fZ
 obtain⟨mn,nP,EF⟩:=Q4 hs
 have gl:=Tb hs bO
 have yU:∀x∈W0 l,x=oJ:=fun x hx=>BK hx
 have mP:∀p∈(cf s l (W0 l) (eJ s l) (D0 s l)).ph,p=.idle 0 0:=fun p hp=>by
  obtain⟨x,hx,rfl⟩:=dP.1 hp
  rw[yU x hx];rfl
 refine⟨by rw[I0];omega,gl.1,by rw[EF];omega,by rw[hD0,I0],fun j c hj=>?_,fun _=>a8 _,fun x hx=>?_,fun x hx=>?_,fun x hx=>?_,?_⟩
 ·have iw:=(cg.1 hj).1
  obtain⟨h1,h2⟩:=Vd hs bO hj
  have hW:(W0 l)[j]?=some oJ:=by unfold W0;rw[vU,ah (by omega)]
  rw[Aa hW]
  refine⟨?_,trivial,fun z hz=>?_⟩
  ·refine acO hs.room.2 ?_ h1 (by rw[cm];exact h2)
   rw[dg,fZ]
   obtain⟨m,hm,Nz,tK⟩:=hs.kk
   have tN:=hs.w7 tK
   rw[show l.k.toNat=m by omega]
   unfold nF
   rw[hm,tN]
   omega
  ·obtain⟨i,x,hx,h3,_⟩:=hz
   rw[yU x (cq hx)]at h3
   cases h3
 ·rw[yU x hx];exact⟨by decide,by decide,by decide,by decide⟩
 ·rw[yU x hx];exact fun j h=>by cases h
 ·rw[yU x hx];exact fun j h=>by cases h
 ·refine⟨fun v=>?_,?_,fun c hc v hv=>?_,fun p hp v hv=>?_⟩
  ·unfold SX.tok
   have h1:SX.aN (SX.iU v) (cf s l (W0 l) (eJ s l) (D0 s l)).ph=0:=SX.vY fun p hp=>by rw[mP p hp];rfl
   have h2:SX.aN (fun l:List Nat=>l.count v) (cf s l (W0 l) (eJ s l) (D0 s l)).dq=if v<nN s then 1 else 0:=abw bO v
   rw[h1,h2]
   show _=if decide (v<nN s∧¬(eJ s l).getD (nN s*nW l+v) 0=0)=true then 1 else 0
   by_cases hv:v<nN s
   ·rw[nP v hv,ah hv,ah (bu ⟨hv,by decide⟩)]
   ·rw[ag hv,ag (by rw[bZ fun h=>hv h.1];decide)]
  ·show ((eJ s l).getD (nN s*nW l+nN s) 0).toNat=SX.aN List.length (D0 s l)+SX.aN SX.cw (cf s l (W0 l) (eJ s l) (D0 s l)).ph
   have h1:SX.aN SX.cw (cf s l (W0 l) (eJ s l) (D0 s l)).ph=0:=SX.vY fun p hp=>by rw[mP p hp];rfl
   rw[EF,h1,UF bO];omega
  ·obtain⟨j,hj⟩:=qG.1 hc
   obtain⟨h1,h2⟩:=Vd hs bO hj
   have:=(bO.rows hn.2.2 _ (cq h1)).2 (v:Int) (dP.2 ⟨v,hv,rfl⟩)
   show v<nN s
   omega
  ·rw[mP p hp]at hv;cases hv
theorem Ue(hs:LS s l):uQ s l ⟨W0 l,eJ s l⟩:=by
 have mR:=hs.k1
 refine⟨by show ((W0 l).length:Int)=l.k;unfold W0;rw[fZ];omega,Tb hs bO,fun i x hx=>?_⟩
 rw[BK (cq hx)]
 exact wv0 hs i
end
set_option maxHeartbeats 4000000
theorem Wi(s:Sy)(k:Int)(aC:List (Int×Int×Unit))(σ:Hp)(hf:Fit s)(he:¬dv s k=0):ACalls Tryz.prog 41 [.agg (bU s),.int .i64 k,.af ft aC] σ (aE (.tup [.agg (dM .cR ⟨0,0,0,0⟩ .aj .aj .aj 0),.int .i64 (dv s k)]) σ):=by
 refine az Tryz.func41 ?_
 intro aG
 intro dw
 intro sN
 refine aa 2 ?_
 refine ay [] (Ho s k _ hf) ?_
 refine ai 0 ?_
 refine ew (fun c4=>?_) (fun c4=>?_)
 ·have c4:¬(dv s k=0):=by simpa using c4
  refine ai 1 ?_
  refine aa 1 ?_
  exact .drop 0 3 (.done ⟨rfl,rfl⟩)
 ·have c4:dv s k=0:=by simpa using c4
  refine aa 0 ?_
  exact absurd c4 he
theorem Li{s:Sy}{k:Int}(he:dv s k=0):(iB s k).k=k:=by unfold iB qs;rw[he];rfl
theorem Kw{k:Nat}{v:AV}{acc:Hp}{cs:List AV}(h:Acc 1 k v acc cs)(hk:0<k):∃b,v=.ae b 0 k 1∧acc=[(b,cs)]:=by
 cases h with
 |nil=>omega
 |ae b k cs h=>exact⟨b,rfl,rfl⟩
def Fo(s:Sy)(l:Lay)(bs bp p:Nat)(L:List Nat)(S:Hp):Prop:=S=(bs,bU s)::(bp,dM (.ptr p 0) l .aj .aj .aj 0)::eB s l (cU L) (List.replicate L.length jq)
theorem Z0(s:Sy)(l:Lay)(k bs bp p:Nat)(hf:Fit s)(he:dv s l.k=0)(hL:iB s l.k=l)(hk:l.k=k)(L:List Nat)(S τ:Hp)(ab:L.length<k)(hS:Fo s l bs bp p L S):ACalls Tryz.prog 99 (.int .i64 L.length::[.ptr bs 0,.ptr bp 0]) (S++τ) (fun r σ'=>∃w S',r=.ptr w 0∧σ'=S'++τ∧Fo s l bs bp p (L++[w]) S'):=by
 unfold Fo at hS
 subst hS
 refine (aes bs bp L.length s l (.ptr p 0) .aj .aj .aj 0 (eB s l (cU L) (List.replicate L.length jq)++τ) hf he hL (by omega)).Ve (.refl _) ?_
 rintro _ _ ⟨w,rfl,rfl⟩
 refine⟨((bs,bU s)::(bp,dM (.ptr p 0) l .aj .aj .aj 0)::eB s l (cU (L++[w])) (List.replicate (L++[w]).length jq))++τ,?_,w,_,rfl,rfl,rfl⟩
 rw[ZF]
 have h:=nf [[(bs,bU s),(bp,dM (.ptr p 0) l .aj .aj .aj 0)],eB s l (cU L) (List.replicate L.length jq),WB s l L.length w 0 .aj [] oJ] τ (a:=[0,1,2]) (b:=[2,0,1]) (by decide)
 have e:((bs,bU s)::(bp,dM (.ptr p 0) l .aj .aj .aj 0)::(eB s l (cU L) (List.replicate L.length jq)++WB s l L.length w 0 .aj [] oJ))++τ=[(bs,bU s),(bp,dM (.ptr p 0) l .aj .aj .aj 0)]++(eB s l (cU L) (List.replicate L.length jq)++(WB s l L.length w 0 .aj [] oJ++τ)):=by simp
 rw[e]
 exact h
theorem Ru(l:Lay)(k bp lw:Nat)(mv:AV)(L:List Nat)(hL:L.length=k)(L':List Nat)(S τ:Hp)(ab:L'.length<k)(hS:S=[(bp,dM mv l (.ae lw 0 k 1) .aj .aj 0),(lw,L.map pW)]∧L'=L.take L'.length):ACalls Tryz.prog 103 (.int .i64 L'.length::[.ptr bp 0]) (S++τ) (fun r σ'=>∃w S',r=.iface 168 (.ptr w 0)∧σ'=S'++τ∧(S'=[(bp,dM mv l (.ae lw 0 k 1) .aj .aj 0),(lw,L.map pW)]∧L'++[w]=L.take (L'++[w]).length)):=by
 obtain⟨rfl,hL'⟩:=hS
 refine (aer bp lw L'.length k L l mv .aj .aj 0 τ hL ab).mono ?_
 rintro _ _ ⟨rfl,rfl⟩
 refine⟨L.getD L'.length 0,_,rfl,rfl,rfl,?_⟩
 rw[bP,sJ,fL (by omega),← hL',bg,bF (by omega)]
 rfl
theorem Sp(s:Sy)(l:Lay)(hs:LS s l)(bO:j7 s l)(p q lb k:Nat)(L:List Nat)(aC:List (Int×Int×Unit))(σ:Hp)(hL:L.length=k)(hk:l.k=k)(dX:k≤64)(ov:aC.length≤100000):
  ACalls Tryz.prog 101 [mL p,.ae lb 0 k 1,.af ft aC] ((lb,L.map iW)::(cd p q (eJ s l) (eB s l (cU L) (List.replicate L.length jq))++σ)) (fun r σ'=>∃Z:List WZ,Z.map (·.x)=(dL s l aC).a.W∧r=.agg [.af (.int .i64) (dL s l aC).st,.af .bool (dL s l aC).dn,.int .i64 (dL s l aC).us]∧σ'=(lb,L.map iW)::(cd p q (dL s l aC).a.ws (eB s l (cU L) Z)++σ)):=by
 have hI:((cU L).length:Int)=l.k:=by rw[Cr];omega
 have pJ:rI.abs ⟨eJ s l,List.replicate L.length jq⟩=⟨W0 l,eJ s l⟩:=by
  show WA.mk ((List.replicate L.length jq).map (·.x)) (eJ s l)=_
  rw[List.map_replicate]
  unfold W0
  rw[show l.k.toNat=L.length by omega];rfl
 have hl:(CW s l hs p q (cU L) (Cs L) hI).L.length=k:=by
  show ((cU L).map _).length=_
  rw[cm,Cr];exact hL
 have hLL:(CW s l hs p q (cU L) (Cs L) hI).L=L.map iW:=aax L
 have hE:=afn (CW s l hs p q (cU L) (Cs L) hI) lb aC (⟨eJ s l,List.replicate L.length jq⟩:rI) σ (by omega) ov (by
  show uQ s l (rI.abs ⟨eJ s l,List.replicate L.length jq⟩)
  rw[pJ];exact Ue bO hs) (fun _ _=>rfl)
 have fH:(CW s l hs p q (cU L) (Cs L) hI).run aC (rI.abs ⟨eJ s l,List.replicate L.length jq⟩)=dL s l aC:=by
  unfold AWorld.run AWorld.init
  rw[hl,hLL,pJ]
  have e1:(L.map iW).map isNil=List.replicate k false:=by
   rw[← hL,Jd]
   exact List.map_eq_replicate_iff.2 fun _ _=>rfl
  rw[e1]
  unfold dL zm A3
  rw[show l.k.toNat=k by omega];rfl
 have EP:ACalls Tryz.prog 101 [mL p,.ae lb 0 k 1,.af ft aC] ((lb,L.map iW)::(cd p q (eJ s l) (eB s l (cU L) (List.replicate L.length jq))++σ)) (KW (CW s l hs p q (cU L) (Cs L) hI) aC (rI.abs ⟨eJ s l,List.replicate L.length jq⟩) [(lb,L.map iW)] σ):=by
  rw[hl,hLL]at hE;exact hE
 refine EP.mono ?_
 rintro _ _ ⟨t',h1,rfl,rfl⟩
 have h1:rI.abs t'=(dL s l aC).a:=Eq.trans h1 (congrArg kM.a fH)
 rw[fH]
 refine⟨t'.Z,congrArg WA.W h1,rfl,?_⟩
 have h2:t'.ws=(dL s l aC).a.ws:=congrArg WA.ws h1
 rw[← h2];rfl
theorem Rg(s:Sy)(k:Nat)(l:Lay)(hl:iB s k=l)(aC:List (Int×Int×Unit))(σ:Hp)(hf:Fit s)(he:dv s k=0)(ov:aC.length≤100000):
  ACalls Tryz.prog 41 [.agg (bU s),.int .i64 k,.af ft aC] σ (fun r σ'=>∃(p q lw:Nat) (L:List Nat) (Z:List WZ),r=.tup [.agg (dM (.ptr p 0) l (.ae lw 0 k 1) (.af (.int .i64) (dL s l aC).st) (.af .bool (dL s l aC).dn) (dL s l aC).us),.int .i64 0]∧L.length=k∧Z.map (·.x)=(dL s l aC).a.W∧σ'=(lw,L.map pW)::cd p q (dL s l aC).a.ws (eB s l (cU L) Z++σ)∧j7 s l):=by
 obtain⟨hs,EO⟩:=Ay hf he
 obtain⟨xo,fJ,mh⟩:=hs.size
 obtain⟨mR,dX⟩:=(KH he).2
 have UY:=fun p q ws σ (eD:nF (iB s k)≤ws.length)=>adp s k p q ws σ hf he eD
 have hk:l.k=k:=by rw[← hl];exact Li he
 have e1:AV.tup [.agg (gV (iB s k)),.int .i64 (dv s k)]=.tup [.agg (gV l),.int .i64 (dv s k)]:=by rw[hl]
 have EP:dv s l.k=0:=by rw[hk];exact he
 have hL2:iB s l.k=l:=by rw[hk];exact hl
 rw[hl]at hs xo fJ mh UY
 refine az Tryz.func41 ?_
 generalize hE:dv s k=E at e1 he
 intro bs
 intro br
 intro bp
 refine aa 2 ?_
 refine ay [] (x8 (Ho s k _ hf) (hE▸e1)) ?_
 refine ai 0 ?_
 refine ew (fun c1=>?_) (fun c1=>?_)
 ·have c1:¬(dv s (↑k:Int)=0):=by simpa using c1
  refine ai 1 ?_
  refine aa 1 ?_
  exact absurd (hE.trans he) c1
 ·have c1:dv s (↑k:Int)=0:=by simpa using c1
  refine aa 0 ?_
  refine ay [] (Uw l _) ?_
  (refine .mk [] _ (agA _ _) ?_;rintro _ _ ⟨p,q,rfl,rfl⟩)
  rw[mh]
  obtain⟨us,gZ⟩:∃us,List.replicate (nF l) (0:Int)=us:=⟨_,rfl⟩
  have fR:us.length=nF l:=by rw[← gZ];exact fZ
  rw[gZ,← fR]
  refine ai 2 ?_
  refine aa 2 ?_
  refine aa 4 ?_
  (refine .mk [] _ (UY p q us _ (by omega)) ?_;rintro _ _ ⟨rfl,rfl,bO⟩)
  have afH:yE s l us=eJ s l:=by rw[← gZ];rfl
  rw[afH]
  refine .perm (σ2:=[(bs,bU s),(bp,dM (.ptr p 0) l .aj .aj .aj 0)]++cd p q (eJ s l) ((br,dM .cR ⟨0,0,0,0⟩ .aj .aj .aj 0)::σ)) _ (nf [[(bs,bU s)],[(bp,dM (.ptr p 0) l .aj .aj .aj 0)],cd p q (eJ s l) [],[(br,dM .cR ⟨0,0,0,0⟩ .aj .aj .aj 0)]] σ (a:=[0,1,2,3]) (b:=[2,1,3,0]) (by decide)) (aeI 99 [.ptr bs 0,.ptr bp 0] (Fo s l bs bp p) _ _ rfl k (by omega) (fun L S τ h1 h2=>Z0 s l k bs bp p hf EP hL2 hk L S τ h1 h2)) ?_
  rintro v _ ⟨L,S',acc,hL,Bq,b9,rfl⟩
  unfold Fo at Bq
  subst Bq
  obtain⟨lw,rfl,rfl⟩:=Kw b9 (by omega)
  refine⟨_,.refl _,?_⟩
  refine ai 2 ?_
  refine .sched [] (.one 0 false (.one 3 false (.one 4 false (.one 6 false (.alt 1 (.one 2 false (.one 5 false (.one 7 false (.one 8 false (.one 9 false .stop))))) (.one 5 false (.one 1 false (.one 2 false (.one 7 false (.one 8 false (.one 9 false .stop))))))))))) (by kernel_rfl) ?_
  refine And.intro ?_ ?_
  ·refine aa 2 ?_
   refine .perm (σ2:=[(bp,dM (.ptr p 0) l (.ae lw 0 k 1) .aj .aj 0),(lw,L.map pW)]++((bs,bU s)::(eB s l (cU L) (List.replicate L.length jq)++cd p q (eJ s l) ((br,dM .cR ⟨0,0,0,0⟩ .aj .aj .aj 0)::σ)))) _ (nf [[(bp,dM (.ptr p 0) l (.ae lw 0 k 1) .aj .aj 0)],[(lw,L.map pW)],[(bs,bU s)],eB s l (cU L) (List.replicate L.length jq),cd p q (eJ s l) [],[(br,dM .cR ⟨0,0,0,0⟩ .aj .aj .aj 0)]] σ (a:=[0,1,2,3,4,5]) (b:=[1,2,0,3,4,5]) (by decide)) (Uz 103 [.ptr bp 0] (fun L' S=>S=[(bp,dM (.ptr p 0) l (.ae lw 0 k 1) .aj .aj 0),(lw,L.map pW)]∧L'=L.take L'.length) _ _ ⟨rfl,rfl⟩ k (by omega) (fun L' S τ h1 h2=>Ru l k bp lw (.ptr p 0) L hL L' S τ h1 h2)) ?_
   rintro v2 _ ⟨L',S2,agu,MR,⟨rfl,EK⟩,Dl,rfl⟩
   rw[MR,← hL,gn]at EK
   rw[EK]at Dl
   obtain⟨lb,rfl,rfl⟩:=Kw Dl (by omega)
   refine⟨_,.refl _,?_⟩
   have hR:=Sp s l hs bO p q lb k L aC ([(bp,dM (.ptr p 0) l (.ae lw 0 k 1) .aj .aj 0),(br,dM .cR ⟨0,0,0,0⟩ .aj .aj .aj 0),(bs,bU s),(lw,L.map pW)]++σ) hL hk (by omega) ov
   refine .perm _ (nf [[(lb,L.map iW)],cd p q (eJ s l) [],eB s l (cU L) (List.replicate L.length jq),[(bp,dM (.ptr p 0) l (.ae lw 0 k 1) .aj .aj 0)],[(br,dM .cR ⟨0,0,0,0⟩ .aj .aj .aj 0)],[(bs,bU s)],[(lw,L.map pW)]] σ (a:=[0,1,2,3,4,5,6]) (b:=[0,3,6,5,2,1,4]) (by decide)) hR ?_
   rintro _ _ ⟨Z,hZ,rfl,rfl⟩
   refine⟨_,nf [[(lb,L.map iW)],cd p q (dL s l aC).a.ws [],eB s l (cU L) Z,[(bp,dM (.ptr p 0) l (.ae lw 0 k 1) .aj .aj 0)],[(br,dM .cR ⟨0,0,0,0⟩ .aj .aj .aj 0)],[(bs,bU s)],[(lw,L.map pW)]] σ (a:=[0,3,4,5,6,1,2]) (b:=[0,1,2,3,4,5,6]) (by decide),?_⟩
   refine ai 1 ?_
   refine aa 1 ?_
   refine ai 2 ?_
   refine aa 2 ?_
   exact .drop 0 4 (.done ⟨p,q,lw,L,Z,rfl,hL,hZ,rfl,bO⟩)
  ·refine .perm (σ2:=[(bp,dM (.ptr p 0) l (.ae lw 0 k 1) .aj .aj 0),(lw,L.map pW)]++((bs,bU s)::(eB s l (cU L) (List.replicate L.length jq)++cd p q (eJ s l) ((br,dM .cR ⟨0,0,0,0⟩ .aj .aj .aj 0)::σ)))) _ (nf [[(bp,dM (.ptr p 0) l (.ae lw 0 k 1) .aj .aj 0)],[(lw,L.map pW)],[(bs,bU s)],eB s l (cU L) (List.replicate L.length jq),cd p q (eJ s l) [],[(br,dM .cR ⟨0,0,0,0⟩ .aj .aj .aj 0)]] σ (a:=[0,1,2,3,4,5]) (b:=[1,2,0,3,4,5]) (by decide)) (Uz 103 [.ptr bp 0] (fun L' S=>S=[(bp,dM (.ptr p 0) l (.ae lw 0 k 1) .aj .aj 0),(lw,L.map pW)]∧L'=L.take L'.length) _ _ ⟨rfl,rfl⟩ k (by omega) (fun L' S τ h1 h2=>Ru l k bp lw (.ptr p 0) L hL L' S τ h1 h2)) ?_
   rintro v2 _ ⟨L',S2,agu,MR,⟨rfl,EK⟩,Dl,rfl⟩
   rw[MR,← hL,gn]at EK
   rw[EK]at Dl
   obtain⟨lb,rfl,rfl⟩:=Kw Dl (by omega)
   refine⟨_,.refl _,?_⟩
   refine aa 1 ?_
   have hR:=Sp s l hs bO p q lb k L aC ([(bp,dM (.ptr p 0) l (.ae lw 0 k 1) .aj .aj 0),(br,dM .cR ⟨0,0,0,0⟩ .aj .aj .aj 0),(bs,bU s),(lw,L.map pW)]++σ) hL hk (by omega) ov
   refine .perm _ (nf [[(lb,L.map iW)],cd p q (eJ s l) [],eB s l (cU L) (List.replicate L.length jq),[(bp,dM (.ptr p 0) l (.ae lw 0 k 1) .aj .aj 0)],[(br,dM .cR ⟨0,0,0,0⟩ .aj .aj .aj 0)],[(bs,bU s)],[(lw,L.map pW)]] σ (a:=[0,1,2,3,4,5,6]) (b:=[0,3,6,5,2,1,4]) (by decide)) hR ?_
   rintro _ _ ⟨Z,hZ,rfl,rfl⟩
   refine⟨_,nf [[(lb,L.map iW)],cd p q (dL s l aC).a.ws [],eB s l (cU L) Z,[(bp,dM (.ptr p 0) l (.ae lw 0 k 1) .aj .aj 0)],[(br,dM .cR ⟨0,0,0,0⟩ .aj .aj .aj 0)],[(bs,bU s)],[(lw,L.map pW)]] σ (a:=[0,3,4,5,6,1,2]) (b:=[0,1,2,3,4,5,6]) (by decide),?_⟩
   refine ai 1 ?_
   refine aa 1 ?_
   refine ai 2 ?_
   refine aa 2 ?_
   exact .drop 0 4 (.done ⟨p,q,lw,L,Z,rfl,hL,hZ,rfl,bO⟩)
set_option maxHeartbeats 4000000
theorem adq(s:Sy)(l:Lay)(p q lw n:Nat)(L:List Nat)(Z:List WZ)(W:List WS)(st:List Int)(dn:List Bool)(us:Int)(ws:List Int)(σ:Hp)(hW:Z.map (·.x)=W)(hL:L.length=n)(hZ:W.length=n)(hn:n≤64):
  ACalls Tryz.prog 44 [.agg (dM (.ptr p 0) l (.ae lw 0 n 1) (.af (.int .i64) st) (.af .bool dn) us)] ((lw,L.map pW)::cd p q ws (eB s l (cU L) Z++σ)) (aE (.tup [.int .i64 (zx W),.int .i64 (za W)]) ((lw,L.map pW)::cd p q ws (eB s l (cU L) Z++σ))):=by
 have hZl:Z.length=n:=by rw[← hZ,← hW,cm]
 refine az Tryz.func44 ?_
 intro b1
 refine aa 0 ?_
 refine cc (S:=Nat) (fun i=>[(4,.int .i64 (zx (W.take i))),(5,.int .i64 (za (W.take i))),(9,.ae lw 0 n 1),(10,.int .i64 n),(11,.int .i64 i)]) (fun _=>(b1,dM (.ptr p 0) l (.ae lw 0 n 1) (.af (.int .i64) st) (.af .bool dn) us)::(lw,L.map pW)::cd p q ws (eB s l (cU L) Z++σ)) (fun i=>i≤n) (fun i=>n-i) 0 ⟨bD _,⟨rfl,rfl,rfl,rfl,rfl,trivial⟩,rfl⟩ ?_
 intro i g gk
 have hi:i≤n:=gk
 clear gk
 refine aq (p:=(i:Int)<(n:Int)) (fun ab=>?_) (fun au=>?_)
 rotate_left
 ·have au:i=n:=by omega
  have e:W.take i=W:=eG (by omega)
  rw[e]
  exact .drop 0 1 (.done ⟨rfl,rfl⟩)
 have ab:i<n:=by omega
 have hg:(L.map pW)[0+((i:Int)).toNat*1]?=some (.ptr L[i] 0):=by
  rw[bM,dO,ef,fo,bF (by omega)];rfl
 refine aM ?_
 refine aT 1 rfl (jc rfl hg) ?_
 have hw:=Sz (s:=s) (l:=l) (I:=cU L) (Z:=Z) (i:=i) (by rw[Cr];omega) (by omega)
 have hI:(cU L)[i]'(by rw[Cr];omega)=(i,L[i]):=by simp[cU]
 have hx:Z[i].x=W[i]:=by
  have:(Z.map (·.x))[i]'(by rw[cm];omega)=Z[i].x:=Jg ..
  rw[← this];congr 1
 rw[hI,hx]at hw
 have lA:=aaL (W:=W) (i:=i) (by omega)
 have mS:=aau (W:=W) (i:=i) (by omega)
 generalize W[i]=x at hw lA mS
 have hp:((b1,dM (.ptr p 0) l (.ae lw 0 n 1) (.af (.int .i64) st) (.af .bool dn) us)::(lw,L.map pW)::cd p q ws (eB s l (cU L) Z++σ)).Perm ((L[i],dR s l i x.ev x.jo x.en x.does (IA Z[i].r x.now) x.node x.has x.nx x.out)::(IB l x.node Z[i].r Z[i].c Z[i].acc x.now++((b1,dM (.ptr p 0) l (.ae lw 0 n 1) (.af (.int .i64) st) (.af .bool dn) us)::(lw,L.map pW)::cd p q ws ((((cU L).zip Z).eraseIdx i).flatMap (xk s l)++σ)))):=by
  refine (List.Perm.append_left [_,_,_,_] (List.Perm.append_right σ hw)).trans ?_
  have h:=nf [[(b1,dM (.ptr p 0) l (.ae lw 0 n 1) (.af (.int .i64) st) (.af .bool dn) us),(lw,L.map pW)],cd p q ws [],[(L[i],dR s l i x.ev x.jo x.en x.does (IA Z[i].r x.now) x.node x.has x.nx x.out)],IB l x.node Z[i].r Z[i].c Z[i].acc x.now,(((cU L).zip Z).eraseIdx i).flatMap (xk s l)] σ (a:=[0,1,2,3,4]) (b:=[2,3,0,1,4]) (by decide)
  unfold WB
  rw[E0,dQ]
  exact h
 refine .dI (.perm hp.symm (.refl _)) ?_
 refine .quiet (by kernel_rfl) ?_
 refine aa 0 ?_
 refine aa 0 ?_
 exact bj (i+1) (by show n-(i+1)<n-i;omega) ab ⟨congrArg (AV.int .i64) lA,congrArg (AV.int .i64) mS,rfl,rfl,aY (by omega),trivial⟩ (.perm hp (.refl _))
abbrev wU(cF:List (List Int))(ev jo us:Int):List AV:=[.af (.slice (.int .u64)) cF,.int .i64 ev,.int .i64 jo,.int .i64 us]
def nm:List AV:=[.aj,.int .i64 0,.int .i64 0,.int .i64 0]
theorem ada(s:Sy)(k:Int)(aC:List (Int×Int×Unit))(σ:Hp)(hf:Fit s)(he:¬dv s k=0):ACalls Tryz.prog 13 [.agg (bU s),.int .i64 k,.af ft aC] σ (aE (.tup [.agg nm,.int .i64 (dv s k)]) σ):=by
 refine az Tryz.func13 ?_
 intro aG
 intro dw
 refine aa 1 ?_
 refine ay [] (Wi s k aC _ hf he) ?_
 intro sN
 refine ai 0 ?_
 refine ew (fun c4=>?_) (fun c4=>?_)
 ·have c4:¬(dv s k=0):=by simpa using c4
  refine ai 1 ?_
  refine aa 1 ?_
  exact .drop 0 3 (.done ⟨rfl,rfl⟩)
 ·have c4:dv s k=0:=by simpa using c4
  exact absurd c4 he
theorem Zy(s:Sy)(k:Nat)(l:Lay)(hl:iB s k=l)(aC:List (Int×Int×Unit))(σ:Hp)(hf:Fit s)(he:dv s k=0)(ov:aC.length≤100000)(dX:k≤64)(ee:(dL s l aC).dn.length=k)(hd:(dL s l aC).dn.all id=false):ACalls Tryz.prog 13 [.agg (bU s),.int .i64 k,.af ft aC] σ (fun r σ'=>r=.tup [.agg nm,.int .i64 11]∧σ'=σ∧j7 s l):=by
 have hF:=fun σ=>Vc (.af (.int .i64) (dL s l aC).st) (dL s l aC).us (dL s l aC).dn σ (by omega)
 rw[hd]at hF
 refine az Tryz.func13 ?_
 intro b3
 intro b6
 refine aa 1 ?_
 refine .perm _ (.refl _) (Rg s k l hl aC _ hf he ov) ?_
 rintro _ _ ⟨p,q,lw,L,Z,rfl,hL,hZ,rfl,bO⟩
 refine⟨_,nf [[(lw,L.map pW)],cd p q (dL s l aC).a.ws [],eB s l (cU L) Z,[(b6,nm)],[(b3,bU s)]] σ (a:=[0,3,4,1,2]) (b:=[0,1,2,3,4]) (by decide),?_⟩
 generalize (dL s l aC)=x at hF hZ
 intro aG
 refine ai 0 ?_
 refine aa 0 ?_
 refine ay [] (hF _) ?_
 refine ai 2 ?_
 refine aa 2 ?_
 exact .drop 0 6 (Q3 (eB s l (cU L) Z) (.done ⟨rfl,rfl,bO⟩))
theorem aet(s:Sy)(k:Nat)(l:Lay)(hl:iB s k=l)(aC:List (Int×Int×Unit))(σ:Hp)(hf:Fit s)(he:dv s k=0)(ov:aC.length≤100000)(dX:k≤64)(hn:l.n=(nN s:Int))(tJ:nN s≤100000)(ee:(dL s l aC).dn.length=k)(rE:(dL s l aC).a.W.length=k)(hd:(dL s l aC).dn.all id=true):ACalls Tryz.prog 13 [.agg (bU s),.int .i64 k,.af ft aC] σ (fun r σ'=>r=.tup [.agg (wU (ta l (dL s l aC).a.ws (nN s)) (zx (dL s l aC).a.W) (za (dL s l aC).a.W) (dL s l aC).us),.int .i64 0]∧σ'=σ∧j7 s l):=by
 have hF:=fun σ=>Vc (.af (.int .i64) (dL s l aC).st) (dL s l aC).us (dL s l aC).dn σ (by omega)
 rw[hd]at hF
 refine az Tryz.func13 ?_
 intro b3
 intro b6
 refine aa 1 ?_
 refine .perm _ (.refl _) (Rg s k l hl aC _ hf he ov) ?_
 rintro _ _ ⟨p,q,lw,L,Z,rfl,hL,hZ,rfl,bO⟩
 refine⟨_,nf [[(lw,L.map pW)],cd p q (dL s l aC).a.ws [],eB s l (cU L) Z,[(b6,nm)],[(b3,bU s)]] σ (a:=[0,3,4,1,2]) (b:=[0,1,2,3,4]) (by decide),?_⟩
 generalize (dL s l aC)=x at hF hZ rE ⊢
 intro aG
 refine ai 0 ?_
 refine aa 0 ?_
 refine ay [] (hF _) ?_
 obtain⟨P,hP⟩:∃P,P=(aG,dM (.ptr p 0) l (.ae lw 0 k 1) (.af (.int .i64) x.st) (.af .bool x.dn) x.us):=⟨_,rfl⟩
 have q1:(cd p q x.a.ws (P::(lw,L.map pW)::(b6,nm)::(b3,bU s)::(eB s l (cU L) Z++σ))).Perm (P::(lw,L.map pW)::(b6,nm)::(b3,bU s)::cd p q x.a.ws (eB s l (cU L) Z++σ)):=nf [[P,(lw,L.map pW),(b6,nm),(b3,bU s)],cd p q x.a.ws [],eB s l (cU L) Z] σ (a:=[1,0,2]) (b:=[0,1,2]) (by decide)
 have q2:∀Q,(cd p q x.a.ws (Q::P::(lw,L.map pW)::(b6,nm)::(b3,bU s)::(eB s l (cU L) Z++σ))).Perm (Q::P::(lw,L.map pW)::(b6,nm)::(b3,bU s)::cd p q x.a.ws (eB s l (cU L) Z++σ)):=fun Q=>nf [[Q,P,(lw,L.map pW),(b6,nm),(b3,bU s)],cd p q x.a.ws [],eB s l (cU L) Z] σ (a:=[1,0,2]) (b:=[0,1,2]) (by decide)
 subst hP
 refine .meet (S:=Nat) (fun b=>[(6,.ptr b6 0),(8,.ptr aG 0),(10,.ptr b 0)]) (fun b=>(b,wU (ta l x.a.ws (nN s)) 0 0 x.us)::(aG,dM (.ptr p 0) l (.ae lw 0 k 1) (.af (.int .i64) x.st) (.af .bool x.dn) x.us)::(lw,L.map pW)::(b6,nm)::(b3,bU s)::cd p q x.a.ws (eB s l (cU L) Z++σ)) (by kernel_rfl) ?_ ?_
 ·repeat' first
   |exact cS.mk _ ⟨rfl,rfl,rfl,trivial⟩ (aJ rfl)
   |refine And.intro ?_ ?_
   |refine aa 0 ?_
   |refine aa 1 ?_
   |refine ai 0 ?_
   |(refine .perm _ q1 (Qa p q l (nN s) _ _ hn tJ) ?_;rintro _ _ ⟨rfl,rfl⟩;refine⟨_,q1.symm,?_⟩)
   |(refine .perm _ (q2 _) (Qa p q l (nN s) _ _ hn tJ) ?_;rintro _ _ ⟨rfl,rfl⟩;refine⟨_,(q2 _).symm,?_⟩)
   |intro b
 intro b g
 refine aa 1 ?_
 refine .perm _ (nf [[(lw,L.map pW)],cd p q x.a.ws [],eB s l (cU L) Z,[(b,wU (ta l x.a.ws (nN s)) 0 0 x.us)],[(aG,dM (.ptr p 0) l (.ae lw 0 k 1) (.af (.int .i64) x.st) (.af .bool x.dn) x.us)],[(b6,nm)],[(b3,bU s)]] σ (a:=[0,1,2,3,4,5,6]) (b:=[3,4,0,5,6,1,2]) (by decide)) (adq s l p q lw k L Z _ _ _ _ _ _ hZ hL rE dX) ?_
 rintro _ _ ⟨rfl,rfl⟩
 refine⟨_,nf [[(lw,L.map pW)],cd p q x.a.ws [],eB s l (cU L) Z,[(b,wU (ta l x.a.ws (nN s)) 0 0 x.us)],[(aG,dM (.ptr p 0) l (.ae lw 0 k 1) (.af (.int .i64) x.st) (.af .bool x.dn) x.us)],[(b6,nm)],[(b3,bU s)]] σ (a:=[3,4,0,5,6,1,2]) (b:=[0,1,2,3,4,5,6]) (by decide),?_⟩
 refine ai 0 ?_
 refine ai 0 ?_
 refine aa 0 ?_
 refine ai 3 ?_
 refine aa 3 ?_
 exact .drop 0 7 (Q3 (eB s l (cU L) Z) (.done ⟨rfl,rfl,bO⟩))
end Go.Proofs.YtnikdflhefijbaaGreat
