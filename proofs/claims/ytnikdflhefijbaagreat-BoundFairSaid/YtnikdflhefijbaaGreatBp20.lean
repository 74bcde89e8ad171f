import Derived.Test.YtnikdflhefijbaaGreatBp19
import Derived.Test.YtnikdflhefijbaaGreatBp7
import Derived.Test.YtnikdflhefijbaaGreatBp12
namespace Go.Proofs.YtnikdflhefijbaaGreat
open Go.RowKit
set_option maxRecDepth 100000
set_option maxHeartbeats 4000000
def gx(s:Sy)(l:Lay)(x:WS)(ws:List Int):WS×List Int:=
 (if (ga bj l x.node x.now ws).2.2=true then ew s l x (ga bj l x.node x.now ws).1 else ⟨x.ev,x.jo,x.en,x.does,(ga bj l x.node x.now ws).1,x.node,x.has,x.nx,x.out⟩,(ga bj l x.node x.now ws).2.1)
theorem rn{s:Sy}{l:Lay}{ev jo:Int}{en:Bool}{does node:Int}{now:Nw}{has:Bool}{nx out:List Int}{ws ws':List Int}{n':Nw}{b:Bool}(h:ga bj l node now ws=(n',ws',b)):gx s l ⟨ev,jo,en,does,now,node,has,nx,out⟩ ws=(if b=true then ew s l ⟨ev,jo,en,does,now,node,has,nx,out⟩ n' else ⟨ev,jo,en,does,n',node,has,nx,out⟩,ws'):=by
 unfold gx;dsimp only;rw[h]
section
variable {l:Lay} {node:Int} {ws ws':List Int} {b:Bool}
theorem Uo{t t':Tk}(h:kN bj t ws=(t',ws',b)):ga bj l node (.take t) ws=(.take t',ws',b):=by
 show (Nw.take (kN bj t ws).1,(kN bj t ws).2)=_;rw[h]
theorem Dp{t t':Jn}(h:iq bj t ws=(t',ws',b)):ga bj l node (.join t) ws=(.join t',ws',b):=by
 show (Nw.join (iq bj t ws).1,(iq bj t ws).2)=_;rw[h]
theorem Up{t t':List Int}(h:mB bj l (aS l node) t ws=(t',ws',b)):ga bj l node (.read t) ws=(.read t',ws',b):=by
 show (Nw.read (mB bj l (aS l node) t ws).1,(mB bj l (aS l node) t ws).2)=_;rw[h]
theorem afD{t t':DQ}(h:fq bj t ws=(t',ws',b)):ga bj l node (.pop t) ws=(.pop t',ws',b):=by
 show (Nw.pop (fq bj t ws).1,(fq bj t ws).2)=_;rw[h]
theorem adZ{t t':DQ}(h:gn bj t ws=(t',ws',b)):ga bj l node (.push t) ws=(.push t',ws',b):=by
 show (Nw.push (gn bj t ws).1,(gn bj t ws).2)=_;rw[h]
theorem abT{t t':DQ}(h:gA bj t ws=(t',ws',b)):ga bj l node (.cc t) ws=(.cc t',ws',b):=by
 show (Nw.cc (gA bj t ws).1,(gA bj t ws).2)=_;rw[h]
end
def qD(s:Sy)(l:Lay)(hs:LS s l)(W:List WS)(ws:List Int)(D:List (List Nat))(M i:Nat)(X:WS×List Int):Prop:=
 ∃D' T',RJ s l hs (W.set i X.1) X.2 D' T' (M+1)∧SX.Tr (cJ s l hs) (bO s l W ws D) i (bO s l (W.set i X.1) X.2 D')
section
variable {s:Sy} {l:Lay} {hs:LS s l} {W:List WS} {ws:List Int} {D:List (List Nat)} {T:Nat→Nat} {M:Nat}
theorem Hi{α:Type}(f:α→Nat)(m:Nat):∀{l:List α},(∀x∈l,f x≤m)→SX.aF f l≤l.length*m
 | [],_=>bK _
 |a::l,h=>by
  have h1:=h a (bV ..)
  have h2:=Hi f m (l:=l) fun x hx=>h x (cE _ hx)
  show f a+SX.aF f l≤(l.length+1)*m
  rw[lh];omega
theorem Tt:∀(n:Nat) (l:List Nat),(∀v,l.count v≤1)→(∀v∈l,v<n)→l.length≤n
 | 0,l,_,h2=>by
  cases l with
  |nil=>exact aM _
  |cons a l=>exact absurd (h2 a (bV ..)) (ml _)
 |n+1,l,h1,h2=>by
  have h3:=Tt n (l.erase n) (fun v=>fy (List.Sublist.count_le v (List.erase_sublist ..)) (h1 v)) (fun v hv=>by
   have h4:=h2 v (List.mem_of_mem_erase hv)
   rcases wR (yz h4) with h5 | rfl
   ·exact h5
   ·have h6:0<(l.erase v).count v:=List.count_pos_iff.2 hv
    rw[List.count_erase_self]at h6
    have:=h1 v
    omega)
  have h7:l.length≤(l.erase n).length+1:=by
   rw[List.length_erase];split <;> omega
  omega
theorem RJ.EE(hR:RJ s l hs W ws D T M){j:Nat}{c:List Nat}(hc:D[j]?=some c):c.length≤nN s∧∀v∈c,v<nN s:=by
 have h1:∀v∈c,v<nN s:=hR.ti.nX c (bH hc)
 refine⟨Tt _ _ (fun v=>?_) h1,h1⟩
 have h2:=hR.ti.tok v
 have h3:c.count v≤SX.aF (fun l:List Nat=>l.count v) D:=SX.y4 (fun l:List Nat=>l.count v) D j c hc
 unfold SX.tok at h2
 have h4:SX.aF (fun l:List Nat=>l.count v) (bO s l W ws D).dq=SX.aF (fun l:List Nat=>l.count v) D:=rfl
 rw[h4]at h2
 split at h2 <;> omega
theorem RJ.aD(hR:RJ s l hs W ws D T M):ws.getD (nN s*nW l+nN s) 0≤100000:=by
 have h1:=hR.ti.aD
 have hn:=hs.nn
 have hk:=hs.k2
 have hl:=hR.len
 have h2:SX.aF List.length (bO s l W ws D).dq≤D.length*256:=Hi _ _ fun c hc=>by
  obtain⟨j,hj⟩:=kI.1 hc
  have:=(hR.EE hj).1
  omega
 have h3:SX.aF SX.cw (bO s l W ws D).ph≤(W.map dw).length*2:=Hi _ _ fun p _=>by
  cases p <;> simp[SX.cw]
 rw[cb]at h3
 have h4:(bO s l W ws D).aD=(ws.getD (nN s*nW l+nN s) 0).toNat:=rfl
 have h5:=hR.dl
 have h6:D.length*256≤64*256:=iR _ (by omega)
 have h7:=hR.kK
 omega
theorem RJ.bound(hR:RJ s l hs W ws D T M)(hM:M<1000000000){j:Nat}{c:List Nat}(hc:D[j]?=some c):T j+(jy c).length<4000000000000000000:=by
 have h1:=(hR.EE hc).1
 have h2:=hR.top j
 have h3:=hs.nn
 rw[cb];omega
theorem RJ.at_(hR:RJ s l hs W ws D T M){i:Nat}{x:WS}(hx:W[i]?=some x):∃c,D[i]?=some c:=by
 have hi:=(bQ.1 hx).1
 exact⟨D[i]'(by rw[hR.dl];exact hi),bc _⟩
theorem RJ.lo(hR:RJ s l hs W ws D T M):nN s*nW l+nN s<ws.length:=by
 rw[hR.fl]
 have:=hs.size
 have h2:=hs.low
 omega
theorem tF(hR:RJ s l hs W ws D T M)(i:Nat){t:Nat}(h:t≤M+1)(j:Nat):(if j=i then t else T j)≤M+1:=by
 have:=hR.top j
 split <;> omega
theorem oa(hR:RJ s l hs W ws D T M)(j:Nat):T j≤M+1:=by
 have:=hR.top j
 omega
theorem jM{A:SX.AP}{S S' S'':SX.AS}{i:Nat}(e:S'=S'')(h:SX.Tr A S i S''):SX.Tr A S i S':=e▸h
theorem abd(hR:RJ s l hs W ws D T M){i:Nat}{ev jo:Int}{v:Nat}{has:Bool}{nx out:List Int}(hv:v<nN s)
  (hx:W[i]?=some ⟨ev,jo,false,3,.clear ⟨cP l,dr l,v,false⟩,v,has,nx,out⟩) :
  qD s l hs W ws D M i (gx s l ⟨ev,jo,false,3,.clear ⟨cP l,dr l,v,false⟩,v,has,nx,out⟩ ws):=by
 have e:gx s l ⟨ev,jo,false,3,.clear ⟨cP l,dr l,v,false⟩,v,has,nx,out⟩ ws=(⟨ev,jo,false,4,.none,v,has,nx,out⟩,if (0:Int)≤(v:Nat) then gZ ws (wr (cP l+(v:Nat))) 0 else ws):=rfl
 rw[e,ag (by omega),hs.Bg hv,lq]
 have pY:=hR.lo
 refine⟨D,T,RJ.fin hR hx (by rw[ck]) ?_ rfl (pj hR hx (by rw[ck]) (fun a ha=>?_) (fun z h=>by cases h) rfl) (oa hR) (.inl rfl) (.inl rfl) (fun j h=>by cases h) (fun j h=>by cases h) ?_⟩
 ·rw[jY,ah (by omega)];exact hR.kK
 ·rw[jY,ah (by omega)]
 ·refine jM (Ty (ws:=ws) (D:=D) hx hv (by omega) (by rfl) (by rfl) (by rfl)) ?_
  exact SX.Tr.clear v (mA hx)
theorem abc(hR:RJ s l hs W ws D T M){i:Nat}{ev jo node:Int}{has:Bool}{nx out:List Int}
  (hx:W[i]?=some ⟨ev,jo,false,2,.quiet ⟨cP l,dr l,false,false⟩,node,has,nx,out⟩) :
  qD s l hs W ws D M i (gx s l ⟨ev,jo,false,2,.quiet ⟨cP l,dr l,false,false⟩,node,has,nx,out⟩ ws):=by
 have e:gx s l ⟨ev,jo,false,2,.quiet ⟨cP l,dr l,false,false⟩,node,has,nx,out⟩ ws=(⟨ev,jo,decide (gD ws (dr l)=0),vu l,.none,node,has,nx,out⟩,ws):=rfl
 rw[e,hs.count,n5]
 have WT:=hR.kK
 refine⟨D,T,RJ.fin hR hx rfl hR.kK rfl (pj hR hx rfl (fun a ha=>rfl) (fun z h=>by cases h) rfl) (oa hR) (.inl rfl) (.inl rfl) (fun j h=>by cases h) (fun j h=>by cases h) ?_⟩
 refine jM (lY (ws:=ws) (D:=D) hx (fun _ _=>rfl) (by rfl) (by rfl) D) ?_
 by_cases h0:ws.getD (nN s*nW l+nN s) 0=0
 ·rw[aY h0]
  exact SX.Tr.ua (mA hx) (show (ws.getD (nN s*nW l+nN s) 0).toNat=0 by omega)
 ·rw[b9 h0]
  have hp:dw ⟨ev,jo,false,vu l,.none,node,has,nx,out⟩=.idle (if (cJ s l hs).k<2 then 0 else 1) 0:=by
   show zN (vu l) _ _ _ _=.idle (if l.k.toNat<2 then 0 else 1) 0
   unfold vu
   by_cases hk:l.k<2
   ·rw[ag hk,ag (by omega)];rfl
   ·rw[ah hk,ah (by omega)];rfl
  rw[hp]
  exact SX.Tr.ask (mA hx) (show (ws.getD (nN s*nW l+nN s) 0).toNat≠0 by omega)
theorem ZC(hR:RJ s l hs W ws D T M){i:Nat}{ev jo:Int}{v:Nat}{has:Bool}{nx out:List Int}
  (hx:W[i]?=some ⟨ev,jo,false,8,.dA ⟨cP l,dr l,0,false⟩,v,has,nx,out⟩) :
  qD s l hs W ws D M i (gx s l ⟨ev,jo,false,8,.dA ⟨cP l,dr l,0,false⟩,v,has,nx,out⟩ ws):=by
 have e:gx s l ⟨ev,jo,false,8,.dA ⟨cP l,dr l,0,false⟩,v,has,nx,out⟩ ws=(⟨ev,jo,false,0,.none,v,false,nx,out⟩,ni ws (dr l) 18446744073709551615):=rfl
 have pY:=hR.lo
 have WT:=hR.kK
 have hc:=hR.aD
 have h1:1≤(ws.getD (nN s*nW l+nN s) 0).toNat:=by
  have h2:=hR.ti.aD
  have h3:=SX.y4 SX.cw (bO s l W ws D).ph i _ (mA (s:=s) (l:=l) (ws:=ws) (D:=D) hx)
  have h4:SX.cw (dw ⟨ev,jo,false,8,.dA ⟨cP l,dr l,0,false⟩,v,has,nx,out⟩)=1:=rfl
  have h5:(bO s l W ws D).aD=(ws.getD (nN s*nW l+nN s) 0).toNat:=rfl
  omega
 have hw:ni ws (dr l) 18446744073709551615=ws.set (nN s*nW l+nN s) (ws.getD (nN s*nW l+nN s) 0-1):=by
  unfold ni
  rw[hs.count,ag (CR (by omega) (by omega)),n5,lq]
  congr 1
  omega
 rw[e,hw]
 refine⟨D,T,RJ.fin hR hx (by rw[ck]) ?_ rfl (pj hR hx (by rw[ck]) (fun a ha=>?_) (fun z h=>by cases h) rfl) (oa hR) (.inl rfl) (.inl rfl) (fun j h=>by cases h) (fun j h=>by cases h) ?_⟩
 ·rw[jY,ag ⟨rfl,pY⟩];omega
 ·rw[jY,ah (by omega)]
 ·refine jM (UM (ws:=ws) (D:=D) hx pY (by rfl) (by rfl) (by rfl)) ?_
  rw[show (ws.getD (nN s*nW l+nN s) 0-1).toNat=(bO s l W ws D).aD-1 by show _=(ws.getD (nN s*nW l+nN s) 0).toNat-1;omega]
  exact SX.Tr.dA v (mA hx)
theorem aba(hR:RJ s l hs W ws D T M){i:Nat}{ev jo:Int}{v u:Nat}{has:Bool}{nx out:List Int}(hu:u<nN s)
  (hx:W[i]?=some ⟨ev,jo,false,6,.take ⟨cP l,dr l,u,false,false,false⟩,v,has,u::nx,out⟩) :
  qD s l hs W ws D M i (gx s l ⟨ev,jo,false,6,.take ⟨cP l,dr l,u,false,false,false⟩,v,has,u::nx,out⟩ ws):=by
 have pY:=hR.lo
 obtain⟨k1,k2⟩:=HM (ws:=ws) (a:=nN s*nW l+u) (by omega) 0 1
 by_cases hf:ws.getD (nN s*nW l+u) 0=0
 ·rw[aY hf]at k1
  rw[ag hf]at k2
  have e:gx s l ⟨ev,jo,false,6,.take ⟨cP l,dr l,u,false,false,false⟩,v,has,u::nx,out⟩ ws=(⟨ev,jo,false,6,.take ⟨cP l,dr l,u,true,false,true⟩,v,has,u::nx,out⟩,ws.set (nN s*nW l+u) 1):=by
   have e1:kN bj ⟨cP l,dr l,u,false,false,false⟩ ws=(⟨cP l,dr l,u,true,false,true⟩,ws.set (nN s*nW l+u) 1,false):=by
    show (if (0:Int)≤(u:Nat) then (if nA ws (wr (cP l+(u:Nat))) 0=true then ((⟨cP l,dr l,u,true,false,true⟩:Tk),iX ws (wr (cP l+(u:Nat))) 0 1,false) else (⟨cP l,dr l,u,false,true,true⟩,iX ws (wr (cP l+(u:Nat))) 0 1,true)) else (⟨cP l,dr l,u,false,true,true⟩,ws,true))=_
    rw[ag (by omega),hs.Bg hu,k1,k2];rfl
   exact rn (Uo e1)
  rw[e]
  refine⟨D,T,RJ.fin hR hx (by rw[ck]) ?_ rfl (pj hR hx (by rw[ck]) (fun a ha=>?_) (fun z h=>by cases h) rfl) (oa hR) (.inl rfl) (.inl rfl) (fun j h=>by cases h) (fun j h=>by cases h) ?_⟩
  ·rw[jY,ah (by omega)];exact hR.kK
  ·rw[jY,ah (by omega)]
  ·refine jM (Ty (ws:=ws) (D:=D) hx hu (by omega) (by rfl) (by rfl) (by rfl)) ?_
   exact SX.Tr.flag v out u (nx.map Int.toNat) (mA hx) (b9 fun h=>h.2 hf)
 ·rw[b9 hf]at k1
  rw[ah hf]at k2
  have e:gx s l ⟨ev,jo,false,6,.take ⟨cP l,dr l,u,false,false,false⟩,v,has,u::nx,out⟩ ws=(⟨ev,jo,false,ko (u::nx),.none,v,has,nx,out⟩,ws):=by
   have e1:kN bj ⟨cP l,dr l,u,false,false,false⟩ ws=(⟨cP l,dr l,u,false,true,true⟩,ws,true):=by
    show (if (0:Int)≤(u:Nat) then (if nA ws (wr (cP l+(u:Nat))) 0=true then ((⟨cP l,dr l,u,true,false,true⟩:Tk),iX ws (wr (cP l+(u:Nat))) 0 1,false) else (⟨cP l,dr l,u,false,true,true⟩,iX ws (wr (cP l+(u:Nat))) 0 1,true)) else (⟨cP l,dr l,u,false,true,true⟩,ws,true))=_
    rw[ag (by omega),hs.Bg hu,k1,k2];rfl
   exact rn (Uo e1)
  rw[e]
  refine⟨D,T,RJ.fin hR hx rfl hR.kK rfl (pj hR hx rfl (fun a ha=>rfl) (fun z h=>by cases h) rfl) (oa hR) (.inl rfl) (.inl rfl) (fun j h=>by cases h) (fun j h=>by cases h) ?_⟩
  refine jM (lY (ws:=ws) (D:=D) hx (fun _ _=>rfl) (by rfl) (by rfl) D) ?_
  dsimp only
  rw[Dl (nx:=nx) (does:=ko (u::nx)) rfl]
  exact SX.Tr.uf v out u (nx.map Int.toNat) (mA hx) (aY ⟨hu,hf⟩)
theorem ab9(hR:RJ s l hs W ws D T M){i:Nat}{ev jo:Int}{v u:Nat}{has:Bool}{nx out:List Int}
  (hx:W[i]?=some ⟨ev,jo,false,6,.take ⟨cP l,dr l,u,true,false,true⟩,v,has,u::nx,out⟩) :
  qD s l hs W ws D M i (gx s l ⟨ev,jo,false,6,.take ⟨cP l,dr l,u,true,false,true⟩,v,has,u::nx,out⟩ ws):=by
 have e:gx s l ⟨ev,jo,false,6,.take ⟨cP l,dr l,u,true,false,true⟩,v,has,u::nx,out⟩ ws=(⟨ev,jo,false,7,.none,v,has,u::nx,out⟩,ni ws (dr l) 1):=rfl
 have pY:=hR.lo
 have WT:=hR.kK
 have hc:=hR.aD
 have hw:ni ws (dr l) 1=ws.set (nN s*nW l+nN s) (ws.getD (nN s*nW l+nN s) 0+1):=by
  unfold ni
  rw[hs.count,ag (CR (by omega) (by omega)),n5,lq]
  congr 1
  omega
 rw[e,hw]
 refine⟨D,T,RJ.fin hR hx (by rw[ck]) ?_ rfl (pj hR hx (by rw[ck]) (fun a ha=>?_) (fun z h=>by cases h) rfl) (oa hR) (.inl rfl) (.inl rfl) (fun j h=>by cases h) (fun j h=>by cases h) ?_⟩
 ·rw[jY,ag ⟨rfl,pY⟩];omega
 ·rw[jY,ah (by omega)]
 ·refine jM (UM (ws:=ws) (D:=D) hx pY (by rfl) (by rfl) (by rfl)) ?_
  rw[show (ws.getD (nN s*nW l+nN s) 0+1).toNat=(bO s l W ws D).aD+1 by show _=(ws.getD (nN s*nW l+nN s) 0).toNat+1;omega]
  exact SX.Tr.add v out u (nx.map Int.toNat) (mA hx)
theorem adp(hR:RJ s l hs W ws D T M)(hM:M<1000000000)(Ow:MV s l ws){i:Nat}{ev jo:Int}{v:Nat}{has:Bool}{nx out y:List Int}(hv:v<nN s)
  (hy:y.length<nW l∨(nW l=0∧y=[])) (hk:∀i,i<y.length→fL s.what s.w i (wd y i)) (hx:W[i]?=some ⟨ev,jo,false,4,.read y,v,has,nx,out⟩) :
  qD s l hs W ws D M i (gx s l ⟨ev,jo,false,4,.read y,v,has,nx,out⟩ ws):=by
 have hE:=(hR.ev _ (bH hx)).1
 have Fy:=(hR.ev _ (bH hx)).2.1
 dsimp only at hE Fy
 have hew:wr (ev+1)=ev+1:=by show IntKind.i64.wrap _=_;rw[IntKind.wrap_i64];omega
 have done:∀y':List Int,((y.length+1=nW l∧y'=y++[(bO s l W ws D).cell v y.length])∨(nW l=0∧y'=[]))→eF s.what s.w y'→qD s l hs W ws D M i (ew s l ⟨ev,jo,false,4,.read y,v,has,nx,out⟩ (.read y'),ws):=by
  intro y' uw By
  have hn:iZ s v=0:=(GK (Lb hs.ia) ⟨by omega,by have:=hs.nn;omega⟩).symm
  rw[acJ (SK hn By.v)]
  dsimp only
  rw[hew]
  refine⟨D,T,RJ.fin hR hx rfl hR.kK rfl (pj hR hx rfl (fun a ha=>rfl) (fun z h=>by cases h) rfl) (oa hR) (.inr rfl) (.inl rfl) (fun j h=>by cases h) (fun j h=>by cases h) ?_⟩
  refine jM (afX (ws:=ws) (D:=D) hx (show (ev+1).toNat=ev.toNat+1 by omega) (by rfl)) ?_
  dsimp only
  rw[Dl (does:=vE s v) rfl]
  exact SX.Tr.tP v y y' (mA hx) uw
 by_cases hl:y.length<nW l
 ·have ey:gD ws (wr (aS l v+(y.length:Nat)))=(bO s l W ws D).cell v y.length:=by
   rw[hs.Bk hv hl,n5]
   show _=if _ then _ else _
   rw[ag ⟨hv,hl⟩]
  have nM:=afl (l:=l) (base:=aS l v) hl ey
  have e:gx s l ⟨ev,jo,false,4,.read y,v,has,nx,out⟩ ws=(if decide (y.length+1=cw l.words)=true then ew s l ⟨ev,jo,false,4,.read y,v,has,nx,out⟩ (.read (y++[(bO s l W ws D).cell v y.length])) else ⟨ev,jo,false,4,.read (y++[(bO s l W ws D).cell v y.length]),v,has,nx,out⟩,ws):=by
   exact rn (Up nM)
  rw[e]
  have rQ:fL s.what s.w y.length ((bO s l W ws D).cell v y.length):=by
   rw[← ey,hs.Bk hv hl]
   exact Ow.load hv hl
  by_cases he:y.length+1=nW l
  ·rw[ag (aY he)]
   refine done _ (.inl ⟨he,rfl⟩) ((hs.rG).2 ⟨by simp;omega,fun j hj=>?_⟩)
   rw[sy,UX]
   by_cases h2:j<y.length
   ·rw[ag h2];exact hk j h2
   ·rw[ah h2,ag (by omega),show j=y.length by omega];exact rQ
  ·rw[ah (by rw[b9 he];decide)]
   refine⟨D,T,RJ.fin hR hx rfl hR.kK rfl (pj hR hx rfl (fun a ha=>rfl) (fun z h=>by cases h) rfl) (oa hR) (.inl rfl) (.inl rfl) (fun j h=>by cases h) (fun j h=>by cases h) ?_⟩
   refine jM (lY (ws:=ws) (D:=D) hx (fun _ _=>rfl) (by rfl) (by rfl) D) ?_
   exact SX.Tr.tO v y (mA hx) (show y.length+1<nW l by omega)
 ·obtain⟨h0,rfl⟩:=hy.resolve_left hl
  have e:gx s l ⟨ev,jo,false,4,.read [],v,has,nx,out⟩ ws=(ew s l ⟨ev,jo,false,4,.read [],v,has,nx,out⟩ (.read []),ws):=by
   have e1:mB bj l (aS l v) [] ws=([],ws,true):=ah (by show ¬0<cw l.words;show ¬0<nW l;omega)
   exact rn (Up e1)
  rw[e]
  exact done _ (.inr ⟨h0,rfl⟩) ((hs.rG).2 ⟨by rw[h0];rfl,fun j hj=>by omega⟩)
theorem T0(hs:LS s l){ev jo:Int}{v u:Nat}{has:Bool}{nx out:List Int}(j:Jn)(mR:0≤jo)(hjo2:jo<1000000000)(hw:j.words=l.words)(BX:j.fv=false):
  ∃x':WS,(if (gL j).2=true then ew s l ⟨ev,jo,false,5,.join j,v,has,u::nx,out⟩ (.join (gL j).1) else ⟨ev,jo,false,5,.join (gL j).1,v,has,u::nx,out⟩)=x'∧dw x'=(SX.dI (cJ s l hs) v out u (nx.map Int.toNat) j.at_ j.changed).1∧x'.ev=ev∧x'.jo.toNat=jo.toNat+(SX.dI (cJ s l hs) v out u (nx.map Int.toNat) j.at_ j.changed).2∧(x'.jo=jo∨x'.jo=jo+1)∧(∀z,x'.now≠.cc z)∧sC x'.now=none∧(∀j,x'.now=.join j→j.fv=false)∧(∀q,x'.now≠.push q):=by
 have hjw:wr (jo+1)=jo+1:=by show IntKind.i64.wrap _=_;rw[IntKind.wrap_i64];omega
 unfold SX.dI
 by_cases h1:j.at_+1<cw l.words
 ·have zU:gL j=({ j with at_:=j.at_+1 },false):=by unfold gL;rw[hw,ag h1]
  rw[zU,ag (show j.at_+1<(cJ s l hs).W from h1)]
  dsimp only
  rw[ah Cg]
  refine⟨_,rfl,?_,rfl,rfl,.inl rfl,fun z h=>Nw.noConfusion h,rfl,fun j' h=>?_,fun q h=>Nw.noConfusion h⟩
  ·show SX.Ph.join _ _ _ _ _ (if j.fv=true then _ else _) _=_
   rw[BX];rfl
  ·cases h;exact BX
 ·have zU:gL j=({ j with at_:=j.at_+1,ended:=true },true):=by unfold gL;rw[hw,ah h1]
  rw[zU,ah (show ¬j.at_+1<(cJ s l hs).W from h1)]
  dsimp only
  rw[ag rfl]
  cases hc:j.changed with
  |true=>
   have e:ew s l ⟨ev,jo,false,5,.join j,v,has,u::nx,out⟩ (.join { j with at_:=j.at_+1,ended:=true })=⟨ev,jo+1,false,6,.none,v,has,u::nx,out⟩:=by
    show (if j.changed=true then _ else _)=_
    rw[ag hc]
    dsimp only
    rw[hjw]
   rw[hc]at e
   refine⟨_,e,?_,rfl,?_,.inr rfl,fun z h=>Nw.noConfusion h,rfl,fun j' h=>Nw.noConfusion h,fun q h=>Nw.noConfusion h⟩
   ·rw[ag rfl];rfl
   ·rw[ag rfl];show (jo+1).toNat=jo.toNat+1;omega
  |false=>
   have e:ew s l ⟨ev,jo,false,5,.join j,v,has,u::nx,out⟩ (.join { j with at_:=j.at_+1,ended:=true })=⟨ev,jo,false,ko (u::nx),.none,v,has,nx,out⟩:=by
    show (if j.changed=true then _ else _)=_
    rw[ah (by rw[hc];decide)]
    rfl
   rw[hc]at e
   refine⟨_,e,?_,rfl,?_,.inl rfl,fun z h=>Nw.noConfusion h,rfl,fun j' h=>Nw.noConfusion h,fun q h=>Nw.noConfusion h⟩
   ·rw[ah Cg];exact Dl (nx:=nx) (does:=ko (u::nx)) rfl
   ·rw[ah Cg];rfl
theorem adr(hR:RJ s l hs W ws D T M)(hM:M<1000000000){i:Nat}{ev jo:Int}{v u:Nat}{has:Bool}{nx out:List Int}(hu:u<nN s)(j:Jn)
  (hj:j.base=aS l u∧j.what=l.what∧j.words=l.words∧j.a=out) (j8:j.ended=false) (dX:j.at_≤nW l) (xQ:j.at_<nW l∨(j.at_=0∧j.fv=false∧j.changed=false)) (agQ:j.fv=true→j.at_<nW l)
  (hx:W[i]?=some ⟨ev,jo,false,5,.join j,v,has,u::nx,out⟩) :
  qD s l hs W ws D M i (gx s l ⟨ev,jo,false,5,.join j,v,has,u::nx,out⟩ ws):=by
 have hE:=hR.ev _ (bH hx)
 dsimp only at hE
 have hJ:=hR.jn _ (bH hx) j rfl
 have hp:=mA (s:=s) (l:=l) (ws:=ws) (D:=D) hx
 have pY:=hR.lo
 obtain⟨base,what,words,a,changed,ended,tries,at_,fv,xx⟩:=j
 obtain⟨rfl,rfl,rfl,rfl⟩:=hj
 dsimp only at j8 dX xQ agQ hJ
 subst j8
 by_cases h0:at_=nW l
 ·obtain⟨h1,h2,h3⟩:=xQ.resolve_left (by omega)
  subst h1 h2 h3
  have uI:nW l=0:=h0.symm
  have e:gx s l ⟨ev,jo,false,5,.join ⟨aS l u,l.what,l.words,a,false,false,tries,0,false,xx⟩,v,has,u::nx,a⟩ ws=(⟨ev,jo,false,ko (u::nx),.none,v,has,nx,a⟩,ws):=by
   have e1:iq bj ⟨aS l u,l.what,l.words,a,false,false,tries,0,false,xx⟩ ws=(⟨aS l u,l.what,l.words,a,false,true,tries,0,false,xx⟩,ws,true):=by
    exact ag h0
   exact rn (Dp e1)
  rw[e]
  refine⟨D,T,RJ.fin hR hx rfl hR.kK rfl (pj hR hx rfl (fun a ha=>rfl) (fun z h=>by cases h) rfl) (oa hR) (.inl rfl) (.inl rfl) (fun j h=>by cases h) (fun j h=>by cases h) ?_⟩
  refine jM (lY (ws:=ws) (D:=D) hx (fun _ _=>rfl) (by rfl) (by rfl) D) ?_
  dsimp only
  rw[Dl (nx:=nx) (does:=ko (u::nx)) rfl]
  exact SX.Tr.none v a u (nx.map Int.toNat) hp uI
 have ab:at_<nW l:=by omega
 have ey:ws.getD (u*nW l+at_) 0=(bO s l W ws D).cell u at_:=by
  show _=if _ then _ else _
  rw[ag ⟨hu,ab⟩]
 have lE:=tA hu ab
 have Jz:=hs.Bk hu ab
 have On:=hs.what
 have ON:wd a at_=a.getD at_ 0:=(sy a at_).symm
 cases fv with
 |true=>
  have hJ:=hJ rfl
  obtain⟨k1,k2⟩:=HM (ws:=ws) (a:=u*nW l+at_) (by omega) xx (dx l.what xx (wd a at_))
  by_cases hf:ws.getD (u*nW l+at_) 0=xx
  ·rw[aY hf]at k1
   rw[ag hf]at k2
   obtain⟨x',lM,q1,q2,q3,q4,q5,q6,q7,q8⟩:=T0 hs (ev:=ev) (v:=v) (u:=u) (has:=has) (nx:=nx) (out:=a) ⟨aS l u,l.what,l.words,a,true,false,tries,at_,false,xx⟩ hE.2.2.1 (by omega) rfl rfl
   have e:gx s l ⟨ev,jo,false,5,.join ⟨aS l u,l.what,l.words,a,changed,false,tries,at_,true,xx⟩,v,has,u::nx,a⟩ ws=(x',ws.set (u*nW l+at_) (dx l.what xx (wd a at_))):=by
    have e1:iq bj ⟨aS l u,l.what,l.words,a,changed,false,tries,at_,true,xx⟩ ws=((gL ⟨aS l u,l.what,l.words,a,true,false,tries,at_,false,xx⟩).1,ws.set (u*nW l+at_) (dx l.what xx (wd a at_)),(gL ⟨aS l u,l.what,l.words,a,true,false,tries,at_,false,xx⟩).2):=by
     show (if at_=cw l.words then ((⟨aS l u,l.what,l.words,a,changed,true,tries,at_,true,xx⟩:Jn),ws,true) else if nA ws (wr (aS l u+(at_:Nat))) xx=true then ((gL ⟨aS l u,l.what,l.words,a,true,false,tries,at_,false,xx⟩).1,iX ws (wr (aS l u+(at_:Nat))) xx (dx l.what xx (wd a at_)),(gL ⟨aS l u,l.what,l.words,a,true,false,tries,at_,false,xx⟩).2) else (⟨aS l u,l.what,l.words,a,changed,false,wr (tries+1),at_,false,xx⟩,iX ws (wr (aS l u+(at_:Nat))) xx (dx l.what xx (wd a at_)),false))=_
     rw[ah h0,Jz,k1,k2,ag rfl]
    rw[← lM]
    exact rn (Dp e1)
   rw[e]
   refine⟨D,T,RJ.fin hR hx (by rw[ck]) ?_ rfl (pj hR hx (by rw[ck]) (fun a ha=>?_) q5 q6.symm) (oa hR) (.inl q2) q4 (fun j h h2=>absurd ((q7 j h).symm.trans h2) (by decide)) (fun q h=>absurd h (q8 q)) ?_⟩
   ·rw[jY,ah (by omega)];exact hR.kK
   ·rw[jY,ah (by omega)]
   ·refine jM (acN (ws:=ws) (D:=D) hx hu ab (by omega) (by rfl) q2 _ q3) ?_
    rw[q1]
    rw[ON,On]at hJ ⊢
    have h9:xx=(bO s l W ws D).cell u at_:=hf.symm.trans ey
    have hp:(bO s l W ws D).ph[i]?=some (.join v a u (nx.map Int.toNat) at_ (some xx) changed):=hp
    rw[h9]at hp hJ ⊢
    exact SX.Tr.uo v a u (nx.map Int.toNat) at_ changed hp ab hJ
  ·rw[b9 hf]at k1
   rw[ah hf]at k2
   have e:gx s l ⟨ev,jo,false,5,.join ⟨aS l u,l.what,l.words,a,changed,false,tries,at_,true,xx⟩,v,has,u::nx,a⟩ ws=(⟨ev,jo,false,5,.join ⟨aS l u,l.what,l.words,a,changed,false,wr (tries+1),at_,false,xx⟩,v,has,u::nx,a⟩,ws):=by
    have e1:iq bj ⟨aS l u,l.what,l.words,a,changed,false,tries,at_,true,xx⟩ ws=(⟨aS l u,l.what,l.words,a,changed,false,wr (tries+1),at_,false,xx⟩,ws,false):=by
     show (if at_=cw l.words then ((⟨aS l u,l.what,l.words,a,changed,true,tries,at_,true,xx⟩:Jn),ws,true) else if nA ws (wr (aS l u+(at_:Nat))) xx=true then ((gL ⟨aS l u,l.what,l.words,a,true,false,tries,at_,false,xx⟩).1,iX ws (wr (aS l u+(at_:Nat))) xx (dx l.what xx (wd a at_)),(gL ⟨aS l u,l.what,l.words,a,true,false,tries,at_,false,xx⟩).2) else (⟨aS l u,l.what,l.words,a,changed,false,wr (tries+1),at_,false,xx⟩,iX ws (wr (aS l u+(at_:Nat))) xx (dx l.what xx (wd a at_)),false))=_
     rw[ah h0,Jz,k1,k2,ah (by decide)]
    exact rn (Dp e1)
   rw[e]
   refine⟨D,T,RJ.fin hR hx rfl hR.kK rfl (pj hR hx rfl (fun a ha=>rfl) (fun z h=>by cases h) rfl) (oa hR) (.inl rfl) (.inl rfl) (fun j h h2=>by cases h;cases h2) (fun j h=>by cases h) ?_⟩
   refine jM (lY (ws:=ws) (D:=D) hx (fun _ _=>rfl) (by rfl) (by rfl) D) ?_
   exact SX.Tr.lost v a u (nx.map Int.toNat) at_ changed xx hp ab (fun h=>hf (ey.trans h))
 |false=>
  by_cases hf:dx l.what (ws.getD (u*nW l+at_) 0) (wd a at_)=ws.getD (u*nW l+at_) 0
  ·obtain⟨x',lM,q1,q2,q3,q4,q5,q6,q7,q8⟩:=T0 hs (ev:=ev) (v:=v) (u:=u) (has:=has) (nx:=nx) (out:=a) ⟨aS l u,l.what,l.words,a,changed,false,tries,at_,false,ws.getD (u*nW l+at_) 0⟩ hE.2.2.1 (by omega) rfl rfl
   have e:gx s l ⟨ev,jo,false,5,.join ⟨aS l u,l.what,l.words,a,changed,false,tries,at_,false,xx⟩,v,has,u::nx,a⟩ ws=(x',ws):=by
    have e1:iq bj ⟨aS l u,l.what,l.words,a,changed,false,tries,at_,false,xx⟩ ws=((gL ⟨aS l u,l.what,l.words,a,changed,false,tries,at_,false,ws.getD (u*nW l+at_) 0⟩).1,ws,(gL ⟨aS l u,l.what,l.words,a,changed,false,tries,at_,false,ws.getD (u*nW l+at_) 0⟩).2):=by
     show (if at_=cw l.words then ((⟨aS l u,l.what,l.words,a,changed,true,tries,at_,false,xx⟩:Jn),ws,true) else if dx l.what (gD ws (wr (aS l u+(at_:Nat)))) (wd a at_)=gD ws (wr (aS l u+(at_:Nat))) then ((gL ⟨aS l u,l.what,l.words,a,changed,false,tries,at_,false,gD ws (wr (aS l u+(at_:Nat)))⟩).1,ws,(gL ⟨aS l u,l.what,l.words,a,changed,false,tries,at_,false,gD ws (wr (aS l u+(at_:Nat)))⟩).2) else (⟨aS l u,l.what,l.words,a,changed,false,tries,at_,true,gD ws (wr (aS l u+(at_:Nat)))⟩,ws,false))=_
     rw[ah h0,Jz,n5,ag hf]
    rw[← lM]
    exact rn (Dp e1)
   rw[e]
   refine⟨D,T,RJ.fin hR hx rfl hR.kK rfl (pj hR hx rfl (fun a ha=>rfl) q5 q6.symm) (oa hR) (.inl q2) q4 (fun j h h2=>absurd ((q7 j h).symm.trans h2) (by decide)) (fun q h=>absurd h (q8 q)) ?_⟩
   refine jM (afW (ws:=ws) (D:=D) hx q2 _ q3) ?_
   rw[q1]
   refine SX.Tr.same v a u (nx.map Int.toNat) at_ changed hp ab ?_
   show dx s.what _ _=_
   rw[← ey,← ON,← On];exact hf
  ·have e:gx s l ⟨ev,jo,false,5,.join ⟨aS l u,l.what,l.words,a,changed,false,tries,at_,false,xx⟩,v,has,u::nx,a⟩ ws=(⟨ev,jo,false,5,.join ⟨aS l u,l.what,l.words,a,changed,false,tries,at_,true,ws.getD (u*nW l+at_) 0⟩,v,has,u::nx,a⟩,ws):=by
    have e1:iq bj ⟨aS l u,l.what,l.words,a,changed,false,tries,at_,false,xx⟩ ws=(⟨aS l u,l.what,l.words,a,changed,false,tries,at_,true,ws.getD (u*nW l+at_) 0⟩,ws,false):=by
     show (if at_=cw l.words then ((⟨aS l u,l.what,l.words,a,changed,true,tries,at_,false,xx⟩:Jn),ws,true) else if dx l.what (gD ws (wr (aS l u+(at_:Nat)))) (wd a at_)=gD ws (wr (aS l u+(at_:Nat))) then ((gL ⟨aS l u,l.what,l.words,a,changed,false,tries,at_,false,gD ws (wr (aS l u+(at_:Nat)))⟩).1,ws,(gL ⟨aS l u,l.what,l.words,a,changed,false,tries,at_,false,gD ws (wr (aS l u+(at_:Nat)))⟩).2) else (⟨aS l u,l.what,l.words,a,changed,false,tries,at_,true,gD ws (wr (aS l u+(at_:Nat)))⟩,ws,false))=_
     rw[ah h0,Jz,n5,ah hf]
    exact rn (Dp e1)
   rw[e]
   refine⟨D,T,RJ.fin hR hx rfl hR.kK rfl (pj hR hx rfl (fun a ha=>rfl) (fun z h=>by cases h) rfl) (oa hR) (.inl rfl) (.inl rfl) (fun j h h2=>by cases h;exact hf) (fun j h=>by cases h) ?_⟩
   refine jM (lY (ws:=ws) (D:=D) hx (fun _ _=>rfl) (by rfl) (by rfl) D) ?_
   have h9:dw ⟨ev,jo,false,5,.join ⟨aS l u,l.what,l.words,a,changed,false,tries,at_,true,ws.getD (u*nW l+at_) 0⟩,v,has,u::nx,a⟩=.join v a u (nx.map Int.toNat) at_ (some ((bO s l W ws D).cell u at_)) changed:=by rw[← ey];rfl
   rw[h9]
   refine SX.Tr.load v a u (nx.map Int.toNat) at_ changed hp ab ?_
   show ¬dx s.what _ _=_
   rw[← ey,← ON,← On];exact hf
end
set_option maxHeartbeats 4000000
theorem afp{q q':DQ}{ws ws':List Int}(he:q.ended=false)(h:fq bj q ws=(q',ws',false)):q'.at_=q.at_+1:=by
 unfold fq at h
 rw[he,ah (by decide)]at h
 (repeat' split at h) <;> cases h <;> rfl
theorem adG{q q':DQ}{ws ws':List Int}(he:q.ended=false)(h:gn bj q ws=(q',ws',false)):q'.at_=q.at_+1∧q.at_<3:=by
 unfold gn at h
 rw[he,ah (by decide)]at h
 by_cases h0:q.at_=0
 ·rw[ag h0]at h;cases h;exact⟨rfl,by omega⟩
 by_cases h1:q.at_=1
 ·rw[ah h0,ag h1]at h
  split at h
  ·cases h
  ·cases h;exact⟨rfl,by omega⟩
 by_cases h2:q.at_=2
 ·rw[ah h0,ah h1,ag h2]at h;cases h;exact⟨rfl,by omega⟩
 ·rw[ah h0,ah h1,ah h2]at h;cases h
theorem abx{q q':DQ}{ws ws':List Int}(he:q.ended=false)(hk:q.ok=false)(h:gn bj q ws=(q',ws',true))(ho:q'.ok=true)(h3:q.at_≤3):q.at_=3:=by
 unfold gn at h
 rw[he,ah (by decide)]at h
 by_cases h0:q.at_=0
 ·rw[ag h0]at h;cases h
 by_cases h1:q.at_=1
 ·rw[ah h0,ag h1]at h
  split at h
  ·cases h;exact absurd (hk.symm.trans ho) (by decide)
  ·cases h
 by_cases h2:q.at_=2
 ·rw[ah h0,ah h1,ag h2]at h;cases h
 ·omega
theorem ab7{q q':DQ}{ws ws':List Int}(he:q.ended=false)(h:gA bj q ws=(q',ws',false)):q'.at_=q.at_+1∧q.at_<3:=by
 unfold gA at h
 rw[he,ah (by decide)]at h
 by_cases h0:q.at_=0
 ·rw[ag h0]at h;cases h;exact⟨rfl,by omega⟩
 by_cases h1:q.at_=1
 ·rw[ah h0,ag h1]at h
  split at h
  ·cases h
  ·cases h;exact⟨rfl,by omega⟩
 by_cases h2:q.at_=2
 ·rw[ah h0,ah h1,ag h2]at h;cases h;exact⟨rfl,by omega⟩
 ·rw[ah h0,ah h1,ah h2]at h;cases h
theorem aaC{c:List Nat}{c':List Int}{n:Int}(h:jy c=c'++[n]):∃(c0:List Nat) (v:Nat),c=c0++[v]∧c'=jy c0∧n=(v:Int):=by
 obtain⟨l1,l2,h1,h2,h3⟩:=List.map_eq_append_iff.1 h
 obtain⟨v,h4,h5⟩:=List.map_eq_singleton_iff.1 h3
 exact⟨l1,v,by rw[h1,h4],h2.symm,h5.symm⟩
theorem R3{c:List Nat}{c':List Int}{n:Int}(h:jy c=n::c'):∃(v:Nat) (c0:List Nat),c=v::c0∧n=(v:Int)∧c'=jy c0:=by
 cases c with
 |nil=>cases h
 |cons v c0=>
  have h:(v:Int)::jy c0=n::c':=h
  injection h with h1 h2
  exact⟨v,c0,rfl,h1.symm,h2.symm⟩
theorem LN{c:List Nat}(h:jy c=[]):c=[]:=List.map_eq_nil_iff.1 h
theorem AZ{s:Sy}{l:Lay}(hs:LS s l){v:Nat}(hv:v<nN s):rj l v=3∧pg l v=v:=by
 have h1:=hs.nn
 have h2:=hs.n
 have h3:wu l.n=(nN s:Int):=by show IntKind.u64.wrap _=_;rw[IntKind.wrap_u64];omega
 unfold rj pg
 rw[h3,ah (by omega),ah (by omega)]
 exact⟨rfl,iC (by omega) (by omega)⟩
theorem HL{ev jo does node:Int}{has:Bool}{nx out:List Int}(q:DQ):dw ⟨ev,jo,false,does,.pop q,node,has,nx,out⟩=if q.at_=5∧q.ok=true then .held q.x.toNat else .idle 0 q.at_:=rfl
section
variable {s:Sy} {l:Lay} {hs:LS s l} {W:List WS} {ws:List Int} {D:List (List Nat)} {T:Nat→Nat} {M:Nat}
theorem Mm(hs:LS s l){j:Nat}(hj:j≤64):gK s l j<1000000000:=by
 have h1:=hs.nn
 have h2:=hs.ww
 have h3:=sx h1.2.2 h2.2
 have h4:j*(nN s+3)≤64*259:=jm hj (by omega)
 unfold gK;omega
theorem MF{i:Nat}{ws':List Int}(je:∀a,¬(gK s l i≤a∧a<gK s l i+2+rm (eu l))→ws'.getD a 0=ws.getD a 0)(a:Nat)(h:a<nN s*nW l+nN s+1):ws'.getD a 0=ws.getD a 0:=
 je a fun h2=>by unfold gK at h2;omega
theorem afc(hR:RJ s l hs W ws D T M)(hM:M<1000000000){i:Nat}{ev jo:Int}{node:Int}{has:Bool}{nx out:List Int}(q:DQ)(j8:q.ended=false)(h5:q.at_≤5)(hxq:0≤q.x)
  (hx:W[i]?=some ⟨ev,jo,false,0,.pop q,node,has,nx,out⟩) :
  qD s l hs W ws D M i (gx s l ⟨ev,jo,false,0,.pop q,node,has,nx,out⟩ ws):=by
 obtain⟨c,hc⟩:=hR.at_ hx
 have hi:=(bQ.1 hx).1
 have hlen:=hR.len
 have ef:=hs.k2
 have hD:=hR.di i c hc
 rw[AK hx]at hD
 have hD:DI (gK s l i) (eu l) ws (some (true,q)) (lJ s l W i) (T i) (jy c):=hD
 obtain⟨q',ws',e,ao⟩:∃q' ws' e,fq bj q ws=(q',ws',e):=⟨_,_,_,rfl⟩
 obtain⟨h1,je,hb,D4⟩:=afq hD (Mm hs (by omega)) (hR.bound hM hc) ao
 have ff:=MF (s:=s) (l:=l) je
 have Jx:=hR.EE hc
 have gV:0≤ws'.getD (nN s*nW l+nN s) 0:=by rw[ff _ (by omega)];exact hR.kK
 have hp:=mA (s:=s) (l:=l) (ws:=ws) (D:=D) hx
 have zy:=hR.top i
 have E4:gx s l ⟨ev,jo,false,0,.pop q,node,has,nx,out⟩ ws=(if e=true then ew s l ⟨ev,jo,false,0,.pop q,node,has,nx,out⟩ (.pop q') else ⟨ev,jo,false,0,.pop q',node,has,nx,out⟩,ws'):=by
  exact rn (afD ao)
 rw[E4]
 have ke:¬(q.at_=5∧q.ok=true)→(bO s l W ws D).ph[i]?=some (.idle 0 q.at_):=fun h=>by
  rw[hp,HL,ah h]
 rcases D4 with ⟨rfl,h6,h7,hd⟩ | ⟨rfl,h6,pX,rX,hd⟩ | ⟨rfl,pX,h6,rX,hd⟩ | ⟨rfl,pX,h6,c',rX,hd⟩ | ⟨rfl,pX,h6,h7,Jp,rX,hd⟩
 ·rw[ah (by decide)]
  have dX:=afp j8 ao
  have kG:=xJ hR hx (x':=⟨ev,jo,false,0,.pop q',node,has,nx,out⟩) h1 je (fun z h=>by cases h) hd
  rw[n0 hc]at kG
  refine⟨D,_,RJ.fin hR hx h1 gV rfl kG (tF hR i (by omega)) (.inl rfl) (.inl rfl) (fun j h=>by cases h) (fun j h=>by cases h) ?_⟩
  refine jM (lY (ws:=ws) (D:=D) hx ff (by rfl) (by rfl) D) ?_
  have h9:dw ⟨ev,jo,false,0,.pop q',node,has,nx,out⟩=.idle 0 (q.at_+1):=by
   rw[HL,ah fun h=>by rw[h7 h.1]at h;exact absurd h.2 (by decide),dX]
  rw[h9]
  exact SX.Tr.uc q.at_ (ke fun h=>h6 h.1) (Nat.lt_of_le_of_ne h5 h6)
 ·rw[ah (by decide)]
  obtain⟨v,c0,rfl,E5,gU⟩:=R3 rX
  have mU:=LN gU.symm
  subst mU
  refine⟨D.set i [],_,RJ.fin hR hx h1 gV (by rw[ck]) (xJ hR hx (x':=⟨ev,jo,false,0,.pop q',node,has,nx,out⟩) (c':=[]) h1 je (fun z h=>by cases h) hd) (tF hR i (by omega)) (.inl rfl) (.inl rfl) (fun j h=>by cases h) (fun j h=>by cases h) ?_⟩
  refine jM (lY (ws:=ws) (D:=D) hx ff (by rfl) (by rfl) (D.set i [])) ?_
  have h9:dw ⟨ev,jo,false,0,.pop q',node,has,nx,out⟩=.held v:=by
   rw[HL,ag ⟨h6,pX⟩,E5];rfl
  rw[h9]
  have ho:zE (gK s l i) (eu l) (lJ s l W i) (T i) (jy [v]) q:=hD.ow
  exact SX.Tr.cas v q.at_ (ke fun h=>absurd (ho.a5 h.1) (by simp)) hc
 ·rw[ag rfl]
  have mU:=LN rX
  subst mU
  have hb:ew s l ⟨ev,jo,false,0,.pop q,node,has,nx,out⟩ (.pop q')=⟨ev,jo,false,rf l,.none,node,has,nx,out⟩:=ah (by rw[pX];decide)
  rw[hb]
  have kG:=xJ hR hx (x':=⟨ev,jo,false,rf l,.none,node,has,nx,out⟩) h1 je (fun z h=>by cases h) hd
  rw[n0 hc]at kG
  refine⟨D,_,RJ.fin hR hx h1 gV rfl kG (tF hR i (by omega)) (.inl rfl) (.inl rfl) (fun j h=>by cases h) (fun j h=>by cases h) ?_⟩
  refine jM (lY (ws:=ws) (D:=D) hx ff (by rfl) (by rfl) D) ?_
  have h9:dw ⟨ev,jo,false,rf l,.none,node,has,nx,out⟩=.idle (if (cJ s l hs).k<2 then 2 else 1) 0:=by
   show zN (rf l) _ _ _ _=.idle (if l.k.toNat<2 then 2 else 1) 0
   unfold rf
   by_cases hk:l.k<2
   ·rw[ag hk,ag (by omega)];rfl
   ·rw[ah hk,ah (by omega)];rfl
  rw[h9]
  exact SX.Tr.ud q.at_ (ke fun h=>by have:=h6 h.1;rw[this]at h;exact absurd h.2 (by decide)) hc
 ·rw[ag rfl]
  obtain⟨c0,v,rfl,rfl,E5⟩:=aaC rX
  have hv:v<nN s:=Jx.2 v (by simp)
  have hb:ew s l ⟨ev,jo,false,0,.pop q,node,has,nx,out⟩ (.pop q')=⟨ev,jo,false,3,.none,v,true,nx,out⟩:=by
   show (if q'.ok=true then _ else _)=_
   rw[ag pX,E5,(AZ hs hv).1,(AZ hs hv).2]
  rw[hb]
  refine⟨D.set i c0,_,RJ.fin hR hx h1 gV (by rw[ck]) (xJ hR hx (x':=⟨ev,jo,false,3,.none,v,true,nx,out⟩) (c':=c0) h1 je (fun z h=>by cases h) hd) (tF hR i (by omega)) (.inl rfl) (.inl rfl) (fun j h=>by cases h) (fun j h=>by cases h) ?_⟩
  refine jM (lY (ws:=ws) (D:=D) hx ff (by rfl) (by rfl) (D.set i c0)) ?_
  exact SX.Tr.pop v c0 q.at_ (ke fun h=>by omega) hc
 ·rw[ag rfl]
  have mU:=LN rX
  subst mU
  have WG:(bO s l W ws D).ph[i]?=some (.held q.x.toNat):=by
   rw[hp,HL,ag ⟨h6,h7⟩]
  have hv:q.x.toNat<nN s:=hR.ti.at_ WG (v:=q.x.toNat) (by simp[SX.nodes])
  have wD:q.x=(q.x.toNat:Int):=by omega
  have hb:ew s l ⟨ev,jo,false,0,.pop q,node,has,nx,out⟩ (.pop q')=⟨ev,jo,false,3,.none,(q.x.toNat:Int),true,nx,out⟩:=by
   show (if q'.ok=true then _ else _)=_
   rw[ag pX,Jp,wD,bU,(AZ hs hv).1,(AZ hs hv).2]
  rw[hb]
  have kG:=xJ hR hx (x':=⟨ev,jo,false,3,.none,(q.x.toNat:Int),true,nx,out⟩) (c':=[]) h1 je (fun z h=>by cases h) hd
  rw[n0 hc]at kG
  refine⟨D,_,RJ.fin hR hx h1 gV rfl kG (tF hR i (by omega)) (.inl rfl) (.inl rfl) (fun j h=>by cases h) (fun j h=>by cases h) ?_⟩
  refine jM (lY (ws:=ws) (D:=D) hx ff (by rfl) (by rfl) D) ?_
  exact SX.Tr.uM q.x.toNat WG
theorem adq(hR:RJ s l hs W ws D T M)(hM:M<1000000000){i:Nat}{ev jo:Int}{v u:Nat}{has:Bool}{nx out:List Int}(q:DQ)(j8:q.ended=false)(bF:q.ok=false)(h3:q.at_≤3)
  (hx:W[i]?=some ⟨ev,jo,false,7,.push q,v,has,u::nx,out⟩) :
  qD s l hs W ws D M i (gx s l ⟨ev,jo,false,7,.push q,v,has,u::nx,out⟩ ws):=by
 obtain⟨c,hc⟩:=hR.at_ hx
 have hi:=(bQ.1 hx).1
 have hlen:=hR.len
 have ef:=hs.k2
 have hD:=hR.di i c hc
 rw[AK hx]at hD
 have hD:DI (gK s l i) (eu l) ws (some (false,q)) (lJ s l W i) (T i) (jy c):=hD
 have Jp:q.n=(u:Int):=hR.pn _ (bH hx) q rfl
 obtain⟨q',ws',e,ao⟩:∃q' ws' e,gn bj q ws=(q',ws',e):=⟨_,_,_,rfl⟩
 obtain⟨h1,je,hn,hb,D4⟩:=adH hD (Mm hs (by omega)) (hR.bound hM hc) ao
 have ff:=MF (s:=s) (l:=l) je
 have Jx:=hR.EE hc
 have gV:0≤ws'.getD (nN s*nW l+nN s) 0:=by rw[ff _ (by omega)];exact hR.kK
 have hp:=mA (s:=s) (l:=l) (ws:=ws) (D:=D) hx
 have hp:(bO s l W ws D).ph[i]?=some (.push v out u (nx.map Int.toNat) q.at_):=hp
 have zy:=hR.top i
 have E4:gx s l ⟨ev,jo,false,7,.push q,v,has,u::nx,out⟩ ws=(if e=true then ⟨ev,jo,false,ko (u::nx),.none,v,has,nx,out⟩ else ⟨ev,jo,false,7,.push q',v,has,u::nx,out⟩,ws'):=by
  exact rn (adZ ao)
 rw[E4]
 rcases D4 with ⟨rfl,hd⟩ | ⟨rfl,pX,ahU,hd⟩ | ⟨rfl,pX,oo,hd⟩
 ·rw[ah (by decide)]
  have dX:=adG j8 ao
  have kG:=xJ hR hx (x':=⟨ev,jo,false,7,.push q',v,has,u::nx,out⟩) h1 je (fun z h=>by cases h) hd
  rw[n0 hc]at kG
  refine⟨D,_,RJ.fin hR hx h1 gV rfl kG (tF hR i (by omega)) (.inl rfl) (.inl rfl) (fun j h=>by cases h) (fun q2 h=>by cases h;exact hn.trans Jp) ?_⟩
  refine jM (lY (ws:=ws) (D:=D) hx ff (by rfl) (by rfl) D) ?_
  have h9:dw ⟨ev,jo,false,7,.push q',v,has,u::nx,out⟩=.push v out u (nx.map Int.toNat) (q.at_+1):=by rw[← dX.1];rfl
  rw[h9]
  exact SX.Tr.tQ v out u (nx.map Int.toNat) q.at_ hp dX.2
 ·rw[hs.room.2,cb]at ahU
  omega
 ·rw[ag rfl]
  have h4:=abx j8 bF ao pX h3
  have hd:DI (gK s l i) (eu l) ws' none (lJ s l W i) (T i) (jy (c++[u])):=by
   show DI _ _ _ _ _ _ (List.map _ (c++[u]))
   rw[cM]
   rw[Jp]at hd
   exact hd
  refine⟨D.set i (c++[u]),_,RJ.fin hR hx h1 gV (by rw[ck]) (xJ hR hx (x':=⟨ev,jo,false,ko (u::nx),.none,v,has,nx,out⟩) h1 je (fun z h=>by cases h) hd) (tF hR i (by omega)) (.inl rfl) (.inl rfl) (fun j h=>by cases h) (fun j h=>by cases h) ?_⟩
  refine jM (lY (ws:=ws) (D:=D) hx ff (by rfl) (by rfl) (D.set i (c++[u]))) ?_
  dsimp only
  rw[Dl (nx:=nx) (does:=ko (u::nx)) rfl]
  rw[h4]at hp
  exact SX.Tr.push v out u (nx.map Int.toNat) c hp hc
theorem abb(hR:RJ s l hs W ws D T M)(hM:M<1000000000){i j:Nat}{ev jo:Int}{node:Int}{has:Bool}{nx out:List Int}(q:DQ)(j8:q.ended=false)(hj:(j:Int)<l.k)(Ic:q.base=(gK s l j:Int))
  (hx:W[i]?=some ⟨ev,jo,false,1,.cc q,node,has,nx,out⟩) :
  qD s l hs W ws D M i (gx s l ⟨ev,jo,false,1,.cc q,node,has,nx,out⟩ ws):=by
 have hlen:=hR.len
 have Jt:j<D.length:=by rw[hR.dl];omega
 obtain⟨c,hc⟩:∃c,D[j]?=some c:=⟨D[j],bc Jt⟩
 have ef:=hs.k2
 have hD:=hR.di j c hc
 obtain⟨q',ws',e,ao⟩:∃q' ws' e,gA bj q ws=(q',ws',e):=⟨_,_,_,rfl⟩
 obtain⟨h1,je,hb,D4⟩:=ab8 hD ⟨i,_,hx,rfl,Ic⟩ j8 (Mm hs (by omega)) (hR.bound hM hc) ao
 have ff:=MF (s:=s) (l:=l) je
 have Jx:=hR.EE hc
 have gV:0≤ws'.getD (nN s*nW l+nN s) 0:=by rw[ff _ (by omega)];exact hR.kK
 have hp:=mA (s:=s) (l:=l) (ws:=ws) (D:=D) hx
 have hp:(bO s l W ws D).ph[i]?=some (.idle 1 q.at_):=hp
 have zy:=hR.top j
 have E4:gx s l ⟨ev,jo,false,1,.cc q,node,has,nx,out⟩ ws=(if e=true then ew s l ⟨ev,jo,false,1,.cc q,node,has,nx,out⟩ (.cc q') else ⟨ev,jo,false,1,.cc q',node,has,nx,out⟩,ws'):=by
  exact rn (abT ao)
 rw[E4]
 rcases D4 with ⟨rfl,lQ,hd⟩ | ⟨rfl,pX,hd⟩ | ⟨rfl,pX,c',rX,hd⟩
 ·rw[ah (by decide)]
  have dX:=ab7 j8 ao
  have kG:=HS (c':=c) hR hx (x':=⟨ev,jo,false,1,.cc q',node,has,nx,out⟩) Jt h1 je (.inl ⟨rfl,hb.trans Ic⟩) rfl (hd.qw fun z hz=>hz.imp id fun h=>h.2)
  rw[n0 hc]at kG
  refine⟨D,_,RJ.fin hR hx h1 gV rfl kG (tF hR j (by omega)) (.inl rfl) (.inl rfl) (fun j h=>by cases h) (fun j h=>by cases h) ?_⟩
  refine jM (lY (ws:=ws) (D:=D) hx ff (by rfl) (by rfl) D) ?_
  have h9:dw ⟨ev,jo,false,1,.cc q',node,has,nx,out⟩=.idle 1 (q.at_+1):=by rw[← dX.1];rfl
  rw[h9]
  exact SX.Tr.tG q.at_ hp dX.2
 ·rw[ag rfl]
  have p7:ew s l ⟨ev,jo,false,1,.cc q,node,has,nx,out⟩ (.cc q')=⟨ev,jo,false,2,.none,node,has,nx,out⟩:=ah (by rw[pX];decide)
  rw[p7]
  have kG:=HS (c':=c) (q':=q') hR hx (x':=⟨ev,jo,false,2,.none,node,has,nx,out⟩) Jt h1 je (.inr fun z h=>by cases h) rfl (hd.qw fun z hz=>hz.elim id fun h=>by cases h.1)
  rw[n0 hc]at kG
  refine⟨D,_,RJ.fin hR hx h1 gV rfl kG (tF hR j (by omega)) (.inl rfl) (.inl rfl) (fun j h=>by cases h) (fun j h=>by cases h) ?_⟩
  refine jM (lY (ws:=ws) (D:=D) hx ff (by rfl) (by rfl) D) ?_
  exact SX.Tr.tH q.at_ hp
 ·rw[ag rfl]
  obtain⟨v,c0,rfl,E5,rfl⟩:=R3 rX
  have hv:v<nN s:=Jx.2 v (by simp)
  have p7:ew s l ⟨ev,jo,false,1,.cc q,node,has,nx,out⟩ (.cc q')=⟨ev,jo,false,3,.none,v,true,nx,out⟩:=by
   show (if q'.ok=true then _ else _)=_
   rw[ag pX,E5,(AZ hs hv).1,(AZ hs hv).2]
  rw[p7]
  refine⟨D.set j c0,_,RJ.fin hR hx h1 gV (by rw[ck]) (HS (c':=c0) (q':=q') hR hx (x':=⟨ev,jo,false,3,.none,v,true,nx,out⟩) Jt h1 je (.inr fun z h=>by cases h) rfl (hd.qw fun z hz=>hz.elim id fun h=>by cases h.1)) (tF hR j (by omega)) (.inl rfl) (.inl rfl) (fun j h=>by cases h) (fun j h=>by cases h) ?_⟩
  refine jM (lY (ws:=ws) (D:=D) hx ff (by rfl) (by rfl) (D.set j c0)) ?_
  exact SX.Tr.cc j v c0 q.at_ hp hc
theorem RJ.afU(hR:RJ s l hs W ws D T M){i:Nat}{x:WS}(hx:W[i]?=some x)(hn:x.now=.none)(hw:WV s l i x)(d:Int){n:Nw}(hb:iN l i x.does x.node x.nx x.out d=n):
  RJ s l hs (W.set i ⟨x.ev,x.jo,x.en,x.does,n,x.node,x.has,x.nx,x.out⟩) ws D T M:=by
 have hi:=(bQ.1 hx).1
 have hlen:=hR.len
 have ef:=hs.k2
 have pM:(0:Int)≤(i:Nat)∧((i:Nat):Int)<l.k:=by omega
 have ke:dw ⟨x.ev,x.jo,x.en,x.does,n,x.node,x.has,x.nx,x.out⟩=dw x:=by
  have:=SJ l i d x
  rw[show km l i x d=n by unfold km;rw[hn];exact hb]at this
  exact this
 have nQ:bO s l (W.set i ⟨x.ev,x.jo,x.en,x.does,n,x.node,x.has,x.nx,x.out⟩) ws D=bO s l W ws D:=by
  rw[lY (ws:=ws) (D:=D) (x':=⟨x.ev,x.jo,x.en,x.does,n,x.node,x.has,x.nx,x.out⟩) hx (fun _ _=>rfl) rfl rfl D,ke,n0 (mA hx)];rfl
 have V2:lG W i=none:=by rw[AK hx,hn];rfl
 have key:(∀(j:Nat) (c:List Nat),D[j]?=some c→DI (gK s l j) (eu l) ws (lG (W.set i ⟨x.ev,x.jo,x.en,x.does,n,x.node,x.has,x.nx,x.out⟩) j) (lJ s l (W.set i ⟨x.ev,x.jo,x.en,x.does,n,x.node,x.has,x.nx,x.out⟩) j) (T j) (jy c))→(∀j,n=.join j→j.fv=true→dx j.what j.x (wd j.a j.at_)≠j.x)→(∀q,n=.push q→q.n=x.nx.headD 0)→RJ s l hs (W.set i ⟨x.ev,x.jo,x.en,x.does,n,x.node,x.has,x.nx,x.out⟩) ws D T M:=by
  intro kG zU sV
  refine⟨by rw[ck];exact hR.len,hR.fl,hR.kK,by rw[ck];exact hR.dl,kG,hR.top,fun y hy=>?_,fun y hy=>?_,fun y hy=>?_,by rw[nQ];exact hR.ti⟩
  ·rcases An hy with hy | rfl
   ·exact hR.ev y hy
   ·exact hR.ev x (bH hx)
  ·rcases An hy with hy | rfl
   ·exact hR.jn y hy
   ·exact zU
  ·rcases An hy with hy | rfl
   ·exact hR.pn y hy
   ·exact sV
 have plain:(∀z,n≠.cc z)→sC n=none→∀(j:Nat) (c:List Nat),D[j]?=some c→DI (gK s l j) (eu l) ws (lG (W.set i ⟨x.ev,x.jo,x.en,x.does,n,x.node,x.has,x.nx,x.out⟩) j) (lJ s l (W.set i ⟨x.ev,x.jo,x.en,x.does,n,x.node,x.has,x.nx,x.out⟩) j) (T j) (jy c):=fun h1 h2=>
  pj hR hx (x':=⟨x.ev,x.jo,x.en,x.does,n,x.node,x.has,x.nx,x.out⟩) rfl (fun _ _=>rfl) h1 (by rw[hn];exact h2.symm)
 have own:(∀z,n≠.cc z)→(∀c,D[i]?=some c→DI (gK s l i) (eu l) ws (sC n) (lJ s l W i) (T i) (jy c))→∀(j:Nat) (c:List Nat),D[j]?=some c→DI (gK s l j) (eu l) ws (lG (W.set i ⟨x.ev,x.jo,x.en,x.does,n,x.node,x.has,x.nx,x.out⟩) j) (lJ s l (W.set i ⟨x.ev,x.jo,x.en,x.does,n,x.node,x.has,x.nx,x.out⟩) j) (T j) (jy c):=fun h1 h2 j c hj=>by
  obtain⟨c0,gV⟩:=hR.at_ hx
  have:=xJ hR hx (x':=⟨x.ev,x.jo,x.en,x.does,n,x.node,x.has,x.nx,x.out⟩) (c':=c0) (T':=T i) rfl (fun _ _=>rfl) h1 (h2 c0 gV)
  rw[n0 gV]at this
  have h3:=this j c hj
  have e:(if j=i then T i else T j)=T j:=by split <;> simp_all
  rw[e]at h3
  exact h3
 have Fi:=hs.xR (k:=i) (by omega)
 by_cases h0:x.does=0
 ·rw[IW h0]at hb
  subst hb
  refine key (own (fun z h=>by cases h) fun c hc=>?_) (fun j h=>by cases h) (fun q h=>by cases h)
  have:=hR.di i c hc
  rw[V2]at this
  exact this.pop Fi rfl rfl rfl rfl
 by_cases h1:x.does=1
 ·rw[IV h1]at hb
  subst hb
  obtain⟨v,hv,hvk⟩:=Rg hs pM (hw.BJ h1) d
  rw[hv]
  have hvD:v<D.length:=by rw[hR.dl];omega
  obtain⟨c0,gV⟩:∃c,D[v]?=some c:=⟨D[v],bc hvD⟩
  have hdv:=hs.xR (k:=v) (by omega)
  rw[hv]at key
  refine key (fun j c hj=>?_) (fun j h=>by cases h) (fun q h=>by cases h)
  have h4:=HS hR hx (x':=⟨x.ev,x.jo,x.en,x.does,.cc (uV (iT l v) (eu l) 0),x.node,x.has,x.nx,x.out⟩) (q':=uV (iT l v) (eu l) 0) (c':=c0) (T':=T v) hvD rfl (fun _ _=>rfl) (.inl ⟨rfl,hdv⟩) (by rw[hn];rfl) (((hR.di v c0 gV).BJ (z:=uV (iT l v) (eu l) 0) hdv rfl rfl rfl).qw fun z hz=>hz.imp id fun h=>h.2)
  rw[n0 gV]at h4
  have h3:=h4 j c hj
  have e:(if j=v then T v else T j)=T j:=by split <;> simp_all
  rw[e]at h3
  exact h3
 by_cases h2:x.does=2
 ·rw[IU h2]at hb
  subst hb
  exact key (plain (fun z h=>by cases h) rfl) (fun j h=>by cases h) (fun q h=>by cases h)
 by_cases h3:x.does=3
 ·rw[IT h3]at hb
  subst hb
  exact key (plain (fun z h=>by cases h) rfl) (fun j h=>by cases h) (fun q h=>by cases h)
 by_cases h4:x.does=4
 ·rw[IS h4]at hb
  subst hb
  exact key (plain (fun z h=>by cases h) rfl) (fun j h=>by cases h) (fun q h=>by cases h)
 by_cases h5:x.does=5
 ·rw[IQ h5]at hb
  subst hb
  exact key (plain (fun z h=>by cases h) rfl) (fun j h h2=>by cases h;cases h2) (fun q h=>by cases h)
 by_cases h6:x.does=6
 ·rw[IP h6]at hb
  subst hb
  exact key (plain (fun z h=>by cases h) rfl) (fun j h=>by cases h) (fun q h=>by cases h)
 by_cases h7:x.does=7
 ·rw[IN h7]at hb
  subst hb
  obtain⟨u,hu,eP⟩:=Mh hw.nx (hw.head (.inr (.inr h7)))
  refine key (own (fun z h=>by cases h) fun c hc=>?_) (fun j h=>by cases h) (fun q h=>?_)
  ·have:=hR.di i c hc
   rw[V2]at this
   exact this.push Fi rfl rfl rfl rfl
  ·cases h
   have:=hs.nn
   show wu (x.nx.headD 0)=_
   rw[hu];show IntKind.u64.wrap _=_;rw[IntKind.wrap_u64];omega
 rw[IM h0 h1 h2 h3 h4 h5 h6 h7]at hb
 subst hb
 exact key (plain (fun z h=>by cases h) rfl) (fun j h=>by cases h) (fun q h=>by cases h)
theorem afd(hR:RJ s l hs W ws D T M)(hM:M<1000000000)(Ow:MV s l ws){i:Nat}{x:WS}(hx:W[i]?=some x)(he:x.en=false)(qp:0≤x.node∧x.node<s.n)(cy:∀u∈x.nx,0≤u∧u<s.n)(hh:x.does=5∨x.does=6∨x.does=7→0<x.nx.length)
  (hb:zx s l i x.does x.node x.nx x.out x.now) (xQ:∀j,x.now=.join j→j.at_<nW l∨(j.at_=0∧j.fv=false∧j.changed=false)):qD s l hs W ws D M i (gx s l x ws):=by
 obtain⟨ev,jo,en,does,now,node,has,nx,out⟩:=x
 have he:en=false:=he
 subst he
 have qp:0≤node∧node<s.n:=qp
 have hnn:=hs.nn
 obtain⟨v,rfl⟩:=mn qp.1
 have hv:v<nN s:=by omega
 have cy:∀u∈nx,0≤u∧u<s.n:=cy
 have hh:does=5∨does=6∨does=7→0<nx.length:=hh
 have head:0<nx.length→∃(u:Nat) (r:List Int),nx=(u:Int)::r∧u<nN s:=fun h=>by
  cases nx with
  |nil=>cases h
  |cons z r=>
   have:=cy z (bV ..)
   obtain⟨u,rfl⟩:=mn this.1
   exact⟨u,r,rfl,by omega⟩
 have hb:zx s l i does v nx out now:=hb
 have xQ:∀j,now=.join j→j.at_<nW l∨(j.at_=0∧j.fv=false∧j.changed=false):=xQ
 cases now with
 |none=>exact hb.elim
 |pop q=>
  obtain⟨rfl,h1,h2,h3⟩:=hb
  exact afc hR hM q h1.en h1.at_ h1.x.1 hx
 |cc q=>
  obtain⟨rfl,h1,⟨j,hj,h2⟩,h3⟩:=hb
  have ef:=hs.k2
  exact abb hR hM q h1.en hj (h2.trans (hs.xR (by omega))) hx
 |quiet t=>
  obtain⟨rfl,rfl⟩:=hb
  exact abc hR hx
 |clear t=>
  obtain⟨rfl,rfl⟩:=hb
  exact abd hR hv hx
 |read y=>
  obtain⟨rfl,h1,h2⟩:=hb
  exact adp hR hM Ow hv h1 h2 hx
 |join j=>
  obtain⟨rfl,h1,h2,h3,h4,h5⟩:=hb
  obtain⟨u,r,rfl,hu⟩:=head (hh (.inl rfl))
  exact adr hR hM hu j h1 h2 h3 (xQ j rfl) (fun h=>(h5 h).1) hx
 |take t=>
  obtain⟨rfl,jH,rfl⟩:=hb
  obtain⟨u,r,rfl,hu⟩:=head (hh (.inr (.inl rfl)))
  cases jH with
  |true=>exact ab9 hR hx
  |false=>exact aba hR hu hx
 |push q=>
  obtain⟨rfl,h1,h2,h3,h4⟩:=hb
  obtain⟨u,r,rfl,hu⟩:=head (hh (.inr (.inr rfl)))
  exact adq hR hM q h1.en h4 h1.at_ hx
 |dA t=>
  obtain⟨rfl,rfl⟩:=hb
  exact ZC hR hx
theorem Zu{s:Sy}{l:Lay}{who d:Int}{x:WS}{ws:List Int}(he:x.en=false):((dv bj s l who x d ws).1,(dv bj s l who x d ws).2.1)=gx s l ⟨x.ev,x.jo,x.en,x.does,km l who x d,x.node,x.has,x.nx,x.out⟩ ws:=by
 unfold dv gx
 rw[he,ah Cg]
 dsimp only
 by_cases h:(ga bj l x.node (km l who x d) ws).2.2=true
 ·rw[ag h,ag h]
  refine Prod.ext ?_ rfl
  dsimp only
  generalize km l who x d=m at h ⊢
  cases m with
  |none=>exact absurd h Cg
  |_=>simp only[ga,ew,he]
 ·rw[ah h,ah h]
theorem RJ.step(hR:RJ s l hs W ws D T M)(hM:M<1000000000)(hF:tV s l ⟨W,ws⟩)(i:Nat)(d:Int):
  ∃D' T',RJ s l hs (dQ s l ⟨W,ws⟩ i d).1.W (dQ s l ⟨W,ws⟩ i d).1.ws D' T' (M+1)∧SX.Tr (cJ s l hs) (bO s l W ws D) i (bO s l (dQ s l ⟨W,ws⟩ i d).1.W (dQ s l ⟨W,ws⟩ i d).1.ws D'):=by
 have lN:∀{W ws D T},RJ s l hs W ws D T M→RJ s l hs W ws D T (M+1):=fun h=>⟨h.len,h.fl,h.kK,h.dl,h.di,oa h,fun x hx=>by have:=h.ev x hx;omega,h.jn,h.pn,h.ti⟩
 cases hx:W[i]? with
 |none=>
  have e:dQ s l ⟨W,ws⟩ i d=(⟨W,ws⟩,true):=by unfold dQ;dsimp only;rw[hx]
  rw[e]
  exact⟨D,T,lN hR,SX.Tr.stay (.inr (by show (W.map dw)[i]?=none;rw[eU,hx];rfl))⟩
 |some x=>
  rw[AF (a:=⟨W,ws⟩) hx]
  dsimp only
  have ye:=hF.wv i x hx
  have hi:=(bQ.1 hx).1
  have hlen:=hR.len
  cases he:x.en with
  |true=>
   have e:dv bj s l i x d ws=(x,ws,true):=ag he
   rw[e]
   dsimp only
   rw[n0 hx]
   refine⟨D,T,lN hR,SX.Tr.stay (.inl ?_)⟩
   rw[mA hx]
   unfold dw
   rw[ag he]
  |false=>
   have e:=Zu (s:=s) (l:=l) (who:=i) (d:=d) (ws:=ws) he
   have e1:=congrArg Prod.fst e
   have e2:=congrArg Prod.snd e
   dsimp only at e1 e2
   rw[e1,e2]
   have hnb:=Uq (d:=d) hs (show (0:Int)≤(i:Nat)∧((i:Nat):Int)<l.k by omega) ye
   obtain⟨n,hn⟩:∃n,km l i x d=n:=⟨_,rfl⟩
   rw[hn]at hnb ⊢
   have ke:dw ⟨x.ev,x.jo,x.en,x.does,n,x.node,x.has,x.nx,x.out⟩=dw x:=by rw[← hn];exact SJ l i d x
   have j7:∀y,(W.set i ⟨x.ev,x.jo,x.en,x.does,n,x.node,x.has,x.nx,x.out⟩).set i y=W.set i y:=fun y=>List.set_set ..
   have nQ:bO s l (W.set i ⟨x.ev,x.jo,x.en,x.does,n,x.node,x.has,x.nx,x.out⟩) ws D=bO s l W ws D:=by
    rw[lY (ws:=ws) (D:=D) (x':=⟨x.ev,x.jo,x.en,x.does,n,x.node,x.has,x.nx,x.out⟩) hx (fun _ _=>rfl) rfl rfl D,ke,n0 (mA hx)];rfl
   have Fq:RJ s l hs (W.set i ⟨x.ev,x.jo,x.en,x.does,n,x.node,x.has,x.nx,x.out⟩) ws D T M∧∀j,n=.join j→j.at_<nW l∨(j.at_=0∧j.fv=false∧j.changed=false):=by
    rcases ye.now with h0 | ⟨h0,hk⟩
    ·have hb:iN l i x.does x.node x.nx x.out d=n:=by rw[← hn];unfold km;rw[h0]
     refine⟨hR.afU hx h0 ye d hb,fun j hj=>.inr ?_⟩
     rw[hj]at hb
     unfold iN at hb
     (repeat' split at hb) <;> first | (cases hb;exact⟨rfl,rfl,rfl⟩) | cases hb
    ·have h1:x.now=n:=by
      rw[← hn];unfold km
      cases ahK:x.now with
      |none=>rw[ahK]at h0;exact h0.elim
      |_=>rfl
     refine⟨?_,fun j hj=>.inl ?_⟩
     ·rw[← h1,n0 hx];exact hR
     ·rw[h1,hj]at hk;exact hk
   obtain⟨JD,xQ⟩:=Fq
   have ic:(W.set i ⟨x.ev,x.jo,x.en,x.does,n,x.node,x.has,x.nx,x.out⟩)[i]?=some ⟨x.ev,x.jo,x.en,x.does,n,x.node,x.has,x.nx,x.out⟩:=by rw[dY,ag rfl,ag hi]
   have:=afd JD hM hF.fl.2 ic he ye.node ye.nx ye.head hnb xQ
   unfold qD at this
   rw[j7,nQ]at this
   exact this
end
set_option maxHeartbeats 4000000
def dE(s:Sy)(l:Lay):List Int:=Bh s l (List.replicate (nF l) 0)
def W0(l:Lay):List WS:=List.replicate l.k.toNat nE
def oU(s:Sy)(l:Lay)(af:List (Int×Int×Unit))(x:ju WA):ju WA:=jE (dQ s l) (fun a _=>a) l.k.toNat af x
def zG(s:Sy)(l:Lay):ju WA:=⟨⟨W0 l,dE s l⟩,List.replicate l.k.toNat 0,List.replicate l.k.toNat false,0⟩
def cW(s:Sy)(l:Lay)(af:List (Int×Int×Unit)):ju WA:=oU s l af (zG s l)
def Ae(W:List WS):Int:=W.foldl (fun a x=>wr (a+x.ev)) 0
def zP(W:List WS):Int:=W.foldl (fun a x=>wr (a+x.jo)) 0
theorem acr{W:List WS}{i:Nat}(h:i<W.length):wr (Ae (W.take i)+W[i].ev)=Ae (W.take (i+1)):=by
 unfold Ae;rw[fQ h,sa];rfl
theorem ac4{W:List WS}{i:Nat}(h:i<W.length):wr (zP (W.take i)+W[i].jo)=zP (W.take (i+1)):=by
 unfold zP;rw[fQ h,sa];rfl
set_option maxHeartbeats 4000000
theorem Sv{b:Nat}{a ws:List Int}{x:Nat}(h:x<b):∀k,(oz b a ws k).getD x 0=ws.getD x 0
 | 0=>rfl
 |k+1=>by rw[oz,ra _ _ _ _ (by omega)];exact Sv h k
theorem Sw{b:Nat}{a ws:List Int}{i:Nat}:∀k,i<k→b+k≤ws.length→(oz b a ws k).getD (b+i) 0=wd a i
 | 0,h,_=>absurd h (ml _)
 |k+1,h,hl=>by
  rw[oz]
  by_cases e:i=k
  ·subst e
   rw[A1 _ _ _ _ (by rw[Ky];omega),ag rfl]
  ·rw[ra _ _ _ _ (by omega)]
   exact Sw k (by omega) (by omega)
section
variable {N W:Nat} {st:Nat→List Int} {ws:List Int}
theorem R2{v i:Nat}(hi:i<W):∀k,k≤N→v<k→N*W+N≤ws.length→(nm N W st ws k).getD (v*W+i) 0=wd (st v) i
 | 0,_,h,_=>absurd h (ml _)
 |k+1,hk,h,hl=>by
  have h6:(k+1)*W≤N*W:=iR _ hk
  have h7:=tA (N:=N) (show v<N by omega) hi
  rw[lR]at h6
  rw[nm,ra _ _ _ _ (by omega)]
  by_cases e:v=k
  ·subst e
   exact Sw W hi (by rw[Ak];omega)
  ·have h8:=tA (N:=k) (show v<k by omega) hi
   rw[Sv h8]
   exact R2 hi k (by omega) (by omega) hl
theorem Q2{v:Nat}:∀k,k≤N→v<k→N*W+N≤ws.length→(nm N W st ws k).getD (N*W+v) 0=1
 | 0,_,h,_=>absurd h (ml _)
 |k+1,hk,h,hl=>by
  have h6:(k+1)*W≤N*W:=iR _ hk
  rw[lR]at h6
  rw[nm]
  by_cases e:v=k
  ·subst e
   rw[A1 _ _ _ _ (by rw[Ky,Ak];omega),ag rfl]
  ·rw[ra _ _ _ _ (by omega),Sx W (by omega)]
   exact Q2 k (by omega) (by omega) hl
end
theorem Hz{b r:Nat}{l ws:List Int}{a:Nat}(hr:0<r)(ha:a<b+2∨b+2+r≤a):∀k,(kj b r l ws k).getD a 0=ws.getD a 0
 | 0=>rfl
 |k+1=>by
  have:=mW (1+k) hr
  rw[kj,ra _ _ _ _ (by omega)];exact Hz hr ha k
theorem UG{b r:Nat}{l ws:List Int}{i:Nat}(hr:0<r)(hl:b+2+r≤ws.length):∀k,k≤r→i<k→(kj b r l ws k).getD (b+2+(1+i) % r) 0=l.getD i 0
 | 0,_,h=>absurd h (ml _)
 |k+1,hk,h=>by
  rw[kj]
  by_cases e:i=k
  ·subst e
   have:=mW (1+i) hr
   rw[A1 _ _ _ _ (by rw[QZ];omega),ag rfl]
  ·have:=Vc (a:=1+i) (c:=1+k) (m:=r) (by omega) (by omega)
   rw[ra _ _ _ _ (by omega)]
   exact UG hr hl k (by omega) (by omega)
theorem UH{b r:Nat}{l ws:List Int}{a:Nat}(hr:0<r)(ha:a<b∨b+2+r≤a):(nY b r l ws).getD a 0=ws.getD a 0:=by
 rw[nY,Hz hr (by omega),ra _ _ _ _ (by omega),ra _ _ _ _ (by omega)]
theorem aek{b r:Nat}{l ws:List Int}(hr:0<r)(hl:b+2+r≤ws.length):(nY b r l ws).getD b 0=1:=by
 rw[nY,Hz hr (by omega),ra _ _ _ _ (by omega),A1 _ _ _ _ (by omega),ag rfl]
theorem aem{b r:Nat}{l ws:List Int}(hr:0<r)(hl:b+2+r≤ws.length):(nY b r l ws).getD (b+1) 0=((1+l.length:Nat):Int):=by
 rw[nY,Hz hr (by omega),A1 _ _ _ _ (by rw[ck];omega),ag rfl]
theorem ael{b r:Nat}{l ws:List Int}{i:Nat}(hr:0<r)(hl:b+2+r≤ws.length)(hk:l.length≤r)(hi:i<l.length):(nY b r l ws).getD (b+2+(1+i) % r) 0=l.getD i 0:=by
 rw[nY];exact UG hr (by rw[ck,ck];exact hl) _ hk hi
section
variable {b0 N:Nat} {ls:List (List Int)} {ws:List Int}
theorem UE{a:Nat}(ha:a<b0):∀k,(kU b0 (N+3) (N+1) ls ws k).getD a 0=ws.getD a 0
 | 0=>rfl
 |k+1=>by rw[kU,UH (by omega) (by omega)];exact UE ha k
theorem Vp{j a:Nat}(h2:a<b0+j*(N+3)+(N+3)):∀k,j<k→(kU b0 (N+3) (N+1) ls ws k).getD a 0=(kU b0 (N+3) (N+1) ls ws (j+1)).getD a 0
 | 0,h=>absurd h (ml _)
 |k+1,h=>by
  by_cases e:j=k
  ·subst e;rfl
  ·have h3:=iR (N+3) (show j+1≤k by omega)
   rw[lR]at h3
   rw[kU,UH (by omega) (by omega)]
   exact Vp h2 k (by omega)
end
theorem aen{N W:Nat}{st:Nat→List Int}{ls:List (List Int)}{ws:List Int}{j:Nat}{c:List Int}{cap:Int}(IF:rm cap=N+1)(hl:N*W+N+1+ls.length*(N+3)≤ws.length)(hj:ls[j]?=some c)(hc:c.length≤N):DB (N*W+N+1+j*(N+3)) cap (zq N W st ls ws) 0 1 c:=by
 have jl:=(bQ.1 hj).1
 have h3:=iR (N+3) (show j+1≤ls.length by omega)
 rw[lR]at h3
 have lN:∀a,a<N*W+N+1+j*(N+3)+(N+3)→(zq N W st ls ws).getD a 0=(nY (N*W+N+1+j*(N+3)) (N+1) c (kU (N*W+N+1) (N+3) (N+1) ls ((nm N W st ws N).set (N*W+N) (N:Int)) j)).getD a 0:=fun a ha=>by
  rw[zq,Vp ha _ jl,kU]
  have e:ls.getD j []=c:=by rw[aR,hj];rfl
  rw[e]
 have hlen:(kU (N*W+N+1) (N+3) (N+1) ls ((nm N W st ws N).set (N*W+N) (N:Int)) j).length=ws.length:=by rw[Qh,ck,Ak]
 refine⟨by rw[XD,IF];omega,?_,aM _,?_,by omega,fun i hi=>?_⟩
 ·rw[lN _ (by omega),aek (by omega) (by omega)];rfl
 ·rw[lN _ (by omega),aem (by omega) (by omega)];rfl
 ·rw[IF]
  have:=mW (1+i) (show 0<N+1 by omega)
  rw[lN _ (by omega),ael (by omega) (by omega) (by omega) hi,aR,bc hi];rfl
section
variable {s:Sy} {l:Lay} (hs:LS s l)
include hs
theorem LS.Cz{v i:Nat}(hi:i<nW l):fL s.what s.w i (wd (ik s v) i):=by
 have h:=(hs.rG).1 (GD hs.fit hs.ia v)
 rw[← sy];exact h.2 i hi
theorem UB{v:Nat}{ws:List Int}(h:pS s l ws):∀k,k≤nW l→pS s l (oz (v*nW l) (ik s v) ws k)
 | 0,_=>h
 |k+1,hk=>by
  have ih:=UB h k (by omega) (v:=v)
  rw[oz]
  exact⟨by rw[ck];exact ih.1,ih.2.abi (by omega) (hs.Cz (by omega))⟩
theorem Tp{ws:List Int}(h:pS s l ws):∀k,pS s l (nm (nN s) (nW l) (fun v=>ik s v) ws k)
 | 0=>h
 |k+1=>by
  rw[nm]
  exact (UB hs (Tp h k) _ (aM _)).hi (by omega) (by unfold bM;omega)
theorem Vo{b r:Nat}{x ws:List Int}(hb:nN s*nW l≤b)(hx:∀z∈x,0≤z∧z<(nN s:Int))(h:pS s l ws):∀k,pS s l (kj b r x ws k)
 | 0=>h
 |k+1=>by
  rw[kj]
  refine (Vo hb hx h k).hi (by omega) ?_
  have hn:=hs.nn
  rw[aR]
  cases hk:x[k]? with
  |none=>exact AB
  |some z=>
   have:=hx z (bH hk)
   show bM z
   unfold bM;omega
theorem Vn{ls:List (List Int)}{ws:List Int}(hx:∀x∈ls,x.length≤256∧∀z∈x,0≤z∧z<(nN s:Int))(h:pS s l ws):∀k,pS s l (kU (nN s*nW l+nN s+1) (nN s+3) (nN s+1) ls ws k)
 | 0=>h
 |k+1=>by
  rw[kU,nY]
  have h2:(ls.getD k []).length≤256∧∀z∈ls.getD k [],0≤z∧z<(nN s:Int):=by
   rw[aR]
   cases hk:ls[k]? with
   |none=>exact⟨bK _,fun z hz=>by cases hz⟩
   |some x=>exact hx x (bH hk)
  refine Vo hs (by omega) h2.2 (((Vn hx h k).hi (by omega) (by unfold bM;omega)).hi (by omega) ?_) _
  unfold bM;omega
theorem UC(bF:kp s l):pS s l (dE s l):=by
 unfold dE Bh zq
 have hn:=hs.nn
 refine Vn hs (bF.rows hn.2.2) (pS.hi (Tp hs ⟨fZ,ae3 s l _⟩ _) (by omega) ?_) _
 unfold bM;omega
end
theorem LY{α:Type}(g:α→Nat)(f:α→Nat)(k:Nat):∀(al:List α),(∀x∈al,f x<k)→SX.aF (fun u=>SX.aF g (al.filter fun x=>decide (f x=u))) (List.range k)=SX.aF g al
 | [],_=>by
  have:∀l:List Nat,SX.aF (fun u=>SX.aF g (([]:List α).filter fun x=>decide (f x=u))) l=0:=fun l=>by
   induction l with
   |nil=>rfl
   |cons a l ih=>show 0+_=0;rw[dK];exact ih
  exact this _
 |a::al,h=>by
  have ih:=LY g f k al fun x hx=>h x (cE _ hx)
  have h1:=SX.Hh (f:=fun u=>SX.aF g ((a::al).filter fun x=>decide (f x=u))) (g:=fun u=>SX.aF g (al.filter fun x=>decide (f x=u))) (u:=f a) (l:=List.range k) Cd (fA.2 (h a (bV ..))) (fun u _ hu=>by
   show SX.aF g _=SX.aF g _
   rw[FX,ah (by rw[b9 fun e=>hu e.symm];decide)])
  have h2:SX.aF g ((a::al).filter fun x=>decide (f x=f a))=g a+SX.aF g (al.filter fun x=>decide (f x=f a)):=by
   rw[FX,ag (aY rfl)];rfl
  rw[ih]at h1
  rw[h2]at h1
  show _=g a+SX.aF g al
  omega
theorem G1{α:Type}(l:List α):SX.aF (fun _=>1) l=l.length:=by
 induction l with
 |nil=>rfl
 |cons a l ih=>show 1+SX.aF _ l=l.length+1;omega
theorem ab5(v:Nat)(l:List Int):SX.aF (fun x:Int=>if x.toNat=v then 1 else 0) l=(l.map Int.toNat).count v:=by
 induction l with
 |nil=>rfl
 |cons a l ih=>
  show (if a.toNat=v then 1 else 0)+SX.aF _ l=_
  rw[oV,List.count_cons,ih]
  by_cases h:a.toNat=v
  ·rw[if_pos h,if_pos (by simp[h])];omega
  ·rw[if_neg h,if_neg (by simp[h])];omega
theorem Ll{α β:Type}(f:α→Nat)(g:β→α)(l:List β):SX.aF f (l.map g)=SX.aF (fun x=>f (g x)) l:=by
 unfold SX.aF;rw[JQ];rfl
def D0(s:Sy)(l:Lay):List (List Nat):=(pG s l).map fun c=>c.map Int.toNat
theorem MX{s:Sy}{l:Lay}(bF:kp s l)(g:Nat→Nat):SX.aF (fun c=>SX.aF g c) (D0 s l)=SX.aF (fun x:Int=>g x.toNat) (nD (nN s) s.aL s.entry).reverse:=by
 have h1:∀x∈(nD (nN s) s.aL s.entry).reverse,((nu (nN s) l.k.toNat s.aL).getD x.toNat 0).toNat<l.k.toNat:=fun x hx=>by
  have h2:=bF.all.rg x (wP.1 hx)
  have:=bF.own x.toNat (by omega)
  omega
 rw[← LY (fun x:Int=>g x.toNat) (fun x=>((nu (nN s) l.k.toNat s.aL).getD x.toNat 0).toNat) l.k.toNat _ h1]
 unfold D0 pG Bs nh
 rw[JQ,Ll]
 refine SX.Au fun u hu=>?_
 show SX.aF g ((List.filter _ _).map Int.toNat)=_
 rw[Ll]
 congr 1
 refine List.filter_congr fun x hx=>?_
 have h2:=bF.all.rg x (wP.1 hx)
 have h3:=bF.own x.toNat (by omega)
 by_cases h:(nu (nN s) l.k.toNat s.aL).getD x.toNat 0=(u:Int)
 ·rw[aY h,aY (by omega)]
 ·rw[b9 h,b9 (by omega)]
theorem acD(v:Nat)(c:List Nat):c.count v=SX.aF (fun z=>if z=v then 1 else 0) c:=by
 induction c with
 |nil=>rfl
 |cons a c ih=>
  show _=(if a=v then 1 else 0)+SX.aF _ c
  rw[← ih,List.count_cons]
  by_cases h:a=v
  ·rw[if_pos h,if_pos (by simp[h])];omega
  ·rw[if_neg h,if_neg (by simp[h])];omega
theorem VP{s:Sy}{l:Lay}(bF:kp s l):SX.aF List.length (D0 s l)=nN s:=by
 have h:=MX bF fun _=>1
 have h2:SX.aF List.length (D0 s l)=SX.aF (fun c=>SX.aF (fun _=>1) c) (D0 s l):=SX.Au fun c _=>(G1 c).symm
 rw[h2,h,G1,tb,bF.all.len]
theorem ada{s:Sy}{l:Lay}(bF:kp s l)(v:Nat):SX.aF (fun c=>c.count v) (D0 s l)=if v<nN s then 1 else 0:=by
 have h:=MX bF fun z=>if z=v then 1 else 0
 have h2:SX.aF (fun c=>c.count v) (D0 s l)=SX.aF (fun c=>SX.aF (fun z=>if z=v then 1 else 0) c) (D0 s l):=SX.Au fun c _=>acD v c
 rw[h2,h,ab5]
 have bZ:((nD (nN s) s.aL s.entry).reverse.map Int.toNat).Nodup:=by
  refine uP.2 (List.Pairwise.imp_of_mem (fun {a b} ha hb aO e=>aO ?_) ((List.reverse_perm _).nodup_iff.2 bF.all.nd))
  have h3:=bF.all.rg a (wP.1 ha)
  have h4:=bF.all.rg b (wP.1 hb)
  omega
 rw[bZ.count]
 by_cases hv:v<nN s
 ·rw[ag hv,ag (cY.2 ⟨(v:Int),wP.2 (bF.all.all v ⟨by omega,by omega⟩),bU _⟩)]
 ·rw[ah hv,ah fun h=>?_]
  obtain⟨z,hz,rfl⟩:=cY.1 h
  have:=bF.all.rg z (wP.1 hz)
  omega
section
variable {s:Sy} {l:Lay} (hs:LS s l) (bF:kp s l)
include hs bF
theorem Wn{j:Nat}{c:List Nat}(h:(D0 s l)[j]?=some c):(pG s l)[j]?=some (jy c)∧c.length≤nN s:=by
 unfold D0 at h
 rw[eU]at h
 cases hx:(pG s l)[j]? with
 |none=>rw[hx]at h;cases h
 |some x=>
  rw[hx]at h
  cases h
  have hn:=hs.nn
  have h1:=bF.rows hn.2.2 x (bH hx)
  have e:jy (x.map Int.toNat)=x:=by
   show (x.map Int.toNat).map _=x
   rw[JQ]
   conv=>rhs;rw[← List.map_id x]
   refine wT fun z hz=>?_
   have:=h1.2 z hz
   show ((z.toNat:Nat):Int)=z
   omega
  refine⟨by rw[e],?_⟩
  rw[cb]
  have ic:=bH hx
  unfold pG Bs nh at ic
  obtain⟨u,_,rfl⟩:=cY.1 ic
  have hlen:=Cp (fun y=>decide ((nu (nN s) l.k.toNat s.aL).getD y.toNat 0=(u:Int))) (nD (nN s) s.aL s.entry).reverse
  rw[tb,bF.all.len]at hlen
  exact hlen
end
theorem TZ{α:Type}{f:α→Nat}{x:α}(h:f x=0)(k:Nat):SX.aF f (List.replicate k x)=0:=SX.qY fun y hy=>by rw[yC hy];exact h
theorem LG{s:Sy}{l:Lay}{a:Nat}(ha:a<nN s*nW l+nN s+1)(ws:List Int):(Bh s l ws).getD a 0=((nm (nN s) (nW l) (fun v=>ik s v) ws (nN s)).set (nN s*nW l+nN s) (nN s:Int)).getD a 0:=UE ha _
theorem Lc{s:Sy}{l:Lay}(hs:LS s l):(∀v i,v<nN s→i<nW l→(dE s l).getD (v*nW l+i) 0=wd (ik s v) i)∧(∀v,v<nN s→(dE s l).getD (nN s*nW l+v) 0=1)∧(dE s l).getD (nN s*nW l+nN s) 0=(nN s:Int):=by
 have eD:=hs.size.2.2
 have ff:=hs.low
 have wF:(List.replicate (nF l) (0:Int)).length=nF l:=fZ
 refine⟨fun v i hv hi=>?_,fun v hv=>?_,?_⟩
 ·have:=tA hv hi
  unfold dE
  rw[LG (by omega),ra _ _ _ _ (by omega),R2 hi _ (aM _) hv (by rw[wF];omega)]
 ·unfold dE
  rw[LG (by omega),ra _ _ _ _ (by omega),Q2 _ (aM _) hv (by rw[wF];omega)]
 ·unfold dE
  rw[LG (by omega),A1 _ _ _ _ (by rw[Ak,wF];omega),ag rfl]
section
variable {s:Sy} {l:Lay} {hs:LS s l} (bF:kp s l)
include bF
theorem I9:RJ s l hs (W0 l) (dE s l) (D0 s l) (fun _=>1) 1:=by
 have kF:=hs.k1
 have cH:=P6 s l
 have hn:=hs.nn
 have JF:(D0 s l).length=l.k.toNat:=by unfold D0;rw[cb,cH]
 have uI:(W0 l).length=l.k.toNat:=fZ
 obtain⟨gU,mU,B3⟩:=Lc hs
 have gG:=UC hs bF
 have zB:∀x∈W0 l,x=nE:=fun x hx=>yC hx
 have ke:∀p∈(bO s l (W0 l) (dE s l) (D0 s l)).ph,p=.idle 0 0:=fun p hp=>by
  obtain⟨x,hx,rfl⟩:=cY.1 hp
  rw[zB x hx];rfl
 refine⟨by rw[uI];omega,gG.1,by rw[B3];omega,by rw[JF,uI],fun j c hj=>?_,fun _=>aM _,fun x hx=>?_,fun x hx=>?_,fun x hx=>?_,?_⟩
 ·have jl:=(bQ.1 hj).1
  obtain⟨h1,h2⟩:=Wn hs bF hj
  have hW:(W0 l)[j]?=some nE:=by unfold W0;rw[uT,ag (by omega)]
  rw[AK hW]
  refine⟨?_,trivial,fun z hz=>?_⟩
  ·refine aen hs.room.2 ?_ h1 (by rw[cb];exact h2)
   rw[cH,fZ]
   obtain⟨m,hm,uB,rT⟩:=hs.kk
   have rW:=hs.xR rT
   rw[show l.k.toNat=m by omega]
   unfold nF
   rw[hm,rW]
   omega
  ·obtain⟨i,x,hx,h3,_⟩:=hz
   rw[zB x (bH hx)]at h3
   cases h3
 ·rw[zB x hx];exact⟨by decide,by decide,by decide,by decide⟩
 ·rw[zB x hx];exact fun j h=>by cases h
 ·rw[zB x hx];exact fun j h=>by cases h
 ·refine⟨fun v=>?_,?_,fun c hc v hv=>?_,fun p hp v hv=>?_⟩
  ·unfold SX.tok
   have h1:SX.aF (SX.iO v) (bO s l (W0 l) (dE s l) (D0 s l)).ph=0:=SX.qY fun p hp=>by rw[ke p hp];rfl
   have h2:SX.aF (fun l:List Nat=>l.count v) (bO s l (W0 l) (dE s l) (D0 s l)).dq=if v<nN s then 1 else 0:=ada bF v
   rw[h1,h2]
   show _=if decide (v<nN s∧¬(dE s l).getD (nN s*nW l+v) 0=0)=true then 1 else 0
   by_cases hv:v<nN s
   ·rw[mU v hv,ag hv,ag (aY ⟨hv,by decide⟩)]
   ·rw[ah hv,ah (by rw[b9 fun h=>hv h.1];decide)]
  ·show ((dE s l).getD (nN s*nW l+nN s) 0).toNat=SX.aF List.length (D0 s l)+SX.aF SX.cw (bO s l (W0 l) (dE s l) (D0 s l)).ph
   have h1:SX.aF SX.cw (bO s l (W0 l) (dE s l) (D0 s l)).ph=0:=SX.qY fun p hp=>by rw[ke p hp];rfl
   rw[B3,h1,VP bF];omega
  ·obtain⟨j,hj⟩:=kI.1 hc
   obtain⟨h1,h2⟩:=Wn hs bF hj
   have:=(bF.rows hn.2.2 _ (bH h1)).2 (v:Int) (cY.2 ⟨v,hv,rfl⟩)
   show v<nN s
   omega
  ·rw[ke p hp]at hv;cases hv
theorem MI(hs:LS s l):tV s l ⟨W0 l,dE s l⟩:=by
 have kF:=hs.k1
 refine⟨by show ((W0 l).length:Int)=l.k;unfold W0;rw[fZ];omega,UC hs bF,fun i x hx=>?_⟩
 rw[yC (bH hx)]
 exact wv0 hs i
end
set_option maxHeartbeats 4000000
theorem Hu{s:Sy}{k:Int}(he:cx s k=0):(iI s k).k=k:=by unfold iI kX;rw[he];rfl
theorem Lh{k:Nat}{v:AV}{acc:Hp}{cs:List AV}(h:Acc 1 k v acc cs)(hk:0<k):∃b,v=.ae b 0 k 1∧acc=[(b,cs)]:=by
 cases h with
 |nil=>omega
 |ae b k cs h=>exact⟨b,rfl,rfl⟩
def Gb(s:Sy)(l:Lay)(bs bp p:Nat)(L:List Nat)(S:Hp):Prop:=S=(bs,cd s)::(bp,dS (.ptr p 0) l .aj .aj .aj 0)::eA s l (cO L) (List.replicate L.length jh)
theorem abe(s:Sy)(l:Lay)(k bs bp p:Nat)(hf:Fit s)(he:cx s l.k=0)(hL:iI s l.k=l)(hk:l.k=k)(L:List Nat)(S τ:Hp)(ab:L.length<k)(hS:Gb s l bs bp p L S):ACalls Tryz.prog 99 (.int .i64 L.length::[.ptr bs 0,.ptr bp 0]) (S++τ) (fun r σ'=>∃w S',r=.ptr w 0∧σ'=S'++τ∧Gb s l bs bp p (L++[w]) S'):=by
 unfold Gb at hS
 subst hS
 refine (ag6 bs bp L.length s l (.ptr p 0) .aj .aj .aj 0 (eA s l (cO L) (List.replicate L.length jh)++τ) hf he hL (by omega)).Wo (.refl _) ?_
 rintro _ _ ⟨w,rfl,rfl⟩
 refine⟨((bs,cd s)::(bp,dS (.ptr p 0) l .aj .aj .aj 0)::eA s l (cO (L++[w])) (List.replicate (L++[w]).length jh))++τ,?_,w,_,rfl,rfl,rfl⟩
 rw[aaW]
 have h:=nf [[(bs,cd s),(bp,dS (.ptr p 0) l .aj .aj .aj 0)],eA s l (cO L) (List.replicate L.length jh),WB s l L.length w 0 .aj [] nE] τ (a:=[0,1,2]) (b:=[2,0,1]) (by decide)
 have e:((bs,cd s)::(bp,dS (.ptr p 0) l .aj .aj .aj 0)::(eA s l (cO L) (List.replicate L.length jh)++WB s l L.length w 0 .aj [] nE))++τ=[(bs,cd s),(bp,dS (.ptr p 0) l .aj .aj .aj 0)]++(eA s l (cO L) (List.replicate L.length jh)++(WB s l L.length w 0 .aj [] nE++τ)):=by simp
 rw[e]
 exact h
theorem Ss(l:Lay)(k bp lw:Nat)(mv:AV)(L:List Nat)(hL:L.length=k)(L':List Nat)(S τ:Hp)(ab:L'.length<k)(hS:S=[(bp,dS mv l (.ae lw 0 k 1) .aj .aj 0),(lw,L.map pW)]∧L'=L.take L'.length):ACalls Tryz.prog 103 (.int .i64 L'.length::[.ptr bp 0]) (S++τ) (fun r σ'=>∃w S',r=.iface 168 (.ptr w 0)∧σ'=S'++τ∧(S'=[(bp,dS mv l (.ae lw 0 k 1) .aj .aj 0),(lw,L.map pW)]∧L'++[w]=L.take (L'++[w]).length)):=by
 obtain⟨rfl,hL'⟩:=hS
 refine (ag5 bp lw L'.length k L l mv .aj .aj 0 τ hL ab).mono ?_
 rintro _ _ ⟨rfl,rfl⟩
 refine⟨L.getD L'.length 0,_,rfl,rfl,rfl,?_⟩
 rw[bG,se,fQ (by omega),← hL',aR,bc (by omega)]
 rfl
theorem TA(s:Sy)(l:Lay)(hs:LS s l)(bF:kp s l)(p q lb k:Nat)(L:List Nat)(af:List (Int×Int×Unit))(σ:Hp)(hL:L.length=k)(hk:l.k=k)(ef:k≤64)(oG:af.length≤100000):
  ACalls Tryz.prog 101 [mK p,.ae lb 0 k 1,.ai ec af] ((lb,L.map iW)::(ca p q (dE s l) (eA s l (cO L) (List.replicate L.length jh))++σ)) (fun r σ'=>∃Z:List WZ,Z.map (·.x)=(cW s l af).a.W∧r=.agg [.ai (.int .i64) (cW s l af).st,.ai .bool (cW s l af).dn,.int .i64 (cW s l af).us]∧σ'=(lb,L.map iW)::(ca p q (cW s l af).a.ws (eA s l (cO L) Z)++σ)):=by
 have hI:((cO L).length:Int)=l.k:=by rw[C5];omega
 have nQ:sh.abs ⟨dE s l,List.replicate L.length jh⟩=⟨W0 l,dE s l⟩:=by
  show WA.mk ((List.replicate L.length jh).map (·.x)) (dE s l)=_
  rw[List.map_replicate]
  unfold W0
  rw[show l.k.toNat=L.length by omega];rfl
 have hl:(DE s l hs p q (cO L) (C6 L) hI).L.length=k:=by
  show ((cO L).map _).length=_
  rw[cb,C5];exact hL
 have hLL:(DE s l hs p q (cO L) (C6 L) hI).L=L.map iW:=ac9 L
 have hE:=ahc (DE s l hs p q (cO L) (C6 L) hI) lb af (⟨dE s l,List.replicate L.length jh⟩:sh) σ (by omega) oG (by
  show tV s l (sh.abs ⟨dE s l,List.replicate L.length jh⟩)
  rw[nQ];exact MI bF hs) (fun _ _=>rfl)
 have fF:(DE s l hs p q (cO L) (C6 L) hI).run af (sh.abs ⟨dE s l,List.replicate L.length jh⟩)=cW s l af:=by
  unfold AWorld.run AWorld.init
  rw[hl,hLL,nQ]
  have e1:(L.map iW).map isNil=List.replicate k false:=by
   rw[← hL,JQ]
   exact List.map_eq_replicate_iff.2 fun _ _=>rfl
  rw[e1]
  unfold cW oU zG
  rw[show l.k.toNat=k by omega];rfl
 have Fy:ACalls Tryz.prog 101 [mK p,.ae lb 0 k 1,.ai ec af] ((lb,L.map iW)::(ca p q (dE s l) (eA s l (cO L) (List.replicate L.length jh))++σ)) (LR (DE s l hs p q (cO L) (C6 L) hI) af (sh.abs ⟨dE s l,List.replicate L.length jh⟩) [(lb,L.map iW)] σ):=by
  rw[hl,hLL]at hE;exact hE
 refine Fy.mono ?_
 rintro _ _ ⟨t',h1,rfl,rfl⟩
 have h1:sh.abs t'=(cW s l af).a:=Eq.trans h1 (congrArg ju.a fF)
 rw[fF]
 refine⟨t'.Z,congrArg WA.W h1,rfl,?_⟩
 have h2:t'.ws=(cW s l af).a.ws:=congrArg WA.ws h1
 rw[← h2];rfl
theorem R9(s:Sy)(k:Nat)(l:Lay)(hl:iI s k=l)(af:List (Int×Int×Unit))(σ:Hp)(hf:Fit s)(he:cx s k=0)(oG:af.length≤100000):
  ACalls Tryz.prog 41 [.agg (cd s),.int .i64 k,.ai ec af] σ (fun r σ'=>∃(p q lw:Nat) (L:List Nat) (Z:List WZ),r=.tup [.agg (dS (.ptr p 0) l (.ae lw 0 k 1) (.ai (.int .i64) (cW s l af).st) (.ai .bool (cW s l af).dn) (cW s l af).us),.int .i64 0]∧L.length=k∧Z.map (·.x)=(cW s l af).a.W∧σ'=(lw,L.map pW)::ca p q (cW s l af).a.ws (eA s l (cO L) Z++σ)∧kp s l):=by
 obtain⟨hs,Ft⟩:=A9 hf he
 obtain⟨BO,gh,mh⟩:=hs.size
 obtain⟨kF,ef⟩:=(Lw he).2
 have V7:=fun p q ws σ (eD:nF (iI s k)≤ws.length)=>aeZ s k p q ws σ hf he eD
 have hk:l.k=k:=by rw[← hl];exact Hu he
 have e1:AV.tup [.agg (gP (iI s k)),.int .i64 (cx s k)]=.tup [.agg (gP l),.int .i64 (cx s k)]:=by rw[hl]
 have Fy:cx s l.k=0:=by rw[hk];exact he
 have hL2:iI s l.k=l:=by rw[hk];exact hl
 rw[hl]at hs BO gh mh V7
 refine aA Tryz.func41 ?_
 generalize hE:cx s k=E at e1 he
 intro bs
 intro br
 intro bp
 refine aa 2 ?_
 refine aB [] (vf (MR s k _ hf) (hE▸e1)) ?_
 refine an 0 ?_
 refine eG (fun c1=>?_) (fun c1=>?_)
 ·have c1:¬(cx s (↑k:Int)=0):=by simpa using c1
  refine an 1 ?_
  refine aa 1 ?_
  exact absurd (hE.trans he) c1
 ·have c1:cx s (↑k:Int)=0:=by simpa using c1
  refine aa 0 ?_
  refine aB [] (VD l _) ?_
  (refine .mk [] _ (aip _ _) ?_;rintro _ _ ⟨p,q,rfl,rfl⟩)
  rw[mh]
  obtain⟨us,gi⟩:∃us,List.replicate (nF l) (0:Int)=us:=⟨_,rfl⟩
  have fN:us.length=nF l:=by rw[← gi];exact fZ
  rw[gi,← fN]
  refine an 2 ?_
  refine aa 2 ?_
  refine aa 4 ?_
  (refine .mk [] _ (V7 p q us _ (by omega)) ?_;rintro _ _ ⟨rfl,rfl,bF⟩)
  have ahy:Bh s l us=dE s l:=by rw[← gi];rfl
  rw[ahy]
  refine .perm (σ2:=[(bs,cd s),(bp,dS (.ptr p 0) l .aj .aj .aj 0)]++ca p q (dE s l) ((br,dS .cN ⟨0,0,0,0⟩ .aj .aj .aj 0)::σ)) _ (nf [[(bs,cd s)],[(bp,dS (.ptr p 0) l .aj .aj .aj 0)],ca p q (dE s l) [],[(br,dS .cN ⟨0,0,0,0⟩ .aj .aj .aj 0)]] σ (a:=[0,1,2,3]) (b:=[2,1,3,0]) (by decide)) (agj 99 [.ptr bs 0,.ptr bp 0] (Gb s l bs bp p) _ _ rfl k (by omega) (fun L S τ h1 h2=>abe s l k bs bp p hf Fy hL2 hk L S τ h1 h2)) ?_
  rintro v _ ⟨L,S',acc,hL,B6,cC,rfl⟩
  unfold Gb at B6
  subst B6
  obtain⟨lw,rfl,rfl⟩:=Lh cC (by omega)
  refine⟨_,.refl _,?_⟩
  refine an 2 ?_
  refine .sched [] (.one 0 false (.one 3 false (.one 4 false (.one 6 false (.alt 1 (.one 2 false (.one 5 false (.one 7 false (.one 8 false (.one 9 false .stop))))) (.one 5 false (.one 1 false (.one 2 false (.one 7 false (.one 8 false (.one 9 false .stop))))))))))) (by kernel_rfl) ?_
  refine And.intro ?_ ?_
  ·refine aa 2 ?_
   refine .perm (σ2:=[(bp,dS (.ptr p 0) l (.ae lw 0 k 1) .aj .aj 0),(lw,L.map pW)]++((bs,cd s)::(eA s l (cO L) (List.replicate L.length jh)++ca p q (dE s l) ((br,dS .cN ⟨0,0,0,0⟩ .aj .aj .aj 0)::σ)))) _ (nf [[(bp,dS (.ptr p 0) l (.ae lw 0 k 1) .aj .aj 0)],[(lw,L.map pW)],[(bs,cd s)],eA s l (cO L) (List.replicate L.length jh),ca p q (dE s l) [],[(br,dS .cN ⟨0,0,0,0⟩ .aj .aj .aj 0)]] σ (a:=[0,1,2,3,4,5]) (b:=[1,2,0,3,4,5]) (by decide)) (VH 103 [.ptr bp 0] (fun L' S=>S=[(bp,dS (.ptr p 0) l (.ae lw 0 k 1) .aj .aj 0),(lw,L.map pW)]∧L'=L.take L'.length) _ _ ⟨rfl,rfl⟩ k (by omega) (fun L' S τ h1 h2=>Ss l k bp lw (.ptr p 0) L hL L' S τ h1 h2)) ?_
   rintro v2 _ ⟨L',S2,aii,NT,⟨rfl,Fo⟩,D6,rfl⟩
   rw[NT,← hL,ig]at Fo
   rw[Fo]at D6
   obtain⟨lb,rfl,rfl⟩:=Lh D6 (by omega)
   refine⟨_,.refl _,?_⟩
   have hR:=TA s l hs bF p q lb k L af ([(bp,dS (.ptr p 0) l (.ae lw 0 k 1) .aj .aj 0),(br,dS .cN ⟨0,0,0,0⟩ .aj .aj .aj 0),(bs,cd s),(lw,L.map pW)]++σ) hL hk (by omega) oG
   refine .perm _ (nf [[(lb,L.map iW)],ca p q (dE s l) [],eA s l (cO L) (List.replicate L.length jh),[(bp,dS (.ptr p 0) l (.ae lw 0 k 1) .aj .aj 0)],[(br,dS .cN ⟨0,0,0,0⟩ .aj .aj .aj 0)],[(bs,cd s)],[(lw,L.map pW)]] σ (a:=[0,1,2,3,4,5,6]) (b:=[0,3,6,5,2,1,4]) (by decide)) hR ?_
   rintro _ _ ⟨Z,hZ,rfl,rfl⟩
   refine⟨_,nf [[(lb,L.map iW)],ca p q (cW s l af).a.ws [],eA s l (cO L) Z,[(bp,dS (.ptr p 0) l (.ae lw 0 k 1) .aj .aj 0)],[(br,dS .cN ⟨0,0,0,0⟩ .aj .aj .aj 0)],[(bs,cd s)],[(lw,L.map pW)]] σ (a:=[0,3,4,5,6,1,2]) (b:=[0,1,2,3,4,5,6]) (by decide),?_⟩
   refine an 1 ?_
   refine aa 1 ?_
   refine an 2 ?_
   refine aa 2 ?_
   exact .drop 0 4 (.done ⟨p,q,lw,L,Z,rfl,hL,hZ,rfl,bF⟩)
  ·refine .perm (σ2:=[(bp,dS (.ptr p 0) l (.ae lw 0 k 1) .aj .aj 0),(lw,L.map pW)]++((bs,cd s)::(eA s l (cO L) (List.replicate L.length jh)++ca p q (dE s l) ((br,dS .cN ⟨0,0,0,0⟩ .aj .aj .aj 0)::σ)))) _ (nf [[(bp,dS (.ptr p 0) l (.ae lw 0 k 1) .aj .aj 0)],[(lw,L.map pW)],[(bs,cd s)],eA s l (cO L) (List.replicate L.length jh),ca p q (dE s l) [],[(br,dS .cN ⟨0,0,0,0⟩ .aj .aj .aj 0)]] σ (a:=[0,1,2,3,4,5]) (b:=[1,2,0,3,4,5]) (by decide)) (VH 103 [.ptr bp 0] (fun L' S=>S=[(bp,dS (.ptr p 0) l (.ae lw 0 k 1) .aj .aj 0),(lw,L.map pW)]∧L'=L.take L'.length) _ _ ⟨rfl,rfl⟩ k (by omega) (fun L' S τ h1 h2=>Ss l k bp lw (.ptr p 0) L hL L' S τ h1 h2)) ?_
   rintro v2 _ ⟨L',S2,aii,NT,⟨rfl,Fo⟩,D6,rfl⟩
   rw[NT,← hL,ig]at Fo
   rw[Fo]at D6
   obtain⟨lb,rfl,rfl⟩:=Lh D6 (by omega)
   refine⟨_,.refl _,?_⟩
   refine aa 1 ?_
   have hR:=TA s l hs bF p q lb k L af ([(bp,dS (.ptr p 0) l (.ae lw 0 k 1) .aj .aj 0),(br,dS .cN ⟨0,0,0,0⟩ .aj .aj .aj 0),(bs,cd s),(lw,L.map pW)]++σ) hL hk (by omega) oG
   refine .perm _ (nf [[(lb,L.map iW)],ca p q (dE s l) [],eA s l (cO L) (List.replicate L.length jh),[(bp,dS (.ptr p 0) l (.ae lw 0 k 1) .aj .aj 0)],[(br,dS .cN ⟨0,0,0,0⟩ .aj .aj .aj 0)],[(bs,cd s)],[(lw,L.map pW)]] σ (a:=[0,1,2,3,4,5,6]) (b:=[0,3,6,5,2,1,4]) (by decide)) hR ?_
   rintro _ _ ⟨Z,hZ,rfl,rfl⟩
   refine⟨_,nf [[(lb,L.map iW)],ca p q (cW s l af).a.ws [],eA s l (cO L) Z,[(bp,dS (.ptr p 0) l (.ae lw 0 k 1) .aj .aj 0)],[(br,dS .cN ⟨0,0,0,0⟩ .aj .aj .aj 0)],[(bs,cd s)],[(lw,L.map pW)]] σ (a:=[0,3,4,5,6,1,2]) (b:=[0,1,2,3,4,5,6]) (by decide),?_⟩
   refine an 1 ?_
   refine aa 1 ?_
   refine an 2 ?_
   refine aa 2 ?_
   exact .drop 0 4 (.done ⟨p,q,lw,L,Z,rfl,hL,hZ,rfl,bF⟩)
set_option maxHeartbeats 4000000
theorem af1(s:Sy)(l:Lay)(p q lw n:Nat)(L:List Nat)(Z:List WZ)(W:List WS)(st:List Int)(dn:List Bool)(us:Int)(ws:List Int)(σ:Hp)(hW:Z.map (·.x)=W)(hL:L.length=n)(hZ:W.length=n)(hn:n≤64):
  ACalls Tryz.prog 44 [.agg (dS (.ptr p 0) l (.ae lw 0 n 1) (.ai (.int .i64) st) (.ai .bool dn) us)] ((lw,L.map pW)::ca p q ws (eA s l (cO L) Z++σ)) (aE (.tup [.int .i64 (Ae W),.int .i64 (zP W)]) ((lw,L.map pW)::ca p q ws (eA s l (cO L) Z++σ))):=by
 have hZl:Z.length=n:=by rw[← hZ,← hW,cb]
 refine aA Tryz.func44 ?_
 intro b1
 refine aa 0 ?_
 refine cj (S:=Nat) (fun i=>[(4,.int .i64 (Ae (W.take i))),(5,.int .i64 (zP (W.take i))),(9,.ae lw 0 n 1),(10,.int .i64 n),(11,.int .i64 i)]) (fun _=>(b1,dS (.ptr p 0) l (.ae lw 0 n 1) (.ai (.int .i64) st) (.ai .bool dn) us)::(lw,L.map pW)::ca p q ws (eA s l (cO L) Z++σ)) (fun i=>i≤n) (fun i=>n-i) 0 ⟨bK _,⟨rfl,rfl,rfl,rfl,rfl,trivial⟩,rfl⟩ ?_
 intro i g fi
 have hi:i≤n:=fi
 clear fi
 refine aq (p:=(i:Int)<(n:Int)) (fun ab=>?_) (fun ay=>?_)
 rotate_left
 ·have ay:i=n:=by omega
  have e:W.take i=W:=eZ (by omega)
  rw[e]
  exact .drop 0 1 (.done ⟨rfl,rfl⟩)
 have ab:i<n:=by omega
 have hg:(L.map pW)[0+((i:Int)).toNat*1]?=some (.ptr L[i] 0):=by
  rw[bU,eo,dK,eU,bc (by omega)];rfl
 refine aK ?_
 refine aT 1 rfl (iY rfl hg) ?_
 have hw:=TG (s:=s) (l:=l) (I:=cO L) (Z:=Z) (i:=i) (by rw[C5];omega) (by omega)
 have hI:(cO L)[i]'(by rw[C5];omega)=(i,L[i]):=by simp[cO]
 have hx:Z[i].x=W[i]:=by
  have:(Z.map (·.x))[i]'(by rw[cb];omega)=Z[i].x:=JU ..
  rw[← this];congr 1
 rw[hI,hx]at hw
 have k8:=acr (W:=W) (i:=i) (by omega)
 have mR:=ac4 (W:=W) (i:=i) (by omega)
 generalize W[i]=x at hw k8 mR
 have hp:((b1,dS (.ptr p 0) l (.ae lw 0 n 1) (.ai (.int .i64) st) (.ai .bool dn) us)::(lw,L.map pW)::ca p q ws (eA s l (cO L) Z++σ)).Perm ((L[i],dT s l i x.ev x.jo x.en x.does (Ja Z[i].r x.now) x.node x.has x.nx x.out)::(Jb l x.node Z[i].r Z[i].c Z[i].acc x.now++((b1,dS (.ptr p 0) l (.ae lw 0 n 1) (.ai (.int .i64) st) (.ai .bool dn) us)::(lw,L.map pW)::ca p q ws ((((cO L).zip Z).eraseIdx i).flatMap (x9 s l)++σ)))):=by
  refine (List.Perm.append_left [_,_,_,_] (List.Perm.append_right σ hw)).trans ?_
  have h:=nf [[(b1,dS (.ptr p 0) l (.ae lw 0 n 1) (.ai (.int .i64) st) (.ai .bool dn) us),(lw,L.map pW)],ca p q ws [],[(L[i],dT s l i x.ev x.jo x.en x.does (Ja Z[i].r x.now) x.node x.has x.nx x.out)],Jb l x.node Z[i].r Z[i].c Z[i].acc x.now,(((cO L).zip Z).eraseIdx i).flatMap (x9 s l)] σ (a:=[0,1,2,3,4]) (b:=[2,3,0,1,4]) (by decide)
  unfold WB
  rw[Cc,dN]
  exact h
 refine .dM (.perm hp.symm (.refl _)) ?_
 refine .quiet (by kernel_rfl) ?_
 refine aa 0 ?_
 refine aa 0 ?_
 exact aZ (i+1) (by show n-(i+1)<n-i;omega) ab ⟨congrArg (AV.int .i64) k8,congrArg (AV.int .i64) mR,rfl,rfl,bu (by omega),trivial⟩ (.perm hp (.refl _))
abbrev zf(cu:List (List Int))(ev jo us:Int):List AV:=[.ai (.slice (.int .u64)) cu,.int .i64 ev,.int .i64 jo,.int .i64 us]
def qh:List AV:=[.aj,.int .i64 0,.int .i64 0,.int .i64 0]
theorem aaT(s:Sy)(k:Nat)(l:Lay)(hl:iI s k=l)(af:List (Int×Int×Unit))(σ:Hp)(hf:Fit s)(he:cx s k=0)(oG:af.length≤100000)(ef:k≤64)(ek:(cW s l af).dn.length=k)(hd:(cW s l af).dn.all id=false):ACalls Tryz.prog 13 [.agg (cd s),.int .i64 k,.ai ec af] σ (fun r σ'=>r=.tup [.agg qh,.int .i64 11]∧σ'=σ∧kp s l):=by
 have hF:=fun σ=>Wm (.ai (.int .i64) (cW s l af).st) (cW s l af).us (cW s l af).dn σ (by omega)
 rw[hd]at hF
 refine aA Tryz.func13 ?_
 intro b3
 intro b6
 refine aa 1 ?_
 refine .perm _ (.refl _) (R9 s k l hl af _ hf he oG) ?_
 rintro _ _ ⟨p,q,lw,L,Z,rfl,hL,hZ,rfl,bF⟩
 refine⟨_,nf [[(lw,L.map pW)],ca p q (cW s l af).a.ws [],eA s l (cO L) Z,[(b6,qh)],[(b3,cd s)]] σ (a:=[0,3,4,1,2]) (b:=[0,1,2,3,4]) (by decide),?_⟩
 generalize (cW s l af)=x at hF hZ
 intro aG
 refine an 0 ?_
 refine aa 0 ?_
 refine aB [] (hF _) ?_
 refine an 2 ?_
 refine aa 2 ?_
 exact .drop 0 6 (RZ (eA s l (cO L) Z) (.done ⟨rfl,rfl,bF⟩))
theorem ag7(s:Sy)(k:Nat)(l:Lay)(hl:iI s k=l)(af:List (Int×Int×Unit))(σ:Hp)(hf:Fit s)(he:cx s k=0)(oG:af.length≤100000)(ef:k≤64)(hn:l.n=(nN s:Int))(kD:nN s≤100000)(ek:(cW s l af).dn.length=k)(rY:(cW s l af).a.W.length=k)(hd:(cW s l af).dn.all id=true):ACalls Tryz.prog 13 [.agg (cd s),.int .i64 k,.ai ec af] σ (fun r σ'=>r=.tup [.agg (zf (vM l (cW s l af).a.ws (nN s)) (Ae (cW s l af).a.W) (zP (cW s l af).a.W) (cW s l af).us),.int .i64 0]∧σ'=σ∧kp s l):=by
 have hF:=fun σ=>Wm (.ai (.int .i64) (cW s l af).st) (cW s l af).us (cW s l af).dn σ (by omega)
 rw[hd]at hF
 refine aA Tryz.func13 ?_
 intro b3
 intro b6
 refine aa 1 ?_
 refine .perm _ (.refl _) (R9 s k l hl af _ hf he oG) ?_
 rintro _ _ ⟨p,q,lw,L,Z,rfl,hL,hZ,rfl,bF⟩
 refine⟨_,nf [[(lw,L.map pW)],ca p q (cW s l af).a.ws [],eA s l (cO L) Z,[(b6,qh)],[(b3,cd s)]] σ (a:=[0,3,4,1,2]) (b:=[0,1,2,3,4]) (by decide),?_⟩
 generalize (cW s l af)=x at hF hZ rY ⊢
 intro aG
 refine an 0 ?_
 refine aa 0 ?_
 refine aB [] (hF _) ?_
 obtain⟨P,hP⟩:∃P,P=(aG,dS (.ptr p 0) l (.ae lw 0 k 1) (.ai (.int .i64) x.st) (.ai .bool x.dn) x.us):=⟨_,rfl⟩
 have q1:(ca p q x.a.ws (P::(lw,L.map pW)::(b6,qh)::(b3,cd s)::(eA s l (cO L) Z++σ))).Perm (P::(lw,L.map pW)::(b6,qh)::(b3,cd s)::ca p q x.a.ws (eA s l (cO L) Z++σ)):=nf [[P,(lw,L.map pW),(b6,qh),(b3,cd s)],ca p q x.a.ws [],eA s l (cO L) Z] σ (a:=[1,0,2]) (b:=[0,1,2]) (by decide)
 have q2:∀Q,(ca p q x.a.ws (Q::P::(lw,L.map pW)::(b6,qh)::(b3,cd s)::(eA s l (cO L) Z++σ))).Perm (Q::P::(lw,L.map pW)::(b6,qh)::(b3,cd s)::ca p q x.a.ws (eA s l (cO L) Z++σ)):=fun Q=>nf [[Q,P,(lw,L.map pW),(b6,qh),(b3,cd s)],ca p q x.a.ws [],eA s l (cO L) Z] σ (a:=[1,0,2]) (b:=[0,1,2]) (by decide)
 subst hP
 refine .meet (S:=Nat) (fun b=>[(6,.ptr b6 0),(8,.ptr aG 0),(10,.ptr b 0)]) (fun b=>(b,zf (vM l x.a.ws (nN s)) 0 0 x.us)::(aG,dS (.ptr p 0) l (.ae lw 0 k 1) (.ai (.int .i64) x.st) (.ai .bool x.dn) x.us)::(lw,L.map pW)::(b6,qh)::(b3,cd s)::ca p q x.a.ws (eA s l (cO L) Z++σ)) (by kernel_rfl) ?_ ?_
 ·repeat' first
   |exact cS.mk _ ⟨rfl,rfl,rfl,trivial⟩ (aJ rfl)
   |refine And.intro ?_ ?_
   |refine aa 0 ?_
   |refine aa 1 ?_
   |refine an 0 ?_
   |(refine .perm _ q1 (Q6 p q l (nN s) _ _ hn kD) ?_;rintro _ _ ⟨rfl,rfl⟩;refine⟨_,q1.symm,?_⟩)
   |(refine .perm _ (q2 _) (Q6 p q l (nN s) _ _ hn kD) ?_;rintro _ _ ⟨rfl,rfl⟩;refine⟨_,(q2 _).symm,?_⟩)
   |intro b
 intro b g
 refine aa 1 ?_
 refine .perm _ (nf [[(lw,L.map pW)],ca p q x.a.ws [],eA s l (cO L) Z,[(b,zf (vM l x.a.ws (nN s)) 0 0 x.us)],[(aG,dS (.ptr p 0) l (.ae lw 0 k 1) (.ai (.int .i64) x.st) (.ai .bool x.dn) x.us)],[(b6,qh)],[(b3,cd s)]] σ (a:=[0,1,2,3,4,5,6]) (b:=[3,4,0,5,6,1,2]) (by decide)) (af1 s l p q lw k L Z _ _ _ _ _ _ hZ hL rY ef) ?_
 rintro _ _ ⟨rfl,rfl⟩
 refine⟨_,nf [[(lw,L.map pW)],ca p q x.a.ws [],eA s l (cO L) Z,[(b,zf (vM l x.a.ws (nN s)) 0 0 x.us)],[(aG,dS (.ptr p 0) l (.ae lw 0 k 1) (.ai (.int .i64) x.st) (.ai .bool x.dn) x.us)],[(b6,qh)],[(b3,cd s)]] σ (a:=[3,4,0,5,6,1,2]) (b:=[0,1,2,3,4,5,6]) (by decide),?_⟩
 refine an 0 ?_
 refine an 0 ?_
 refine aa 0 ?_
 refine an 3 ?_
 refine aa 3 ?_
 exact .drop 0 7 (RZ (eA s l (cO L) Z) (.done ⟨rfl,rfl,bF⟩))
end Go.Proofs.YtnikdflhefijbaaGreat
