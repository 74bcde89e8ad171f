import Derived.Test.YtnpidbjdilnhlaaGreatBn48
namespace Go.Proofs.YtnpidbjdilnhlaaGreat
open Go.RowKit
set_option maxRecDepth 100000
set_option maxHeartbeats 4000000
def fp(s:Sy)(l:Lay)(x:WS)(ws:List Int):WS×List Int:=
 (if (eU aT l x.node x.now ws).2.2=true then dv s l x (eU aT l x.node x.now ws).1 else ⟨x.ev,x.jo,x.en,x.does,(eU aT l x.node x.now ws).1,x.node,x.has,x.nx,x.out⟩,(eU aT l x.node x.now ws).2.1)
theorem oR{s:Sy}{l:Lay}{ev jo:Int}{en:Bool}{does node:Int}{now:Nw}{has:Bool}{nx out:List Int}{ws ws':List Int}{n':Nw}{b:Bool}(h:eU aT l node now ws=(n',ws',b)):fp s l ⟨ev,jo,en,does,now,node,has,nx,out⟩ ws=(if b=true then dv s l ⟨ev,jo,en,does,now,node,has,nx,out⟩ n' else ⟨ev,jo,en,does,n',node,has,nx,out⟩,ws'):=by
 unfold fp;dsimp only;rw[h]
section
variable {l:Lay} {node:Int} {ws ws':List Int} {b:Bool}
theorem OB{t t':Tk}(h:jr aT t ws=(t',ws',b)):eU aT l node (.take t) ws=(.take t',ws',b):=by
 show (Nw.take (jr aT t ws).1,(jr aT t ws).2)=_;rw[h]
theorem zY{t t':Jn}(h:fV aT t ws=(t',ws',b)):eU aT l node (.join t) ws=(.join t',ws',b):=by
 show (Nw.join (fV aT t ws).1,(fV aT t ws).2)=_;rw[h]
theorem OC{t t':List Int}(h:kx aT l (aK l node) t ws=(t',ws',b)):eU aT l node (.read t) ws=(.read t',ws',b):=by
 show (Nw.read (kx aT l (aK l node) t ws).1,(kx aT l (aK l node) t ws).2)=_;rw[h]
theorem Z6{t t':DQ}(h:ei aT t ws=(t',ws',b)):eU aT l node (.pop t) ws=(.pop t',ws',b):=by
 show (Nw.pop (ei aT t ws).1,(ei aT t ws).2)=_;rw[h]
theorem Yx{t t':DQ}(h:fg aT t ws=(t',ws',b)):eU aT l node (.push t) ws=(.push t',ws',b):=by
 show (Nw.push (fg aT t ws).1,(fg aT t ws).2)=_;rw[h]
theorem Wr{t t':DQ}(h:fv aT t ws=(t',ws',b)):eU aT l node (.bE t) ws=(.bE t',ws',b):=by
 show (Nw.bE (fv aT t ws).1,(fv aT t ws).2)=_;rw[h]
end
def oa(s:Sy)(l:Lay)(hs:LS s l)(W:List WS)(ws:List Int)(D:List (List Nat))(M i:Nat)(X:WS×List Int):Prop:=
 ∃D' T',RJ s l hs (W.set i X.1) X.2 D' T' (M+1)∧SX.Tr (j5 s l hs) (bC s l W ws D) i (bC s l (W.set i X.1) X.2 D')
section
variable {s:Sy} {l:Lay} {hs:LS s l} {W:List WS} {ws:List Int} {D:List (List Nat)} {T:Nat→Nat} {M:Nat}
theorem xo{α:Type}(f:α→Nat)(m:Nat):∀{l:List α},(∀x∈l,f x≤m)→SX.aE f l≤l.length*m
 | [],_=>Nat.zero_le _
 | a::l,h=>by
  have h1:=h a (List.mem_cons_self ..)
  have h2:=xo f m (l:=l) fun x hx=>h x (List.mem_cons_of_mem _ hx)
  show f a+SX.aE f l≤(l.length+1)*m
  rw[Nat.add_mul];omega
theorem NR:∀(n:Nat) (l:List Nat),(∀v,l.count v≤1)→(∀v∈l,v<n)→l.length≤n
 | 0,l,_,h2=>by
  cases l with
  | nil=>exact Nat.le_refl _
  | cons a l=>exact absurd (h2 a (List.mem_cons_self ..)) (Nat.not_lt_zero _)
 | n+1,l,h1,h2=>by
  have h3:=NR n (l.erase n) (fun v=>Nat.le_trans (List.Sublist.count_le v (List.erase_sublist ..)) (h1 v)) (fun v hv=>by
   have h4:=h2 v (List.mem_of_mem_erase hv)
   rcases Nat.lt_or_eq_of_le (Nat.le_of_lt_succ h4) with h5 | rfl
   ·exact h5
   ·have h6:0<(l.erase v).count v:=List.count_pos_iff.2 hv
    rw[List.count_erase_self]at h6
    have:=h1 v
    omega)
  have h7:l.length≤(l.erase n).length+1:=by
   rw[List.length_erase];split <;> omega
  omega
theorem RJ.Bg(hR:RJ s l hs W ws D T M){j:Nat}{c:List Nat}(hc:D[j]?=some c):c.length≤nN s∧∀v∈c,v<nN s:=by
 have h1:∀v∈c,v<nN s:=hR.ti.lP c (List.mem_of_getElem? hc)
 refine⟨NR _ _ (fun v =>?_) h1,h1⟩
 have h2:=hR.ti.tok v
 have h3:c.count v≤SX.aE (fun l:List Nat=>l.count v) D:=SX.zR (fun l:List Nat=>l.count v) D j c hc
 unfold SX.tok at h2
 have h4:SX.aE (fun l:List Nat=>l.count v) (bC s l W ws D).dq=SX.aE (fun l:List Nat=>l.count v) D:=rfl
 rw[h4]at h2
 split at h2 <;> omega
theorem RJ.aB(hR:RJ s l hs W ws D T M):ws.getD (nN s*nW l+nN s) 0≤100000:=by
 have h1:=hR.ti.aB
 have hn:=hs.nn
 have hk:=hs.k2
 have hl:=hR.len
 have h2:SX.aE List.length (bC s l W ws D).dq≤D.length*256:=xo _ _ fun c hc=>by
  obtain⟨j,hj⟩:=List.mem_iff_getElem?.1 hc
  have:=(hR.Bg hj).1
  omega
 have h3:SX.aE SX.cw (bC s l W ws D).ph≤(W.map cQ).length*2:=xo _ _ fun p _=>by
  cases p <;> simp[SX.cw]
 rw[List.length_map]at h3
 have h4:(bC s l W ws D).aB=(ws.getD (nN s*nW l+nN s) 0).toNat:=rfl
 have h5:=hR.dl
 have h6:D.length*256≤64*256:=Nat.mul_le_mul_right _ (by omega)
 have h7:=hR.ji
 omega
theorem RJ.bound(hR:RJ s l hs W ws D T M)(hM:M<1000000000){j:Nat}{c:List Nat}(hc:D[j]?=some c):T j+(gQ c).length<4000000000000000000:=by
 have h1:=(hR.Bg hc).1
 have h2:=hR.top j
 have h3:=hs.nn
 rw[List.length_map];omega
theorem RJ.at_(hR:RJ s l hs W ws D T M){i:Nat}{x:WS}(hx:W[i]?=some x):∃c,D[i]?=some c:=by
 have hi:=(List.getElem?_eq_some_iff.1 hx).1
 exact⟨D[i]'(by rw[hR.dl];exact hi),List.getElem?_eq_getElem _⟩
theorem RJ.lo(hR:RJ s l hs W ws D T M):nN s*nW l+nN s<ws.length:=by
 rw[hR.fl]
 have:=hs.size
 have h2:=hs.low
 omega
theorem qL(hR:RJ s l hs W ws D T M)(i:Nat){t:Nat}(h:t≤M+1)(j:Nat):(if j=i then t else T j)≤M+1:=by
 have:=hR.top j
 split <;> omega
theorem lU(hR:RJ s l hs W ws D T M)(j:Nat):T j≤M+1:=by
 have:=hR.top j
 omega
theorem ia{A:SX.AP}{S S' S'':SX.AS}{i:Nat}(e:S'=S'')(h:SX.Tr A S i S''):SX.Tr A S i S':=e▸h
theorem VR(hR:RJ s l hs W ws D T M){i:Nat}{ev jo:Int}{v:Nat}{has:Bool}{nx out:List Int}(hv:v<nN s)
  (hx:W[i]?=some ⟨ev,jo,false,3,.clear ⟨bR l,bN l,v,false⟩,v,has,nx,out⟩) :
  oa s l hs W ws D M i (fp s l ⟨ev,jo,false,3,.clear ⟨bR l,bN l,v,false⟩,v,has,nx,out⟩ ws):=by
 have e:fp s l ⟨ev,jo,false,3,.clear ⟨bR l,bN l,v,false⟩,v,has,nx,out⟩ ws=(⟨ev,jo,false,4,.none,v,has,nx,out⟩,if (0:Int)≤(v:Nat) then fN ws (wr (bR l+(v:Nat))) 0 else ws):=rfl
 rw[e,if_pos (by omega),hs.xY hv,jJ]
 have nw:=hR.lo
 refine⟨D,T,RJ.fin hR hx (by rw[List.length_set]) ?_ rfl (mI hR hx (by rw[List.length_set]) (fun a ha =>?_) (fun z h=>by cases h) rfl) (lU hR) (.inl rfl) (.inl rfl) (fun j h=>by cases h) (fun j h=>by cases h) ?_⟩
 ·rw[iv,if_neg (by omega)];exact hR.ji
 ·rw[iv,if_neg (by omega)]
 ·refine ia (NV (ws:=ws) (D:=D) hx hv (by omega) (by rfl) (by rfl) (by rfl)) ?_
  exact SX.Tr.clear v (kv hx)
theorem VQ(hR:RJ s l hs W ws D T M){i:Nat}{ev jo node:Int}{has:Bool}{nx out:List Int}
  (hx:W[i]?=some ⟨ev,jo,false,2,.quiet ⟨bR l,bN l,false,false⟩,node,has,nx,out⟩) :
  oa s l hs W ws D M i (fp s l ⟨ev,jo,false,2,.quiet ⟨bR l,bN l,false,false⟩,node,has,nx,out⟩ ws):=by
 have e:fp s l ⟨ev,jo,false,2,.quiet ⟨bR l,bN l,false,false⟩,node,has,nx,out⟩ ws=(⟨ev,jo,decide (cC ws (bN l)=0),rX l,.none,node,has,nx,out⟩,ws):=rfl
 rw[e,hs.count,mD]
 have Q1:=hR.ji
 refine⟨D,T,RJ.fin hR hx rfl hR.ji rfl (mI hR hx rfl (fun a ha=>rfl) (fun z h=>by cases h) rfl) (lU hR) (.inl rfl) (.inl rfl) (fun j h=>by cases h) (fun j h=>by cases h) ?_⟩
 refine ia (j9 (ws:=ws) (D:=D) hx (fun _ _=>rfl) (by rfl) (by rfl) D) ?_
 by_cases h0:ws.getD (nN s*nW l+nN s) 0=0
 ·rw[decide_eq_true h0]
  exact SX.Tr.vW (kv hx) (show (ws.getD (nN s*nW l+nN s) 0).toNat=0 by omega)
 ·rw[decide_eq_false h0]
  have hp:cQ ⟨ev,jo,false,rX l,.none,node,has,nx,out⟩=.idle (if (j5 s l hs).k<2 then 0 else 1) 0:=by
   show Bu (rX l) _ _ _ _=.idle (if l.k.toNat<2 then 0 else 1) 0
   unfold rX
   by_cases hk:l.k<2
   ·rw[if_pos hk,if_pos (by omega)];rfl
   ·rw[if_neg hk,if_neg (by omega)];rfl
  rw[hp]
  exact SX.Tr.ask (kv hx) (show (ws.getD (nN s*nW l+nN s) 0).toNat≠0 by omega)
theorem TZ(hR:RJ s l hs W ws D T M){i:Nat}{ev jo:Int}{v:Nat}{has:Bool}{nx out:List Int}
  (hx:W[i]?=some ⟨ev,jo,false,8,.cX ⟨bR l,bN l,0,false⟩,v,has,nx,out⟩) :
  oa s l hs W ws D M i (fp s l ⟨ev,jo,false,8,.cX ⟨bR l,bN l,0,false⟩,v,has,nx,out⟩ ws):=by
 have e:fp s l ⟨ev,jo,false,8,.cX ⟨bR l,bN l,0,false⟩,v,has,nx,out⟩ ws=(⟨ev,jo,false,0,.none,v,false,nx,out⟩,kX ws (bN l) 18446744073709551615):=rfl
 have nw:=hR.lo
 have Q1:=hR.ji
 have hc:=hR.aB
 have h1:1≤(ws.getD (nN s*nW l+nN s) 0).toNat:=by
  have h2:=hR.ti.aB
  have h3:=SX.zR SX.cw (bC s l W ws D).ph i _ (kv (s:=s) (l:=l) (ws:=ws) (D:=D) hx)
  have h4:SX.cw (cQ ⟨ev,jo,false,8,.cX ⟨bR l,bN l,0,false⟩,v,has,nx,out⟩)=1:=rfl
  have h5:(bC s l W ws D).aB=(ws.getD (nN s*nW l+nN s) 0).toNat:=rfl
  omega
 have hw:kX ws (bN l) 18446744073709551615=ws.set (nN s*nW l+nN s) (ws.getD (nN s*nW l+nN s) 0-1):=by
  unfold kX
  rw[hs.count,if_pos (zn (by omega) (by omega)),mD,jJ]
  congr 1
  omega
 rw[e,hw]
 refine⟨D,T,RJ.fin hR hx (by rw[List.length_set]) ?_ rfl (mI hR hx (by rw[List.length_set]) (fun a ha =>?_) (fun z h=>by cases h) rfl) (lU hR) (.inl rfl) (.inl rfl) (fun j h=>by cases h) (fun j h=>by cases h) ?_⟩
 ·rw[iv,if_pos ⟨rfl,nw⟩];omega
 ·rw[iv,if_neg (by omega)]
 ·refine ia (OX (ws:=ws) (D:=D) hx nw (by rfl) (by rfl) (by rfl)) ?_
  rw[show (ws.getD (nN s*nW l+nN s) 0-1).toNat=(bC s l W ws D).aB-1 by show _=(ws.getD (nN s*nW l+nN s) 0).toNat-1;omega]
  exact SX.Tr.cX v (kv hx)
theorem VO(hR:RJ s l hs W ws D T M){i:Nat}{ev jo:Int}{v u:Nat}{has:Bool}{nx out:List Int}(hu:u<nN s)
  (hx:W[i]?=some ⟨ev,jo,false,6,.take ⟨bR l,bN l,u,false,false,false⟩,v,has,u::nx,out⟩) :
  oa s l hs W ws D M i (fp s l ⟨ev,jo,false,6,.take ⟨bR l,bN l,u,false,false,false⟩,v,has,u::nx,out⟩ ws):=by
 have nw:=hR.lo
 obtain⟨k1,k2⟩:=DF (ws:=ws) (a:=nN s*nW l+u) (by omega) 0 1
 by_cases hf:ws.getD (nN s*nW l+u) 0=0
 ·rw[decide_eq_true hf]at k1
  rw[if_pos hf]at k2
  have e:fp s l ⟨ev,jo,false,6,.take ⟨bR l,bN l,u,false,false,false⟩,v,has,u::nx,out⟩ ws=(⟨ev,jo,false,6,.take ⟨bR l,bN l,u,true,false,true⟩,v,has,u::nx,out⟩,ws.set (nN s*nW l+u) 1):=by
   have e1:jr aT ⟨bR l,bN l,u,false,false,false⟩ ws=(⟨bR l,bN l,u,true,false,true⟩,ws.set (nN s*nW l+u) 1,false):=by
    show (if (0:Int)≤(u:Nat) then (if lB ws (wr (bR l+(u:Nat))) 0=true then ((⟨bR l,bN l,u,true,false,true⟩:Tk),gw ws (wr (bR l+(u:Nat))) 0 1,false) else (⟨bR l,bN l,u,false,true,true⟩,gw ws (wr (bR l+(u:Nat))) 0 1,true)) else (⟨bR l,bN l,u,false,true,true⟩,ws,true))=_
    rw[if_pos (by omega),hs.xY hu,k1,k2];rfl
   exact oR (OB e1)
  rw[e]
  refine⟨D,T,RJ.fin hR hx (by rw[List.length_set]) ?_ rfl (mI hR hx (by rw[List.length_set]) (fun a ha =>?_) (fun z h=>by cases h) rfl) (lU hR) (.inl rfl) (.inl rfl) (fun j h=>by cases h) (fun j h=>by cases h) ?_⟩
  ·rw[iv,if_neg (by omega)];exact hR.ji
  ·rw[iv,if_neg (by omega)]
  ·refine ia (NV (ws:=ws) (D:=D) hx hu (by omega) (by rfl) (by rfl) (by rfl)) ?_
   exact SX.Tr.flag v out u (nx.map Int.toNat) (kv hx) (decide_eq_false fun h=>h.2 hf)
 ·rw[decide_eq_false hf]at k1
  rw[if_neg hf]at k2
  have e:fp s l ⟨ev,jo,false,6,.take ⟨bR l,bN l,u,false,false,false⟩,v,has,u::nx,out⟩ ws=(⟨ev,jo,false,iP (u::nx),.none,v,has,nx,out⟩,ws):=by
   have e1:jr aT ⟨bR l,bN l,u,false,false,false⟩ ws=(⟨bR l,bN l,u,false,true,true⟩,ws,true):=by
    show (if (0:Int)≤(u:Nat) then (if lB ws (wr (bR l+(u:Nat))) 0=true then ((⟨bR l,bN l,u,true,false,true⟩:Tk),gw ws (wr (bR l+(u:Nat))) 0 1,false) else (⟨bR l,bN l,u,false,true,true⟩,gw ws (wr (bR l+(u:Nat))) 0 1,true)) else (⟨bR l,bN l,u,false,true,true⟩,ws,true))=_
    rw[if_pos (by omega),hs.xY hu,k1,k2];rfl
   exact oR (OB e1)
  rw[e]
  refine⟨D,T,RJ.fin hR hx rfl hR.ji rfl (mI hR hx rfl (fun a ha=>rfl) (fun z h=>by cases h) rfl) (lU hR) (.inl rfl) (.inl rfl) (fun j h=>by cases h) (fun j h=>by cases h) ?_⟩
  refine ia (j9 (ws:=ws) (D:=D) hx (fun _ _=>rfl) (by rfl) (by rfl) D) ?_
  dsimp only
  rw[zV (nx:=nx) (does:=iP (u::nx)) rfl]
  exact SX.Tr.we v out u (nx.map Int.toNat) (kv hx) (decide_eq_true ⟨hu,hf⟩)
theorem VN(hR:RJ s l hs W ws D T M){i:Nat}{ev jo:Int}{v u:Nat}{has:Bool}{nx out:List Int}
  (hx:W[i]?=some ⟨ev,jo,false,6,.take ⟨bR l,bN l,u,true,false,true⟩,v,has,u::nx,out⟩) :
  oa s l hs W ws D M i (fp s l ⟨ev,jo,false,6,.take ⟨bR l,bN l,u,true,false,true⟩,v,has,u::nx,out⟩ ws):=by
 have e:fp s l ⟨ev,jo,false,6,.take ⟨bR l,bN l,u,true,false,true⟩,v,has,u::nx,out⟩ ws=(⟨ev,jo,false,7,.none,v,has,u::nx,out⟩,kX ws (bN l) 1):=rfl
 have nw:=hR.lo
 have Q1:=hR.ji
 have hc:=hR.aB
 have hw:kX ws (bN l) 1=ws.set (nN s*nW l+nN s) (ws.getD (nN s*nW l+nN s) 0+1):=by
  unfold kX
  rw[hs.count,if_pos (zn (by omega) (by omega)),mD,jJ]
  congr 1
  omega
 rw[e,hw]
 refine⟨D,T,RJ.fin hR hx (by rw[List.length_set]) ?_ rfl (mI hR hx (by rw[List.length_set]) (fun a ha =>?_) (fun z h=>by cases h) rfl) (lU hR) (.inl rfl) (.inl rfl) (fun j h=>by cases h) (fun j h=>by cases h) ?_⟩
 ·rw[iv,if_pos ⟨rfl,nw⟩];omega
 ·rw[iv,if_neg (by omega)]
 ·refine ia (OX (ws:=ws) (D:=D) hx nw (by rfl) (by rfl) (by rfl)) ?_
  rw[show (ws.getD (nN s*nW l+nN s) 0+1).toNat=(bC s l W ws D).aB+1 by show _=(ws.getD (nN s*nW l+nN s) 0).toNat+1;omega]
  exact SX.Tr.add v out u (nx.map Int.toNat) (kv hx)
theorem XX(hR:RJ s l hs W ws D T M)(hM:M<1000000000)(JK:MV s l ws){i:Nat}{ev jo:Int}{v:Nat}{has:Bool}{nx out y:List Int}(hv:v<nN s)
  (hy:y.length<nW l∨(nW l=0∧y=[])) (hk:∀i,i<y.length→eG s.what s.w i (wd y i)) (hx:W[i]?=some ⟨ev,jo,false,4,.read y,v,has,nx,out⟩) :
  oa s l hs W ws D M i (fp s l ⟨ev,jo,false,4,.read y,v,has,nx,out⟩ ws):=by
 have hE:=(hR.ev _ (List.mem_of_getElem? hx)).1
 have wR:=(hR.ev _ (List.mem_of_getElem? hx)).2.1
 dsimp only at hE wR
 have hew:wr (ev+1)=ev+1:=by show IntKind.i64.wrap _=_;rw[IntKind.wrap_i64];omega
 have done:∀y':List Int,((y.length+1=nW l∧y'=y++[(bC s l W ws D).cell v y.length])∨(nW l=0∧y'=[]))→dC s.what s.w y'→oa s l hs W ws D M i (dv s l ⟨ev,jo,false,4,.read y,v,has,nx,out⟩ (.read y'),ws):=by
  intro y' ry yi
  have hn:gx s v=0:=(CF (GF hs.iT) ⟨by omega,by have:=hs.nn;omega⟩).symm
  rw[Xh (Nd hn yi.v)]
  dsimp only
  rw[hew]
  refine⟨D,T,RJ.fin hR hx rfl hR.ji rfl (mI hR hx rfl (fun a ha=>rfl) (fun z h=>by cases h) rfl) (lU hR) (.inr rfl) (.inl rfl) (fun j h=>by cases h) (fun j h=>by cases h) ?_⟩
  refine ia (aah (ws:=ws) (D:=D) hx (show (ev+1).toNat=ev.toNat+1 by omega) (by rfl)) ?_
  dsimp only
  rw[zV (does:=sc s v) rfl]
  exact SX.Tr.vN v y y' (kv hx) ry
 by_cases hl:y.length<nW l
 ·have dw:cC ws (wr (aK l v+(y.length:Nat)))=(bC s l W ws D).cell v y.length:=by
   rw[hs.AK hv hl,mD]
   show _=if _ then _ else _
   rw[if_pos ⟨hv,hl⟩]
  have lK:=ZP (l:=l) (base:=aK l v) hl dw
  have e:fp s l ⟨ev,jo,false,4,.read y,v,has,nx,out⟩ ws=(if decide (y.length+1=cw l.words)=true then dv s l ⟨ev,jo,false,4,.read y,v,has,nx,out⟩ (.read (y++[(bC s l W ws D).cell v y.length])) else ⟨ev,jo,false,4,.read (y++[(bC s l W ws D).cell v y.length]),v,has,nx,out⟩,ws):=by
   exact oR (OC lK)
  rw[e]
  have qg:eG s.what s.w y.length ((bC s l W ws D).cell v y.length):=by
   rw[← dw,hs.AK hv hl]
   exact JK.load hv hl
  by_cases he:y.length+1=nW l
  ·rw[if_pos (decide_eq_true he)]
   refine done _ (.inl ⟨he,rfl⟩) ((hs.o6).2 ⟨by simp;omega,fun j hj =>?_⟩)
   rw[qU,O8]
   by_cases h2:j<y.length
   ·rw[if_pos h2];exact hk j h2
   ·rw[if_neg h2,if_pos (by omega),show j=y.length by omega];exact qg
  ·rw[if_neg (by rw[decide_eq_false he];decide)]
   refine⟨D,T,RJ.fin hR hx rfl hR.ji rfl (mI hR hx rfl (fun a ha=>rfl) (fun z h=>by cases h) rfl) (lU hR) (.inl rfl) (.inl rfl) (fun j h=>by cases h) (fun j h=>by cases h) ?_⟩
   refine ia (j9 (ws:=ws) (D:=D) hx (fun _ _=>rfl) (by rfl) (by rfl) D) ?_
   exact SX.Tr.vM v y (kv hx) (show y.length+1<nW l by omega)
 ·obtain⟨h0,rfl⟩:=hy.resolve_left hl
  have e:fp s l ⟨ev,jo,false,4,.read [],v,has,nx,out⟩ ws=(dv s l ⟨ev,jo,false,4,.read [],v,has,nx,out⟩ (.read []),ws):=by
   have e1:kx aT l (aK l v) [] ws=([],ws,true):=if_neg (by show ¬0<cw l.words;show ¬0<nW l;omega)
   exact oR (OC e1)
  rw[e]
  exact done _ (.inr ⟨h0,rfl⟩) ((hs.o6).2 ⟨by rw[h0];rfl,fun j hj=>by omega⟩)
theorem Oh(hs:LS s l){ev jo:Int}{v u:Nat}{has:Bool}{nx out:List Int}(j:Jn)(kP:0≤jo)(hjo2:jo<1000000000)(hw:j.words=l.words)(yI:j.ek=false):
  ∃x':WS,(if (fE j).2=true then dv s l ⟨ev,jo,false,5,.join j,v,has,u::nx,out⟩ (.join (fE j).1) else ⟨ev,jo,false,5,.join (fE j).1,v,has,u::nx,out⟩)=x'∧cQ x'=(SX.dU (j5 s l hs) v out u (nx.map Int.toNat) j.at_ j.changed).1∧x'.ev=ev∧x'.jo.toNat=jo.toNat+(SX.dU (j5 s l hs) v out u (nx.map Int.toNat) j.at_ j.changed).2∧(x'.jo=jo∨x'.jo=jo+1)∧(∀z,x'.now≠.bE z)∧pR x'.now=none∧(∀j,x'.now=.join j→j.ek=false)∧(∀q,x'.now≠.push q):=by
 have hjw:wr (jo+1)=jo+1:=by show IntKind.i64.wrap _=_;rw[IntKind.wrap_i64];omega
 unfold SX.dU
 by_cases h1:j.at_+1<cw l.words
 ·have wK:fE j=({ j with at_:=j.at_+1 },false):=by unfold fE;rw[hw,if_pos h1]
  rw[wK,if_pos (show j.at_+1<(j5 s l hs).W from h1)]
  dsimp only
  rw[if_neg Bool.false_ne_true]
  refine⟨_,rfl,?_,rfl,rfl,.inl rfl,fun z h=>Nw.noConfusion h,rfl,fun j' h =>?_,fun q h=>Nw.noConfusion h⟩
  ·show SX.Ph.join _ _ _ _ _ (if j.ek=true then _ else _) _=_
   rw[yI];rfl
  ·cases h;exact yI
 ·have wK:fE j=({ j with at_:=j.at_+1,ended:=true },true):=by unfold fE;rw[hw,if_neg h1]
  rw[wK,if_neg (show ¬j.at_+1<(j5 s l hs).W from h1)]
  dsimp only
  rw[if_pos rfl]
  cases hc:j.changed with
  | true =>
   have e:dv s l ⟨ev,jo,false,5,.join j,v,has,u::nx,out⟩ (.join { j with at_:=j.at_+1,ended:=true })=⟨ev,jo+1,false,6,.none,v,has,u::nx,out⟩:=by
    show (if j.changed=true then _ else _)=_
    rw[if_pos hc]
    dsimp only
    rw[hjw]
   rw[hc]at e
   refine⟨_,e,?_,rfl,?_,.inr rfl,fun z h=>Nw.noConfusion h,rfl,fun j' h=>Nw.noConfusion h,fun q h=>Nw.noConfusion h⟩
   ·rw[if_pos rfl];rfl
   ·rw[if_pos rfl];show (jo+1).toNat=jo.toNat+1;omega
  | false =>
   have e:dv s l ⟨ev,jo,false,5,.join j,v,has,u::nx,out⟩ (.join { j with at_:=j.at_+1,ended:=true })=⟨ev,jo,false,iP (u::nx),.none,v,has,nx,out⟩:=by
    show (if j.changed=true then _ else _)=_
    rw[if_neg (by rw[hc];decide)]
    rfl
   rw[hc]at e
   refine⟨_,e,?_,rfl,?_,.inl rfl,fun z h=>Nw.noConfusion h,rfl,fun j' h=>Nw.noConfusion h,fun q h=>Nw.noConfusion h⟩
   ·rw[if_neg Bool.false_ne_true];exact zV (nx:=nx) (does:=iP (u::nx)) rfl
   ·rw[if_neg Bool.false_ne_true];rfl
theorem XZ(hR:RJ s l hs W ws D T M)(hM:M<1000000000){i:Nat}{ev jo:Int}{v u:Nat}{has:Bool}{nx out:List Int}(hu:u<nN s)(j:Jn)
  (hj:j.base=aK l u∧j.what=l.what∧j.words=l.words∧j.a=out) (jB:j.ended=false) (cW:j.at_≤nW l) (tZ:j.at_<nW l∨(j.at_=0∧j.ek=false∧j.changed=false)) (ab8:j.ek=true→j.at_<nW l)
  (hx:W[i]?=some ⟨ev,jo,false,5,.join j,v,has,u::nx,out⟩) :
  oa s l hs W ws D M i (fp s l ⟨ev,jo,false,5,.join j,v,has,u::nx,out⟩ ws):=by
 have hE:=hR.ev _ (List.mem_of_getElem? hx)
 dsimp only at hE
 have hJ:=hR.jn _ (List.mem_of_getElem? hx) j rfl
 have hp:=kv (s:=s) (l:=l) (ws:=ws) (D:=D) hx
 have nw:=hR.lo
 obtain⟨base,what,words,a,changed,ended,tries,at_,ek,xx⟩:=j
 obtain⟨rfl,rfl,rfl,rfl⟩:=hj
 dsimp only at jB cW tZ ab8 hJ
 subst jB
 by_cases h0:at_=nW l
 ·obtain⟨h1,h2,h3⟩:=tZ.resolve_left (by omega)
  subst h1 h2 h3
  have Fz:nW l=0:=h0.symm
  have e:fp s l ⟨ev,jo,false,5,.join ⟨aK l u,l.what,l.words,a,false,false,tries,0,false,xx⟩,v,has,u::nx,a⟩ ws=(⟨ev,jo,false,iP (u::nx),.none,v,has,nx,a⟩,ws):=by
   have e1:fV aT ⟨aK l u,l.what,l.words,a,false,false,tries,0,false,xx⟩ ws=(⟨aK l u,l.what,l.words,a,false,true,tries,0,false,xx⟩,ws,true):=by
    exact if_pos h0
   exact oR (zY e1)
  rw[e]
  refine⟨D,T,RJ.fin hR hx rfl hR.ji rfl (mI hR hx rfl (fun a ha=>rfl) (fun z h=>by cases h) rfl) (lU hR) (.inl rfl) (.inl rfl) (fun j h=>by cases h) (fun j h=>by cases h) ?_⟩
  refine ia (j9 (ws:=ws) (D:=D) hx (fun _ _=>rfl) (by rfl) (by rfl) D) ?_
  dsimp only
  rw[zV (nx:=nx) (does:=iP (u::nx)) rfl]
  exact SX.Tr.none v a u (nx.map Int.toNat) hp Fz
 have ab:at_<nW l:=by omega
 have dw:ws.getD (u*nW l+at_) 0=(bC s l W ws D).cell u at_:=by
  show _=if _ then _ else _
  rw[if_pos ⟨hu,ab⟩]
 have jP:=qH hu ab
 have Fx:=hs.AK hu ab
 have JC:=hs.what
 have J1:wd a at_=a.getD at_ 0:=(qU a at_).symm
 cases ek with
 | true =>
  have hJ:=hJ rfl
  obtain⟨k1,k2⟩:=DF (ws:=ws) (a:=u*nW l+at_) (by omega) xx (cu l.what xx (wd a at_))
  by_cases hf:ws.getD (u*nW l+at_) 0=xx
  ·rw[decide_eq_true hf]at k1
   rw[if_pos hf]at k2
   obtain⟨x',jW,q1,q2,q3,q4,q5,q6,q7,q8⟩:=Oh hs (ev:=ev) (v:=v) (u:=u) (has:=has) (nx:=nx) (out:=a) ⟨aK l u,l.what,l.words,a,true,false,tries,at_,false,xx⟩ hE.2.2.1 (by omega) rfl rfl
   have e:fp s l ⟨ev,jo,false,5,.join ⟨aK l u,l.what,l.words,a,changed,false,tries,at_,true,xx⟩,v,has,u::nx,a⟩ ws=(x',ws.set (u*nW l+at_) (cu l.what xx (wd a at_))):=by
    have e1:fV aT ⟨aK l u,l.what,l.words,a,changed,false,tries,at_,true,xx⟩ ws=((fE ⟨aK l u,l.what,l.words,a,true,false,tries,at_,false,xx⟩).1,ws.set (u*nW l+at_) (cu l.what xx (wd a at_)),(fE ⟨aK l u,l.what,l.words,a,true,false,tries,at_,false,xx⟩).2):=by
     show (if at_=cw l.words then ((⟨aK l u,l.what,l.words,a,changed,true,tries,at_,true,xx⟩:Jn),ws,true) else if lB ws (wr (aK l u+(at_:Nat))) xx=true then ((fE ⟨aK l u,l.what,l.words,a,true,false,tries,at_,false,xx⟩).1,gw ws (wr (aK l u+(at_:Nat))) xx (cu l.what xx (wd a at_)),(fE ⟨aK l u,l.what,l.words,a,true,false,tries,at_,false,xx⟩).2) else (⟨aK l u,l.what,l.words,a,changed,false,wr (tries+1),at_,false,xx⟩,gw ws (wr (aK l u+(at_:Nat))) xx (cu l.what xx (wd a at_)),false))=_
     rw[if_neg h0,Fx,k1,k2,if_pos rfl]
    rw[← jW]
    exact oR (zY e1)
   rw[e]
   refine⟨D,T,RJ.fin hR hx (by rw[List.length_set]) ?_ rfl (mI hR hx (by rw[List.length_set]) (fun a ha =>?_) q5 q6.symm) (lU hR) (.inl q2) q4 (fun j h h2=>absurd ((q7 j h).symm.trans h2) (by decide)) (fun q h=>absurd h (q8 q)) ?_⟩
   ·rw[iv,if_neg (by omega)];exact hR.ji
   ·rw[iv,if_neg (by omega)]
   ·refine ia (Xl (ws:=ws) (D:=D) hx hu ab (by omega) (by rfl) q2 _ q3) ?_
    rw[q1]
    rw[J1,JC]at hJ ⊢
    have h9:xx=(bC s l W ws D).cell u at_:=hf.symm.trans dw
    have hp:(bC s l W ws D).ph[i]?=some (.join v a u (nx.map Int.toNat) at_ (some xx) changed):=hp
    rw[h9]at hp hJ ⊢
    exact SX.Tr.wA v a u (nx.map Int.toNat) at_ changed hp ab hJ
  ·rw[decide_eq_false hf]at k1
   rw[if_neg hf]at k2
   have e:fp s l ⟨ev,jo,false,5,.join ⟨aK l u,l.what,l.words,a,changed,false,tries,at_,true,xx⟩,v,has,u::nx,a⟩ ws=(⟨ev,jo,false,5,.join ⟨aK l u,l.what,l.words,a,changed,false,wr (tries+1),at_,false,xx⟩,v,has,u::nx,a⟩,ws):=by
    have e1:fV aT ⟨aK l u,l.what,l.words,a,changed,false,tries,at_,true,xx⟩ ws=(⟨aK l u,l.what,l.words,a,changed,false,wr (tries+1),at_,false,xx⟩,ws,false):=by
     show (if at_=cw l.words then ((⟨aK l u,l.what,l.words,a,changed,true,tries,at_,true,xx⟩:Jn),ws,true) else if lB ws (wr (aK l u+(at_:Nat))) xx=true then ((fE ⟨aK l u,l.what,l.words,a,true,false,tries,at_,false,xx⟩).1,gw ws (wr (aK l u+(at_:Nat))) xx (cu l.what xx (wd a at_)),(fE ⟨aK l u,l.what,l.words,a,true,false,tries,at_,false,xx⟩).2) else (⟨aK l u,l.what,l.words,a,changed,false,wr (tries+1),at_,false,xx⟩,gw ws (wr (aK l u+(at_:Nat))) xx (cu l.what xx (wd a at_)),false))=_
     rw[if_neg h0,Fx,k1,k2,if_neg (by decide)]
    exact oR (zY e1)
   rw[e]
   refine⟨D,T,RJ.fin hR hx rfl hR.ji rfl (mI hR hx rfl (fun a ha=>rfl) (fun z h=>by cases h) rfl) (lU hR) (.inl rfl) (.inl rfl) (fun j h h2=>by cases h;cases h2) (fun j h=>by cases h) ?_⟩
   refine ia (j9 (ws:=ws) (D:=D) hx (fun _ _=>rfl) (by rfl) (by rfl) D) ?_
   exact SX.Tr.lost v a u (nx.map Int.toNat) at_ changed xx hp ab (fun h=>hf (dw.trans h))
 | false =>
  by_cases hf:cu l.what (ws.getD (u*nW l+at_) 0) (wd a at_)=ws.getD (u*nW l+at_) 0
  ·obtain⟨x',jW,q1,q2,q3,q4,q5,q6,q7,q8⟩:=Oh hs (ev:=ev) (v:=v) (u:=u) (has:=has) (nx:=nx) (out:=a) ⟨aK l u,l.what,l.words,a,changed,false,tries,at_,false,ws.getD (u*nW l+at_) 0⟩ hE.2.2.1 (by omega) rfl rfl
   have e:fp s l ⟨ev,jo,false,5,.join ⟨aK l u,l.what,l.words,a,changed,false,tries,at_,false,xx⟩,v,has,u::nx,a⟩ ws=(x',ws):=by
    have e1:fV aT ⟨aK l u,l.what,l.words,a,changed,false,tries,at_,false,xx⟩ ws=((fE ⟨aK l u,l.what,l.words,a,changed,false,tries,at_,false,ws.getD (u*nW l+at_) 0⟩).1,ws,(fE ⟨aK l u,l.what,l.words,a,changed,false,tries,at_,false,ws.getD (u*nW l+at_) 0⟩).2):=by
     show (if at_=cw l.words then ((⟨aK l u,l.what,l.words,a,changed,true,tries,at_,false,xx⟩:Jn),ws,true) else if cu l.what (cC ws (wr (aK l u+(at_:Nat)))) (wd a at_)=cC ws (wr (aK l u+(at_:Nat))) then ((fE ⟨aK l u,l.what,l.words,a,changed,false,tries,at_,false,cC ws (wr (aK l u+(at_:Nat)))⟩).1,ws,(fE ⟨aK l u,l.what,l.words,a,changed,false,tries,at_,false,cC ws (wr (aK l u+(at_:Nat)))⟩).2) else (⟨aK l u,l.what,l.words,a,changed,false,tries,at_,true,cC ws (wr (aK l u+(at_:Nat)))⟩,ws,false))=_
     rw[if_neg h0,Fx,mD,if_pos hf]
    rw[← jW]
    exact oR (zY e1)
   rw[e]
   refine⟨D,T,RJ.fin hR hx rfl hR.ji rfl (mI hR hx rfl (fun a ha=>rfl) q5 q6.symm) (lU hR) (.inl q2) q4 (fun j h h2=>absurd ((q7 j h).symm.trans h2) (by decide)) (fun q h=>absurd h (q8 q)) ?_⟩
   refine ia (aag (ws:=ws) (D:=D) hx q2 _ q3) ?_
   rw[q1]
   refine SX.Tr.same v a u (nx.map Int.toNat) at_ changed hp ab ?_
   show cu s.what _ _=_
   rw[← dw,← J1,← JC];exact hf
  ·have e:fp s l ⟨ev,jo,false,5,.join ⟨aK l u,l.what,l.words,a,changed,false,tries,at_,false,xx⟩,v,has,u::nx,a⟩ ws=(⟨ev,jo,false,5,.join ⟨aK l u,l.what,l.words,a,changed,false,tries,at_,true,ws.getD (u*nW l+at_) 0⟩,v,has,u::nx,a⟩,ws):=by
    have e1:fV aT ⟨aK l u,l.what,l.words,a,changed,false,tries,at_,false,xx⟩ ws=(⟨aK l u,l.what,l.words,a,changed,false,tries,at_,true,ws.getD (u*nW l+at_) 0⟩,ws,false):=by
     show (if at_=cw l.words then ((⟨aK l u,l.what,l.words,a,changed,true,tries,at_,false,xx⟩:Jn),ws,true) else if cu l.what (cC ws (wr (aK l u+(at_:Nat)))) (wd a at_)=cC ws (wr (aK l u+(at_:Nat))) then ((fE ⟨aK l u,l.what,l.words,a,changed,false,tries,at_,false,cC ws (wr (aK l u+(at_:Nat)))⟩).1,ws,(fE ⟨aK l u,l.what,l.words,a,changed,false,tries,at_,false,cC ws (wr (aK l u+(at_:Nat)))⟩).2) else (⟨aK l u,l.what,l.words,a,changed,false,tries,at_,true,cC ws (wr (aK l u+(at_:Nat)))⟩,ws,false))=_
     rw[if_neg h0,Fx,mD,if_neg hf]
    exact oR (zY e1)
   rw[e]
   refine⟨D,T,RJ.fin hR hx rfl hR.ji rfl (mI hR hx rfl (fun a ha=>rfl) (fun z h=>by cases h) rfl) (lU hR) (.inl rfl) (.inl rfl) (fun j h h2=>by cases h;exact hf) (fun j h=>by cases h) ?_⟩
   refine ia (j9 (ws:=ws) (D:=D) hx (fun _ _=>rfl) (by rfl) (by rfl) D) ?_
   have h9:cQ ⟨ev,jo,false,5,.join ⟨aK l u,l.what,l.words,a,changed,false,tries,at_,true,ws.getD (u*nW l+at_) 0⟩,v,has,u::nx,a⟩=.join v a u (nx.map Int.toNat) at_ (some ((bC s l W ws D).cell u at_)) changed:=by rw[← dw];rfl
   rw[h9]
   refine SX.Tr.load v a u (nx.map Int.toNat) at_ changed hp ab ?_
   show ¬cu s.what _ _=_
   rw[← dw,← J1,← JC];exact hf
end
end Go.Proofs.YtnpidbjdilnhlaaGreat
