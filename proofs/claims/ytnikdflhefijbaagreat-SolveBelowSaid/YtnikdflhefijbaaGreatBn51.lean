import Derived.Test.YtnikdflhefijbaaGreatBn42
import Derived.Test.YtnikdflhefijbaaGreatBn44
import Derived.Test.YtnikdflhefijbaaGreatBn50
namespace Go.Proofs.YtnikdflhefijbaaGreat
open Go.RowKit
set_option maxRecDepth 100000
set_option maxHeartbeats 4000000
def ey(s:Sy)(l:Lay):List Int:=yy s l (List.replicate (np l) 0)
def W0(l:Lay):List WS:=List.replicate l.k.toNat ot
def sC(s:Sy)(l:Lay)(aw:List (Int×Int×Unit))(x:jb WA):jb WA:=ju (eU s l) (fun a _=>a) l.k.toNat aw x
def vd(s:Sy)(l:Lay):jb WA:=⟨⟨W0 l,ey s l⟩,List.replicate l.k.toNat 0,List.replicate l.k.toNat false,0⟩
def cb(s:Sy)(l:Lay)(aw:List (Int×Int×Unit)):jb WA:=sC s l aw (vd s l)
def rH(W:List WS):Int:=W.foldl (fun a x=>wr (a+x.ev)) 0
def ri(W:List WS):Int:=W.foldl (fun a x=>wr (a+x.jo)) 0
theorem aaG{W:List WS}{i:Nat}(h:i<W.length):wr (rH (W.take i)+W[i].ev)=rH (W.take (i+1)):=by
 unfold rH;rw[fp h,tS];rfl
theorem aaq{W:List WS}{i:Nat}(h:i<W.length):wr (ri (W.take i)+W[i].jo)=ri (W.take (i+1)):=by
 unfold ri;rw[fp h,tS];rfl
set_option maxHeartbeats 4000000
theorem Ro{b:Nat}{a ws:List Int}{x:Nat}(h:x<b):∀k,(nY b a ws k).getD x 0=ws.getD x 0
 | 0=>rfl
 |k+1=>by rw[nY,qK _ _ _ _ (by omega)];exact Ro h k
theorem Rp{b:Nat}{a ws:List Int}{i:Nat}:∀k,i<k→b+k≤ws.length→(nY b a ws k).getD (b+i) 0=wd a i
 | 0,h,_=>absurd h (nE _)
 |k+1,h,hl=>by
  rw[nY]
  by_cases e:i=k
  ·subst e
   rw[z8 _ _ _ _ (by rw[Jy];omega),ai rfl]
  ·rw[qK _ _ _ _ (by omega)]
   exact Rp k (by omega) (by omega)
section
variable {N W:Nat} {st:Nat→List Int} {ws:List Int}
theorem Q1{v i:Nat}(hi:i<W):∀k,k≤N→v<k→N*W+N≤ws.length→(mW N W st ws k).getD (v*W+i) 0=wd (st v) i
 | 0,_,h,_=>absurd h (nE _)
 |k+1,hk,h,hl=>by
  have h6:(k+1)*W≤N*W:=lO _ hk
  have h7:=sT (N:=N) (show v<N by omega) hi
  rw[qz]at h6
  rw[mW,qK _ _ _ _ (by omega)]
  by_cases e:v=k
  ·subst e
   exact Rp W hi (by rw[zr];omega)
  ·have h8:=sT (N:=k) (show v<k by omega) hi
   rw[Ro h8]
   exact Q1 hi k (by omega) (by omega) hl
theorem P3{v:Nat}:∀k,k≤N→v<k→N*W+N≤ws.length→(mW N W st ws k).getD (N*W+v) 0=1
 | 0,_,h,_=>absurd h (nE _)
 |k+1,hk,h,hl=>by
  have h6:(k+1)*W≤N*W:=lO _ hk
  rw[qz]at h6
  rw[mW]
  by_cases e:v=k
  ·subst e
   rw[z8 _ _ _ _ (by rw[Jy,zr];omega),ai rfl]
  ·rw[qK _ _ _ _ (by omega),Rq W (by omega)]
   exact P3 k (by omega) (by omega) hl
end
theorem GB{b r:Nat}{l ws:List Int}{a:Nat}(hr:0<r)(ha:a<b+2∨b+2+r≤a):∀k,(kg b r l ws k).getD a 0=ws.getD a 0
 | 0=>rfl
 |k+1=>by
  have:=nA (1+k) hr
  rw[kg,qK _ _ _ _ (by omega)];exact GB hr ha k
theorem Te{b r:Nat}{l ws:List Int}{i:Nat}(hr:0<r)(hl:b+2+r≤ws.length):∀k,k≤r→i<k→(kg b r l ws k).getD (b+2+(1+i) % r) 0=l.getD i 0
 | 0,_,h=>absurd h (nE _)
 |k+1,hk,h=>by
  rw[kg]
  by_cases e:i=k
  ·subst e
   have:=nA (1+i) hr
   rw[z8 _ _ _ _ (by rw[P1];omega),ai rfl]
  ·have:=TP (a:=1+i) (c:=1+k) (m:=r) (by omega) (by omega)
   rw[qK _ _ _ _ (by omega)]
   exact Te hr hl k (by omega) (by omega)
theorem Tf{b r:Nat}{l ws:List Int}{a:Nat}(hr:0<r)(ha:a<b∨b+2+r≤a):(nH b r l ws).getD a 0=ws.getD a 0:=by
 rw[nH,GB hr (by omega),qK _ _ _ _ (by omega),qK _ _ _ _ (by omega)]
theorem acz{b r:Nat}{l ws:List Int}(hr:0<r)(hl:b+2+r≤ws.length):(nH b r l ws).getD b 0=1:=by
 rw[nH,GB hr (by omega),qK _ _ _ _ (by omega),z8 _ _ _ _ (by omega),ai rfl]
theorem acB{b r:Nat}{l ws:List Int}(hr:0<r)(hl:b+2+r≤ws.length):(nH b r l ws).getD (b+1) 0=((1+l.length:Nat):Int):=by
 rw[nH,GB hr (by omega),z8 _ _ _ _ (by rw[cM];omega),ai rfl]
theorem acA{b r:Nat}{l ws:List Int}{i:Nat}(hr:0<r)(hl:b+2+r≤ws.length)(hk:l.length≤r)(hi:i<l.length):(nH b r l ws).getD (b+2+(1+i) % r) 0=l.getD i 0:=by
 rw[nH];exact Te hr (by rw[cM,cM];exact hl) _ hk hi
section
variable {b0 N:Nat} {ls:List (List Int)} {ws:List Int}
theorem Tc{a:Nat}(ha:a<b0):∀k,(kW b0 (N+3) (N+1) ls ws k).getD a 0=ws.getD a 0
 | 0=>rfl
 |k+1=>by rw[kW,Tf (by omega) (by omega)];exact Tc ha k
theorem Ub{j a:Nat}(h2:a<b0+j*(N+3)+(N+3)):∀k,j<k→(kW b0 (N+3) (N+1) ls ws k).getD a 0=(kW b0 (N+3) (N+1) ls ws (j+1)).getD a 0
 | 0,h=>absurd h (nE _)
 |k+1,h=>by
  by_cases e:j=k
  ·subst e;rfl
  ·have h3:=lO (N+3) (show j+1≤k by omega)
   rw[qz]at h3
   rw[kW,Tf (by omega) (by omega)]
   exact Ub h2 k (by omega)
end
theorem acC{N W:Nat}{st:Nat→List Int}{ls:List (List Int)}{ws:List Int}{j:Nat}{c:List Int}{cap:Int}(HL:rm cap=N+1)(hl:N*W+N+1+ls.length*(N+3)≤ws.length)(hj:ls[j]?=some c)(hc:c.length≤N):DB (N*W+N+1+j*(N+3)) cap (yz N W st ls ws) 0 1 c:=by
 have ic:=(cf.1 hj).1
 have h3:=lO (N+3) (show j+1≤ls.length by omega)
 rw[qz]at h3
 have l6:∀a,a<N*W+N+1+j*(N+3)+(N+3)→(yz N W st ls ws).getD a 0=(nH (N*W+N+1+j*(N+3)) (N+1) c (kW (N*W+N+1) (N+3) (N+1) ls ((mW N W st ws N).set (N*W+N) (N:Int)) j)).getD a 0:=fun a ha=>by
  rw[yz,Ub ha _ ic,kW]
  have e:ls.getD j []=c:=by rw[aW,hj];rfl
  rw[e]
 have hlen:(kW (N*W+N+1) (N+3) (N+1) ls ((mW N W st ws N).set (N*W+N) (N:Int)) j).length=ws.length:=by rw[Pm,cM,zr]
 refine⟨by rw[Wd,HL];omega,?_,aU _,?_,by omega,fun i hi=>?_⟩
 ·rw[l6 _ (by omega),acz (by omega) (by omega)];rfl
 ·rw[l6 _ (by omega),acB (by omega) (by omega)];rfl
 ·rw[HL]
  have:=nA (1+i) (show 0<N+1 by omega)
  rw[l6 _ (by omega),acA (by omega) (by omega) (by omega) hi,aW,bJ hi];rfl
section
variable {s:Sy} {l:Lay} (hs:LS s l)
include hs
theorem LS.Fe{v i:Nat}(hi:i<nW l):fG s.what s.w i (wd (gG s v) i):=by
 have h:=(hs.qZ).1 (JX hs.fit hs.fW v)
 rw[← s6];exact h.2 i hi
theorem S6{v:Nat}{ws:List Int}(h:pz s l ws):∀k,k≤nW l→pz s l (nY (v*nW l) (gG s v) ws k)
 | 0,_=>h
 |k+1,hk=>by
  have ih:=S6 h k (by omega) (v:=v)
  rw[nY]
  exact⟨by rw[cM];exact ih.1,ih.2.Z0 (by omega) (hs.Fe (by omega))⟩
theorem R6{ws:List Int}(h:pz s l ws):∀k,pz s l (mW (nN s) (nW l) (fun v=>gG s v) ws k)
 | 0=>h
 |k+1=>by
  rw[mW]
  exact (S6 hs (R6 h k) _ (aU _)).hi (by omega) (by unfold bD;omega)
theorem Ua{b r:Nat}{x ws:List Int}(hb:nN s*nW l≤b)(hx:∀z∈x,0≤z∧z<(nN s:Int))(h:pz s l ws):∀k,pz s l (kg b r x ws k)
 | 0=>h
 |k+1=>by
  rw[kg]
  refine (Ua hb hx h k).hi (by omega) ?_
  have hn:=hs.nn
  rw[aW]
  cases hk:x[k]? with
  |none=>exact zJ
  |some z=>
   have:=hx z (cq hk)
   show bD z
   unfold bD;omega
theorem T9{ls:List (List Int)}{ws:List Int}(hx:∀x∈ls,x.length≤256∧∀z∈x,0≤z∧z<(nN s:Int))(h:pz s l ws):∀k,pz s l (kW (nN s*nW l+nN s+1) (nN s+3) (nN s+1) ls ws k)
 | 0=>h
 |k+1=>by
  rw[kW,nH]
  have h2:(ls.getD k []).length≤256∧∀z∈ls.getD k [],0≤z∧z<(nN s:Int):=by
   rw[aW]
   cases hk:ls[k]? with
   |none=>exact⟨bA _,fun z hz=>by cases hz⟩
   |some x=>exact hx x (cq hk)
  refine Ua hs (by omega) h2.2 (((T9 hx h k).hi (by omega) (by unfold bD;omega)).hi (by omega) ?_) _
  unfold bD;omega
theorem S7(bH:iN s l):pz s l (ey s l):=by
 unfold ey yy yz
 have hn:=hs.nn
 refine T9 hs (bH.rows hn.2.2) (pz.hi (R6 hs ⟨gb,ach s l _⟩ _) (by omega) ?_) _
 unfold bD;omega
end
theorem SD{α:Type}(g:α→Nat)(f:α→Nat)(k:Nat):∀(al:List α),(∀x∈al,f x<k)→SX.aK (fun u=>SX.aK g (al.filter fun x=>decide (f x=u))) (List.range k)=SX.aK g al
 | [],_=>by
  have:∀l:List Nat,SX.aK (fun u=>SX.aK g (([]:List α).filter fun x=>decide (f x=u))) l=0:=fun l=>by
   induction l with
   |nil=>rfl
   |cons a l ih=>show 0+_=0;rw[eF];exact ih
  exact this _
 |a::al,h=>by
  have ih:=SD g f k al fun x hx=>h x (cY _ hx)
  have h1:=SX.KS (f:=fun u=>SX.aK g ((a::al).filter fun x=>decide (f x=u))) (g:=fun u=>SX.aK g (al.filter fun x=>decide (f x=u))) (u:=f a) (l:=List.range k) List.nodup_range (gw.2 (h a (cm ..))) (fun u _ hu=>by
   show SX.aK g _=SX.aK g _
   rw[Bp,ah (by rw[bR fun e=>hu e.symm];decide)])
  have h2:SX.aK g ((a::al).filter fun x=>decide (f x=f a))=g a+SX.aK g (al.filter fun x=>decide (f x=f a)):=by
   rw[Bp,ai (aV rfl)];rfl
  rw[ih]at h1
  rw[h2]at h1
  show _=g a+SX.aK g al
  omega
theorem Ri{α:Type}(l:List α):SX.aK (fun _=>1) l=l.length:=by
 induction l with
 |nil=>rfl
 |cons a l ih=>show 1+SX.aK _ l=l.length+1;omega
theorem ZN(v:Nat)(l:List Int):SX.aK (fun x:Int=>if x.toNat=v then 1 else 0) l=(l.map Int.toNat).count v:=by
 induction l with
 |nil=>rfl
 |cons a l ih=>
  show (if a.toNat=v then 1 else 0)+SX.aK _ l=_
  rw[oL,List.count_cons,ih]
  by_cases h:a.toNat=v
  ·rw[if_pos h,if_pos (by simp[h])];omega
  ·rw[if_neg h,if_neg (by simp[h])];omega
theorem Rh{α β:Type}(f:α→Nat)(g:β→α)(l:List β):SX.aK f (l.map g)=SX.aK (fun x=>f (g x)) l:=by
 unfold SX.aK;rw[IW];rfl
def D0(s:Sy)(l:Lay):List (List Nat):=(mZ s l).map fun c=>c.map Int.toNat
theorem Uy{s:Sy}{l:Lay}(bH:iN s l)(g:Nat→Nat):SX.aK (fun c=>SX.aK g c) (D0 s l)=SX.aK (fun x:Int=>g x.toNat) (oh (nN s) s.bf s.entry).reverse:=by
 have h1:∀x∈(oh (nN s) s.bf s.entry).reverse,((lC (nN s) l.k.toNat s.bf).getD x.toNat 0).toNat<l.k.toNat:=fun x hx=>by
  have h2:=bH.all.rg x (xB.1 hx)
  have:=bH.own x.toNat (by omega)
  omega
 rw[← SD (fun x:Int=>g x.toNat) (fun x=>((lC (nN s) l.k.toNat s.bf).getD x.toNat 0).toNat) l.k.toNat _ h1]
 unfold D0 mZ yC mq
 rw[IW,Rh]
 refine SX.BM fun u hu=>?_
 show SX.aK g ((List.filter _ _).map Int.toNat)=_
 rw[Rh]
 congr 1
 refine List.filter_congr fun x hx=>?_
 have h2:=bH.all.rg x (xB.1 hx)
 have h3:=bH.own x.toNat (by omega)
 by_cases h:(lC (nN s) l.k.toNat s.bf).getD x.toNat 0=(u:Int)
 ·rw[aV h,aV (by omega)]
 ·rw[bR h,bR (by omega)]
theorem aaO(v:Nat)(c:List Nat):c.count v=SX.aK (fun z=>if z=v then 1 else 0) c:=by
 induction c with
 |nil=>rfl
 |cons a c ih=>
  show _=(if a=v then 1 else 0)+SX.aK _ c
  rw[← ih,List.count_cons]
  by_cases h:a=v
  ·rw[if_pos h,if_pos (by simp[h])];omega
  ·rw[if_neg h,if_neg (by simp[h])];omega
theorem Uz{s:Sy}{l:Lay}(bH:iN s l):SX.aK List.length (D0 s l)=nN s:=by
 have h:=Uy bH fun _=>1
 have h2:SX.aK List.length (D0 s l)=SX.aK (fun c=>SX.aK (fun _=>1) c) (D0 s l):=SX.BM fun c _=>(Ri c).symm
 rw[h2,h,Ri,sE,bH.all.len]
theorem abn{s:Sy}{l:Lay}(bH:iN s l)(v:Nat):SX.aK (fun c=>c.count v) (D0 s l)=if v<nN s then 1 else 0:=by
 have h:=Uy bH fun z=>if z=v then 1 else 0
 have h2:SX.aK (fun c=>c.count v) (D0 s l)=SX.aK (fun c=>SX.aK (fun z=>if z=v then 1 else 0) c) (D0 s l):=SX.BM fun c _=>aaO v c
 rw[h2,h,ZN]
 have bZ:((oh (nN s) s.bf s.entry).reverse.map Int.toNat).Nodup:=by
  refine Bi.2 (List.Pairwise.imp_of_mem (fun {a b} ha hb aP e=>aP ?_) ((List.reverse_perm _).nodup_iff.2 bH.all.nd))
  have h3:=bH.all.rg a (xB.1 ha)
  have h4:=bH.all.rg b (xB.1 hb)
  omega
 rw[bZ.count]
 by_cases hv:v<nN s
 ·rw[ai hv,ai (dX.2 ⟨(v:Int),xB.2 (bH.all.all v ⟨by omega,by omega⟩),bM _⟩)]
 ·rw[ah hv,ah fun h=>?_]
  obtain⟨z,hz,rfl⟩:=dX.1 h
  have:=bH.all.rg z (xB.1 hz)
  omega
section
variable {s:Sy} {l:Lay} (hs:LS s l) (bH:iN s l)
include hs bH
theorem Vd{j:Nat}{c:List Nat}(h:(D0 s l)[j]?=some c):(mZ s l)[j]?=some (jh c)∧c.length≤nN s:=by
 unfold D0 at h
 rw[fo]at h
 cases hx:(mZ s l)[j]? with
 |none=>rw[hx]at h;cases h
 |some x=>
  rw[hx]at h
  cases h
  have hn:=hs.nn
  have h1:=bH.rows hn.2.2 x (cq hx)
  have e:jh (x.map Int.toNat)=x:=by
   show (x.map Int.toNat).map _=x
   rw[IW]
   conv=>rhs;rw[← List.map_id x]
   refine xD fun z hz=>?_
   have:=h1.2 z hz
   show ((z.toNat:Nat):Int)=z
   omega
  refine⟨by rw[e],?_⟩
  rw[cd]
  have ia:=cq hx
  unfold mZ yC mq at ia
  obtain⟨u,_,rfl⟩:=dX.1 ia
  have hlen:=EP (fun y=>decide ((lC (nN s) l.k.toNat s.bf).getD y.toNat 0=(u:Int))) (oh (nN s) s.bf s.entry).reverse
  rw[sE,bH.all.len]at hlen
  exact hlen
end
theorem SC{α:Type}{f:α→Nat}{x:α}(h:f x=0)(k:Nat):SX.aK f (List.replicate k x)=0:=SX.zt fun y hy=>by rw[Bt hy];exact h
theorem KC{s:Sy}{l:Lay}{a:Nat}(ha:a<nN s*nW l+nN s+1)(ws:List Int):(yy s l ws).getD a 0=((mW (nN s) (nW l) (fun v=>gG s v) ws (nN s)).set (nN s*nW l+nN s) (nN s:Int)).getD a 0:=Tc ha _
theorem QX{s:Sy}{l:Lay}(hs:LS s l):(∀v i,v<nN s→i<nW l→(ey s l).getD (v*nW l+i) 0=wd (gG s v) i)∧(∀v,v<nN s→(ey s l).getD (nN s*nW l+v) 0=1)∧(ey s l).getD (nN s*nW l+nN s) 0=(nN s:Int):=by
 have ei:=hs.size.2.2
 have fx:=hs.low
 have vA:(List.replicate (np l) (0:Int)).length=np l:=gb
 refine⟨fun v i hv hi=>?_,fun v hv=>?_,?_⟩
 ·have:=sT hv hi
  unfold ey
  rw[KC (by omega),qK _ _ _ _ (by omega),Q1 hi _ (aU _) hv (by rw[vA];omega)]
 ·unfold ey
  rw[KC (by omega),qK _ _ _ _ (by omega),P3 _ (aU _) hv (by rw[vA];omega)]
 ·unfold ey
  rw[KC (by omega),z8 _ _ _ _ (by rw[zr,vA];omega),ai rfl]
section
variable {s:Sy} {l:Lay} {hs:LS s l} (bH:iN s l)
include bH
theorem rj0:RJ s l hs (W0 l) (ey s l) (D0 s l) (fun _=>1) 1:=by
 have l8:=hs.k1
 have de:=O9 s l
 have hn:=hs.nn
 have hD0:(D0 s l).length=l.k.toNat:=by unfold D0;rw[cd,de]
 have IJ:(W0 l).length=l.k.toNat:=gb
 obtain⟨ma,mJ,Ek⟩:=QX hs
 have ga:=S7 hs bH
 have yN:∀x∈W0 l,x=ot:=fun x hx=>Bt hx
 have mF:∀p∈(cj s l (W0 l) (ey s l) (D0 s l)).ph,p=.idle 0 0:=fun p hp=>by
  obtain⟨x,hx,rfl⟩:=dX.1 hp
  rw[yN x hx];rfl
 refine⟨by rw[IJ];omega,ga.1,by rw[Ek];omega,by rw[hD0,IJ],fun j c hj=>?_,fun _=>aU _,fun x hx=>?_,fun x hx=>?_,fun x hx=>?_,?_⟩
 ·have ic:=(cf.1 hj).1
  obtain⟨h1,h2⟩:=Vd hs bH hj
  have hW:(W0 l)[j]?=some ot:=by unfold W0;rw[vN,ai (by omega)]
  rw[zP hW]
  refine⟨?_,trivial,fun z hz=>?_⟩
  ·refine acC hs.room.2 ?_ h1 (by rw[cd];exact h2)
   rw[de,gb]
   obtain⟨m,hm,Ns,rr⟩:=hs.kk
   have mI:=hs.wT rr
   rw[show l.k.toNat=m by omega]
   unfold np
   rw[hm,mI]
   omega
  ·obtain⟨i,x,hx,h3,_⟩:=hz
   rw[yN x (cq hx)]at h3
   cases h3
 ·rw[yN x hx];exact⟨by decide,by decide,by decide,by decide⟩
 ·rw[yN x hx];exact fun j h=>by cases h
 ·rw[yN x hx];exact fun j h=>by cases h
 ·refine⟨fun v=>?_,?_,fun c hc v hv=>?_,fun p hp v hv=>?_⟩
  ·unfold SX.tok
   have h1:SX.aK (SX.iZ v) (cj s l (W0 l) (ey s l) (D0 s l)).ph=0:=SX.zt fun p hp=>by rw[mF p hp];rfl
   have h2:SX.aK (fun l:List Nat=>l.count v) (cj s l (W0 l) (ey s l) (D0 s l)).dq=if v<nN s then 1 else 0:=abn bH v
   rw[h1,h2]
   show _=if decide (v<nN s∧¬(ey s l).getD (nN s*nW l+v) 0=0)=true then 1 else 0
   by_cases hv:v<nN s
   ·rw[mJ v hv,ai hv,ai (aV ⟨hv,by decide⟩)]
   ·rw[ah hv,ah (by rw[bR fun h=>hv h.1];decide)]
  ·show ((ey s l).getD (nN s*nW l+nN s) 0).toNat=SX.aK List.length (D0 s l)+SX.aK SX.cw (cj s l (W0 l) (ey s l) (D0 s l)).ph
   have h1:SX.aK SX.cw (cj s l (W0 l) (ey s l) (D0 s l)).ph=0:=SX.zt fun p hp=>by rw[mF p hp];rfl
   rw[Ek,h1,Uz bH];omega
  ·obtain⟨j,hj⟩:=rF.1 hc
   obtain⟨h1,h2⟩:=Vd hs bH hj
   have:=(bH.rows hn.2.2 _ (cq h1)).2 (v:Int) (dX.2 ⟨v,hv,rfl⟩)
   show v<nN s
   omega
  ·rw[mF p hp]at hv;cases hv
theorem T8(hs:LS s l):uN s l ⟨W0 l,ey s l⟩:=by
 have l8:=hs.k1
 refine⟨by show ((W0 l).length:Int)=l.k;unfold W0;rw[gb];omega,S7 hs bH,fun i x hx=>?_⟩
 rw[Bt (cq hx)]
 exact wv0 hs i
end
set_option maxHeartbeats 4000000
theorem Wh(s:Sy)(k:Int)(aw:List (Int×Int×Unit))(σ:Hp)(hf:Fit s)(he:¬ck s k=0):ACalls Tryz.prog 41 [.agg (bc s),.int .i64 k,.af kl aw] σ (aE (.tup [.agg (cP .cQ ⟨0,0,0,0⟩ .aj .aj .aj 0),.int .i64 (ck s k)]) σ):=by
 refine ay Tryz.func41 ?_
 intro aD
 intro dH
 intro sJ
 refine aa 2 ?_
 refine az [] (G6 s k _ hf) ?_
 refine ak 0 ?_
 refine dB (fun c4=>?_) (fun c4=>?_)
 ·have c4:¬(ck s k=0):=by simpa using c4
  refine ak 1 ?_
  refine aa 1 ?_
  exact .drop 0 3 (.done ⟨rfl,rfl⟩)
 ·have c4:ck s k=0:=by simpa using c4
  refine aa 0 ?_
  exact absurd c4 he
theorem Gw{s:Sy}{k:Int}(he:ck s k=0):(gk s k).k=k:=by unfold gk qm;rw[he];rfl
theorem Kj{k:Nat}{v:AV}{acc:Hp}{cs:List AV}(h:Acc 1 k v acc cs)(hk:0<k):∃b,v=.ae b 0 k 1∧acc=[(b,cs)]:=by
 cases h with
 |nil=>omega
 |ae b k cs h=>exact⟨b,rfl,rfl⟩
def E2(s:Sy)(l:Lay)(bs bp p:Nat)(L:List Nat)(S:Hp):Prop:=S=(bs,bc s)::(bp,cP (.ptr p 0) l .aj .aj .aj 0)::cW s l (cc L) (List.replicate L.length iY)
theorem ZW(s:Sy)(l:Lay)(k bs bp p:Nat)(hf:Fit s)(he:ck s l.k=0)(hL:gk s l.k=l)(hk:l.k=k)(L:List Nat)(S τ:Hp)(ab:L.length<k)(hS:E2 s l bs bp p L S):ACalls Tryz.prog 99 (.int .i64 L.length::[.ptr bs 0,.ptr bp 0]) (S++τ) (fun r σ'=>∃w S',r=.ptr w 0∧σ'=S'++τ∧E2 s l bs bp p (L++[w]) S'):=by
 unfold E2 at hS
 subst hS
 refine (aee bs bp L.length s l (.ptr p 0) .aj .aj .aj 0 (cW s l (cc L) (List.replicate L.length iY)++τ) hf he hL (by omega)).Ve (.refl _) ?_
 rintro _ _ ⟨w,rfl,rfl⟩
 refine⟨((bs,bc s)::(bp,cP (.ptr p 0) l .aj .aj .aj 0)::cW s l (cc (L++[w])) (List.replicate (L++[w]).length iY))++τ,?_,w,_,rfl,rfl,rfl⟩
 rw[ZB]
 have h:=ki [[(bs,bc s),(bp,cP (.ptr p 0) l .aj .aj .aj 0)],cW s l (cc L) (List.replicate L.length iY),WB s l L.length w 0 .aj [] ot] τ (a:=[0,1,2]) (b:=[2,0,1]) (by decide)
 have e:((bs,bc s)::(bp,cP (.ptr p 0) l .aj .aj .aj 0)::(cW s l (cc L) (List.replicate L.length iY)++WB s l L.length w 0 .aj [] ot))++τ=[(bs,bc s),(bp,cP (.ptr p 0) l .aj .aj .aj 0)]++(cW s l (cc L) (List.replicate L.length iY)++(WB s l L.length w 0 .aj [] ot++τ)):=by simp
 rw[e]
 exact h
theorem Rm(l:Lay)(k bp lw:Nat)(mv:AV)(L:List Nat)(hL:L.length=k)(L':List Nat)(S τ:Hp)(ab:L'.length<k)(hS:S=[(bp,cP mv l (.ae lw 0 k 1) .aj .aj 0),(lw,L.map pW)]∧L'=L.take L'.length):ACalls Tryz.prog 103 (.int .i64 L'.length::[.ptr bp 0]) (S++τ) (fun r σ'=>∃w S',r=.iface 168 (.ptr w 0)∧σ'=S'++τ∧(S'=[(bp,cP mv l (.ae lw 0 k 1) .aj .aj 0),(lw,L.map pW)]∧L'++[w]=L.take (L'++[w]).length)):=by
 obtain⟨rfl,hL'⟩:=hS
 refine (aed bp lw L'.length k L l mv .aj .aj 0 τ hL ab).mono ?_
 rintro _ _ ⟨rfl,rfl⟩
 refine⟨L.getD L'.length 0,_,rfl,rfl,rfl,?_⟩
 rw[bQ,sF,fp (by omega),← hL',aW,bJ (by omega)]
 rfl
theorem Si(s:Sy)(l:Lay)(hs:LS s l)(bH:iN s l)(p q lb k:Nat)(L:List Nat)(aw:List (Int×Int×Unit))(σ:Hp)(hL:L.length=k)(hk:l.k=k)(dF:k≤64)(kU:aw.length≤100000):
  ACalls Tryz.prog 101 [ku p,.ae lb 0 k 1,.af kl aw] ((lb,L.map iW)::(aZ p q (ey s l) (cW s l (cc L) (List.replicate L.length iY))++σ)) (fun r σ'=>∃Z:List WZ,Z.map (·.x)=(cb s l aw).a.W∧r=.agg [.af (.int .i64) (cb s l aw).st,.af .bool (cb s l aw).dn,.int .i64 (cb s l aw).us]∧σ'=(lb,L.map iW)::(aZ p q (cb s l aw).a.ws (cW s l (cc L) Z)++σ)):=by
 have hI:((cc L).length:Int)=l.k:=by rw[B9];omega
 have pF:rI.abs ⟨ey s l,List.replicate L.length iY⟩=⟨W0 l,ey s l⟩:=by
  show WA.mk ((List.replicate L.length iY).map (·.x)) (ey s l)=_
  rw[List.map_replicate]
  unfold W0
  rw[show l.k.toNat=L.length by omega];rfl
 have hl:(CH s l hs p q (cc L) (Ca L) hI).L.length=k:=by
  show ((cc L).map _).length=_
  rw[cd,B9];exact hL
 have hLL:(CH s l hs p q (cc L) (Ca L) hI).L=L.map iW:=aas L
 have hE:=afc (CH s l hs p q (cc L) (Ca L) hI) lb aw (⟨ey s l,List.replicate L.length iY⟩:rI) σ (by omega) kU (by
  show uN s l (rI.abs ⟨ey s l,List.replicate L.length iY⟩)
  rw[pF];exact T8 bH hs) (fun _ _=>rfl)
 have fw:(CH s l hs p q (cc L) (Ca L) hI).run aw (rI.abs ⟨ey s l,List.replicate L.length iY⟩)=cb s l aw:=by
  unfold AWorld.run AWorld.init
  rw[hl,hLL,pF]
  have e1:(L.map iW).map isNil=List.replicate k false:=by
   rw[← hL,IW]
   exact List.map_eq_replicate_iff.2 fun _ _=>rfl
  rw[e1]
  unfold cb sC vd
  rw[show l.k.toNat=k by omega];rfl
 have zd:ACalls Tryz.prog 101 [ku p,.ae lb 0 k 1,.af kl aw] ((lb,L.map iW)::(aZ p q (ey s l) (cW s l (cc L) (List.replicate L.length iY))++σ)) (KL (CH s l hs p q (cc L) (Ca L) hI) aw (rI.abs ⟨ey s l,List.replicate L.length iY⟩) [(lb,L.map iW)] σ):=by
  rw[hl,hLL]at hE;exact hE
 refine zd.mono ?_
 rintro _ _ ⟨t',h1,rfl,rfl⟩
 have h1:rI.abs t'=(cb s l aw).a:=Eq.trans h1 (congrArg jb.a fw)
 rw[fw]
 refine⟨t'.Z,congrArg WA.W h1,rfl,?_⟩
 have h2:t'.ws=(cb s l aw).a.ws:=congrArg WA.ws h1
 rw[← h2];rfl
theorem Kk(s:Sy)(k:Nat)(l:Lay)(hl:gk s k=l)(aw:List (Int×Int×Unit))(σ:Hp)(hf:Fit s)(he:ck s k=0)(kU:aw.length≤100000):
  ACalls Tryz.prog 41 [.agg (bc s),.int .i64 k,.af kl aw] σ (fun r σ'=>∃(p q lw:Nat) (L:List Nat) (Z:List WZ),r=.tup [.agg (cP (.ptr p 0) l (.ae lw 0 k 1) (.af (.int .i64) (cb s l aw).st) (.af .bool (cb s l aw).dn) (cb s l aw).us),.int .i64 0]∧L.length=k∧Z.map (·.x)=(cb s l aw).a.W∧σ'=(lw,L.map pW)::aZ p q (cb s l aw).a.ws (cW s l (cc L) Z++σ)∧iN s l):=by
 obtain⟨hs,A9⟩:=Aj hf he
 obtain⟨xf,fA,l5⟩:=hs.size
 obtain⟨l8,dF⟩:=(Kv he).2
 have UU:=fun p q ws σ (ei:np (gk s k)≤ws.length)=>ade s k p q ws σ hf he ei
 have hk:l.k=k:=by rw[← hl];exact Gw he
 have e1:AV.tup [.agg (gM (gk s k)),.int .i64 (ck s k)]=.tup [.agg (gM l),.int .i64 (ck s k)]:=by rw[hl]
 have zd:ck s l.k=0:=by rw[hk];exact he
 have hL2:gk s l.k=l:=by rw[hk];exact hl
 rw[hl]at hs xf fA l5 UU
 refine ay Tryz.func41 ?_
 generalize hE:ck s k=E at e1 he
 intro bs
 intro br
 intro bp
 refine aa 2 ?_
 refine az [] (oT (G6 s k _ hf) (hE▸e1)) ?_
 refine ak 0 ?_
 refine dB (fun c1=>?_) (fun c1=>?_)
 ·have c1:¬(ck s (↑k:Int)=0):=by simpa using c1
  refine ak 1 ?_
  refine aa 1 ?_
  exact absurd (hE.trans he) c1
 ·have c1:ck s (↑k:Int)=0:=by simpa using c1
  refine aa 0 ?_
  refine az [] (Un l _) ?_
  (refine .mk [] _ (ago _ _) ?_;rintro _ _ ⟨p,q,rfl,rfl⟩)
  rw[l5]
  obtain⟨us,gv⟩:∃us,List.replicate (np l) (0:Int)=us:=⟨_,rfl⟩
  have fK:us.length=np l:=by rw[← gv];exact gb
  rw[gv,← fK]
  refine ak 2 ?_
  refine aa 2 ?_
  refine aa 4 ?_
  (refine .mk [] _ (UU p q us _ (by omega)) ?_;rintro _ _ ⟨rfl,rfl,bH⟩)
  have afz:yy s l us=ey s l:=by rw[← gv];rfl
  rw[afz]
  refine .perm (σ2:=[(bs,bc s),(bp,cP (.ptr p 0) l .aj .aj .aj 0)]++aZ p q (ey s l) ((br,cP .cQ ⟨0,0,0,0⟩ .aj .aj .aj 0)::σ)) _ (ki [[(bs,bc s)],[(bp,cP (.ptr p 0) l .aj .aj .aj 0)],aZ p q (ey s l) [],[(br,cP .cQ ⟨0,0,0,0⟩ .aj .aj .aj 0)]] σ (a:=[0,1,2,3]) (b:=[2,1,3,0]) (by decide)) (aeu 99 [.ptr bs 0,.ptr bp 0] (E2 s l bs bp p) _ _ rfl k (by omega) (fun L S τ h1 h2=>ZW s l k bs bp p hf zd hL2 hk L S τ h1 h2)) ?_
  rintro v _ ⟨L,S',acc,hL,A8,bY,rfl⟩
  unfold E2 at A8
  subst A8
  obtain⟨lw,rfl,rfl⟩:=Kj bY (by omega)
  refine⟨_,.refl _,?_⟩
  refine ak 2 ?_
  refine .sched [] (.one 0 false (.one 3 false (.one 4 false (.one 6 false (.alt 1 (.one 2 false (.one 5 false (.one 7 false (.one 8 false (.one 9 false .stop))))) (.one 5 false (.one 1 false (.one 2 false (.one 7 false (.one 8 false (.one 9 false .stop))))))))))) (by kernel_rfl) ?_
  refine And.intro ?_ ?_
  ·refine aa 2 ?_
   refine .perm (σ2:=[(bp,cP (.ptr p 0) l (.ae lw 0 k 1) .aj .aj 0),(lw,L.map pW)]++((bs,bc s)::(cW s l (cc L) (List.replicate L.length iY)++aZ p q (ey s l) ((br,cP .cQ ⟨0,0,0,0⟩ .aj .aj .aj 0)::σ)))) _ (ki [[(bp,cP (.ptr p 0) l (.ae lw 0 k 1) .aj .aj 0)],[(lw,L.map pW)],[(bs,bc s)],cW s l (cc L) (List.replicate L.length iY),aZ p q (ey s l) [],[(br,cP .cQ ⟨0,0,0,0⟩ .aj .aj .aj 0)]] σ (a:=[0,1,2,3,4,5]) (b:=[1,2,0,3,4,5]) (by decide)) (Uq 103 [.ptr bp 0] (fun L' S=>S=[(bp,cP (.ptr p 0) l (.ae lw 0 k 1) .aj .aj 0),(lw,L.map pW)]∧L'=L.take L'.length) _ _ ⟨rfl,rfl⟩ k (by omega) (fun L' S τ h1 h2=>Rm l k bp lw (.ptr p 0) L hL L' S τ h1 h2)) ?_
   rintro v2 _ ⟨L',S2,agi,MK,⟨rfl,vI⟩,C6,rfl⟩
   rw[MK,← hL,fj]at vI
   rw[vI]at C6
   obtain⟨lb,rfl,rfl⟩:=Kj C6 (by omega)
   refine⟨_,.refl _,?_⟩
   have hR:=Si s l hs bH p q lb k L aw ([(bp,cP (.ptr p 0) l (.ae lw 0 k 1) .aj .aj 0),(br,cP .cQ ⟨0,0,0,0⟩ .aj .aj .aj 0),(bs,bc s),(lw,L.map pW)]++σ) hL hk (by omega) kU
   refine .perm _ (ki [[(lb,L.map iW)],aZ p q (ey s l) [],cW s l (cc L) (List.replicate L.length iY),[(bp,cP (.ptr p 0) l (.ae lw 0 k 1) .aj .aj 0)],[(br,cP .cQ ⟨0,0,0,0⟩ .aj .aj .aj 0)],[(bs,bc s)],[(lw,L.map pW)]] σ (a:=[0,1,2,3,4,5,6]) (b:=[0,3,6,5,2,1,4]) (by decide)) hR ?_
   rintro _ _ ⟨Z,hZ,rfl,rfl⟩
   refine⟨_,ki [[(lb,L.map iW)],aZ p q (cb s l aw).a.ws [],cW s l (cc L) Z,[(bp,cP (.ptr p 0) l (.ae lw 0 k 1) .aj .aj 0)],[(br,cP .cQ ⟨0,0,0,0⟩ .aj .aj .aj 0)],[(bs,bc s)],[(lw,L.map pW)]] σ (a:=[0,3,4,5,6,1,2]) (b:=[0,1,2,3,4,5,6]) (by decide),?_⟩
   refine ak 1 ?_
   refine aa 1 ?_
   refine ak 2 ?_
   refine aa 2 ?_
   exact .drop 0 4 (.done ⟨p,q,lw,L,Z,rfl,hL,hZ,rfl,bH⟩)
  ·refine .perm (σ2:=[(bp,cP (.ptr p 0) l (.ae lw 0 k 1) .aj .aj 0),(lw,L.map pW)]++((bs,bc s)::(cW s l (cc L) (List.replicate L.length iY)++aZ p q (ey s l) ((br,cP .cQ ⟨0,0,0,0⟩ .aj .aj .aj 0)::σ)))) _ (ki [[(bp,cP (.ptr p 0) l (.ae lw 0 k 1) .aj .aj 0)],[(lw,L.map pW)],[(bs,bc s)],cW s l (cc L) (List.replicate L.length iY),aZ p q (ey s l) [],[(br,cP .cQ ⟨0,0,0,0⟩ .aj .aj .aj 0)]] σ (a:=[0,1,2,3,4,5]) (b:=[1,2,0,3,4,5]) (by decide)) (Uq 103 [.ptr bp 0] (fun L' S=>S=[(bp,cP (.ptr p 0) l (.ae lw 0 k 1) .aj .aj 0),(lw,L.map pW)]∧L'=L.take L'.length) _ _ ⟨rfl,rfl⟩ k (by omega) (fun L' S τ h1 h2=>Rm l k bp lw (.ptr p 0) L hL L' S τ h1 h2)) ?_
   rintro v2 _ ⟨L',S2,agi,MK,⟨rfl,vI⟩,C6,rfl⟩
   rw[MK,← hL,fj]at vI
   rw[vI]at C6
   obtain⟨lb,rfl,rfl⟩:=Kj C6 (by omega)
   refine⟨_,.refl _,?_⟩
   refine aa 1 ?_
   have hR:=Si s l hs bH p q lb k L aw ([(bp,cP (.ptr p 0) l (.ae lw 0 k 1) .aj .aj 0),(br,cP .cQ ⟨0,0,0,0⟩ .aj .aj .aj 0),(bs,bc s),(lw,L.map pW)]++σ) hL hk (by omega) kU
   refine .perm _ (ki [[(lb,L.map iW)],aZ p q (ey s l) [],cW s l (cc L) (List.replicate L.length iY),[(bp,cP (.ptr p 0) l (.ae lw 0 k 1) .aj .aj 0)],[(br,cP .cQ ⟨0,0,0,0⟩ .aj .aj .aj 0)],[(bs,bc s)],[(lw,L.map pW)]] σ (a:=[0,1,2,3,4,5,6]) (b:=[0,3,6,5,2,1,4]) (by decide)) hR ?_
   rintro _ _ ⟨Z,hZ,rfl,rfl⟩
   refine⟨_,ki [[(lb,L.map iW)],aZ p q (cb s l aw).a.ws [],cW s l (cc L) Z,[(bp,cP (.ptr p 0) l (.ae lw 0 k 1) .aj .aj 0)],[(br,cP .cQ ⟨0,0,0,0⟩ .aj .aj .aj 0)],[(bs,bc s)],[(lw,L.map pW)]] σ (a:=[0,3,4,5,6,1,2]) (b:=[0,1,2,3,4,5,6]) (by decide),?_⟩
   refine ak 1 ?_
   refine aa 1 ?_
   refine ak 2 ?_
   refine aa 2 ?_
   exact .drop 0 4 (.done ⟨p,q,lw,L,Z,rfl,hL,hZ,rfl,bH⟩)
end Go.Proofs.YtnikdflhefijbaaGreat
