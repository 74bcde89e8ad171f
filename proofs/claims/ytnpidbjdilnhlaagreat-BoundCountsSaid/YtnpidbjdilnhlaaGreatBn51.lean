import Derived.Test.YtnpidbjdilnhlaaGreatBn42
import Derived.Test.YtnpidbjdilnhlaaGreatBn44
import Derived.Test.YtnpidbjdilnhlaaGreatBn50
namespace Go.Proofs.YtnpidbjdilnhlaaGreat
open Go.RowKit
set_option maxRecDepth 100000
set_option maxHeartbeats 4000000
def dL(s:Sy)(l:Lay):List Int:=xZ s l (List.replicate (lD l) 0)
def W0(l:Lay):List WS:=List.replicate l.k.toNat nr
def s6(s:Sy)(l:Lay)(aA:List (Int×Int×Unit))(x:jk WA):jk WA:=ko (dZ s l) (fun a _=>a) l.k.toNat aA x
def wz(s:Sy)(l:Lay):jk WA:=⟨⟨W0 l,dL s l⟩,List.replicate l.k.toNat 0,List.replicate l.k.toNat false,0⟩
def eI(s:Sy)(l:Lay)(aA:List (Int×Int×Unit)):jk WA:=s6 s l aA (wz s l)
def kR(W:List WS):Int:=W.foldl (fun a x=>wr (a+x.ev)) 0
def lH(W:List WS):Int:=W.foldl (fun a x=>wr (a+x.jo)) 0
theorem W2{W:List WS}{i:Nat}(h:i<W.length):wr (kR (W.take i)+W[i].ev)=kR (W.take (i+1)):=by
 unfold kR;rw[List.take_succ_eq_append_getElem h,List.foldl_append];rfl
theorem Wz{W:List WS}{i:Nat}(h:i<W.length):wr (lH (W.take i)+W[i].jo)=lH (W.take (i+1)):=by
 unfold lH;rw[List.take_succ_eq_append_getElem h,List.foldl_append];rfl
set_option maxRecDepth 100000
set_option maxHeartbeats 4000000
theorem MZ{b:Nat}{a ws:List Int}{x:Nat}(h:x<b):∀k,(l8 b a ws k).getD x 0=ws.getD x 0
 | 0=>rfl
 | k+1=>by rw[l8,oK _ _ _ _ (by omega)];exact MZ h k
theorem M0{b:Nat}{a ws:List Int}{i:Nat}:∀k,i<k→b+k≤ws.length→(l8 b a ws k).getD (b+i) 0=wd a i
 | 0,h,_=>absurd h (Nat.not_lt_zero _)
 | k+1,h,hl=>by
  rw[l8]
  by_cases e:i=k
  ·subst e
   rw[xK _ _ _ _ (by rw[FT];omega),if_pos rfl]
  ·rw[oK _ _ _ _ (by omega)]
   exact M0 k (by omega) (by omega)
section
variable {N W:Nat} {st:Nat→List Int} {ws:List Int}
theorem MC{v i:Nat}(hi:i<W):∀k,k≤N→v<k→N*W+N≤ws.length→(k8 N W st ws k).getD (v*W+i) 0=wd (st v) i
 | 0,_,h,_=>absurd h (Nat.not_lt_zero _)
 | k+1,hk,h,hl=>by
  have h6:(k+1)*W≤N*W:=Nat.mul_le_mul_right _ hk
  have h7:=qH (N:=N) (show v<N by omega) hi
  rw[Nat.succ_mul]at h6
  rw[k8,oK _ _ _ _ (by omega)]
  by_cases e:v=k
  ·subst e
   exact M0 W hi (by rw[wY];omega)
  ·have h8:=qH (N:=k) (show v<k by omega) hi
   rw[MZ h8]
   exact MC hi k (by omega) (by omega) hl
theorem LL{v:Nat}:∀k,k≤N→v<k→N*W+N≤ws.length→(k8 N W st ws k).getD (N*W+v) 0=1
 | 0,_,h,_=>absurd h (Nat.not_lt_zero _)
 | k+1,hk,h,hl=>by
  have h6:(k+1)*W≤N*W:=Nat.mul_le_mul_right _ hk
  rw[Nat.succ_mul]at h6
  rw[k8]
  by_cases e:v=k
  ·subst e
   rw[xK _ _ _ _ (by rw[FT,wY];omega),if_pos rfl]
  ·rw[oK _ _ _ _ (by omega),M1 W (by omega)]
   exact LL k (by omega) (by omega) hl
end
theorem Dq{b r:Nat}{l ws:List Int}{a:Nat}(hr:0<r)(ha:a<b+2∨b+2+r≤a):∀k,(iM b r l ws k).getD a 0=ws.getD a 0
 | 0=>rfl
 | k+1=>by
  have:=Nat.mod_lt (1+k) hr
  rw[iM,oK _ _ _ _ (by omega)];exact Dq hr ha k
theorem OR{b r:Nat}{l ws:List Int}{i:Nat}(hr:0<r)(hl:b+2+r≤ws.length):∀k,k≤r→i<k→(iM b r l ws k).getD (b+2+(1+i) % r) 0=l.getD i 0
 | 0,_,h=>absurd h (Nat.not_lt_zero _)
 | k+1,hk,h=>by
  rw[iM]
  by_cases e:i=k
  ·subst e
   have:=Nat.mod_lt (1+i) hr
   rw[xK _ _ _ _ (by rw[LK];omega),if_pos rfl]
  ·have:=Po (a:=1+i) (c:=1+k) (m:=r) (by omega) (by omega)
   rw[oK _ _ _ _ (by omega)]
   exact OR hr hl k (by omega) (by omega)
theorem OS{b r:Nat}{l ws:List Int}{a:Nat}(hr:0<r)(ha:a<b∨b+2+r≤a):(lQ b r l ws).getD a 0=ws.getD a 0:=by
 rw[lQ,Dq hr (by omega),oK _ _ _ _ (by omega),oK _ _ _ _ (by omega)]
theorem YT{b r:Nat}{l ws:List Int}(hr:0<r)(hl:b+2+r≤ws.length):(lQ b r l ws).getD b 0=1:=by
 rw[lQ,Dq hr (by omega),oK _ _ _ _ (by omega),xK _ _ _ _ (by omega),if_pos rfl]
theorem YV{b r:Nat}{l ws:List Int}(hr:0<r)(hl:b+2+r≤ws.length):(lQ b r l ws).getD (b+1) 0=((1+l.length:Nat):Int):=by
 rw[lQ,Dq hr (by omega),xK _ _ _ _ (by rw[List.length_set];omega),if_pos rfl]
theorem YU{b r:Nat}{l ws:List Int}{i:Nat}(hr:0<r)(hl:b+2+r≤ws.length)(hk:l.length≤r)(hi:i<l.length):(lQ b r l ws).getD (b+2+(1+i) % r) 0=l.getD i 0:=by
 rw[lQ];exact OR hr (by rw[List.length_set,List.length_set];exact hl) _ hk hi
section
variable {b0 N:Nat} {ls:List (List Int)} {ws:List Int}
theorem OP{a:Nat}(ha:a<b0):∀k,(jC b0 (N+3) (N+1) ls ws k).getD a 0=ws.getD a 0
 | 0=>rfl
 | k+1=>by rw[jC,OS (by omega) (by omega)];exact OP ha k
theorem PC{j a:Nat}(h2:a<b0+j*(N+3)+(N+3)):∀k,j<k→(jC b0 (N+3) (N+1) ls ws k).getD a 0=(jC b0 (N+3) (N+1) ls ws (j+1)).getD a 0
 | 0,h=>absurd h (Nat.not_lt_zero _)
 | k+1,h=>by
  by_cases e:j=k
  ·subst e;rfl
  ·have h3:=Nat.mul_le_mul_right (N+3) (show j+1≤k by omega)
   rw[Nat.succ_mul]at h3
   rw[jC,OS (by omega) (by omega)]
   exact PC h2 k (by omega)
end
theorem YW{N W:Nat}{st:Nat→List Int}{ls:List (List Int)}{ws:List Int}{j:Nat}{c:List Int}{cap:Int}(EC:rm cap=N+1)(hl:N*W+N+1+ls.length*(N+3)≤ws.length)(hj:ls[j]?=some c)(hc:c.length≤N):DB (N*W+N+1+j*(N+3)) cap (vT N W st ls ws) 0 1 c:=by
 have gL:=(List.getElem?_eq_some_iff.1 hj).1
 have h3:=Nat.mul_le_mul_right (N+3) (show j+1≤ls.length by omega)
 rw[Nat.succ_mul]at h3
 have kj:∀a,a<N*W+N+1+j*(N+3)+(N+3)→(vT N W st ls ws).getD a 0=(lQ (N*W+N+1+j*(N+3)) (N+1) c (jC (N*W+N+1) (N+3) (N+1) ls ((k8 N W st ws N).set (N*W+N) (N:Int)) j)).getD a 0:=fun a ha=>by
  rw[vT,PC ha _ gL,jC]
  have e:ls.getD j []=c:=by rw[List.getD_eq_getElem?_getD,hj];rfl
  rw[e]
 have hlen:(jC (N*W+N+1) (N+3) (N+1) ls ((k8 N W st ws N).set (N*W+N) (N:Int)) j).length=ws.length:=by rw[K8,List.length_set,wY]
 refine⟨by rw[RK,EC];omega,?_,Nat.le_refl _,?_,by omega,fun i hi =>?_⟩
 ·rw[kj _ (by omega),YT (by omega) (by omega)];rfl
 ·rw[kj _ (by omega),YV (by omega) (by omega)];rfl
 ·rw[EC]
  have:=Nat.mod_lt (1+i) (show 0<N+1 by omega)
  rw[kj _ (by omega),YU (by omega) (by omega) (by omega) hi,List.getD_eq_getElem?_getD,List.getElem?_eq_getElem hi];rfl
section
variable {s:Sy} {l:Lay} (hs:LS s l)
include hs
theorem LS.Cn{v i:Nat}(hi:i<nW l):eG s.what s.w i (wd (gu s v) i):=by
 have h:=(hs.o6).1 (Gp hs.fit hs.iT v)
 rw[← qU];exact h.2 i hi
theorem OM{v:Nat}{ws:List Int}(h:np s l ws):∀k,k≤nW l→np s l (l8 (v*nW l) (gu s v) ws k)
 | 0,_=>h
 | k+1,hk=>by
  have ih:=OM h k (by omega) (v:=v)
  rw[l8]
  exact⟨by rw[List.length_set];exact ih.1,ih.2.VW (by omega) (hs.Cn (by omega))⟩
theorem NO{ws:List Int}(h:np s l ws):∀k,np s l (k8 (nN s) (nW l) (fun v=>gu s v) ws k)
 | 0=>h
 | k+1=>by
  rw[k8]
  exact (OM hs (NO h k) _ (Nat.le_refl _)).hi (by omega) (by unfold bf;omega)
theorem PB{b r:Nat}{x ws:List Int}(hb:nN s*nW l≤b)(hx:∀z∈x,0≤z∧z<(nN s:Int))(h:np s l ws):∀k,np s l (iM b r x ws k)
 | 0=>h
 | k+1=>by
  rw[iM]
  refine (PB hb hx h k).hi (by omega) ?_
  have hn:=hs.nn
  rw[List.getD_eq_getElem?_getD]
  cases hk:x[k]? with
  | none=>exact xj
  | some z =>
   have:=hx z (List.mem_of_getElem? hk)
   show bf z
   unfold bf;omega
theorem PA{ls:List (List Int)}{ws:List Int}(hx:∀x∈ls,x.length≤256∧∀z∈x,0≤z∧z<(nN s:Int))(h:np s l ws):∀k,np s l (jC (nN s*nW l+nN s+1) (nN s+3) (nN s+1) ls ws k)
 | 0=>h
 | k+1=>by
  rw[jC,lQ]
  have h2:(ls.getD k []).length≤256∧∀z∈ls.getD k [],0≤z∧z<(nN s:Int):=by
   rw[List.getD_eq_getElem?_getD]
   cases hk:ls[k]? with
   | none=>exact⟨Nat.zero_le _,fun z hz=>by cases hz⟩
   | some x=>exact hx x (List.mem_of_getElem? hk)
  refine PB hs (by omega) h2.2 (((PA hx h k).hi (by omega) (by unfold bf;omega)).hi (by omega) ?_) _
  unfold bf;omega
theorem ON(bL:kz s l):np s l (dL s l):=by
 unfold dL xZ vT
 have hn:=hs.nn
 refine PA hs (bL.rows hn.2.2) (np.hi (NO hs ⟨List.length_replicate,YB s l _⟩ _) (by omega) ?_) _
 unfold bf;omega
end
theorem Og{α:Type}(g:α→Nat)(f:α→Nat)(k:Nat):∀(al:List α),(∀x∈al,f x<k)→SX.aE (fun u=>SX.aE g (al.filter fun x=>decide (f x=u))) (List.range k)=SX.aE g al
 | [],_=>by
  have:∀l:List Nat,SX.aE (fun u=>SX.aE g (([]:List α).filter fun x=>decide (f x=u))) l=0:=fun l=>by
   induction l with
   | nil=>rfl
   | cons a l ih=>show 0+_=0;rw[Nat.zero_add];exact ih
  exact this _
 | a::al,h=>by
  have ih:=Og g f k al fun x hx=>h x (List.mem_cons_of_mem _ hx)
  have h1:=SX.Hk (f:=fun u=>SX.aE g ((a::al).filter fun x=>decide (f x=u))) (g:=fun u=>SX.aE g (al.filter fun x=>decide (f x=u))) (u:=f a) (l:=List.range k) List.nodup_range (List.mem_range.2 (h a (List.mem_cons_self ..))) (fun u _ hu=>by
   show SX.aE g _=SX.aE g _
   rw[List.filter_cons,if_neg (by rw[decide_eq_false fun e=>hu e.symm];decide)])
  have h2:SX.aE g ((a::al).filter fun x=>decide (f x=f a))=g a+SX.aE g (al.filter fun x=>decide (f x=f a)):=by
   rw[List.filter_cons,if_pos (decide_eq_true rfl)];rfl
  rw[ih]at h1
  rw[h2]at h1
  show _=g a+SX.aE g al
  omega
theorem MS{α:Type}(l:List α):SX.aE (fun _=>1) l=l.length:=by
 induction l with
 | nil=>rfl
 | cons a l ih=>show 1+SX.aE _ l=l.length+1;omega
theorem VJ(v:Nat)(l:List Int):SX.aE (fun x:Int=>if x.toNat=v then 1 else 0) l=(l.map Int.toNat).count v:=by
 induction l with
 | nil=>rfl
 | cons a l ih =>
  show (if a.toNat=v then 1 else 0)+SX.aE _ l=_
  rw[List.map_cons,List.count_cons,ih]
  by_cases h:a.toNat=v
  ·rw[if_pos h,if_pos (by simp[h])];omega
  ·rw[if_neg h,if_neg (by simp[h])];omega
theorem MR{α β:Type}(f:α→Nat)(g:β→α)(l:List β):SX.aE f (l.map g)=SX.aE (fun x=>f (g x)) l:=by
 unfold SX.aE;rw[List.map_map];rfl
def D0(s:Sy)(l:Lay):List (List Nat):=(mW s l).map fun c=>c.map Int.toNat
theorem P4{s:Sy}{l:Lay}(bL:kz s l)(g:Nat→Nat):SX.aE (fun c=>SX.aE g c) (D0 s l)=SX.aE (fun x:Int=>g x.toNat) (nj (nN s) s.aR s.entry).reverse:=by
 have h1:∀x∈(nj (nN s) s.aR s.entry).reverse,((lr (nN s) l.k.toNat s.aR).getD x.toNat 0).toNat<l.k.toNat:=fun x hx=>by
  have h2:=bL.all.rg x (List.mem_reverse.1 hx)
  have:=bL.own x.toNat (by omega)
  omega
 rw[← Og (fun x:Int=>g x.toNat) (fun x=>((lr (nN s) l.k.toNat s.aR).getD x.toNat 0).toNat) l.k.toNat _ h1]
 unfold D0 mW yc kW
 rw[List.map_map,MR]
 refine SX.zh fun u hu =>?_
 show SX.aE g ((List.filter _ _).map Int.toNat)=_
 rw[MR]
 congr 1
 refine List.filter_congr fun x hx =>?_
 have h2:=bL.all.rg x (List.mem_reverse.1 hx)
 have h3:=bL.own x.toNat (by omega)
 by_cases h:(lr (nN s) l.k.toNat s.aR).getD x.toNat 0=(u:Int)
 ·rw[decide_eq_true h,decide_eq_true (by omega)]
 ·rw[decide_eq_false h,decide_eq_false (by omega)]
theorem Xc(v:Nat)(c:List Nat):c.count v=SX.aE (fun z=>if z=v then 1 else 0) c:=by
 induction c with
 | nil=>rfl
 | cons a c ih =>
  show _=(if a=v then 1 else 0)+SX.aE _ c
  rw[← ih,List.count_cons]
  by_cases h:a=v
  ·rw[if_pos h,if_pos (by simp[h])];omega
  ·rw[if_neg h,if_neg (by simp[h])];omega
theorem P5{s:Sy}{l:Lay}(bL:kz s l):SX.aE List.length (D0 s l)=nN s:=by
 have h:=P4 bL fun _=>1
 have h2:SX.aE List.length (D0 s l)=SX.aE (fun c=>SX.aE (fun _=>1) c) (D0 s l):=SX.zh fun c _=>(MS c).symm
 rw[h2,h,MS,List.length_reverse,bL.all.len]
theorem XH{s:Sy}{l:Lay}(bL:kz s l)(v:Nat):SX.aE (fun c=>c.count v) (D0 s l)=if v<nN s then 1 else 0:=by
 have h:=P4 bL fun z=>if z=v then 1 else 0
 have h2:SX.aE (fun c=>c.count v) (D0 s l)=SX.aE (fun c=>SX.aE (fun z=>if z=v then 1 else 0) c) (D0 s l):=SX.zh fun c _=>Xc v c
 rw[h2,h,VJ]
 have bB:((nj (nN s) s.aR s.entry).reverse.map Int.toNat).Nodup:=by
  refine List.pairwise_map.2 (List.Pairwise.imp_of_mem (fun {a b} ha hb aI e=>aI ?_) ((List.reverse_perm _).nodup_iff.2 bL.all.nd))
  have h3:=bL.all.rg a (List.mem_reverse.1 ha)
  have h4:=bL.all.rg b (List.mem_reverse.1 hb)
  omega
 rw[bB.count]
 by_cases hv:v<nN s
 ·rw[if_pos hv,if_pos (List.mem_map.2 ⟨(v:Int),List.mem_reverse.2 (bL.all.all v ⟨by omega,by omega⟩),Int.toNat_natCast _⟩)]
 ·rw[if_neg hv,if_neg fun h =>?_]
  obtain⟨z,hz,rfl⟩:=List.mem_map.1 h
  have:=bL.all.rg z (List.mem_reverse.1 hz)
  omega
section
variable {s:Sy} {l:Lay} (hs:LS s l) (bL:kz s l)
include hs bL
theorem QD{j:Nat}{c:List Nat}(h:(D0 s l)[j]?=some c):(mW s l)[j]?=some (gQ c)∧c.length≤nN s:=by
 unfold D0 at h
 rw[List.getElem?_map]at h
 cases hx:(mW s l)[j]? with
 | none=>rw[hx]at h;cases h
 | some x =>
  rw[hx]at h
  cases h
  have hn:=hs.nn
  have h1:=bL.rows hn.2.2 x (List.mem_of_getElem? hx)
  have e:gQ (x.map Int.toNat)=x:=by
   show (x.map Int.toNat).map _=x
   rw[List.map_map]
   conv=>rhs;rw[← List.map_id x]
   refine List.map_congr_left fun z hz =>?_
   have:=h1.2 z hz
   show ((z.toNat:Nat):Int)=z
   omega
  refine⟨by rw[e],?_⟩
  rw[List.length_map]
  have fR:=List.mem_of_getElem? hx
  unfold mW yc kW at fR
  obtain⟨u,_,rfl⟩:=List.mem_map.1 fR
  have hlen:=List.length_filter_le (fun y=>decide ((lr (nN s) l.k.toNat s.aR).getD y.toNat 0=(u:Int))) (nj (nN s) s.aR s.entry).reverse
  rw[List.length_reverse,bL.all.len]at hlen
  exact hlen
end
theorem Of{α:Type}{f:α→Nat}{x:α}(h:f x=0)(k:Nat):SX.aE f (List.replicate k x)=0:=SX.wZ fun y hy=>by rw[List.eq_of_mem_replicate hy];exact h
theorem G5{s:Sy}{l:Lay}{a:Nat}(ha:a<nN s*nW l+nN s+1)(ws:List Int):(xZ s l ws).getD a 0=((k8 (nN s) (nW l) (fun v=>gu s v) ws (nN s)).set (nN s*nW l+nN s) (nN s:Int)).getD a 0:=OP ha _
theorem MA{s:Sy}{l:Lay}(hs:LS s l):(∀v i,v<nN s→i<nW l→(dL s l).getD (v*nW l+i) 0=wd (gu s v) i)∧(∀v,v<nN s→(dL s l).getD (nN s*nW l+v) 0=1)∧(dL s l).getD (nN s*nW l+nN s) 0=(nN s:Int):=by
 have dz:=hs.size.2.2
 have eo:=hs.low
 have sT:(List.replicate (lD l) (0:Int)).length=lD l:=List.length_replicate
 refine⟨fun v i hv hi =>?_,fun v hv =>?_,?_⟩
 ·have:=qH hv hi
  unfold dL
  rw[G5 (by omega),oK _ _ _ _ (by omega),MC hi _ (Nat.le_refl _) hv (by rw[sT];omega)]
 ·unfold dL
  rw[G5 (by omega),oK _ _ _ _ (by omega),LL _ (Nat.le_refl _) hv (by rw[sT];omega)]
 ·unfold dL
  rw[G5 (by omega),xK _ _ _ _ (by rw[wY,sT];omega),if_pos rfl]
section
variable {s:Sy} {l:Lay} {hs:LS s l} (bL:kz s l)
include bL
theorem rj0:RJ s l hs (W0 l) (dL s l) (D0 s l) (fun _=>1) 1:=by
 have lN:=hs.k1
 have bV:=KV s l
 have hn:=hs.nn
 have FE:(D0 s l).length=l.k.toNat:=by unfold D0;rw[List.length_map,bV]
 have Fz:(W0 l).length=l.k.toNat:=List.length_replicate
 obtain⟨km,lO,BU⟩:=MA hs
 have fB:=ON hs bL
 have wj:∀x∈W0 l,x=nr:=fun x hx=>List.eq_of_mem_replicate hx
 have kO:∀p∈(bC s l (W0 l) (dL s l) (D0 s l)).ph,p=.idle 0 0:=fun p hp=>by
  obtain⟨x,hx,rfl⟩:=List.mem_map.1 hp
  rw[wj x hx];rfl
 refine⟨by rw[Fz];omega,fB.1,by rw[BU];omega,by rw[FE,Fz],fun j c hj =>?_,fun _=>Nat.le_refl _,fun x hx =>?_,fun x hx =>?_,fun x hx =>?_,?_⟩
 ·have gL:=(List.getElem?_eq_some_iff.1 hj).1
  obtain⟨h1,h2⟩:=QD hs bL hj
  have hW:(W0 l)[j]?=some nr:=by unfold W0;rw[List.getElem?_replicate,if_pos (by omega)]
  rw[xr hW]
  refine⟨?_,trivial,fun z hz =>?_⟩
  ·refine YW hs.room.2 ?_ h1 (by rw[List.length_map];exact h2)
   rw[bV,List.length_replicate]
   obtain⟨m,hm,JL,rD⟩:=hs.kk
   have ou:=hs.ua rD
   rw[show l.k.toNat=m by omega]
   unfold lD
   rw[hm,ou]
   omega
  ·obtain⟨i,x,hx,h3,_⟩:=hz
   rw[wj x (List.mem_of_getElem? hx)]at h3
   cases h3
 ·rw[wj x hx];exact⟨by decide,by decide,by decide,by decide⟩
 ·rw[wj x hx];exact fun j h=>by cases h
 ·rw[wj x hx];exact fun j h=>by cases h
 ·refine⟨fun v =>?_,?_,fun c hc v hv =>?_,fun p hp v hv =>?_⟩
  ·unfold SX.tok
   have h1:SX.aE (SX.gJ v) (bC s l (W0 l) (dL s l) (D0 s l)).ph=0:=SX.wZ fun p hp=>by rw[kO p hp];rfl
   have h2:SX.aE (fun l:List Nat=>l.count v) (bC s l (W0 l) (dL s l) (D0 s l)).dq=if v<nN s then 1 else 0:=XH bL v
   rw[h1,h2]
   show _=if decide (v<nN s∧¬(dL s l).getD (nN s*nW l+v) 0=0)=true then 1 else 0
   by_cases hv:v<nN s
   ·rw[lO v hv,if_pos hv,if_pos (decide_eq_true ⟨hv,by decide⟩)]
   ·rw[if_neg hv,if_neg (by rw[decide_eq_false fun h=>hv h.1];decide)]
  ·show ((dL s l).getD (nN s*nW l+nN s) 0).toNat=SX.aE List.length (D0 s l)+SX.aE SX.cw (bC s l (W0 l) (dL s l) (D0 s l)).ph
   have h1:SX.aE SX.cw (bC s l (W0 l) (dL s l) (D0 s l)).ph=0:=SX.wZ fun p hp=>by rw[kO p hp];rfl
   rw[BU,h1,P5 bL];omega
  ·obtain⟨j,hj⟩:=List.mem_iff_getElem?.1 hc
   obtain⟨h1,h2⟩:=QD hs bL hj
   have:=(bL.rows hn.2.2 _ (List.mem_of_getElem? h1)).2 (v:Int) (List.mem_map.2 ⟨v,hv,rfl⟩)
   show v<nN s
   omega
  ·rw[kO p hp]at hv;cases hv
theorem Pz(hs:LS s l):sr s l ⟨W0 l,dL s l⟩:=by
 have lN:=hs.k1
 refine⟨by show ((W0 l).length:Int)=l.k;unfold W0;rw[List.length_replicate];omega,ON hs bL,fun i x hx =>?_⟩
 rw[List.eq_of_mem_replicate (List.mem_of_getElem? hx)]
 exact wv0 hs i
end
set_option maxRecDepth 100000
set_option maxHeartbeats 4000000
theorem RO(s:Sy)(k:Int)(aA:List (Int×Int×Unit))(σ:Hp)(hf:Fit s)(he:¬bF s k=0):ACalls Tryz.prog 66 [.agg (bD s),.int .i64 k,.ah se aA] σ (az (.tup [.agg (b9 .bX ⟨0,0,0,0⟩ .af .af .af 0),.int .i64 (bF s k)]) σ):=by
 refine okF Tryz.func66 (by kernel_rfl) ?_
 intro aC
 intro dI
 intro pB
 refine aa 2 ?_
 refine ax [] (DU s k _ hf) ?_
 refine ai 0 ?_
 refine dx (fun c4 =>?_) (fun c4 =>?_)
 ·have c4:¬(bF s k=0):=by simpa using c4
  refine ai 1 ?_
  refine aa 1 ?_
  exact .drop 0 3 (.done ⟨rfl,rfl⟩)
 ·have c4:bF s k=0:=by simpa using c4
  refine aa 0 ?_
  exact absurd c4 he
theorem Hx{s:Sy}{k:Int}(he:bF s k=0):(gP s k).k=k:=by unfold gP jF;rw[he];rfl
theorem GK{k:Nat}{v:AV}{acc:Hp}{cs:List AV}(h:Acc 1 k v acc cs)(hk:0<k):∃b,v=.ae b 0 k 1∧acc=[(b,cs)]:=by
 cases h with
 | nil=>omega
 | ae b k cs h=>exact⟨b,rfl,rfl⟩
def Ca(s:Sy)(l:Lay)(bs bp p:Nat)(L:List Nat)(S:Hp):Prop:=S=(bs,bD s)::(bp,b9 (.ptr p 0) l .af .af .af 0)::dg s l (bS L) (List.replicate L.length gG)
theorem VS(s:Sy)(l:Lay)(k bs bp p:Nat)(hf:Fit s)(he:bF s l.k=0)(hL:gP s l.k=l)(hk:l.k=k)(L:List Nat)(S τ:Hp)(ab:L.length<k)(hS:Ca s l bs bp p L S):ACalls Tryz.prog 125 (.int .i64 L.length::[.ptr bs 0,.ptr bp 0]) (S++τ) (fun r σ'=>∃w S',r=.ptr w 0∧σ'=S'++τ∧Ca s l bs bp p (L++[w]) S'):=by
 unfold Ca at hS
 subst hS
 refine (aar bs bp L.length s l (.ptr p 0) .af .af .af 0 (dg s l (bS L) (List.replicate L.length gG)++τ) hf he hL (by omega)).QE (.refl _) ?_
 rintro _ _ ⟨w,rfl,rfl⟩
 refine⟨((bs,bD s)::(bp,b9 (.ptr p 0) l .af .af .af 0)::dg s l (bS (L++[w])) (List.replicate (L++[w]).length gG))++τ,?_,w,_,rfl,rfl,rfl⟩
 rw[Vy]
 have h:=lT [[(bs,bD s),(bp,b9 (.ptr p 0) l .af .af .af 0)],dg s l (bS L) (List.replicate L.length gG),WB s l L.length w 0 .af [] nr] τ (a:=[0,1,2]) (b:=[2,0,1]) (by decide)
 have e:((bs,bD s)::(bp,b9 (.ptr p 0) l .af .af .af 0)::(dg s l (bS L) (List.replicate L.length gG)++WB s l L.length w 0 .af [] nr))++τ=[(bs,bD s),(bp,b9 (.ptr p 0) l .af .af .af 0)]++(dg s l (bS L) (List.replicate L.length gG)++(WB s l L.length w 0 .af [] nr++τ)):=by simp
 rw[e]
 exact h
theorem MX(l:Lay)(k bp lw:Nat)(mv:AV)(L:List Nat)(hL:L.length=k)(L':List Nat)(S τ:Hp)(ab:L'.length<k)(hS:S=[(bp,b9 mv l (.ae lw 0 k 1) .af .af 0),(lw,L.map pW)]∧L'=L.take L'.length):ACalls Tryz.prog 129 (.int .i64 L'.length::[.ptr bp 0]) (S++τ) (fun r σ'=>∃w S',r=.iface 173 (.ptr w 0)∧σ'=S'++τ∧(S'=[(bp,b9 mv l (.ae lw 0 k 1) .af .af 0),(lw,L.map pW)]∧L'++[w]=L.take (L'++[w]).length)):=by
 obtain⟨rfl,hL'⟩:=hS
 refine (aaq bp lw L'.length k L l mv .af .af 0 τ hL ab).mono ?_
 rintro _ _ ⟨rfl,rfl⟩
 refine⟨L.getD L'.length 0,_,rfl,rfl,rfl,?_⟩
 rw[List.length_append,List.length_singleton,List.take_succ_eq_append_getElem (by omega),← hL',List.getD_eq_getElem?_getD,List.getElem?_eq_getElem (by omega)]
 rfl
theorem NX(s:Sy)(l:Lay)(hs:LS s l)(bL:kz s l)(p q lb k:Nat)(L:List Nat)(aA:List (Int×Int×Unit))(σ:Hp)(hL:L.length=k)(hk:l.k=k)(dm:k≤64)(pU:aA.length≤100000):
  ACalls Tryz.prog 127 [iY p,.ae lb 0 k 1,.ah se aA] ((lb,L.map iW)::(aX p q (dL s l) (dg s l (bS L) (List.replicate L.length gG))++σ)) (fun r σ'=>∃Z:List WZ,Z.map (·.x)=(eI s l aA).a.W∧r=.agg [.ah (.int .i64) (eI s l aA).st,.ah .bool (eI s l aA).dn,.int .i64 (eI s l aA).us]∧σ'=(lb,L.map iW)::(aX p q (eI s l aA).a.ws (dg s l (bS L) Z)++σ)):=by
 have hI:((bS L).length:Int)=l.k:=by rw[zE];omega
 have nz:pC.abs ⟨dL s l,List.replicate L.length gG⟩=⟨W0 l,dL s l⟩:=by
  show WA.mk ((List.replicate L.length gG).map (·.x)) (dL s l)=_
  rw[List.map_replicate]
  unfold W0
  rw[show l.k.toNat=L.length by omega];rfl
 have hl:(Ai s l hs p q (bS L) (zF L) hI).L.length=k:=by
  show ((bS L).map _).length=_
  rw[List.length_map,zE];exact hL
 have hLL:(Ai s l hs p q (bS L) (zF L) hI).L=L.map iW:=WG L
 have hE:=abu (Ai s l hs p q (bS L) (zF L) hI) lb aA (⟨dL s l,List.replicate L.length gG⟩:pC) σ (by omega) pU (by
  show sr s l (pC.abs ⟨dL s l,List.replicate L.length gG⟩)
  rw[nz];exact Pz bL hs) (fun _ _=>rfl)
 have ew:(Ai s l hs p q (bS L) (zF L) hI).run aA (pC.abs ⟨dL s l,List.replicate L.length gG⟩)=eI s l aA:=by
  unfold AWorld.run AWorld.init
  rw[hl,hLL,nz]
  have e1:(L.map iW).map isNil=List.replicate k false:=by
   rw[← hL,List.map_map]
   exact List.map_eq_replicate_iff.2 fun _ _=>rfl
  rw[e1]
  unfold eI s6 wz
  rw[show l.k.toNat=k by omega];rfl
 have wR:ACalls Tryz.prog 127 [iY p,.ae lb 0 k 1,.ah se aA] ((lb,L.map iW)::(aX p q (dL s l) (dg s l (bS L) (List.replicate L.length gG))++σ)) (Hf (Ai s l hs p q (bS L) (zF L) hI) aA (pC.abs ⟨dL s l,List.replicate L.length gG⟩) [(lb,L.map iW)] σ):=by
  rw[hl,hLL]at hE;exact hE
 refine wR.mono ?_
 rintro _ _ ⟨t',h1,rfl,rfl⟩
 have h1:pC.abs t'=(eI s l aA).a:=Eq.trans h1 (congrArg jk.a ew)
 rw[ew]
 refine⟨t'.Z,congrArg WA.W h1,rfl,?_⟩
 have h2:t'.ws=(eI s l aA).a.ws:=congrArg WA.ws h1
 rw[← h2];rfl
theorem Vv(s:Sy)(k:Nat)(l:Lay)(hl:gP s k=l)(aA:List (Int×Int×Unit))(σ:Hp)(hf:Fit s)(he:bF s k=0)(pU:aA.length≤100000):
  ACalls Tryz.prog 66 [.agg (bD s),.int .i64 k,.ah se aA] σ (fun r σ'=>∃(p q lw:Nat) (L:List Nat) (Z:List WZ),r=.tup [.agg (b9 (.ptr p 0) l (.ae lw 0 k 1) (.ah (.int .i64) (eI s l aA).st) (.ah .bool (eI s l aA).dn) (eI s l aA).us),.int .i64 0]∧L.length=k∧Z.map (·.x)=(eI s l aA).a.W∧σ'=(lw,L.map pW)::aX p q (eI s l aA).a.ws (dg s l (bS L) Z++σ)∧kz s l):=by
 obtain⟨hs,FB⟩:=D5 hf he
 obtain⟨yA,eX,ki⟩:=hs.size
 obtain⟨lN,dm⟩:=(GW he).2
 have Qo:=fun p q ws σ (dz:lD (gP s k)≤ws.length)=>Zv s k p q ws σ hf he dz
 have hk:l.k=k:=by rw[← hl];exact Hx he
 have e1:AV.tup [.agg (fH (gP s k)),.int .i64 (bF s k)]=.tup [.agg (fH l),.int .i64 (bF s k)]:=by rw[hl]
 have wR:bF s l.k=0:=by rw[hk];exact he
 have hL2:gP s l.k=l:=by rw[hk];exact hl
 rw[hl]at hs yA eX ki Qo
 refine okF Tryz.func66 (by kernel_rfl) ?_
 generalize hE:bF s k=E at e1 he
 intro bs
 intro br
 intro bp
 refine aa 2 ?_
 refine ax [] (xf (DU s k _ hf) (hE▸e1)) ?_
 refine ai 0 ?_
 refine dx (fun c1 =>?_) (fun c1 =>?_)
 ·have c1:¬(bF s (↑k:Int)=0):=by simpa using c1
  refine ai 1 ?_
  refine aa 1 ?_
  exact absurd (hE.trans he) c1
 ·have c1:bF s (↑k:Int)=0:=by simpa using c1
  refine aa 0 ?_
  refine ax [] (PR l _) ?_
  (refine .mk [] _ (acI _ _) ?_;rintro _ _ ⟨p,q,rfl,rfl⟩)
  rw[ki]
  obtain⟨us,fA⟩:∃us,List.replicate (lD l) (0:Int)=us:=⟨_,rfl⟩
  have eK:us.length=lD l:=by rw[← fA];exact List.length_replicate
  rw[fA,← eK]
  refine ai 2 ?_
  refine aa 2 ?_
  refine aa 4 ?_
  (refine .mk [] _ (Qo p q us _ (by omega)) ?_;rintro _ _ ⟨rfl,rfl,bL⟩)
  have abR:xZ s l us=dL s l:=by rw[← fA];rfl
  rw[abR]
  refine .perm (σ2:=[(bs,bD s),(bp,b9 (.ptr p 0) l .af .af .af 0)]++aX p q (dL s l) ((br,b9 .bX ⟨0,0,0,0⟩ .af .af .af 0)::σ)) _ (lT [[(bs,bD s)],[(bp,b9 (.ptr p 0) l .af .af .af 0)],aX p q (dL s l) [],[(br,b9 .bX ⟨0,0,0,0⟩ .af .af .af 0)]] σ (a:=[0,1,2,3]) (b:=[2,1,3,0]) (by decide)) (aaB 125 [.ptr bs 0,.ptr bp 0] (Ca s l bs bp p) _ _ rfl k (by omega) (fun L S τ h1 h2=>VS s l k bs bp p hf wR hL2 hk L S τ h1 h2)) ?_
  rintro v _ ⟨L,S',acc,hL,yR,bP,rfl⟩
  unfold Ca at yR
  subst yR
  obtain⟨lw,rfl,rfl⟩:=GK bP (by omega)
  refine⟨_,.refl _,?_⟩
  refine ai 2 ?_
  refine .sched [] (.one 0 false (.one 3 false (.one 4 false (.one 6 false (.alt 1 (.one 2 false (.one 5 false (.one 7 false (.one 8 false (.one 9 false .stop))))) (.one 5 false (.one 1 false (.one 2 false (.one 7 false (.one 8 false (.one 9 false .stop))))))))))) (by kernel_rfl) ?_
  refine And.intro ?_ ?_
  ·refine aa 2 ?_
   refine .perm (σ2:=[(bp,b9 (.ptr p 0) l (.ae lw 0 k 1) .af .af 0),(lw,L.map pW)]++((bs,bD s)::(dg s l (bS L) (List.replicate L.length gG)++aX p q (dL s l) ((br,b9 .bX ⟨0,0,0,0⟩ .af .af .af 0)::σ)))) _ (lT [[(bp,b9 (.ptr p 0) l (.ae lw 0 k 1) .af .af 0)],[(lw,L.map pW)],[(bs,bD s)],dg s l (bS L) (List.replicate L.length gG),aX p q (dL s l) [],[(br,b9 .bX ⟨0,0,0,0⟩ .af .af .af 0)]] σ (a:=[0,1,2,3,4,5]) (b:=[1,2,0,3,4,5]) (by decide)) (PV 129 [.ptr bp 0] (fun L' S=>S=[(bp,b9 (.ptr p 0) l (.ae lw 0 k 1) .af .af 0),(lw,L.map pW)]∧L'=L.take L'.length) _ _ ⟨rfl,rfl⟩ k (by omega) (fun L' S τ h1 h2=>MX l k bp lw (.ptr p 0) L hL L' S τ h1 h2)) ?_
   rintro v2 _ ⟨L',S2,acB,I7,⟨rfl,BY⟩,AG,rfl⟩
   rw[I7,← hL,List.take_length]at BY
   rw[BY]at AG
   obtain⟨lb,rfl,rfl⟩:=GK AG (by omega)
   refine⟨_,.refl _,?_⟩
   have hR:=NX s l hs bL p q lb k L aA ([(bp,b9 (.ptr p 0) l (.ae lw 0 k 1) .af .af 0),(br,b9 .bX ⟨0,0,0,0⟩ .af .af .af 0),(bs,bD s),(lw,L.map pW)]++σ) hL hk (by omega) pU
   refine .perm _ (lT [[(lb,L.map iW)],aX p q (dL s l) [],dg s l (bS L) (List.replicate L.length gG),[(bp,b9 (.ptr p 0) l (.ae lw 0 k 1) .af .af 0)],[(br,b9 .bX ⟨0,0,0,0⟩ .af .af .af 0)],[(bs,bD s)],[(lw,L.map pW)]] σ (a:=[0,1,2,3,4,5,6]) (b:=[0,3,6,5,2,1,4]) (by decide)) hR ?_
   rintro _ _ ⟨Z,hZ,rfl,rfl⟩
   refine⟨_,lT [[(lb,L.map iW)],aX p q (eI s l aA).a.ws [],dg s l (bS L) Z,[(bp,b9 (.ptr p 0) l (.ae lw 0 k 1) .af .af 0)],[(br,b9 .bX ⟨0,0,0,0⟩ .af .af .af 0)],[(bs,bD s)],[(lw,L.map pW)]] σ (a:=[0,3,4,5,6,1,2]) (b:=[0,1,2,3,4,5,6]) (by decide),?_⟩
   refine ai 1 ?_
   refine aa 1 ?_
   refine ai 2 ?_
   refine aa 2 ?_
   exact .drop 0 4 (.done ⟨p,q,lw,L,Z,rfl,hL,hZ,rfl,bL⟩)
  ·refine .perm (σ2:=[(bp,b9 (.ptr p 0) l (.ae lw 0 k 1) .af .af 0),(lw,L.map pW)]++((bs,bD s)::(dg s l (bS L) (List.replicate L.length gG)++aX p q (dL s l) ((br,b9 .bX ⟨0,0,0,0⟩ .af .af .af 0)::σ)))) _ (lT [[(bp,b9 (.ptr p 0) l (.ae lw 0 k 1) .af .af 0)],[(lw,L.map pW)],[(bs,bD s)],dg s l (bS L) (List.replicate L.length gG),aX p q (dL s l) [],[(br,b9 .bX ⟨0,0,0,0⟩ .af .af .af 0)]] σ (a:=[0,1,2,3,4,5]) (b:=[1,2,0,3,4,5]) (by decide)) (PV 129 [.ptr bp 0] (fun L' S=>S=[(bp,b9 (.ptr p 0) l (.ae lw 0 k 1) .af .af 0),(lw,L.map pW)]∧L'=L.take L'.length) _ _ ⟨rfl,rfl⟩ k (by omega) (fun L' S τ h1 h2=>MX l k bp lw (.ptr p 0) L hL L' S τ h1 h2)) ?_
   rintro v2 _ ⟨L',S2,acB,I7,⟨rfl,BY⟩,AG,rfl⟩
   rw[I7,← hL,List.take_length]at BY
   rw[BY]at AG
   obtain⟨lb,rfl,rfl⟩:=GK AG (by omega)
   refine⟨_,.refl _,?_⟩
   refine aa 1 ?_
   have hR:=NX s l hs bL p q lb k L aA ([(bp,b9 (.ptr p 0) l (.ae lw 0 k 1) .af .af 0),(br,b9 .bX ⟨0,0,0,0⟩ .af .af .af 0),(bs,bD s),(lw,L.map pW)]++σ) hL hk (by omega) pU
   refine .perm _ (lT [[(lb,L.map iW)],aX p q (dL s l) [],dg s l (bS L) (List.replicate L.length gG),[(bp,b9 (.ptr p 0) l (.ae lw 0 k 1) .af .af 0)],[(br,b9 .bX ⟨0,0,0,0⟩ .af .af .af 0)],[(bs,bD s)],[(lw,L.map pW)]] σ (a:=[0,1,2,3,4,5,6]) (b:=[0,3,6,5,2,1,4]) (by decide)) hR ?_
   rintro _ _ ⟨Z,hZ,rfl,rfl⟩
   refine⟨_,lT [[(lb,L.map iW)],aX p q (eI s l aA).a.ws [],dg s l (bS L) Z,[(bp,b9 (.ptr p 0) l (.ae lw 0 k 1) .af .af 0)],[(br,b9 .bX ⟨0,0,0,0⟩ .af .af .af 0)],[(bs,bD s)],[(lw,L.map pW)]] σ (a:=[0,3,4,5,6,1,2]) (b:=[0,1,2,3,4,5,6]) (by decide),?_⟩
   refine ai 1 ?_
   refine aa 1 ?_
   refine ai 2 ?_
   refine aa 2 ?_
   exact .drop 0 4 (.done ⟨p,q,lw,L,Z,rfl,hL,hZ,rfl,bL⟩)
end Go.Proofs.YtnpidbjdilnhlaaGreat
