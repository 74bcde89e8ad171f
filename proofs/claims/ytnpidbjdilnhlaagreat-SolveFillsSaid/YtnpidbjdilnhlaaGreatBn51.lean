import Derived.Test.YtnpidbjdilnhlaaGreatBn48
import Derived.Test.YtnpidbjdilnhlaaGreatBn50
namespace Go.Proofs.YtnpidbjdilnhlaaGreat
open Go.RowKit
set_option maxRecDepth 100000
set_option maxHeartbeats 4000000
theorem Oq{s:Sy}{l:Lay}(bR:iz s l)(hn:nN s≤256):gF l.k.toNat (gu (nN s) l.k.toNat s.bQ) (rZ (nN s) s.bQ s.entry).reverse=kg s l:=by
 have h:rZ (nN s) s.bQ s.entry=nq (nN s) s.bQ s.entry:=K0 bR.post (by omega) (fun p hp x hx=>bR.flat.rg x (List.mem_flatten.2 ⟨p,hp,hx⟩)) bR.flat.nd
 rw[h];rfl
theorem Sk(s:Sy)(l:Lay)(σ:Hp)(hs:LS s l)(bR:iz s l):ACalls Tryz.prog 57 [.int .i64 s.n,.af bA s.bQ,.af (.int .i64) s.entry,.int .i64 l.k] σ (aB (.af (.slice (.int .i64)) (kg s l)) σ):=by
 have h1:=hs.nn
 obtain⟨k,hk,im,cD⟩:=hs.kk
 have he:=hs.kr.GB
 have eM:l.k.toNat=k:=by omega
 have vl:=Oq bR h1.2.2
 have gA:=bR.own
 rw[eM]at vl gA
 rw[hk]
 have hn:=h1.1
 rw[hn]at he ⊢
 refine (Sj (nN s) s.bQ s.entry k σ hs.fit.tH h1.2.1 h1.2.2 im cD hs.fit.sc he gA).mono ?_
 rintro _ _ ⟨ls,rfl,rfl,rfl⟩
 exact⟨by rw[vl],rfl⟩
def cP(s:Sy)(l:Lay):List Int:=jV s l (List.replicate (cN l) 0)
theorem Us(s:Sy)(l:Lay)(σ:Hp)(hs:LS s l)(bR:iz s l):ACalls Tryz.prog 18 [.agg (bg s),.agg (de l)] σ (fun r σ'=>∃m q,r=.ptr m 0∧σ'=fF m q (cP s l) σ∧(cP s l).length=cN l):=by
 obtain⟨Xb,Xa,Ml⟩:=hs.size
 have hn:=hs.nn
 have hw:=hs.ww
 refine okF Tryz.func18 (by kernel_rfl) ?_
 intro aC
 intro bM
 refine aa.mk 0 _ _ rfl rfl ?_
 refine az [] (KC l _) ?_
 (refine .mk [] _ (WD _ _) ?_;rintro _ _ ⟨m,q,rfl,rfl⟩)
 rw[Ml]
 have hN:=hs.n
 have pC:=hs.low
 have mG:(List.replicate (cN l) (0:Int)).length=cN l:=List.length_replicate
 have fy:(cP s l).length=cN l:=(GW _ _ _ _ _).trans mG
 have mj:cP s l=fS (nN s*nW l+nN s+1) (nN s+3) (nN s+1) (kg s l) ((gq (nN s) (nW l) (fun v=>eE s v) (List.replicate (cN l) 0) (nN s)).set (nN s*nW l+nN s) (nN s:Int)) (kg s l).length:=rfl
 have dI:=fun v=>pV (nN s) (nW l) (fun v=>eE s v) (List.replicate (cN l) 0) v
 rw[mG]at dI
 refine aU (S:=Nat) (fun t=>[(2,.ptr aC 0),(3,.ptr bM 0),(5,.ptr m 0),(6,.int .i64 t)]) (fun t=>(m,[AV.ae q 0 (cN l) 1])::(q,aL (gq (nN s) (nW l) (fun v=>eE s v) (List.replicate (cN l) 0) t))::(bM,de l)::(aC,bg s)::σ) (fun t=>t≤nN s) (fun t=>nN s-t) 0 ⟨Nat.zero_le _,⟨rfl,rfl,rfl,rfl,trivial⟩,by show (m,[AV.ae q 0 (List.replicate (cN l) (0:Int)).length 1])::_=_;rw[mG];rfl⟩ ?_
 intro v g k8
 have hv:v≤nN s:=k8
 clear k8
 refine aa.mk 2 _ _ rfl rfl ?_
 refine an (p:=(v:Int)<l.n) (fun ab =>?_) (fun aq =>?_)
 ·have ab:v<nN s:=by omega
  refine aa.mk 3 _ _ rfl rfl ?_
  refine az [] (QI s v _ hs.fit hs.kr) ?_
  have ar:=CP hs.fit hs.kr v
  have hsv:mN s.ag s.w (eE s v):=⟨ar.1,ar.2⟩
  have Xd:=(wE hs.kr.qV).1 hsv
  have Mm:(eE s v).length=nW l:=by have:=Xd.1;have:=hs.words;omega
  have bF:gq (nN s) (nW l) (fun v=>eE s v) (List.replicate (cN l) 0) (v+1)=(jD (v*nW l) (eE s v) (gq (nN s) (nW l) (fun v=>eE s v) (List.replicate (cN l) 0) v) (nW l)).set (nN s*nW l+v) 1:=rfl
  have cO:=dI v
  generalize gq (nN s) (nW l) (fun v=>eE s v) (List.replicate (cN l) 0) v=us at bF cO
  generalize eE s v=st at Mm bF
  refine aU (S:=Nat) (fun t=>[(2,.ptr aC 0),(3,.ptr bM 0),(5,.ptr m 0),(6,.int .i64 v),(25,.af (.int .u64) st),(26,.int .i64 st.length),(27,.int .i64 t)]) (fun t=>(m,[AV.ae q 0 (cN l) 1])::(q,aL (jD (v*nW l) st us t))::(bM,de l)::(aC,bg s)::σ) (fun t=>t≤st.length) (fun t=>st.length-t) 0 ⟨Nat.zero_le _,⟨rfl,rfl,rfl,rfl,rfl,rfl,rfl,trivial⟩,rfl⟩ ?_
  intro i g2 cY
  have hi:i≤st.length:=cY
  clear cY
  have oy:=(zB (v*nW l) st us i).trans cO
  refine an (p:=(i:Int)<(st.length:Int)) (fun bY =>?_) (fun gh =>?_)
  ·have bY:i<st.length:=by omega
   have hiW:i<nW l:=by omega
   obtain⟨x,hx⟩:∃x,st[i]=x:=⟨_,rfl⟩
   have hwd:=ly st bY
   rw[hx]at hwd
   have iC:IntKind.i64.wrap (IntKind.i64.wrap ((v:Int)*l.words)+(i:Int))=((v*nW l+i:Nat):Int):=hs.Bd ab hiW
   have dI:=uO ab hiW
   refine ah.mk rfl (aT.mk x (by omega) ((get_some bY).trans (congrArg some hx)) ?_)
   refine .sched [] (upto [] 13 0) (by kernel_rfl) ?_
   refine aa.mk 0 _ _ rfl rfl ?_
   refine aa.mk 2 _ _ rfl rfl ?_
   refine ah.mk ⟨rfl,by rw[iC];omega,by rw[iC];omega⟩ ?_
   refine ai.mk 1 _ _ rfl (pg (i:=v*nW l+i) (by omega) x iC) ?_
   exact aH (i+1) (by show st.length-(i+1)<st.length-i;omega) bY ⟨rfl,rfl,rfl,rfl,rfl,rfl,aI (by omega),trivial⟩ (aF (by rw[jD,hwd];rfl))
  ·have gh:i=st.length:=by omega
   subst gh
   refine .sched [] (upto [] 13 0) (by kernel_rfl) ?_
   refine aa.mk 0 _ _ rfl rfl ?_
   refine aa.mk 2 _ _ rfl rfl ?_
   refine aa.mk 2 _ _ rfl rfl ?_
   have E6:IntKind.i64.wrap (IntKind.i64.wrap (l.n*l.words)+(v:Int))=((nN s*nW l+v:Nat):Int):=hs.A9 ab
   refine ah.mk ⟨rfl,by rw[E6];omega,by rw[E6];omega⟩ ?_
   refine ai.mk 1 _ _ rfl (pg (i:=nN s*nW l+v) (by omega) 1 E6) ?_
   exact aH (v+1) (by show nN s-(v+1)<nN s-v;omega) ab ⟨rfl,rfl,rfl,aI (by omega),trivial⟩ (aF (by rw[bF,Mm];rfl))
 have aq:v=nN s:=by omega
 subst aq
 have cO:=dI (nN s)
 obtain⟨us,ep⟩:∃us,gq (nN s) (nW l) (fun v=>eE s v) (List.replicate (cN l) 0) (nN s)=us:=⟨_,rfl⟩
 rw[ep]at cO mj ⊢
 refine .sched [] (upto [] 17 0) (by kernel_rfl) ?_
 refine aa.mk 0 _ _ rfl rfl ?_
 refine aa.mk 2 _ _ rfl rfl ?_
 refine aa.mk 2 _ _ rfl rfl ?_
 refine aa.mk 2 _ _ rfl rfl ?_
 refine aa.mk 2 _ _ rfl rfl ?_
 have uf:IntKind.i64.wrap (IntKind.i64.wrap (l.n*l.words)+l.n)=((nN s*nW l+nN s:Nat):Int):=hs.count
 refine ah.mk ⟨rfl,by rw[uf];omega,by rw[uf];omega⟩ ?_
 refine ai.mk 1 _ _ rfl (pg (i:=nN s*nW l+nN s) (by omega) _ uf) ?_
 have x6:IntKind.u64.wrap l.n=(nN s:Int):=by rw[IntKind.wrap_u64];omega
 refine aa.mk 3 _ _ rfl rfl ?_
 refine aa.mk 3 _ _ rfl rfl ?_
 refine aa.mk 3 _ _ rfl rfl ?_
 refine aa.mk 2 _ _ rfl rfl ?_
 refine az [] (Sk s l _ hs bR) ?_
 have hx:=bR.rows hn.2.2
 have cc:=Ct s l
 generalize kg s l=ls at hx cc mj
 obtain⟨sk,xW⟩:∃sk,us.set (nN s*nW l+nN s) (nN s:Int)=sk:=⟨_,rfl⟩
 have W8:sk.length=cN l:=by rw[← xW,List.length_set];exact cO
 rw[xW]at mj
 refine aU (S:=Nat) (fun t=>[(3,.ptr bM 0),(5,.ptr m 0),(81,.af (.slice (.int .i64)) ls),(82,.int .i64 ls.length),(83,.int .i64 t)]) (fun t=>(m,[AV.ae q 0 (cN l) 1])::(q,aL (fS (nN s*nW l+nN s+1) (nN s+3) (nN s+1) ls sk t))::(bM,de l)::(aC,bg s)::σ) (fun t=>t≤ls.length) (fun t=>ls.length-t) 0 ⟨Nat.zero_le _,⟨rfl,rfl,rfl,rfl,rfl,trivial⟩,by
  show (m,[AV.ae q 0 (cN l) 1])::(q,aL (us.set (nN s*nW l+nN s) (IntKind.u64.wrap l.n)))::_=_
  rw[x6,xW];rfl⟩ ?_
 intro w g2 cY
 have hi:w≤ls.length:=cY
 clear cY
 refine an (p:=(w:Int)<(ls.length:Int)) (fun ab =>?_) (fun aq =>?_)
 rotate_left
 ·have aq:w=ls.length:=by omega
  subst aq
  rw[← mj]
  exact .drop 2 2 (.done ⟨m,q,rfl,by unfold fF;rw[fy];rfl,fy⟩)
 have ab:w<ls.length:=by omega
 obtain⟨x,mC⟩:∃x:List Int,ls[w]=x:=⟨_,rfl⟩
 obtain⟨tW,yx⟩:=hx _ (List.getElem_mem ab)
 rw[mC]at tW yx
 have yy:ls.getD w []=x:=by rw[List.getD_eq_getElem?_getD,List.getElem?_eq_getElem ab,mC];rfl
 obtain⟨k,hk,im,cD⟩:=hs.kk
 have ue:=hs.qv (k:=w) (by omega)
 have Xz:=hs.Wp (k:=w) (by omega)
 have bF:fS (nN s*nW l+nN s+1) (nN s+3) (nN s+1) ls sk (w+1)=rp (nN s*nW l+nN s+1+w*(nN s+3)) (nN s+1) x (fS (nN s*nW l+nN s+1) (nN s+3) (nN s+1) ls sk w):=by rw[fS,yy]
 have tY:=(Ha (nN s*nW l+nN s+1) (nN s+3) (nN s+1) ls sk w).trans W8
 refine ah.mk rfl (aT.mk x (by omega) ((get_some ab).trans (congrArg some mC)) ?_)
 refine aa.mk 2 _ _ rfl rfl ?_
 refine az [] (s4 (Dx l w _) (congrArg (AV.int .i64) ue)) ?_
 have kA:nN s*nW l+nN s+1+w*(nN s+3)+nN s+3≤cN l:=by
  obtain⟨a,q1,q2,q3⟩:=Xz
  omega
 generalize nN s*nW l+nN s+1+w*(nN s+3)=a at ue bF kA
 generalize fS (nN s*nW l+nN s+1) (nN s+3) (nN s+1) ls sk w=vs at bF tY
 refine aa.mk 0 _ _ rfl rfl ?_
 refine ah.mk ⟨rfl,by omega,by omega⟩ ?_
 refine ai.mk 1 _ _ rfl (pg (l:=vs) (i:=a) (by omega) 1 rfl) ?_
 have hv1:(vs.set a 1).length=cN l:=by rw[List.length_set];exact tY
 have ha3:IntKind.i64.wrap ((a:Int)+1)=((a+1:Nat):Int):=by rw[IntKind.wrap_i64];omega
 refine aa.mk 0 _ _ rfl rfl ?_
 refine ah.mk ⟨rfl,by omega,by omega⟩ ?_
 refine ai.mk 1 _ _ rfl (pg (l:=vs.set a 1) (i:=a+1) (by omega) _ ha3) ?_
 have vR:IntKind.u64.wrap (IntKind.i64.wrap (1+(x.length:Int)))=((1+x.length:Nat):Int):=by
  rw[show IntKind.i64.wrap (1+(x.length:Int))=1+(x.length:Int) from fh (by omega) (by omega),IntKind.wrap_u64];omega
 refine aU (S:=Nat) (fun t=>[(3,.ptr bM 0),(5,.ptr m 0),(11,.int .i64 a),(81,.af (.slice (.int .i64)) ls),(82,.int .i64 ls.length),(83,.int .i64 w),(108,.af (.int .i64) x),(109,.int .i64 x.length),(110,.int .i64 t)]) (fun t=>(m,[AV.ae q 0 (cN l) 1])::(q,aL (fA a (nN s+1) x ((vs.set a 1).set (a+1) ((1+x.length:Nat):Int)) t))::(bM,de l)::(aC,bg s)::σ) (fun t=>t≤x.length) (fun t=>x.length-t) 0 ⟨Nat.zero_le _,⟨rfl,rfl,rfl,rfl,rfl,rfl,rfl,rfl,rfl,trivial⟩,by
  show (m,[AV.ae q 0 (cN l) 1])::(q,aL ((vs.set a 1).set (a+1) (IntKind.u64.wrap (IntKind.i64.wrap (1+(x.length:Int))))))::_=_
  rw[vR];rfl⟩ ?_
 intro j g3 fW
 have hj:j≤x.length:=fW
 clear fW
 refine an (p:=(j:Int)<(x.length:Int)) (fun bY =>?_) (fun gh =>?_)
 rotate_left
 ·have gh:j=x.length:=by omega
  subst gh
  exact aH (w+1) (by show ls.length-(w+1)<ls.length-w;omega) ab ⟨rfl,rfl,rfl,rfl,aI (by omega),trivial⟩ (aF (by rw[bF];rfl))
 have bY:j<x.length:=by omega
 obtain⟨z,hz⟩:∃z,x[j]=z:=⟨_,rfl⟩
 have eU:=yx z (hz▸List.getElem_mem bY)
 have FH:x.getD j 0=z:=by rw[List.getD_eq_getElem?_getD,List.getElem?_eq_getElem bY,hz];rfl
 refine ah.mk rfl (aT.mk z (by omega) ((get_some bY).trans (congrArg some hz)) ?_)
 have e3:IntKind.i64.wrap (l.n+1)=((nN s+1:Nat):Int):=by rw[IntKind.wrap_i64];omega
 have jd:IntKind.i64.wrap (IntKind.i64.wrap ((a:Int)+2)+(IntKind.i64.wrap (1+(j:Int))).tmod (IntKind.i64.wrap (l.n+1)))=((a+2+(1+j) % (nN s+1):Nat):Int):=HI hs (by omega) (by omega)
 have vJ:IntKind.u64.wrap z=z:=by rw[IntKind.wrap_u64];omega
 have E3:=Nat.mod_lt (1+j) (show 0<nN s+1 by omega)
 have iJ:=HK a (nN s+1) x ((vs.set a 1).set (a+1) ((1+x.length:Nat):Int)) j
 rw[List.length_set,hv1]at iJ
 refine .sched [] (upto [] 17 0) (by kernel_rfl) ?_
 refine aa.mk 0 _ _ rfl rfl ?_
 refine aa.mk 2 _ _ rfl rfl ?_
 refine ah.mk (by rw[e3];omega) ?_
 refine ah.mk ⟨rfl,by rw[jd];omega,by rw[jd];omega⟩ ?_
 refine ai.mk 1 _ _ rfl (pg (i:=a+2+(1+j) % (nN s+1)) (by omega) _ jd) ?_
 exact aH (j+1) (by show x.length-(j+1)<x.length-j;omega) bY ⟨rfl,rfl,rfl,rfl,rfl,rfl,rfl,rfl,aI (by omega),trivial⟩ (aF (by rw[fA,FH,vJ];rfl))
end Go.Proofs.YtnpidbjdilnhlaaGreat
namespace Go.Proofs.YtnpidbjdilnhlaaGreat
open Go.RowKit
def W0(l:Lay):List WS:=List.replicate l.k.toNat pG
def GA(s:Sy)(l:Lay)(aE:List (Int×Int×Unit))(x:j8 WA):j8 WA:=jg (iB s l) (fun a _=>a) l.k.toNat aE x
def yi(s:Sy)(l:Lay):j8 WA:=⟨⟨W0 l,cP s l⟩,List.replicate l.k.toNat 0,List.replicate l.k.toNat false,0⟩
def cM(s:Sy)(l:Lay)(aE:List (Int×Int×Unit)):j8 WA:=GA s l aE (yi s l)
def uj(W:List WS):Int:=W.foldl (fun a x=>wr (a+x.ev)) 0
def tS(W:List WS):Int:=W.foldl (fun a x=>wr (a+x.jo)) 0
theorem RP{W:List WS}{i:Nat}(h:i<W.length):wr (uj (W.take i)+W[i].ev)=uj (W.take (i+1)):=by
 unfold uj;rw[List.take_succ_eq_append_getElem h,List.foldl_append];rfl
theorem Rw{W:List WS}{i:Nat}(h:i<W.length):wr (tS (W.take i)+W[i].jo)=tS (W.take (i+1)):=by
 unfold tS;rw[List.take_succ_eq_append_getElem h,List.foldl_append];rfl
end Go.Proofs.YtnpidbjdilnhlaaGreat
namespace Go.Proofs.YtnpidbjdilnhlaaGreat
open Go.RowKit
set_option maxRecDepth 100000
set_option maxHeartbeats 4000000
theorem I0{b:Nat}{a ws:List Int}{x:Nat}(h:x<b):∀k,(jD b a ws k).getD x 0=ws.getD x 0
 | 0=>rfl
 | k+1=>by rw[jD,kD _ _ _ _ (by omega)];exact I0 h k
theorem I1{b:Nat}{a ws:List Int}{i:Nat}:∀k,i<k→b+k≤ws.length→(jD b a ws k).getD (b+i) 0=wd a i
 | 0,h,_=>absurd h (Nat.not_lt_zero _)
 | k+1,h,hl=>by
  rw[jD]
  by_cases e:i=k
  ·subst e
   rw[uX _ _ _ _ (by rw[zB];omega),if_pos rfl]
  ·rw[kD _ _ _ _ (by omega)]
   exact I1 k (by omega) (by omega)
section
variable {N W:Nat} {st:Nat→List Int} {ws:List Int}
theorem C8{v i:Nat}(hi:i<W):∀k,k≤N→v<k→N*W+N≤ws.length→(gq N W st ws k).getD (v*W+i) 0=wd (st v) i
 | 0,_,h,_=>absurd h (Nat.not_lt_zero _)
 | k+1,hk,h,hl=>by
  have h6:(k+1)*W≤N*W:=Nat.mul_le_mul_right _ hk
  have h7:=uO (N:=N) (show v<N by omega) hi
  rw[Nat.succ_mul]at h6
  rw[gq,kD _ _ _ _ (by omega)]
  by_cases e:v=k
  ·subst e
   exact I1 W hi (by rw[pV];omega)
  ·have h8:=uO (N:=k) (show v<k by omega) hi
   rw[I0 h8]
   exact C8 hi k (by omega) (by omega) hl
theorem CH{v:Nat}:∀k,k≤N→v<k→N*W+N≤ws.length→(gq N W st ws k).getD (N*W+v) 0=1
 | 0,_,h,_=>absurd h (Nat.not_lt_zero _)
 | k+1,hk,h,hl=>by
  have h6:(k+1)*W≤N*W:=Nat.mul_le_mul_right _ hk
  rw[Nat.succ_mul]at h6
  rw[gq]
  by_cases e:v=k
  ·subst e
   rw[uX _ _ _ _ (by rw[zB,pV];omega),if_pos rfl]
  ·rw[kD _ _ _ _ (by omega),Dj W (by omega)]
   exact CH k (by omega) (by omega) hl
end
section
variable {b0 N:Nat} {ls:List (List Int)} {ws:List Int}
end
section
variable {s:Sy} {l:Lay} (hs:LS s l)
include hs
theorem LS.Oj{v i:Nat}(hi:i<nW l):gr s.ag s.w i (wd (eE s v) i):=by
 have h:=(hs.Mb).1 (Pq hs.fit hs.kr v)
 rw[← A7];exact h.2 i hi
theorem Km{v:Nat}{ws:List Int}(h:lQ s l ws):∀k,k≤nW l→lQ s l (jD (v*nW l) (eE s v) ws k)
 | 0,_=>h
 | k+1,hk=>by
  have ih:=Km h k (by omega) (v:=v)
  rw[jD]
  exact⟨by rw[List.length_set];exact ih.1,ih.2.Q4 (by omega) (hs.Oj (by omega))⟩
theorem JE{ws:List Int}(h:lQ s l ws):∀k,lQ s l (gq (nN s) (nW l) (fun v=>eE s v) ws k)
 | 0=>h
 | k+1=>by
  rw[gq]
  exact (Km hs (JE h k) _ (Nat.le_refl _)).hi (by omega) (by unfold bh;omega)
theorem Lc{b r:Nat}{x ws:List Int}(hb:nN s*nW l≤b)(hx:∀z∈x,0≤z∧z<(nN s:Int))(h:lQ s l ws):∀k,lQ s l (fA b r x ws k)
 | 0=>h
 | k+1=>by
  rw[fA]
  refine (Lc hb hx h k).hi (by omega) ?_
  have hn:=hs.nn
  rw[List.getD_eq_getElem?_getD]
  cases hk:x[k]? with
  | none=>exact uD
  | some z =>
   have:=hx z (List.mem_of_getElem? hk)
   show bh z
   unfold bh;omega
theorem Lb{ls:List (List Int)}{ws:List Int}(hx:∀x∈ls,x.length≤256∧∀z∈x,0≤z∧z<(nN s:Int))(h:lQ s l ws):∀k,lQ s l (fS (nN s*nW l+nN s+1) (nN s+3) (nN s+1) ls ws k)
 | 0=>h
 | k+1=>by
  rw[fS,rp]
  have h2:(ls.getD k []).length≤256∧∀z∈ls.getD k [],0≤z∧z<(nN s:Int):=by
   rw[List.getD_eq_getElem?_getD]
   cases hk:ls[k]? with
   | none=>exact⟨Nat.zero_le _,fun z hz=>by cases hz⟩
   | some x=>exact hx x (List.mem_of_getElem? hk)
  refine Lc hs (by omega) h2.2 (((Lb hx h k).hi (by omega) (by unfold bh;omega)).hi (by omega) ?_) _
  unfold bh;omega
theorem Kn(bR:iz s l):lQ s l (cP s l):=by
 unfold cP jV tp
 have hn:=hs.nn
 refine Lb hs (bR.rows hn.2.2) (lQ.hi (JE hs ⟨List.length_replicate,Ty s l _⟩ _) (by omega) ?_) _
 unfold bh;omega
end
section
variable {s:Sy} {l:Lay} (hs:LS s l) (bR:iz s l)
include hs bR
end
section
variable {s:Sy} {l:Lay} {hs:LS s l} (bR:iz s l)
include bR
theorem Ve(hs:LS s l):tw s l ⟨W0 l,cP s l⟩:=by
 have im:=hs.k1
 refine⟨by show ((W0 l).length:Int)=l.k;unfold W0;rw[List.length_replicate];omega,Kn hs bR,fun i x hx =>?_⟩
 rw[List.eq_of_mem_replicate (List.mem_of_getElem? hx)]
 exact wv0 hs i
end
end Go.Proofs.YtnpidbjdilnhlaaGreat
namespace Go.Proofs.YtnpidbjdilnhlaaGreat
open Go.RowKit
set_option maxRecDepth 100000
set_option maxHeartbeats 4000000
theorem Kh{s:Sy}{k:Int}(he:cb s k=0):(eP s k).k=k:=by unfold eP mA;rw[he];rfl
theorem Dc{k:Nat}{v:AV}{acc:Hp}{cs:List AV}(h:Acc 1 k v acc cs)(hk:0<k):∃b,v=.ae b 0 k 1∧acc=[(b,cs)]:=by
 cases h with
 | nil=>omega
 | ae b k cs h=>exact⟨b,rfl,rfl⟩
def zt(s:Sy)(l:Lay)(bs bp p:Nat)(L:List Nat)(S:Hp):Prop:=S=(bs,bg s)::(bp,cE (.ptr p 0) l .aj .aj .aj 0)::db s l (bU L) (List.replicate L.length fV)
theorem QZ(s:Sy)(l:Lay)(k bs bp p:Nat)(hf:Fit s)(he:cb s l.k=0)(hL:eP s l.k=l)(hk:l.k=k)(L:List Nat)(S τ:Hp)(ab:L.length<k)(hS:zt s l bs bp p L S):ACalls Tryz.prog 125 (.int .i64 L.length::[.ptr bs 0,.ptr bp 0]) (S++τ) (fun r σ'=>∃w S',r=.ptr w 0∧σ'=S'++τ∧zt s l bs bp p (L++[w]) S'):=by
 unfold zt at hS
 subst hS
 refine (Vu bs bp L.length s l (.ptr p 0) .aj .aj .aj 0 (db s l (bU L) (List.replicate L.length fV)++τ) hf he hL (by omega)).Ma (.refl _) ?_
 rintro _ _ ⟨w,rfl,rfl⟩
 refine⟨((bs,bg s)::(bp,cE (.ptr p 0) l .aj .aj .aj 0)::db s l (bU (L++[w])) (List.replicate (L++[w]).length fV))++τ,?_,w,_,rfl,rfl,rfl⟩
 rw[QO]
 have h:=kb [[(bs,bg s),(bp,cE (.ptr p 0) l .aj .aj .aj 0)],db s l (bU L) (List.replicate L.length fV),WB s l L.length w 0 .aj [] pG] τ (a:=[0,1,2]) (b:=[2,0,1]) (by decide)
 have e:((bs,bg s)::(bp,cE (.ptr p 0) l .aj .aj .aj 0)::(db s l (bU L) (List.replicate L.length fV)++WB s l L.length w 0 .aj [] pG))++τ=[(bs,bg s),(bp,cE (.ptr p 0) l .aj .aj .aj 0)]++(db s l (bU L) (List.replicate L.length fV)++(WB s l L.length w 0 .aj [] pG++τ)):=by simp
 rw[e]
 exact h
theorem IY(l:Lay)(k bp lw:Nat)(mv:AV)(L:List Nat)(hL:L.length=k)(L':List Nat)(S τ:Hp)(ab:L'.length<k)(hS:S=[(bp,cE mv l (.ae lw 0 k 1) .aj .aj 0),(lw,L.map pW)]∧L'=L.take L'.length):ACalls Tryz.prog 129 (.int .i64 L'.length::[.ptr bp 0]) (S++τ) (fun r σ'=>∃w S',r=.iface 173 (.ptr w 0)∧σ'=S'++τ∧(S'=[(bp,cE mv l (.ae lw 0 k 1) .aj .aj 0),(lw,L.map pW)]∧L'++[w]=L.take (L'++[w]).length)):=by
 obtain⟨rfl,hL'⟩:=hS
 refine (Vt bp lw L'.length k L l mv .aj .aj 0 τ hL ab).mono ?_
 rintro _ _ ⟨rfl,rfl⟩
 refine⟨L.getD L'.length 0,_,rfl,rfl,rfl,?_⟩
 rw[List.length_append,List.length_singleton,List.take_succ_eq_append_getElem (by omega),← hL',List.getD_eq_getElem?_getD,List.getElem?_eq_getElem (by omega)]
 rfl
theorem JO(s:Sy)(l:Lay)(hs:LS s l)(bR:iz s l)(p q lb k:Nat)(L:List Nat)(aE:List (Int×Int×Unit))(σ:Hp)(hL:L.length=k)(hk:l.k=k)(cD:k≤64)(ob:aE.length≤100000):
  ACalls Tryz.prog 127 [gx p,.ae lb 0 k 1,.af lz aE] ((lb,L.map iW)::(aY p q (cP s l) (db s l (bU L) (List.replicate L.length fV))++σ)) (fun r σ'=>∃Z:List WZ,Z.map (·.x)=(cM s l aE).a.W∧r=.agg [.af (.int .i64) (cM s l aE).st,.af .bool (cM s l aE).dn,.int .i64 (cM s l aE).us]∧σ'=(lb,L.map iW)::(aY p q (cM s l aE).a.ws (db s l (bU L) Z)++σ)):=by
 have hI:((bU L).length:Int)=l.k:=by rw[wT];omega
 have vZ:nI.abs ⟨cP s l,List.replicate L.length fV⟩=⟨W0 l,cP s l⟩:=by
  show WA.mk ((List.replicate L.length fV).map (·.x)) (cP s l)=_
  rw[List.map_replicate]
  unfold W0
  rw[show l.k.toNat=L.length by omega];rfl
 have hl:(xk s l hs p q (bU L) (wU L) hI).L.length=k:=by
  show ((bU L).map _).length=_
  rw[List.length_map,wT];exact hL
 have hLL:(xk s l hs p q (bU L) (wU L) hI).L=L.map iW:=RA L
 have hE:=Wz (xk s l hs p q (bU L) (wU L) hI) lb aE (⟨cP s l,List.replicate L.length fV⟩:nI) σ (by omega) ob (by
  show tw s l (nI.abs ⟨cP s l,List.replicate L.length fV⟩)
  rw[vZ];exact Ve bR hs) (fun _ _=>rfl)
 have dV:(xk s l hs p q (bU L) (wU L) hI).run aE (nI.abs ⟨cP s l,List.replicate L.length fV⟩)=cM s l aE:=by
  unfold AWorld.run AWorld.init
  rw[hl,hLL,vZ]
  have e1:(L.map iW).map isNil=List.replicate k false:=by
   rw[← hL,List.map_map]
   exact List.map_eq_replicate_iff.2 fun _ _=>rfl
  rw[e1]
  unfold cM GA yi
  rw[show l.k.toNat=k by omega];rfl
 have Gw:ACalls Tryz.prog 127 [gx p,.ae lb 0 k 1,.af lz aE] ((lb,L.map iW)::(aY p q (cP s l) (db s l (bU L) (List.replicate L.length fV))++σ)) (Dz (xk s l hs p q (bU L) (wU L) hI) aE (nI.abs ⟨cP s l,List.replicate L.length fV⟩) [(lb,L.map iW)] σ):=by
  rw[hl,hLL]at hE;exact hE
 refine Gw.mono ?_
 rintro _ _ ⟨t',h1,rfl,rfl⟩
 have h1:nI.abs t'=(cM s l aE).a:=Eq.trans h1 (congrArg j8.a dV)
 rw[dV]
 refine⟨t'.Z,congrArg WA.W h1,rfl,?_⟩
 have h2:t'.ws=(cM s l aE).a.ws:=congrArg WA.ws h1
 rw[← h2];rfl
theorem IK(s:Sy)(k:Nat)(l:Lay)(hl:eP s k=l)(aE:List (Int×Int×Unit))(σ:Hp)(hf:Fit s)(he:cb s k=0)(ob:aE.length≤100000):
  ACalls Tryz.prog 66 [.agg (bg s),.int .i64 k,.af lz aE] σ (fun r σ'=>∃(p q lw:Nat) (L:List Nat) (Z:List WZ),r=.tup [.agg (cE (.ptr p 0) l (.ae lw 0 k 1) (.af (.int .i64) (cM s l aE).st) (.af .bool (cM s l aE).dn) (cM s l aE).us),.int .i64 0]∧L.length=k∧Z.map (·.x)=(cM s l aE).a.W∧σ'=(lw,L.map pW)::aY p q (cM s l aE).a.ws (db s l (bU L) Z++σ)∧iz s l):=by
 obtain⟨hs,yY⟩:=A2 hf he
 obtain⟨yw,tV,tU⟩:=hs.size
 obtain⟨im,cD⟩:=(Aa he).2
 have LR:=fun p q ws σ (cS:cN (eP s k)≤ws.length)=>KG s k p q ws σ hf he cS
 have hk:l.k=k:=by rw[← hl];exact Kh he
 have e1:AV.tup [.agg (de (eP s k)),.int .i64 (cb s k)]=.tup [.agg (de l),.int .i64 (cb s k)]:=by rw[hl]
 have Gw:cb s l.k=0:=by rw[hk];exact he
 have hL2:eP s l.k=l:=by rw[hk];exact hl
 rw[hl]at hs yw tV tU LR
 refine okF Tryz.func66 (by kernel_rfl) ?_
 generalize hE:cb s k=E at e1 he
 intro bs
 intro br
 intro bp
 refine aa.mk 2 _ _ rfl rfl ?_
 refine az [] (s4 (vb s k _ hf) (hE▸e1)) ?_
 refine ai.mk 0 _ _ rfl rfl ?_
 refine bS (fun c1 =>?_) (fun c1 =>?_)
 ·have c1:¬(cb s (↑k:Int)=0):=by simpa using c1
  refine ai.mk 1 _ _ rfl rfl ?_
  refine aa.mk 1 _ _ rfl rfl ?_
  exact absurd (hE.trans he) c1
 ·have c1:cb s (↑k:Int)=0:=by simpa using c1
  refine aa.mk 0 _ _ rfl rfl ?_
  refine az [] (Eg l _) ?_
  (refine .mk [] _ (MP _ _) ?_;rintro _ _ ⟨p,q,rfl,rfl⟩)
  rw[tU]
  obtain⟨us,ep⟩:∃us,List.replicate (cN l) (0:Int)=us:=⟨_,rfl⟩
  have cO:us.length=cN l:=by rw[← ep];exact List.length_replicate
  rw[ep,← cO]
  refine ai.mk 2 _ _ rfl rfl ?_
  refine aa.mk 2 _ _ rfl rfl ?_
  refine aa.mk 4 _ _ rfl rfl ?_
  (refine .mk [] _ (LR p q us _ (by omega)) ?_;rintro _ _ ⟨rfl,rfl,bR⟩)
  have xW:jV s l us=cP s l:=by rw[← ep];rfl
  rw[xW]
  refine .perm (σ2:=[(bs,bg s),(bp,cE (.ptr p 0) l .aj .aj .aj 0)]++aY p q (cP s l) ((br,cE .bu ⟨0,0,0,0⟩ .aj .aj .aj 0)::σ)) _ (kb [[(bs,bg s)],[(bp,cE (.ptr p 0) l .aj .aj .aj 0)],aY p q (cP s l) [],[(br,cE .bu ⟨0,0,0,0⟩ .aj .aj .aj 0)]] σ (a:=[0,1,2,3]) (b:=[2,1,3,0]) (by decide)) (VN 125 [.ptr bs 0,.ptr bp 0] (zt s l bs bp p) _ _ rfl k (by omega) (fun L S τ h1 h2=>QZ s l k bs bp p hf Gw hL2 hk L S τ h1 h2)) ?_
  rintro v _ ⟨L,S',acc,hL,v8,bc,rfl⟩
  unfold zt at v8
  subst v8
  obtain⟨lw,rfl,rfl⟩:=Dc bc (by omega)
  refine⟨_,.refl _,?_⟩
  refine ai.mk 2 _ _ rfl rfl ?_
  refine .sched [] (.one 0 false (.one 3 false (.one 4 false (.one 6 false (.alt 1 (.one 2 false (.one 5 false (.one 7 false (.one 8 false (.one 9 false .stop))))) (.one 5 false (.one 1 false (.one 2 false (.one 7 false (.one 8 false (.one 9 false .stop))))))))))) (by kernel_rfl) ?_
  refine And.intro ?_ ?_
  ·refine aa.mk 2 _ _ rfl rfl ?_
   refine .perm (σ2:=[(bp,cE (.ptr p 0) l (.ae lw 0 k 1) .aj .aj 0),(lw,L.map pW)]++((bs,bg s)::(db s l (bU L) (List.replicate L.length fV)++aY p q (cP s l) ((br,cE .bu ⟨0,0,0,0⟩ .aj .aj .aj 0)::σ)))) _ (kb [[(bp,cE (.ptr p 0) l (.ae lw 0 k 1) .aj .aj 0)],[(lw,L.map pW)],[(bs,bg s)],db s l (bU L) (List.replicate L.length fV),aY p q (cP s l) [],[(br,cE .bu ⟨0,0,0,0⟩ .aj .aj .aj 0)]] σ (a:=[0,1,2,3,4,5]) (b:=[1,2,0,3,4,5]) (by decide)) (Ls 129 [.ptr bp 0] (fun L' S=>S=[(bp,cE (.ptr p 0) l (.ae lw 0 k 1) .aj .aj 0),(lw,L.map pW)]∧L'=L.take L'.length) _ _ ⟨rfl,rfl⟩ k (by omega) (fun L' S τ h1 h2=>IY l k bp lw (.ptr p 0) L hL L' S τ h1 h2)) ?_
   rintro v2 _ ⟨L',S2,XT,Fa,⟨rfl,yT⟩,xC,rfl⟩
   rw[Fa,← hL,List.take_length]at yT
   rw[yT]at xC
   obtain⟨lb,rfl,rfl⟩:=Dc xC (by omega)
   refine⟨_,.refl _,?_⟩
   have hR:=JO s l hs bR p q lb k L aE ([(bp,cE (.ptr p 0) l (.ae lw 0 k 1) .aj .aj 0),(br,cE .bu ⟨0,0,0,0⟩ .aj .aj .aj 0),(bs,bg s),(lw,L.map pW)]++σ) hL hk (by omega) ob
   refine .perm _ (kb [[(lb,L.map iW)],aY p q (cP s l) [],db s l (bU L) (List.replicate L.length fV),[(bp,cE (.ptr p 0) l (.ae lw 0 k 1) .aj .aj 0)],[(br,cE .bu ⟨0,0,0,0⟩ .aj .aj .aj 0)],[(bs,bg s)],[(lw,L.map pW)]] σ (a:=[0,1,2,3,4,5,6]) (b:=[0,3,6,5,2,1,4]) (by decide)) hR ?_
   rintro _ _ ⟨Z,hZ,rfl,rfl⟩
   refine⟨_,kb [[(lb,L.map iW)],aY p q (cM s l aE).a.ws [],db s l (bU L) Z,[(bp,cE (.ptr p 0) l (.ae lw 0 k 1) .aj .aj 0)],[(br,cE .bu ⟨0,0,0,0⟩ .aj .aj .aj 0)],[(bs,bg s)],[(lw,L.map pW)]] σ (a:=[0,3,4,5,6,1,2]) (b:=[0,1,2,3,4,5,6]) (by decide),?_⟩
   refine ai.mk 1 _ _ rfl rfl ?_
   refine aa.mk 1 _ _ rfl rfl ?_
   refine ai.mk 2 _ _ rfl rfl ?_
   refine aa.mk 2 _ _ rfl rfl ?_
   exact .drop 0 4 (.done ⟨p,q,lw,L,Z,rfl,hL,hZ,rfl,bR⟩)
  ·refine .perm (σ2:=[(bp,cE (.ptr p 0) l (.ae lw 0 k 1) .aj .aj 0),(lw,L.map pW)]++((bs,bg s)::(db s l (bU L) (List.replicate L.length fV)++aY p q (cP s l) ((br,cE .bu ⟨0,0,0,0⟩ .aj .aj .aj 0)::σ)))) _ (kb [[(bp,cE (.ptr p 0) l (.ae lw 0 k 1) .aj .aj 0)],[(lw,L.map pW)],[(bs,bg s)],db s l (bU L) (List.replicate L.length fV),aY p q (cP s l) [],[(br,cE .bu ⟨0,0,0,0⟩ .aj .aj .aj 0)]] σ (a:=[0,1,2,3,4,5]) (b:=[1,2,0,3,4,5]) (by decide)) (Ls 129 [.ptr bp 0] (fun L' S=>S=[(bp,cE (.ptr p 0) l (.ae lw 0 k 1) .aj .aj 0),(lw,L.map pW)]∧L'=L.take L'.length) _ _ ⟨rfl,rfl⟩ k (by omega) (fun L' S τ h1 h2=>IY l k bp lw (.ptr p 0) L hL L' S τ h1 h2)) ?_
   rintro v2 _ ⟨L',S2,XT,Fa,⟨rfl,yT⟩,xC,rfl⟩
   rw[Fa,← hL,List.take_length]at yT
   rw[yT]at xC
   obtain⟨lb,rfl,rfl⟩:=Dc xC (by omega)
   refine⟨_,.refl _,?_⟩
   refine aa.mk 1 _ _ rfl rfl ?_
   have hR:=JO s l hs bR p q lb k L aE ([(bp,cE (.ptr p 0) l (.ae lw 0 k 1) .aj .aj 0),(br,cE .bu ⟨0,0,0,0⟩ .aj .aj .aj 0),(bs,bg s),(lw,L.map pW)]++σ) hL hk (by omega) ob
   refine .perm _ (kb [[(lb,L.map iW)],aY p q (cP s l) [],db s l (bU L) (List.replicate L.length fV),[(bp,cE (.ptr p 0) l (.ae lw 0 k 1) .aj .aj 0)],[(br,cE .bu ⟨0,0,0,0⟩ .aj .aj .aj 0)],[(bs,bg s)],[(lw,L.map pW)]] σ (a:=[0,1,2,3,4,5,6]) (b:=[0,3,6,5,2,1,4]) (by decide)) hR ?_
   rintro _ _ ⟨Z,hZ,rfl,rfl⟩
   refine⟨_,kb [[(lb,L.map iW)],aY p q (cM s l aE).a.ws [],db s l (bU L) Z,[(bp,cE (.ptr p 0) l (.ae lw 0 k 1) .aj .aj 0)],[(br,cE .bu ⟨0,0,0,0⟩ .aj .aj .aj 0)],[(bs,bg s)],[(lw,L.map pW)]] σ (a:=[0,3,4,5,6,1,2]) (b:=[0,1,2,3,4,5,6]) (by decide),?_⟩
   refine ai.mk 1 _ _ rfl rfl ?_
   refine aa.mk 1 _ _ rfl rfl ?_
   refine ai.mk 2 _ _ rfl rfl ?_
   refine aa.mk 2 _ _ rfl rfl ?_
   exact .drop 0 4 (.done ⟨p,q,lw,L,Z,rfl,hL,hZ,rfl,bR⟩)
end Go.Proofs.YtnpidbjdilnhlaaGreat
