import Derived.Test.YtnpidbjdilnhlaaGreatBn47
namespace Go.Proofs.YtnpidbjdilnhlaaGreat
open Go.RowKit
set_option maxRecDepth 100000
set_option maxHeartbeats 4000000
theorem Su(s:Sy)(k:Int)(p q:Nat)(ws:List Int)(σ:Hp)(hf:Fit s)(he:¬cb s k=0):ACalls Tryz.prog 15 [gx p,.agg (bg s),.int .i64 k] (aY p q ws σ) (aB (.int .i64 (cb s k)) (aY p q ws σ)):=by
 refine okF Tryz.func15 (by kernel_rfl) ?_
 intro aC
 refine aa.mk 0 _ _ rfl rfl ?_
 refine az [] (vb s k _ hf) ?_
 intro bM
 refine ai.mk 0 _ _ rfl rfl ?_
 refine bS (fun c3 =>?_) (fun c3 =>?_)
 ·exact .drop 0 2 (.done ⟨rfl,rfl⟩)
 ·have c3:cb s k=0:=by simpa using c3
  exact absurd c3 he
theorem Ss(s:Sy)(k:Int)(p q:Nat)(ws:List Int)(σ:Hp)(hf:Fit s)(he:cb s k=0)(hl:(ws.length:Int)<dC (eP s k) (eP s k).k):ACalls Tryz.prog 15 [gx p,.agg (bg s),.int .i64 k] (aY p q ws σ) (aB (.int .i64 6) (aY p q ws σ)):=by
 refine okF Tryz.func15 (by kernel_rfl) ?_
 intro aC
 refine aa.mk 0 _ _ rfl rfl ?_
 refine az [] (vb s k _ hf) ?_
 intro bM
 refine ai.mk 0 _ _ rfl rfl ?_
 refine bS (fun c3 =>?_) (fun c3 =>?_)
 ·have c3:¬(cb s k=0):=by simpa using c3
  exact absurd he c3
 ·refine az [] (cu _ _ _) ?_
  refine .sched [1,3] (upto [1,3] 5 0) (by kernel_rfl) ?_
  refine⟨_,mLen_,?_⟩
  refine aJ [3,3] (qL p q ws _) ?_
  refine aa.mk 0 _ _ rfl rfl ?_
  refine aJ [] (Eg _ _) ?_
  refine an (fun c4 =>?_) (fun c4 =>?_)
  ·exact .drop 0 2 (.done ⟨rfl,rfl⟩)
  ·exact absurd hl c4
def kg(s:Sy)(l:Lay):List (List Int):=xK (nN s) l.k.toNat s.bQ s.entry
def jV(s:Sy)(l:Lay)(ws:List Int):List Int:=tp (nN s) (nW l) (fun v=>eE s v) (kg s l) ws
theorem Q5{s:Sy}(hg:Good s):cU s.n s.bQ=true:=by
 unfold cU
 have h1:=hg.n1
 have h2:=hg.n2
 have h3:=hg.el
 simp only[Bool.and_eq_true,decide_eq_true_eq,List.all_eq_true]
 exact⟨⟨⟨h1,h2⟩,h3⟩,fun e he=>⟨iu.2 (hg.Ff e he).1,iu.2 (hg.Ff e he).2⟩⟩
theorem Ct(s:Sy)(l:Lay):(kg s l).length=l.k.toNat:=pU _ _ _
theorem Oc{f:FuncId}{xs:List AV}{σ gN σ2:Hp}{x:AV}(h:ACalls Tryz.prog f xs σ (aB x gN))(e:gN=σ2):ACalls Tryz.prog f xs σ (aB x σ2):=e▸h
theorem Qh{s:Sy}{l:Lay}(hs:LS s l){v:Nat}(hv:v<nN s)(us x:List Int):fj (vz (cy l v) x us (cw l.words)) (wr (gp l+(v:Nat))) 1=(jD (v*nW l) x us (nW l)).set (nN s*nW l+v) 1:=by
 have h1:=hs.nn
 have h2:=hs.ww
 have h3:=pj h1.2.2 h2.2
 have h4:(v+1)*nW l≤nN s*nW l:=Nat.mul_le_mul_right _ hv
 rw[Nat.succ_mul]at h4
 rw[hs.LW hv,hs.A9 hv,Ia _ (by show _+nW l≤_;omega)]
 exact jn _
theorem OX{s:Sy}{l:Lay}(hs:LS s l)(us:List Int):fj us (gU l) (wu s.n)=us.set (nN s*nW l+nN s) (nN s:Int):=by
 have h1:=hs.nn
 rw[hs.count,jn,show wu s.n=(nN s:Int) by show IntKind.u64.wrap s.n=_;rw[IntKind.wrap_u64];omega]
theorem OW{a:Nat}(ha:a≤1000000)(us:List Int):fj (fj us (a:Int) 1) (e9 (a:Int)) 1=(us.set a 1).set (a+1) 1:=by
 rw[jn,show e9 (a:Int)=((a+1:Nat):Int) from (fh (by omega) (by omega)).trans (Int.natCast_add a 1).symm,jn]
theorem HI{s:Sy}{l:Lay}(hs:LS s l){a i:Nat}(ha:a≤1000000)(hi:i≤1000000):wr (wr ((a:Int)+2)+(wr (1+(i:Int))).tmod (fE l))=((a+2+(1+i) % (nN s+1):Nat):Int):=by
 have h1:=hs.nn
 have hm:=Nat.mod_lt (1+i) (show 0<nN s+1 by omega)
 rw[fh (z:=(a:Int)+2) (by omega) (by omega),fh (z:=1+(i:Int)) (by omega) (by omega),hs.room.1,show (1+(i:Int)).tmod ((nN s+1:Nat):Int)=(((1+i) % (nN s+1):Nat):Int) by rw[show (1+(i:Int))=((1+i:Nat):Int) by omega];rfl]
 rw[fh (by omega) (by omega)]
 omega
theorem Qg{a r:Nat}(ha:a≤1000000)(x us:List Int)(hx:x.length≤1000000):fj (fA a r x ((us.set a 1).set (a+1) 1) x.length) (wr ((a:Int)+1)) (wu (wr (1+(x.length:Int))))=rp a r x us:=by
 rw[fh (z:=(a:Int)+1) (by omega) (by omega),fh (z:=1+(x.length:Int)) (by omega) (by omega),show wu (1+(x.length:Int))=((1+x.length:Nat):Int) by show IntKind.u64.wrap _=_;rw[IntKind.wrap_u64];omega,show (a:Int)+1=((a+1:Nat):Int) by omega,jn]
 exact RT _ _ _ _
theorem Qf{us:List Int}{b:Nat}{z:Int}(hz:0≤z)(tV:z≤1000000):fj us (b:Int) (wu z)=us.set b z:=by
 rw[jn,show wu z=z by show IntKind.u64.wrap _=_;rw[IntKind.wrap_u64];omega]
structure iz(s:Sy)(l:Lay):Prop where
 all:ft (nN s) (nq (nN s) s.bQ s.entry)
 own:∀i:Nat,i<nN s→0≤(gu (nN s) l.k.toNat s.bQ).getD i 0∧(gu (nN s) l.k.toNat s.bQ).getD i 0<(l.k.toNat:Int)
 flat:ft (nN s) (eI (nN s) s.bQ).flatten
 post:ft (nN s) (gH (nN s) s.bQ s.entry)
theorem iz.rows{s:Sy}{l:Lay}(h:iz s l)(hn:nN s≤256):∀x∈kg s l,x.length≤256∧∀z∈x,0≤z∧z<(nN s:Int):=by
 intro x hx
 unfold kg xK gF at hx
 obtain⟨u,_,rfl⟩:=List.mem_map.1 hx
 have hlen:=List.length_filter_le (fun y=>decide ((gu (nN s) l.k.toNat s.bQ).getD y.toNat 0=(u:Int))) (nq (nN s) s.bQ s.entry).reverse
 rw[List.length_reverse]at hlen
 have:=h.all.len
 exact⟨by omega,fun z hz=>h.all.rg z (List.mem_reverse.1 (List.mem_filter.1 hz).1)⟩
theorem Uh(s:Sy)(l:Lay)(k:Nat)(σ:Hp)(hf:Fit s)(hg:Good s)(hk:l.k=k)(h1:1≤k)(h2:k≤64):ACalls Tryz.prog 51 [.int .i64 s.n,.af bA s.bQ,.af (.int .i64) s.entry,.int .i64 k] σ (fun r σ'=>r=.tup [.af (.slice (.int .i64)) (kg s l),.int .i64 0]∧σ'=σ∧iz s l):=by
 have hn:s.n=(nN s:Int):=by have:=hg.n1;unfold nN;omega
 have hr:=Q5 hg
 have he:=hg.GB
 have cD:k=l.k.toNat:=by omega
 subst cD
 unfold kg
 rw[hn]at hr he ⊢
 refine (Vs (nN s) s.bQ s.entry l.k.toNat σ hf.tH hf.sc hr he h1 h2).mono ?_
 rintro _ _ ⟨rfl,rfl,hA,gA,fy,vP⟩
 exact⟨rfl,rfl,hA,gA,fy,vP⟩
theorem KG(s:Sy)(k:Nat)(p q:Nat)(ws:List Int)(σ:Hp)(hf:Fit s)(he:cb s k=0)(cS:cN (eP s k)≤ws.length):ACalls Tryz.prog 15 [gx p,.agg (bg s),.int .i64 k] (aY p q ws σ) (fun r σ'=>r=.int .i64 0∧σ'=aY p q (jV s (eP s k) ws) σ∧iz s (eP s k)):=by
 obtain⟨hs,yY⟩:=A2 hf he
 obtain⟨yw,tV,tU⟩:=hs.size
 obtain⟨hc,im,cD⟩:=Aa he
 have hg:=DP hc
 have hn:=hs.nn
 have hw:=hs.ww
 have pC:=hs.low
 have hN:=hs.n
 refine okF Tryz.func15 (by kernel_rfl) ?_
 obtain⟨l,hl⟩:∃l,eP s k=l:=⟨_,rfl⟩
 have e1:AV.tup [.agg (de (eP s k)),.int .i64 (cb s k)]=.tup [.agg (de l),.int .i64 (cb s k)]:=by rw[hl]
 rw[hl]at hs yY yw tV tU hw pC hN cS ⊢
 generalize hE:cb s k=E at e1 he
 intro b4
 refine aa.mk 0 _ _ rfl rfl ?_
 refine az [] (s4 (vb s k _ hf) (hE▸e1)) ?_
 intro b7
 refine ai.mk 0 _ _ rfl rfl ?_
 refine bS (fun c3 =>?_) (fun c3 =>?_)
 ·have c3:¬(cb s (↑k:Int)=0):=by simpa using c3
  exact absurd (hE.trans he) c3
 refine az [] (cu _ _ _) ?_
 refine .sched [1,3] (upto [1,3] 5 0) (by kernel_rfl) ?_
 refine⟨_,mLen_,?_⟩
 refine aJ [3,3] (qL p q ws _) ?_
 refine aa.mk 0 _ _ rfl rfl ?_
 refine aJ [] (Eg _ _) ?_
 refine an (p:=(ws.length:Int)<dC l l.k) (fun c4 =>?_) (fun c4 =>?_)
 ·omega
 refine aa.mk 1 _ _ rfl rfl ?_
 refine aU (S:=Nat) (fun v=>[(0,gx p),(2,.int .i64 k),(4,.ptr b4 0),(7,.ptr b7 0),(36,.int .i64 s.n),(37,.int .i64 v)]) (fun v=>(b7,de l)::(b4,bg s)::aY p q (gq (nN s) (nW l) (fun v=>eE s v) ws v) σ) (fun v=>v≤nN s) (fun v=>nN s-v) 0 ⟨Nat.zero_le _,⟨rfl,rfl,rfl,rfl,rfl,rfl,trivial⟩,rfl⟩ ?_
 intro v g k8
 have hv:v≤nN s:=k8
 clear k8
 have oy:=pV (nN s) (nW l) (fun v=>eE s v) ws v
 refine an (p:=(v:Int)<s.n) (fun ab =>?_) (fun aq =>?_)
 ·have ab:v<nN s:=by omega
  have qp:gb s v=0:=(CW hc ⟨by omega,by omega⟩).symm
  refine aa.mk 1 _ _ rfl rfl ?_
  refine az [] (QE s v _ hf) ?_
  rw[xa qp]
  refine aa.mk 0 _ _ rfl rfl ?_
  refine az [] (AU l v _) ?_
  refine az [3,3] (XW p q _ _ _ _ _ _) ?_
  refine .sched [2] (upto [2] 10 0) (by kernel_rfl) ?_
  refine aa.mk 2 _ _ rfl rfl ?_
  refine aJ [] (DX l _) ?_
  refine dL.mk hStore_ ?_
  refine⟨_,mStore_,?_⟩
  refine az [] (aStore p q _ _ _ _) ?_
  exact aH (v+1) (by show nN s-(v+1)<nN s-v;omega) ab ⟨rfl,rfl,rfl,rfl,rfl,aI (by omega),trivial⟩ (.pull [3,3] (aF (congrArg (fun z=>_::_::aY p q z σ) (Qh hs ab _ _))))
 have aq:v=nN s:=by omega
 subst aq
 obtain⟨us,ep⟩:∃us,gq (nN s) (nW l) (fun v=>eE s v) ws (nN s)=us:=⟨_,rfl⟩
 rw[ep]at oy ⊢
 refine .sched [2] (upto [2] 11 0) (by kernel_rfl) ?_
 refine aa.mk 0 _ _ rfl rfl ?_
 refine aJ [] (DX l _) ?_
 refine aa.mk 1 _ _ rfl rfl ?_
 refine dL.mk hStore_ ?_
 refine⟨_,mStore_,?_⟩
 refine az [3,3] (aStore p q _ _ _ _) ?_
 refine aa.mk 3 _ _ rfl rfl ?_
 refine aa.mk 3 _ _ rfl rfl ?_
 refine aa.mk 3 _ _ rfl rfl ?_
 refine .mk [] _ (Uh s l k _ hf hg yY (by omega) (by omega)) ?_
 rintro _ τ ⟨rfl,sm,bR⟩
 subst τ
 have hx:=bR.rows hn.2.2
 have cc:=Ct s l
 have mj:jV s l ws=fS (nN s*nW l+nN s+1) (nN s+3) (nN s+1) (kg s l) ((gq (nN s) (nW l) (fun v=>eE s v) ws (nN s)).set (nN s*nW l+nN s) (nN s:Int)) (kg s l).length:=rfl
 rw[ep]at mj
 generalize kg s l=ls at hx cc mj
 refine aU (S:=Nat) (fun w=>[(0,gx p),(7,.ptr b7 0),(85,.af (.slice (.int .i64)) ls),(86,.int .i64 ls.length),(87,.int .i64 w)]) (fun w=>aY p q (fS (nN s*nW l+nN s+1) (nN s+3) (nN s+1) ls (us.set (nN s*nW l+nN s) (nN s:Int)) w) ((b7,de l)::(b4,bg s)::σ)) (fun w=>w≤ls.length) (fun w=>ls.length-w) 0 ⟨Nat.zero_le _,⟨rfl,rfl,rfl,rfl,rfl,trivial⟩,congrArg (fun z=>aY p q z _) (OX hs us)⟩ ?_
 intro w g2 yA
 have Bt:w≤ls.length:=yA
 clear yA
 refine an (p:=(w:Int)<(ls.length:Int)) (fun ab =>?_) (fun aq =>?_)
 rotate_left
 ·have aq:w=ls.length:=by omega
  subst aq
  rw[mj]
  exact .drop 2 2 (.done ⟨rfl,rfl,bR⟩)
 have ab:w<ls.length:=by omega
 obtain⟨x,mC⟩:∃x:List Int,ls[w]=x:=⟨_,rfl⟩
 obtain⟨tW,yx⟩:=hx _ (List.getElem_mem ab)
 rw[mC]at tW yx
 have yy:ls.getD w []=x:=by rw[List.getD_eq_getElem?_getD,List.getElem?_eq_getElem ab,mC];rfl
 have ue:=hs.qv (k:=w) (by omega)
 have bF:fS (nN s*nW l+nN s+1) (nN s+3) (nN s+1) ls (us.set (nN s*nW l+nN s) (nN s:Int)) (w+1)=rp (nN s*nW l+nN s+1+w*(nN s+3)) (nN s+1) x (fS (nN s*nW l+nN s+1) (nN s+3) (nN s+1) ls (us.set (nN s*nW l+nN s) (nN s:Int)) w):=by rw[fS,yy]
 have pP:nN s*nW l+nN s+1+w*(nN s+3)≤1000000:=by
  have h3:=pj hn.2.2 hw.2
  have h4:w*(nN s+3)≤64*259:=Nat.mul_le_mul (by omega) (by omega)
  omega
 refine ah.mk rfl (aT.mk x (by omega) ((get_some ab).trans (congrArg some mC)) ?_)
 refine aa.mk 2 _ _ rfl rfl ?_
 refine az [] (s4 (xh l w _) (congrArg (fun z=>AV.agg [.int .i64 z,.int .i64 (fE l)]) ue)) ?_
 generalize nN s*nW l+nN s+1+w*(nN s+3)=a at ue bF pP
 generalize fS (nN s*nW l+nN s+1) (nN s+3) (nN s+1) ls (us.set (nN s*nW l+nN s) (nN s:Int)) w=vs at bF
 intro b16
 refine ai.mk 0 _ _ rfl rfl ?_
 refine aa.mk 0 _ _ rfl rfl ?_
 refine az [2,2] (Oc (Ul p q vs a (fE l) _) (congrArg (fun z=>aY p q z _) (OW pP vs))) ?_
 refine aU (S:=Nat) (fun i=>[(0,gx p),(7,.ptr b7 0),(15,.af (.int .i64) x),(16,.ptr b16 0),(85,.af (.slice (.int .i64)) ls),(86,.int .i64 ls.length),(87,.int .i64 w),(98,.af (.int .i64) x),(99,.int .i64 x.length),(100,.int .i64 i)]) (fun i=>aY p q (fA a (nN s+1) x ((vs.set a 1).set (a+1) 1) i) ((b16,[.int .i64 a,.int .i64 (fE l)])::(b7,de l)::(b4,bg s)::σ)) (fun i=>i≤x.length) (fun i=>x.length-i) 0 ⟨Nat.zero_le _,⟨rfl,rfl,rfl,rfl,rfl,rfl,rfl,rfl,rfl,rfl,trivial⟩,rfl⟩ ?_
 intro i g3 cY
 have hi:i≤x.length:=cY
 clear cY
 refine an (p:=(i:Int)<(x.length:Int)) (fun bY =>?_) (fun gh =>?_)
 ·have bY:i<x.length:=by omega
  obtain⟨z,hz⟩:∃z,x[i]=z:=⟨_,rfl⟩
  have eU:=yx z (hz▸List.getElem_mem bY)
  have FH:x.getD i 0=z:=by rw[List.getD_eq_getElem?_getD,List.getElem?_eq_getElem bY,hz];rfl
  have Mt:fA a (nN s+1) x ((vs.set a 1).set (a+1) 1) (i+1)=(fA a (nN s+1) x ((vs.set a 1).set (a+1) 1) i).set (a+2+(1+i) % (nN s+1)) z:=by rw[fA,FH]
  have jd:=HI hs (i:=i) pP (by omega)
  generalize fA a (nN s+1) x ((vs.set a 1).set (a+1) 1) i=ys at Mt
  have ar:fj ys (wr (wr ((a:Int)+2)+(wr (1+(i:Int))).tmod (fE l))) (wu z)=fA a (nN s+1) x ((vs.set a 1).set (a+1) 1) (i+1):=by
   rw[jd,Qf (by omega) (by omega),Mt]
  refine ah.mk rfl (aT.mk z (by omega) ((get_some bY).trans (congrArg some hz)) ?_)
  refine .sched [7] (upto [7] 16 0) (by kernel_rfl) ?_
  refine aa.mk 2 _ _ rfl rfl ?_
  refine aa.mk 3 _ _ rfl rfl ?_
  refine aJ [] (Eh l _) ?_
  refine ah.mk (by rw[hs.room.1];omega) ?_
  refine dL.mk hStore_ ?_
  refine⟨_,mStore_,?_⟩
  refine az [] (aStore p q _ _ _ _) ?_
  exact aH (i+1) (by show x.length-(i+1)<x.length-i;omega) bY ⟨rfl,rfl,rfl,rfl,rfl,rfl,rfl,rfl,rfl,aI (by omega),trivial⟩ (aF (congrArg (fun z=>aY p q z _) ar))
 have gh:i=x.length:=by omega
 subst gh
 refine aa.mk 2 _ _ rfl rfl ?_
 refine⟨_,mStore_,?_⟩
 refine az [] (aStore p q _ _ _ _) ?_
 exact aH (w+1) (by show ls.length-(w+1)<ls.length-w;omega) ab ⟨rfl,rfl,rfl,rfl,aI (by omega),trivial⟩ (.drop 2 1 (aF (congrArg (fun z=>aY p q z _) ((Qg pP x vs (by omega)).trans bF.symm))))
end Go.Proofs.YtnpidbjdilnhlaaGreat
