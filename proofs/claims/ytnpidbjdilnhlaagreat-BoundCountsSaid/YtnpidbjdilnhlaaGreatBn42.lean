import Derived.Test.YtnpidbjdilnhlaaGreatBn40
import Derived.Test.YtnpidbjdilnhlaaGreatBn41
import Derived.Test.YtnpidbjdilnhlaaGreatBn18
import Derived.Test.YtnpidbjdilnhlaaGreatBn30
import Derived.Test.YtnpidbjdilnhlaaGreatBn23
import Derived.Test.YtnpidbjdilnhlaaGreatBn20
namespace Go.Proofs.YtnpidbjdilnhlaaGreat
open Go.RowKit
set_option maxRecDepth 100000
def l8(b:Nat)(a ws:List Int):Nat→List Int
 | 0=>ws
 | i+1=>(l8 b a ws i).set (b+i) (wd a i)
theorem FT(b:Nat)(a ws:List Int)(k:Nat):(l8 b a ws k).length=ws.length:=by
 induction k with
 | zero=>rfl
 | succ k ih=>rw[l8,List.length_set,ih]
theorem Md{b:Nat}{a ws:List Int}:∀(k:Nat),b+k≤1000000000→yd (b:Int) a ws k=l8 b a ws k
 | 0,_=>rfl
 | k+1,h=>by
  rw[yd,l8,Md k (by omega),show wr ((b:Int)+(k:Int))=((b+k:Nat):Int) from (fu (by omega) (by omega)).trans (Int.natCast_add b k).symm]
  exact jJ _
def k8(N W:Nat)(st:Nat→List Int)(ws:List Int):Nat→List Int
 | 0=>ws
 | v+1=>(l8 (v*W) (st v) (k8 N W st ws v) W).set (N*W+v) 1
theorem wY(N W:Nat)(st:Nat→List Int)(ws:List Int)(k:Nat):(k8 N W st ws k).length=ws.length:=by
 induction k with
 | zero=>rfl
 | succ k ih=>rw[k8,List.length_set,FT,ih]
def iM(b r:Nat)(x ws:List Int):Nat→List Int
 | 0=>ws
 | i+1=>(iM b r x ws i).set (b+2+(1+i) % r) (x.getD i 0)
theorem LK(b r:Nat)(x ws:List Int)(k:Nat):(iM b r x ws k).length=ws.length:=by
 induction k with
 | zero=>rfl
 | succ k ih=>rw[iM,List.length_set,ih]
theorem OQ(b r:Nat)(x ws:List Int)(y:Int):∀k,iM b r x (ws.set (b+1) y) k=(iM b r x ws k).set (b+1) y
 | 0=>rfl
 | k+1=>by rw[iM,iM,OQ b r x ws y k,List.set_comm _ _ (by omega)]
def lQ(b r:Nat)(x ws:List Int):List Int:=iM b r x ((ws.set b 1).set (b+1) ((1+x.length:Nat):Int)) x.length
theorem Tq(b r:Nat)(x ws:List Int):(lQ b r x ws).length=ws.length:=by rw[lQ,LK,List.length_set,List.length_set]
theorem W6(b r:Nat)(x ws:List Int):(iM b r x ((ws.set b 1).set (b+1) 1) x.length).set (b+1) ((1+x.length:Nat):Int)=lQ b r x ws:=by
 rw[← OQ,List.set_set];rfl
def jC(b0 d r:Nat)(ls:List (List Int))(ws:List Int):Nat→List Int
 | 0=>ws
 | w+1=>lQ (b0+w*d) r (ls.getD w []) (jC b0 d r ls ws w)
theorem K8(b0 d r:Nat)(ls:List (List Int))(ws:List Int)(k:Nat):(jC b0 d r ls ws k).length=ws.length:=by
 induction k with
 | zero=>rfl
 | succ k ih=>rw[jC,Tq,ih]
def vT(N W:Nat)(st:Nat→List Int)(ls:List (List Int))(ws:List Int):List Int:=
 jC (N*W+N+1) (N+3) (N+1) ls ((k8 N W st ws N).set (N*W+N) (N:Int)) ls.length
theorem RK(N W:Nat)(st:Nat→List Int)(ls:List (List Int))(ws:List Int):(vT N W st ls ws).length=ws.length:=by rw[vT,K8,List.length_set,wY]
theorem xK(x:List Int)(i a:Nat)(z:Int)(hi:i<x.length):(x.set i z).getD a 0=if a=i then z else x.getD a 0:=by
 rw[List.getD_eq_getElem?_getD,List.getD_eq_getElem?_getD,List.getElem?_set]
 by_cases h:a=i
 ·subst h;rw[if_pos rfl,if_pos hi,if_pos rfl];rfl
 ·rw[if_neg (fun e=>h e.symm),if_neg h]
theorem oK(x:List Int)(i a:Nat)(z:Int)(h:a≠i):(x.set i z).getD a 0=x.getD a 0:=by
 rw[List.getD_eq_getElem?_getD,List.getD_eq_getElem?_getD,List.getElem?_set,if_neg (fun e=>h e.symm)]
theorem M1{b:Nat}{l ws:List Int}{a:Nat}:∀k,b+k≤a→(l8 b l ws k).getD a 0=ws.getD a 0
 | 0,_=>rfl
 | k+1,h=>by rw[l8,oK _ _ _ _ (by omega)];exact M1 k (by omega)
set_option maxRecDepth 100000
set_option maxHeartbeats 4000000
def mW(s:Sy)(l:Lay):List (List Int):=yc (nN s) l.k.toNat s.aR s.entry
def xZ(s:Sy)(l:Lay)(ws:List Int):List Int:=vT (nN s) (nW l) (fun v=>gu s v) (mW s l) ws
theorem V1{s:Sy}(hg:Good s):ej s.n s.aR=true:=by
 unfold ej
 have h1:=hg.n1
 have h2:=hg.n2
 have h3:=hg.el
 simp only[Bool.and_eq_true,decide_eq_true_eq,List.all_eq_true]
 exact⟨⟨⟨h1,h2⟩,h3⟩,fun e he=>⟨jm.2 (hg.yn e he).1,jm.2 (hg.yn e he).2⟩⟩
theorem KV(s:Sy)(l:Lay):(mW s l).length=l.k.toNat:=uU _ _ _
theorem SD{f:FuncId}{xs:List AV}{σ iG σ2:Hp}{x:AV}(h:ACalls Tryz.prog f xs σ (az x iG))(e:iG=σ2):ACalls Tryz.prog f xs σ (az x σ2):=e▸h
theorem UZ{s:Sy}{l:Lay}(hs:LS s l){v:Nat}(hv:v<nN s)(us x:List Int):fN (yd (aK l v) x us (cw l.words)) (wr (bR l+(v:Nat))) 1=(l8 (v*nW l) x us (nW l)).set (nN s*nW l+v) 1:=by
 have h1:=hs.nn
 have h2:=hs.ww
 have h3:=pO h1.2.2 h2.2
 have h4:(v+1)*nW l≤nN s*nW l:=Nat.mul_le_mul_right _ hv
 rw[Nat.succ_mul]at h4
 rw[hs.Qt hv,hs.xY hv,Md _ (by show _+nW l≤_;omega)]
 exact jJ _
theorem To{s:Sy}{l:Lay}(hs:LS s l)(us:List Int):fN us (bN l) (wu s.n)=us.set (nN s*nW l+nN s) (nN s:Int):=by
 have h1:=hs.nn
 rw[hs.count,jJ,show wu s.n=(nN s:Int) by show IntKind.u64.wrap s.n=_;rw[IntKind.wrap_u64];omega]
theorem Tl{a:Nat}(ha:a≤1000000)(us:List Int):fN (fN us (a:Int) 1) (eJ (a:Int)) 1=(us.set a 1).set (a+1) 1:=by
 rw[jJ,show eJ (a:Int)=((a+1:Nat):Int) from (fu (by omega) (by omega)).trans (Int.natCast_add a 1).symm,jJ]
theorem Tn{s:Sy}{l:Lay}(hs:LS s l){a i:Nat}(ha:a≤1000000)(hi:i≤1000000):wr (wr ((a:Int)+2)+(wr (1+(i:Int))).tmod (du l))=((a+2+(1+i) % (nN s+1):Nat):Int):=by
 have h1:=hs.nn
 have hm:=Nat.mod_lt (1+i) (show 0<nN s+1 by omega)
 rw[fu (z:=(a:Int)+2) (by omega) (by omega),fu (z:=1+(i:Int)) (by omega) (by omega),hs.room.1,show (1+(i:Int)).tmod ((nN s+1:Nat):Int)=(((1+i) % (nN s+1):Nat):Int) by rw[show (1+(i:Int))=((1+i:Nat):Int) by omega];rfl]
 rw[fu (by omega) (by omega)]
 omega
theorem UY{a r:Nat}(ha:a≤1000000)(x us:List Int)(hx:x.length≤1000000):fN (iM a r x ((us.set a 1).set (a+1) 1) x.length) (wr ((a:Int)+1)) (wu (wr (1+(x.length:Int))))=lQ a r x us:=by
 rw[fu (z:=(a:Int)+1) (by omega) (by omega),fu (z:=1+(x.length:Int)) (by omega) (by omega),show wu (1+(x.length:Int))=((1+x.length:Nat):Int) by show IntKind.u64.wrap _=_;rw[IntKind.wrap_u64];omega,show (a:Int)+1=((a+1:Nat):Int) by omega,jJ]
 exact W6 _ _ _ _
theorem UX{us:List Int}{b:Nat}{z:Int}(hz:0≤z)(eX:z≤1000000):fN us (b:Int) (wu z)=us.set b z:=by
 rw[jJ,show wu z=z by show IntKind.u64.wrap _=_;rw[IntKind.wrap_u64];omega]
structure kz(s:Sy)(l:Lay):Prop where
 all:iF (nN s) (nj (nN s) s.aR s.entry)
 own:∀i:Nat,i<nN s→0≤(lr (nN s) l.k.toNat s.aR).getD i 0∧(lr (nN s) l.k.toNat s.aR).getD i 0<(l.k.toNat:Int)
 flat:iF (nN s) (iI (nN s) s.aR).flatten
 post:iF (nN s) (nM (nN s) s.aR s.entry)
theorem kz.rows{s:Sy}{l:Lay}(h:kz s l)(hn:nN s≤256):∀x∈mW s l,x.length≤256∧∀z∈x,0≤z∧z<(nN s:Int):=by
 intro x hx
 unfold mW yc kW at hx
 obtain⟨u,_,rfl⟩:=List.mem_map.1 hx
 have hlen:=List.length_filter_le (fun y=>decide ((lr (nN s) l.k.toNat s.aR).getD y.toNat 0=(u:Int))) (nj (nN s) s.aR s.entry).reverse
 rw[List.length_reverse]at hlen
 have:=h.all.len
 exact⟨by omega,fun z hz=>h.all.rg z (List.mem_reverse.1 (List.mem_filter.1 hz).1)⟩
theorem Zh(s:Sy)(l:Lay)(k:Nat)(σ:Hp)(hf:Fit s)(hg:Good s)(hk:l.k=k)(h1:1≤k)(h2:k≤64):ACalls Tryz.prog 51 [.int .i64 s.n,.ah cI s.aR,.ah (.int .i64) s.entry,.int .i64 k] σ (fun r σ'=>r=.tup [.ah (.slice (.int .i64)) (mW s l),.int .i64 0]∧σ'=σ∧kz s l):=by
 have hn:s.n=(nN s:Int):=by have:=hg.n1;unfold nN;omega
 have hr:=V1 hg
 have he:=hg.ent
 have dm:k=l.k.toNat:=by omega
 subst dm
 unfold mW
 rw[hn]at hr he ⊢
 refine (aap (nN s) s.aR s.entry l.k.toNat σ hf.um hf.AY hr he h1 h2).mono ?_
 rintro _ _ ⟨rfl,rfl,hA,gV,fB,BJ⟩
 exact⟨rfl,rfl,hA,gV,fB,BJ⟩
theorem Zv(s:Sy)(k:Nat)(p q:Nat)(ws:List Int)(σ:Hp)(hf:Fit s)(he:bF s k=0)(dz:lD (gP s k)≤ws.length):ACalls Tryz.prog 15 [iY p,.agg (bD s),.int .i64 k] (aX p q ws σ) (fun r σ'=>r=.int .i64 0∧σ'=aX p q (xZ s (gP s k) ws) σ∧kz s (gP s k)):=by
 obtain⟨hs,FB⟩:=D5 hf he
 obtain⟨yA,eX,ki⟩:=hs.size
 obtain⟨hc,lN,dm⟩:=GW he
 have hg:=HE hc
 have hn:=hs.nn
 have hw:=hs.ww
 have eo:=hs.low
 have hN:=hs.n
 refine okF Tryz.func15 (by kernel_rfl) ?_
 obtain⟨l,hl⟩:∃l,gP s k=l:=⟨_,rfl⟩
 have e1:AV.tup [.agg (fH (gP s k)),.int .i64 (bF s k)]=.tup [.agg (fH l),.int .i64 (bF s k)]:=by rw[hl]
 rw[hl]at hs FB yA eX ki hw eo hN dz ⊢
 generalize hE:bF s k=E at e1 he
 intro b4
 refine aa 0 ?_
 refine ax [] (xf (DU s k _ hf) (hE▸e1)) ?_
 intro b7
 refine ai 0 ?_
 refine dx (fun c3 =>?_) (fun c3 =>?_)
 ·have c3:¬(bF s (↑k:Int)=0):=by simpa using c3
  exact absurd (hE.trans he) c3
 refine ax [] (cy _ _ _) ?_
 refine .sched [1,3] (upto [1,3] 5 0) (by kernel_rfl) ?_
 refine⟨_,mLen_,?_⟩
 refine aD [3,3] (Q6 p q ws _) ?_
 refine aa 0 ?_
 refine aD [] (PR _ _) ?_
 refine ao (p:=(ws.length:Int)<fe l l.k) (fun c4 =>?_) (fun c4 =>?_)
 ·omega
 refine aa 1 ?_
 refine bO (S:=Nat) (fun v=>[(0,iY p),(2,.int .i64 k),(4,.ptr b4 0),(7,.ptr b7 0),(36,.int .i64 s.n),(37,.int .i64 v)]) (fun v=>(b7,fH l)::(b4,bD s)::aX p q (k8 (nN s) (nW l) (fun v=>gu s v) ws v) σ) (fun v=>v≤nN s) (fun v=>nN s-v) 0 ⟨Nat.zero_le _,⟨rfl,rfl,rfl,rfl,rfl,rfl,trivial⟩,rfl⟩ ?_
 intro v g pr
 have hv:v≤nN s:=pr
 clear pr
 have uA:=wY (nN s) (nW l) (fun v=>gu s v) ws v
 refine ao (p:=(v:Int)<s.n) (fun ab =>?_) (fun au =>?_)
 ·have ab:v<nN s:=by omega
  have nP:gx s v=0:=(CF hc ⟨by omega,by omega⟩).symm
  refine aa 1 ?_
  refine ax [] (Vs s v _ hf) ?_
  rw[zW nP]
  refine aa 0 ?_
  refine ax [] (DV l v _) ?_
  refine ax [3,3] (acF p q _ _ _ _ _ _) ?_
  refine .sched [2] (upto [2] 10 0) (by kernel_rfl) ?_
  refine aa 2 ?_
  refine aD [] (xA l _) ?_
  refine dS.mk hStore_ ?_
  refine⟨_,mStore_,?_⟩
  refine ax [] (aStore p q _ _ _ _) ?_
  exact bg (v+1) (by show nN s-(v+1)<nN s-v;omega) ab ⟨rfl,rfl,rfl,rfl,rfl,a8 (by omega),trivial⟩ (.pull [3,3] (aF (congrArg (fun z=>_::_::aX p q z σ) (UZ hs ab _ _))))
 have au:v=nN s:=by omega
 subst au
 obtain⟨us,fA⟩:∃us,k8 (nN s) (nW l) (fun v=>gu s v) ws (nN s)=us:=⟨_,rfl⟩
 rw[fA]at uA ⊢
 refine .sched [2] (upto [2] 11 0) (by kernel_rfl) ?_
 refine aa 0 ?_
 refine aD [] (xA l _) ?_
 refine aa 1 ?_
 refine dS.mk hStore_ ?_
 refine⟨_,mStore_,?_⟩
 refine ax [3,3] (aStore p q _ _ _ _) ?_
 refine aa 3 ?_
 refine aa 3 ?_
 refine aa 3 ?_
 refine .mk [] _ (Zh s l k _ hf hg FB (by omega) (by omega)) ?_
 rintro _ τ ⟨rfl,Jw,bL⟩
 subst τ
 have hx:=bL.rows hn.2.2
 have bV:=KV s l
 have ui:xZ s l ws=jC (nN s*nW l+nN s+1) (nN s+3) (nN s+1) (mW s l) ((k8 (nN s) (nW l) (fun v=>gu s v) ws (nN s)).set (nN s*nW l+nN s) (nN s:Int)) (mW s l).length:=rfl
 rw[fA]at ui
 generalize mW s l=ls at hx bV ui
 refine bO (S:=Nat) (fun w=>[(0,iY p),(7,.ptr b7 0),(85,.ah (.slice (.int .i64)) ls),(86,.int .i64 ls.length),(87,.int .i64 w)]) (fun w=>aX p q (jC (nN s*nW l+nN s+1) (nN s+3) (nN s+1) ls (us.set (nN s*nW l+nN s) (nN s:Int)) w) ((b7,fH l)::(b4,bD s)::σ)) (fun w=>w≤ls.length) (fun w=>ls.length-w) 0 ⟨Nat.zero_le _,⟨rfl,rfl,rfl,rfl,rfl,trivial⟩,congrArg (fun z=>aX p q z _) (To hs us)⟩ ?_
 intro w g2 hw0
 have Ey:w≤ls.length:=hw0
 clear hw0
 refine ao (p:=(w:Int)<(ls.length:Int)) (fun ab =>?_) (fun au =>?_)
 rotate_left
 ·have au:w=ls.length:=by omega
  subst au
  rw[ui]
  exact .drop 2 2 (.done ⟨rfl,rfl,bL⟩)
 have ab:w<ls.length:=by omega
 obtain⟨x,fR⟩:∃x:List Int,ls[w]=x:=⟨_,rfl⟩
 obtain⟨JB,hxz⟩:=hx _ (List.getElem_mem ab)
 rw[fR]at JB hxz
 have hxd:ls.getD w []=x:=by rw[List.getD_eq_getElem?_getD,List.getElem?_eq_getElem ab,fR];rfl
 have BS:=hs.ua (k:=w) (by omega)
 have bY:jC (nN s*nW l+nN s+1) (nN s+3) (nN s+1) ls (us.set (nN s*nW l+nN s) (nN s:Int)) (w+1)=lQ (nN s*nW l+nN s+1+w*(nN s+3)) (nN s+1) x (jC (nN s*nW l+nN s+1) (nN s+3) (nN s+1) ls (us.set (nN s*nW l+nN s) (nN s:Int)) w):=by rw[jC,hxd]
 have rI:nN s*nW l+nN s+1+w*(nN s+3)≤1000000:=by
  have h3:=pO hn.2.2 hw.2
  have h4:w*(nN s+3)≤64*259:=Nat.mul_le_mul (by omega) (by omega)
  omega
 refine ag.mk rfl (bH.mk x (by omega) ((get_some ab).trans (congrArg some fR)) ?_)
 refine aa 2 ?_
 refine ax [] (xf (vB l w _) (congrArg (fun z=>AV.agg [.int .i64 z,.int .i64 (du l)]) BS)) ?_
 generalize nN s*nW l+nN s+1+w*(nN s+3)=a at BS bY rI
 generalize jC (nN s*nW l+nN s+1) (nN s+3) (nN s+1) ls (us.set (nN s*nW l+nN s) (nN s:Int)) w=vs at bY
 intro b16
 refine ai 0 ?_
 refine aa 0 ?_
 refine ax [2,2] (SD (Zl p q vs a (du l) _) (congrArg (fun z=>aX p q z _) (Tl rI vs))) ?_
 refine bO (S:=Nat) (fun i=>[(0,iY p),(7,.ptr b7 0),(15,.ah (.int .i64) x),(16,.ptr b16 0),(85,.ah (.slice (.int .i64)) ls),(86,.int .i64 ls.length),(87,.int .i64 w),(98,.ah (.int .i64) x),(99,.int .i64 x.length),(100,.int .i64 i)]) (fun i=>aX p q (iM a (nN s+1) x ((vs.set a 1).set (a+1) 1) i) ((b16,[.int .i64 a,.int .i64 (du l)])::(b7,fH l)::(b4,bD s)::σ)) (fun i=>i≤x.length) (fun i=>x.length-i) 0 ⟨Nat.zero_le _,⟨rfl,rfl,rfl,rfl,rfl,rfl,rfl,rfl,rfl,rfl,trivial⟩,rfl⟩ ?_
 intro i g3 dY
 have hi:i≤x.length:=dY
 clear dY
 refine ao (p:=(i:Int)<(x.length:Int)) (fun ey =>?_) (fun nh =>?_)
 ·have ey:i<x.length:=by omega
  obtain⟨z,hz⟩:∃z,x[i]=z:=⟨_,rfl⟩
  have fQ:=hxz z (hz▸List.getElem_mem ey)
  have hzd:x.getD i 0=z:=by rw[List.getD_eq_getElem?_getD,List.getElem?_eq_getElem ey,hz];rfl
  have QU:iM a (nN s+1) x ((vs.set a 1).set (a+1) 1) (i+1)=(iM a (nN s+1) x ((vs.set a 1).set (a+1) 1) i).set (a+2+(1+i) % (nN s+1)) z:=by rw[iM,hzd]
  have ql:=Tn hs (i:=i) rI (by omega)
  generalize iM a (nN s+1) x ((vs.set a 1).set (a+1) 1) i=ys at QU
  have ak:fN ys (wr (wr ((a:Int)+2)+(wr (1+(i:Int))).tmod (du l))) (wu z)=iM a (nN s+1) x ((vs.set a 1).set (a+1) 1) (i+1):=by
   rw[ql,UX (by omega) (by omega),QU]
  refine ag.mk rfl (bH.mk z (by omega) ((get_some ey).trans (congrArg some hz)) ?_)
  refine .sched [7] (upto [7] 16 0) (by kernel_rfl) ?_
  refine aa 2 ?_
  refine aa 3 ?_
  refine aD [] (Ib l _) ?_
  refine ag.mk (by rw[hs.room.1];omega) ?_
  refine dS.mk hStore_ ?_
  refine⟨_,mStore_,?_⟩
  refine ax [] (aStore p q _ _ _ _) ?_
  exact bg (i+1) (by show x.length-(i+1)<x.length-i;omega) ey ⟨rfl,rfl,rfl,rfl,rfl,rfl,rfl,rfl,rfl,a8 (by omega),trivial⟩ (aF (congrArg (fun z=>aX p q z _) ak))
 have nh:i=x.length:=by omega
 subst nh
 refine aa 2 ?_
 refine⟨_,mStore_,?_⟩
 refine ax [] (aStore p q _ _ _ _) ?_
 exact bg (w+1) (by show ls.length-(w+1)<ls.length-w;omega) ab ⟨rfl,rfl,rfl,rfl,a8 (by omega),trivial⟩ (.drop 2 1 (aF (congrArg (fun z=>aX p q z _) ((UY rI x vs (by omega)).trans bY.symm))))
end Go.Proofs.YtnpidbjdilnhlaaGreat
