import Derived.Test.YtnikdflhefijbaaGreatBs19
import Derived.Test.YtnikdflhefijbaaGreatBs15
import Derived.Test.YtnikdflhefijbaaGreatBs6
import Derived.Test.YtnikdflhefijbaaGreatBs7
import Derived.Test.YtnikdflhefijbaaGreatBs8
import Derived.Test.YtnikdflhefijbaaGreatBs1
import Derived.Test.YtnikdflhefijbaaGreatBs12
import Derived.Test.YtnikdflhefijbaaGreatBs13
namespace Go.Proofs.YtnikdflhefijbaaGreat
open Go.RowKit
set_option maxRecDepth 100000
set_option maxHeartbeats 4000000
theorem XS(k:Nat)(ow al:List Int):iO (List.replicate k ((.ag,[],[]):iZ))=jP k ow (al.drop al.length).reverse:=by
 rw[HR,List.reverse_nil];refine yW fun i=>?_;unfold iO;rw[fD,xA]
 rcases sx i k with hi | hi
 ·rw[az hi,xS hi];rfl
 ·rw[aB (by omega),sE (by rw[tU];exact hi)];rfl
theorem aaK(n:Nat)(l:List aO)(fr:List Int)(k:Nat)(σ:Hp)(hl:l.length≤100000)(h1:1≤n)(hn:n≤256)(jr:1≤k)(dR:k≤64)(hf:fr.length≤100000)(iI:∀z∈fr,0≤z∧z<n)(jI:∀i:Nat,i<n→0≤(jA n k l).getD i 0∧(jA n k l).getD i 0<(k:Int)):ACalls Tryz.prog 83 [.int .i64 n,.ae cg l,.ae (.int .i64) fr,.int .i64 k] σ (fun r σ'=>∃ls:List (List Int),r=.ae (.slice (.int .i64)) ls∧σ'=σ∧ls=jP k (jA n k l) (wz n l fr).reverse):=by
 refine Ol ?_;refine ao Tryz.func83 ?_;have jn:(jA n k l).length=n:=sO n k _ _;have hOw:=fun τ=>Y9 n l k τ hl ⟨h1,hn⟩ jr dR;generalize jA n k l=ow at jI jn hOw;refine aw [] (hOw _) ?_;refine .mk [] _ (aaO n l fr _ hl hn hf iI) ?_;rintro r τ ⟨hr0,wY,bh,haz⟩;subst τ;generalize wz n l fr=al at bh haz hr0;subst hr0;refine a8 ?_;intro bo;refine bc (S:=Nat×List iZ) (fun s=>[(9,.ae (.int .i64) ow),(10,.ae (.int .i64) al),(11,.af bo 0 k 1),(12,.int .i64 ((s.1:Int)-1))]) (fun s=>(bo,iP s.2)::(iQ s.2++σ)) (fun s=>s.1≤al.length∧(∀r∈s.2,rU r)∧iO s.2=jP k ow (al.drop s.1).reverse) (fun s=>s.1) (al.length,List.replicate k (.ag,[],[])) ⟨⟨bg _,fun r hr=>.inl (by rw[Ic hr];exact⟨rfl,rfl,rfl⟩),XS k ow al⟩,⟨rfl,rfl,rfl,?_,trivial⟩,?_⟩ ?_
 ·show AV.int .i64 (IntKind.i64.wrap ((al.length:Int)-1))=.int .i64 ((al.length:Int)-1);rw[IntKind.wrap_i64,show ((al.length:Int)-1+9223372036854775808) % 18446744073709551616-9223372036854775808=(al.length:Int)-1 by omega]
 ·show _=(bo,iP (List.replicate k (.ag,[],[])))::(iQ (List.replicate k (.ag,[],[]))++σ);rw[← Qz,Pq];rfl
 rintro⟨j,rs⟩ g ⟨gx,Dn,DM⟩;have hj:j≤al.length:=gx;have ho:∀r∈rs,rU r:=Dn;have hL:iO rs=jP k ow (al.drop j).reverse:=DM
 have rb:rs.length=k:=by
  have:=congrArg List.length hL;rw[tU]at this;exact (cN _).symm.trans this
 clear gx Dn DM;refine ai (p:=0≤(j:Int)-1) (fun ab=>?_) (fun ak=>?_);rotate_left
 ·have gx:j=0:=by omega
  subst gx;rw[fy]at hL;subst rb;exact .done ⟨bo,rs,rfl,rfl,ho,hL⟩
 obtain⟨i,rfl⟩:∃i,j=i+1:=⟨j-1,by omega⟩
 have Mo:i<al.length:=by omega
 have rn:(((i+1:Nat):Int)-1).toNat=i:=by omega
 obtain⟨z,hz⟩:∃z,al[i]=z:=⟨_,rfl⟩
 have fi:=haz z (hz▸bU Mo);have Dh:al[(((i+1:Nat):Int)-1).toNat]?=some z:=by rw[rn,bu Mo,hz]
 refine aF.mk rfl (aY.mk z (by omega) Dh ?_);obtain⟨w,hw⟩:∃w,ow.getD z.toNat 0=w:=⟨_,rfl⟩
 have Ay:ow[z.toNat]?=some w:=by rw[← hw];exact S3 (by omega)
 have tC:0≤w∧w<(k:Int):=by rw[← hw];exact jI z.toNat (by omega)
 refine aF.mk rfl (aY.mk w (by omega) Ay ?_);obtain⟨A,r,B,rfl,hA⟩:∃A r B,rs=A++r::B∧(w:Int)=A.length:=⟨rs.take w.toNat,rs[w.toNat]'(by omega),rs.drop (w.toNat+1),by simp,by rw[List.length_take];omega⟩
 obtain⟨c,acc,rl⟩:=r;rw[vU];have vv:=Qv A (c,acc,rl) B hA;have fU:=fun r2=>Pm A (c,acc,rl) r2 B hA;generalize hC:iP (A++(c,acc,rl)::B)=C at vv fU;have hr:rU (c,acc,rl):=ho _ (iK _ (cF ..));have hCl:C.length=k:=by rw[← hC,Pn];exact rb
 have hdr:(al.drop i).reverse=(al.drop (i+1)).reverse++[z]:=by rw[tQ Mo,List.reverse_cons,hz]
 have yp:(jP k ow (al.drop (i+1)).reverse)[A.length]?=some rl:=by rw[← hL];exact Qu A (c,acc,rl) B
 have fT:=N2 (w:=A.length) (hw.trans hA) yp;rw[← hdr]at fT
 have hrb:rl.length≤al.length:=by
  rw[xS (by omega)]at yp;rw[← Option.some.inj yp];exact dE (Ee _ _) (by rw[tO,List.length_drop];omega)
 have fP:∀v' aJ,Acc 1 (rl.length+1) v' aJ (aj rl++[.int .i64 z])→i≤al.length∧(∀r∈A++(.via v',aJ,rl++[z])::B,rU r)∧iO (A++(.via v',aJ,rl++[z])::B)=jP k ow (al.drop i).reverse:=fun v' aJ h'=>by
  have mB:(rl++[z]:List Int).length=rl.length+1:=bB;refine⟨by omega,fun r hr=>?_,?_⟩
  ·rcases bQ.1 hr with hr | hr
   ·exact ho r (gg _ hr)
   ·rcases dW.1 hr with rfl | hr
    ·refine .inr ⟨v',rfl,?_⟩;show Acc 1 (rl++[z]:List Int).length v' aJ (aj (rl++[z]));rw[mB,show aj (rl++[z])=aj rl++[.int .i64 z] from cE];exact h'
    ·exact ho r (iK _ (dq _ hr))
  ·rw[fT,← hL];exact Pk A (c,acc,rl) (.via v',aJ,rl++[z]) B
 have GW:AV.int .i64 (IntKind.i64.wrap (((i+1:Nat):Int)-1-1))=.int .i64 ((i:Int)-1):=by
  rw[IntKind.wrap_i64,show (((i+1:Nat):Int)-1-1+9223372036854775808) % 18446744073709551616-9223372036854775808=(i:Int)-1 by omega]
 rcases hr with ⟨q1,q2,q3⟩ | ⟨v,q1,q2⟩
 ·have q1:c=.ag:=q1;have q2:acc=[]:=q2;have q3:rl=[]:=q3;subst q1;subst q2;subst q3;refine .sched [] (kl [0,1,2,3,4,6,7,8,9] (.alt 5 (ca [10,11,12,13]) (ca [10,5,11,12,13]))) (by kernel_rfl) ?_;refine aH ?_;refine aF.mk rfl ?_;refine aY.mk z (by omega) Dh ?_;refine And.intro ?_ ?_
  ·refine aS 0 rfl (gD rfl vv) ?_;intro ax;refine eS ((ax,[.int .i64 z])::(bo,C)::iQ A) (Acc.nil (e:=1)) (.af 0 ax 0 1 _ rfl (cj rfl)) rfl (by omega) (by decide) (by decide) (fun v' aJ h'=>?_);refine aH ?_;refine bM 1 rfl ((mO rfl rfl (by omega)).trans (congrArg some (fU (.via v',aJ,[]++[z])))) ?_;exact aM (i,A++(.via v',aJ,[]++[z])::B) (A0 i) (fP v' aJ h') ⟨rfl,rfl,rfl,GW,trivial⟩ (.drop 0 1 (aL (by rw[vU];rfl)))
  ·intro bX;refine aS 1 rfl (gD rfl vv) ?_;refine eS ((bX,[.int .i64 z])::(bo,C)::iQ A) (Acc.nil (e:=1)) (.af 0 bX 0 1 _ rfl (cj rfl)) rfl (by omega) (by decide) (by decide) (fun v' aJ h'=>?_);refine aH ?_;refine bM 1 rfl ((mO rfl rfl (by omega)).trans (congrArg some (fU (.via v',aJ,[]++[z])))) ?_;exact aM (i,A++(.via v',aJ,[]++[z])::B) (A0 i) (fP v' aJ h') ⟨rfl,rfl,rfl,GW,trivial⟩ (.drop 0 1 (aL (by rw[vU];rfl)))
 ·have q1:c=.via v:=q1;have q2:Acc 1 rl.length v acc (aj rl):=q2;subst q1;refine .sched [] (kl [0,1,2,3,4,6,7,8,9] (.alt 5 (ca [10,11,12,13]) (ca [10,5,11,12,13]))) (by kernel_rfl) ?_;refine aH ?_;refine aF.mk rfl ?_;refine aY.mk z (by omega) Dh ?_;refine And.intro ?_ ?_
  ·refine aS 0 rfl (gD rfl vv) ?_;intro ax;refine eS ((ax,[.int .i64 z])::(bo,C)::iQ A) q2 (.af 0 ax 0 1 _ rfl (cj rfl)) rfl (show rl.length+1≤1048576 by omega) (by decide) (by decide) (fun v' aJ h'=>?_);refine aH ?_;refine bM 1 rfl ((mO rfl rfl (by omega)).trans (congrArg some (fU (.via v',aJ,rl++[z])))) ?_;exact aM (i,A++(.via v',aJ,rl++[z])::B) (A0 i) (fP v' aJ h') ⟨rfl,rfl,rfl,GW,trivial⟩ (.drop 0 1 (aL (by rw[vU];rfl)))
  ·intro bX;refine aS 1 rfl (gD rfl vv) ?_;refine eS ((bX,[.int .i64 z])::(bo,C)::iQ A) q2 (.af 0 bX 0 1 _ rfl (cj rfl)) rfl (show rl.length+1≤1048576 by omega) (by decide) (by decide) (fun v' aJ h'=>?_);refine aH ?_;refine bM 1 rfl ((mO rfl rfl (by omega)).trans (congrArg some (fU (.via v',aJ,rl++[z])))) ?_;exact aM (i,A++(.via v',aJ,rl++[z])::B) (A0 i) (fP v' aJ h') ⟨rfl,rfl,rfl,GW,trivial⟩ (.drop 0 1 (aL (by rw[vU];rfl)))
def qU(b:Nat)(a ws:List Int):Nat→List Int
 | 0=>ws
 |i+1=>(qU b a ws i).set (b+i) (wd a i)
theorem N1(b:Nat)(a ws:List Int)(k:Nat):(qU b a ws k).length=ws.length:=by
 induction k with
 |zero=>rfl
 |succ k ih=>rw[qU,dY,ih]
theorem Px{b:Nat}{a ws:List Int}:∀(k:Nat),b+k≤1000000000→Af (b:Int) a ws k=qU b a ws k
 | 0,_=>rfl
 |k+1,h=>by
  rw[Af,qU,Px k (by omega),show wr ((b:Int)+(k:Int))=((b+k:Nat):Int) from (gT (by omega) (by omega)).trans (tM b k).symm];exact ou _
def nE(N W:Nat)(st:Nat→List Int)(ws:List Int):Nat→List Int
 | 0=>ws
 |v+1=>(qU (v*W) (st v) (nE N W st ws v) W).set (N*W+v) 1
theorem It(N W:Nat)(st:Nat→List Int)(ws:List Int)(k:Nat):(nE N W st ws k).length=ws.length:=by
 induction k with
 |zero=>rfl
 |succ k ih=>rw[nE,dY,N1,ih]
def kV(b r:Nat)(x ws:List Int):Nat→List Int
 | 0=>ws
 |i+1=>(kV b r x ws i).set (b+2+(1+i) % r) (x.getD i 0)
theorem OY(b r:Nat)(x ws:List Int)(k:Nat):(kV b r x ws k).length=ws.length:=by
 induction k with
 |zero=>rfl
 |succ k ih=>rw[kV,dY,ih]
theorem Sc(b r:Nat)(x ws:List Int)(y:Int):∀k,kV b r x (ws.set (b+1) y) k=(kV b r x ws k).set (b+1) y
 | 0=>rfl
 |k+1=>by rw[kV,kV,Sc b r x ws y k,List.set_comm _ _ (by omega)]
def xD(b r:Nat)(x ws:List Int):List Int:=kV b r x ((ws.set b 1).set (b+1) ((1+x.length:Nat):Int)) x.length
theorem Xh(b r:Nat)(x ws:List Int):(xD b r x ws).length=ws.length:=by rw[xD,OY,dY,dY]
theorem aaj(b r:Nat)(x ws:List Int):(kV b r x ((ws.set b 1).set (b+1) 1) x.length).set (b+1) ((1+x.length:Nat):Int)=xD b r x ws:=by
 rw[← Sc,List.set_set];rfl
def lW(b0 d r:Nat)(ls:List (List Int))(ws:List Int):Nat→List Int
 | 0=>ws
 |w+1=>xD (b0+w*d) r (ls.getD w []) (lW b0 d r ls ws w)
theorem Oh(b0 d r:Nat)(ls:List (List Int))(ws:List Int)(k:Nat):(lW b0 d r ls ws k).length=ws.length:=by
 induction k with
 |zero=>rfl
 |succ k ih=>rw[lW,Xh,ih]
def Gv(N W:Nat)(st:Nat→List Int)(ls:List (List Int))(ws:List Int):List Int:=
 lW (N*W+N+1) (N+3) (N+1) ls ((nE N W st ws N).set (N*W+N) (N:Int)) ls.length
theorem Vv(N W:Nat)(st:Nat→List Int)(ls:List (List Int))(ws:List Int):(Gv N W st ls ws).length=ws.length:=by rw[Gv,Oh,dY,It]
set_option maxHeartbeats 4000000
def mS(s:Sy)(l:Lay):List (List Int):=CC (nN s) l.k.toNat s.cd s.entry
def yh(s:Sy)(l:Lay)(ws:List Int):List Int:=Gv (nN s) (nW l) (fun v=>eN s v) (mS s l) ws
theorem Zx{s:Sy}(hg:Good s):eA s.n s.cd=true:=by
 unfold eA;have h1:=hg.n1;have h2:=hg.n2;have h3:=hg.el;simp only[bS,decide_eq_true_eq,fq];exact⟨⟨⟨h1,h2⟩,h3⟩,fun e he=>⟨kA.2 (hg.CX e he).1,kA.2 (hg.CX e he).2⟩⟩
theorem N3(s:Sy)(l:Lay):(mS s l).length=l.k.toNat:=tU _ _ _
theorem Wh{f:FuncId}{xs:List AV}{σ j0 σ2:Hp}{x:AV}(h:ACalls Tryz.prog f xs σ (ay x j0))(e:j0=σ2):ACalls Tryz.prog f xs σ (ay x σ2):=e▸h
theorem Yy{s:Sy}{l:Lay}(hs:LS s l){v:Nat}(hv:v<nN s)(us x:List Int):gJ (Af (dX l v) x us (cw l.words)) (wr (gK l+(v:Nat))) 1=(qU (v*nW l) x us (nW l)).set (nN s*nW l+v) 1:=by
 have h1:=hs.nn;have h2:=hs.ww;have h3:=rV h1.2.2 h2.2;have h4:(v+1)*nW l≤nN s*nW l:=nt _ hv;rw[rD]at h4;rw[hs.TZ hv,hs.Cs hv,Px _ (by show _+nW l≤_;omega)];exact ou _
theorem Xd{s:Sy}{l:Lay}(hs:LS s l)(us:List Int):gJ us (fL l) (wu s.n)=us.set (nN s*nW l+nN s) (nN s:Int):=by
 have h1:=hs.nn;rw[hs.count,ou,show wu s.n=(nN s:Int) by show IntKind.u64.wrap s.n=_;rw[IntKind.wrap_u64];omega]
theorem Xc{a:Nat}(ha:a≤1000000)(us:List Int):gJ (gJ us (a:Int) 1) (ff (a:Int)) 1=(us.set a 1).set (a+1) 1:=by
 rw[ou,show ff (a:Int)=((a+1:Nat):Int) from (gT (by omega) (by omega)).trans (tM a 1).symm,ou]
theorem OW{s:Sy}{l:Lay}(hs:LS s l){a i:Nat}(ha:a≤1000000)(hi:i≤1000000):wr (wr ((a:Int)+2)+(wr (1+(i:Int))).tmod (fH l))=((a+2+(1+i) % (nN s+1):Nat):Int):=by
 have h1:=hs.nn;have hm:=tL (1+i) (show 0<nN s+1 by omega);rw[gT (z:=(a:Int)+2) (by omega) (by omega),gT (z:=1+(i:Int)) (by omega) (by omega),hs.room.1,show (1+(i:Int)).tmod ((nN s+1:Nat):Int)=(((1+i) % (nN s+1):Nat):Int) by rw[show (1+(i:Int))=((1+i:Nat):Int) by omega];rfl];rw[gT (by omega) (by omega)];omega
theorem Yx{a r:Nat}(ha:a≤1000000)(x us:List Int)(hx:x.length≤1000000):gJ (kV a r x ((us.set a 1).set (a+1) 1) x.length) (wr ((a:Int)+1)) (wu (wr (1+(x.length:Int))))=xD a r x us:=by
 rw[gT (z:=(a:Int)+1) (by omega) (by omega),gT (z:=1+(x.length:Int)) (by omega) (by omega),show wu (1+(x.length:Int))=((1+x.length:Nat):Int) by show IntKind.u64.wrap _=_;rw[IntKind.wrap_u64];omega,show (a:Int)+1=((a+1:Nat):Int) by omega,ou];exact aaj _ _ _ _
theorem Yw{us:List Int}{b:Nat}{z:Int}(hz:0≤z)(vf:z≤1000000):gJ us (b:Int) (wu z)=us.set b z:=by
 rw[ou,show wu z=z by show IntKind.u64.wrap _=_;rw[IntKind.wrap_u64];omega]
structure ic(s:Sy)(l:Lay):Prop where
 all:iu (nN s) (qZ (nN s) s.cd s.entry)
 own:∀i:Nat,i<nN s→0≤(jA (nN s) l.k.toNat s.cd).getD i 0∧(jA (nN s) l.k.toNat s.cd).getD i 0<(l.k.toNat:Int)
 flat:iu (nN s) (gv (nN s) s.cd).flatten
 post:iu (nN s) (jU (nN s) s.cd s.entry)
theorem ic.rows{s:Sy}{l:Lay}(h:ic s l)(hn:nN s≤256):∀x∈mS s l,x.length≤256∧∀z∈x,0≤z∧z<(nN s:Int):=by
 intro x hx;unfold mS CC jP at hx;obtain⟨u,_,rfl⟩:=eW.1 hx;have hlen:=Ee (fun y=>decide ((jA (nN s) l.k.toNat s.cd).getD y.toNat 0=(u:Int))) (qZ (nN s) s.cd s.entry).reverse;rw[tO]at hlen;have:=h.all.len;exact⟨by omega,fun z hz=>h.all.rg z (List.mem_reverse.1 (jK.1 hz).1)⟩
theorem acN(s:Sy)(l:Lay)(k:Nat)(σ:Hp)(hf:Fit s)(hg:Good s)(hk:l.k=k)(h1:1≤k)(h2:k≤64):ACalls Tryz.prog 160 [.int .i64 s.n,.ae cg s.cd,.ae (.int .i64) s.entry,.int .i64 k] σ (fun r σ'=>r=.tup [.ae (.slice (.int .i64)) (mS s l),.int .i64 0]∧σ'=σ∧ic s l):=by
 have hn:s.n=(nN s:Int):=by have:=hg.n1;unfold nN;omega
 have hr:=Zx hg;have he:=hg.Nk;have dR:k=l.k.toNat:=by omega
 subst dR;unfold mS;rw[hn]at hr he ⊢;refine (aeo (nN s) s.cd s.entry l.k.toNat σ hf.wQ hf.wK hr he h1 h2).mono ?_;rintro _ _ ⟨rfl,rfl,hA,jI,jc,AF⟩;exact⟨rfl,rfl,hA,jI,jc,AF⟩
theorem Ss(s:Sy)(k:Nat)(p q:Nat)(ws:List Int)(σ:Hp)(hf:Fit s)(he:cI s k=0)(dG:cJ (fN s k)≤ws.length):ACalls Tryz.prog 97 [km p,.agg (aP s),.int .i64 k] (bN p q ws σ) (fun r σ'=>r=.int .i64 0∧σ'=bN p q (yh s (fN s k) ws) σ∧ic s (fN s k)):=by
 obtain⟨hs,AQ⟩:=ye hf he;obtain⟨yE,vf,tB⟩:=hs.size;obtain⟨hc,jr,dR⟩:=E5 he;have hg:=wi hc;have hn:=hs.nn;have hw:=hs.ww;have oX:=hs.low;have hN:=hs.n;refine ao Tryz.func97 ?_;obtain⟨l,hl⟩:∃l,fN s k=l:=⟨_,rfl⟩
 have e1:AV.tup [.agg (dp (fN s k)),.int .i64 (cI s k)]=.tup [.agg (dp l),.int .i64 (cI s k)]:=by rw[hl]
 rw[hl]at hs AQ yE vf tB hw oX hN dG ⊢;generalize hE:cI s k=E at e1 he;intro b4;refine aa 0 ?_;refine aw [] (mf (zP s k _ hf) (hE▸e1)) ?_;intro b7;refine ah 0 ?_;refine cO (fun c3=>?_) (fun c3=>?_)
 ·have c3:¬(cI s (↑k:Int)=0):=by simpa using c3
  exact absurd (hE.trans he) c3
 refine aw [] (dI _ _ _) ?_;refine .sched [1,3] (upto [1,3] 5 0) (by kernel_rfl) ?_;refine InvAt.mk _ mLen_ ?_;refine aN [3,3] (aLen p q ws _) ?_;refine aa 0 ?_;refine aN [] (Kz _ _) ?_;refine ai (p:=(ws.length:Int)<fF l l.k) (fun c4=>?_) (fun c4=>?_)
 ·omega
 refine aa 1 ?_;refine bc (S:=Nat) (fun v=>[(0,km p),(2,.int .i64 k),(4,.ptr b4 0),(7,.ptr b7 0),(36,.int .i64 s.n),(37,.int .i64 v)]) (fun v=>(b7,dp l)::(b4,aP s)::bN p q (nE (nN s) (nW l) (fun v=>eN s v) ws v) σ) (fun v=>v≤nN s) (fun v=>nN s-v) 0 ⟨aV _,⟨rfl,rfl,rfl,rfl,rfl,rfl,trivial⟩,rfl⟩ ?_;intro v g oa;have hv:v≤nN s:=oa;clear oa;have qh:=It (nN s) (nW l) (fun v=>eN s v) ws v;refine ai (p:=(v:Int)<s.n) (fun ab=>?_) (fun ak=>?_)
 ·have ab:v<nN s:=by omega
  have rW:jh s v=0:=(I1 hc ⟨by omega,by omega⟩).symm;refine aa 1 ?_;refine aw [] (Y3 s v _ hf) ?_;rw[ui rW];refine aa 0 ?_;refine aw [] (Gc l v _) ?_;refine aw [3,3] (agU p q _ _ _ _ _ _) ?_;refine .sched [2] (upto [2] 10 0) (by kernel_rfl) ?_;refine aa 2 ?_;refine aN [] (zC l _) ?_;refine eY.mk hStore_ ?_;refine InvAt.mk _ mStore_ ?_;refine aw [] (aStore p q _ _ _ _) ?_;exact aM (v+1) (by show nN s-(v+1)<nN s-v;omega) ab ⟨rfl,rfl,rfl,rfl,rfl,aI (by omega),trivial⟩ (.pull [3,3] (aL (congrArg (fun z=>_::_::bN p q z σ) (Yy hs ab _ _))))
 have ak:v=nN s:=by omega
 subst ak;obtain⟨us,dU⟩:∃us,nE (nN s) (nW l) (fun v=>eN s v) ws (nN s)=us:=⟨_,rfl⟩
 rw[dU]at qh ⊢;refine .sched [2] (upto [2] 11 0) (by kernel_rfl) ?_;refine aa 0 ?_;refine aN [] (zC l _) ?_;refine aa 1 ?_;refine eY.mk hStore_ ?_;refine InvAt.mk _ mStore_ ?_;refine aw [3,3] (aStore p q _ _ _ _) ?_;refine aa 3 ?_;refine aa 3 ?_;refine aa 3 ?_;refine .mk [] _ (acN s l k _ hf hg AQ (by omega) (by omega)) ?_;rintro _ τ ⟨rfl,wY,cM⟩;subst τ;have hx:=cM.rows hn.2.2;have bP:=N3 s l;have nS:yh s l ws=lW (nN s*nW l+nN s+1) (nN s+3) (nN s+1) (mS s l) ((nE (nN s) (nW l) (fun v=>eN s v) ws (nN s)).set (nN s*nW l+nN s) (nN s:Int)) (mS s l).length:=rfl;rw[dU]at nS;generalize mS s l=ls at hx bP nS;refine bc (S:=Nat) (fun w=>[(0,km p),(7,.ptr b7 0),(85,.ae (.slice (.int .i64)) ls),(86,.int .i64 ls.length),(87,.int .i64 w)]) (fun w=>bN p q (lW (nN s*nW l+nN s+1) (nN s+3) (nN s+1) ls (us.set (nN s*nW l+nN s) (nN s:Int)) w) ((b7,dp l)::(b4,aP s)::σ)) (fun w=>w≤ls.length) (fun w=>ls.length-w) 0 ⟨aV _,⟨rfl,rfl,rfl,rfl,rfl,trivial⟩,congrArg (fun z=>bN p q z _) (Xd hs us)⟩ ?_;intro w g2 Hm;have GP:w≤ls.length:=Hm;clear Hm;refine ai (p:=(w:Int)<(ls.length:Int)) (fun ab=>?_) (fun ak=>?_);rotate_left
 ·have ak:w=ls.length:=by omega
  subst ak;rw[nS];exact .drop 2 2 (.done ⟨rfl,rfl,cM⟩)
 have ab:w<ls.length:=by omega
 obtain⟨x,qg⟩:∃x:List Int,ls[w]=x:=⟨_,rfl⟩
 obtain⟨yF,Di⟩:=hx _ (bU ab);rw[qg]at yF Di;have L2:ls.getD w []=x:=by rw[bK,bu ab,qg];rfl
 have DB:=hs.uF (k:=w) (by omega);have cz:lW (nN s*nW l+nN s+1) (nN s+3) (nN s+1) ls (us.set (nN s*nW l+nN s) (nN s:Int)) (w+1)=xD (nN s*nW l+nN s+1+w*(nN s+3)) (nN s+1) x (lW (nN s*nW l+nN s+1) (nN s+3) (nN s+1) ls (us.set (nN s*nW l+nN s) (nN s:Int)) w):=by rw[lW,L2]
 have tG:nN s*nW l+nN s+1+w*(nN s+3)≤1000000:=by
  have h3:=rV hn.2.2 hw.2;have h4:w*(nN s+3)≤64*259:=oe (by omega) (by omega);omega
 refine aF.mk rfl (aY.mk x (by omega) ((get_some ab).trans (congrArg some qg)) ?_);refine aa 2 ?_;refine aw [] (mf (x6 l w _) (congrArg (fun z=>AV.agg [.int .i64 z,.int .i64 (fH l)]) DB)) ?_;generalize nN s*nW l+nN s+1+w*(nN s+3)=a at DB cz tG;generalize lW (nN s*nW l+nN s+1) (nN s+3) (nN s+1) ls (us.set (nN s*nW l+nN s) (nN s:Int)) w=vs at cz;intro b16;refine ah 0 ?_;refine aa 0 ?_;refine aw [2,2] (Wh (acS p q vs a (fH l) _) (congrArg (fun z=>bN p q z _) (Xc tG vs))) ?_;refine bc (S:=Nat) (fun i=>[(0,km p),(7,.ptr b7 0),(15,.ae (.int .i64) x),(16,.ptr b16 0),(85,.ae (.slice (.int .i64)) ls),(86,.int .i64 ls.length),(87,.int .i64 w),(98,.ae (.int .i64) x),(99,.int .i64 x.length),(100,.int .i64 i)]) (fun i=>bN p q (kV a (nN s+1) x ((vs.set a 1).set (a+1) 1) i) ((b16,[.int .i64 a,.int .i64 (fH l)])::(b7,dp l)::(b4,aP s)::σ)) (fun i=>i≤x.length) (fun i=>x.length-i) 0 ⟨aV _,⟨rfl,rfl,rfl,rfl,rfl,rfl,rfl,rfl,rfl,rfl,trivial⟩,rfl⟩ ?_;intro i g3 dK;have hi:i≤x.length:=dK;clear dK;refine ai (p:=(i:Int)<(x.length:Int)) (fun da=>?_) (fun jl=>?_)
 ·have da:i<x.length:=by omega
  obtain⟨z,hz⟩:∃z,x[i]=z:=⟨_,rfl⟩
  have gN:=Di z (hz▸bU da);have LZ:x.getD i 0=z:=by rw[bK,bu da,hz];rfl
  have Uw:kV a (nN s+1) x ((vs.set a 1).set (a+1) 1) (i+1)=(kV a (nN s+1) x ((vs.set a 1).set (a+1) 1) i).set (a+2+(1+i) % (nN s+1)) z:=by rw[kV,LZ]
  have lu:=OW hs (i:=i) tG (by omega);generalize kV a (nN s+1) x ((vs.set a 1).set (a+1) 1) i=ys at Uw
  have aq:gJ ys (wr (wr ((a:Int)+2)+(wr (1+(i:Int))).tmod (fH l))) (wu z)=kV a (nN s+1) x ((vs.set a 1).set (a+1) 1) (i+1):=by
   rw[lu,Yw (by omega) (by omega),Uw]
  refine aF.mk rfl (aY.mk z (by omega) ((get_some da).trans (congrArg some hz)) ?_);refine .sched [7] (upto [7] 16 0) (by kernel_rfl) ?_;refine aa 2 ?_;refine aa 3 ?_;refine aN [] (Gb l _) ?_;refine aF.mk (by rw[hs.room.1];omega) ?_;refine eY.mk hStore_ ?_;refine InvAt.mk _ mStore_ ?_;refine aw [] (aStore p q _ _ _ _) ?_;exact aM (i+1) (by show x.length-(i+1)<x.length-i;omega) da ⟨rfl,rfl,rfl,rfl,rfl,rfl,rfl,rfl,rfl,aI (by omega),trivial⟩ (aL (congrArg (fun z=>bN p q z _) aq))
 have jl:i=x.length:=by omega
 subst jl;refine aa 2 ?_;refine InvAt.mk _ mStore_ ?_;refine aw [] (aStore p q _ _ _ _) ?_;exact aM (w+1) (by show ls.length-(w+1)<ls.length-w;omega) ab ⟨rfl,rfl,rfl,rfl,aI (by omega),trivial⟩ (.drop 2 1 (aL (congrArg (fun z=>bN p q z _) ((Yx tG x vs (by omega)).trans cz.symm))))
set_option maxHeartbeats 4000000
theorem aba{α β:Type}(rs:List α)(L:List β)(i:Nat)(x:β)(h:i<rs.length):rs.zip (L.set i x)=(rs.zip L).set i (rs[i],x):=by
 refine List.ext_getElem (by simp) fun k h1 h2=>?_;rw[D2];simp only[List.getElem_zip,D2];split
 ·rename_i he;subst he;rfl
 ·rfl
set_option maxHeartbeats 4000000
abbrev gV:Sh:=.field (.int .i64) (.field (.int .i64) .nil)
theorem afv(W:AWorld)(lb:Nat)(ar:List (Int×Int×Unit))(s0:W.S)(σ:Hp)(hn:W.L.length≤100000)(hs:ar.length≤100000)(hf:W.free 0 (W.abs s0))(lO:∀a k,W.tell a k=a):
  ACalls Tryz.prog 101 [W.mv,.af lb 0 W.L.length 1,.ae gV ar] ((lb,W.L)::(W.B s0++σ)) (BH W ar (W.abs s0) [(lb,W.L)] σ):=by
 refine ao Tryz.func101 ?_;intro ax;refine .perm _ (ns (a:=(ax,[.ag,.ag,.int .i64 0])) (l₁:=(lb,W.L)::W.B s0) (l₂:=σ)) (afH W lb ar s0 ((ax,[.ag,.ag,.int .i64 0])::σ) hn hs hf lO) ?_;rintro x σ' ⟨s',h1,rfl,rfl⟩;refine⟨_,(ns (a:=(ax,[.ag,.ag,.int .i64 0])) (l₁:=(lb,W.L)::W.B s') (l₂:=σ)).symm,?_⟩;refine ah 0 ?_;refine aa 0 ?_;exact .drop 0 1 (.done ⟨s',h1,rfl,rfl⟩)
set_option maxHeartbeats 4000000
theorem ACalls.K8{P:Program}{f:FuncId}{xs:List AV}{σ σ2:Hp}{R R':AV→Hp→Prop}(h:ACalls P f xs σ2 R)(hp:σ2.Perm σ)(go:∀r σ',R r σ'→∃ee,ee.Perm σ'∧R' r ee):ACalls P f xs σ R':=
 tY (.perm R hp h go)
structure WZ where
 r:Nat
 c:AV
 acc:Hp
 x:WS
 rd:yj c acc x.now
def wU(s:Sy)(l:Lay)(y:(Nat×Nat)×WZ):Hp:=WB s l y.1.1 y.1.2 y.2.r y.2.c y.2.acc y.2.x
def di(s:Sy)(l:Lay)(I:List (Nat×Nat))(Z:List WZ):Hp:=(I.zip Z).flatMap (wU s l)
structure WA where
 W:List WS
 ws:List Int
structure rH where
 ws:List Int
 Z:List WZ
def rH.abs(t:rH):WA:=⟨t.Z.map (·.x),t.ws⟩
def gC(s:Sy)(l:Lay)(a:WA)(i:Nat)(d:Int):WA×Bool:=match a.W[i]? with
 |some x=>(⟨a.W.set i (de bR s l i x d a.ws).1,(de bR s l i x d a.ws).2.1⟩,(de bR s l i x d a.ws).2.2)
 |none=>(a,true)
structure qT(s:Sy)(l:Lay)(a:WA):Prop where
 len:(a.W.length:Int)=l.k
 fl:oZ s l a.ws
 wv:∀(i:Nat) (x:WS),a.W[i]?=some x→WV s l i x
theorem BB{s:Sy}{l:Lay}{a:WA}{i:Nat}{d:Int}{x:WS}(h:a.W[i]?=some x):gC s l a i d=(⟨a.W.set i (de bR s l i x d a.ws).1,(de bR s l i x d a.ws).2.1⟩,(de bR s l i x d a.ws).2.2):=by
 unfold gC;rw[h]
theorem qT.step{s:Sy}{l:Lay}{a:WA}(hs:LS s l)(h:qT s l a)(i:Nat)(d:Int):qT s l (gC s l a i d).1:=by
 cases hx:a.W[i]? with
 |none=>unfold gC;rw[hx];exact h
 |some x=>
  rw[BB hx];have hi:=(cW.1 hx).1;have hl:=h.len;obtain⟨h1,h2,h3⟩:=abg (d:=d) hs ⟨by omega,by omega⟩ h.fl.2 (h.wv i x hx);refine⟨?_,⟨h2.trans h.fl.1,h1⟩,fun j y hy=>?_⟩
  ·show ((a.W.set i _).length:Int)=l.k;rw[dY];exact hl
  ·have hy:(a.W.set i (de bR s l i x d a.ws).1)[j]?=some y:=hy;rw[gQ]at hy
   by_cases l4:i=j
   ·subst l4;rw[az rfl,az hi]at hy;cases hy;exact h3
   ·rw[aB l4]at hy;exact h.wv j y hy
section
variable {s:Sy} {l:Lay} {p q:Nat} {I:List (Nat×Nat)}
theorem JJ{Z:List WZ}{i:Nat}(hi:i<I.length)(hz:i<Z.length):(di s l I Z).Perm (WB s l I[i].1 I[i].2 Z[i].r Z[i].c Z[i].acc Z[i].x++((I.zip Z).eraseIdx i).flatMap (wU s l)):=by
 have h:i<(I.zip Z).length:=by simp;omega
 have h1:=OQ (f:=wU s l) h;have e:(I.zip Z)[i]=(I[i],Z[i]):=by simp
 rw[e]at h1;exact h1
theorem Qi{Z:List WZ}{i:Nat}(hi:i<I.length)(hz:i<Z.length)(y:WZ):(di s l I (Z.set i y)).Perm (WB s l I[i].1 I[i].2 y.r y.c y.acc y.x++((I.zip Z).eraseIdx i).flatMap (wU s l)):=by
 have h:i<(I.zip Z).length:=by simp;omega
 have h1:=Yt (f:=wU s l) h (I[i],y);rw[← aba _ _ _ _ hi]at h1;exact h1
theorem wzP{X Y:Hp}(b:Hp)(h:X.Perm (b++Y))(ws:List Int)(σ:Hp):(bN p q ws X++σ).Perm (b++bN p q ws (Y++σ)):=by
 have h1:(bN p q ws X++σ).Perm (bN p q ws (b++Y)++σ):=List.Perm.append_right σ (List.Perm.append_left [_,_] h);refine h1.trans ?_;show ([(p,o7 q ws.length),(q,aU ws)]++((b++Y)++σ)).Perm (b++([(p,o7 q ws.length),(q,aU ws)]++(Y++σ)));rw[cU];exact kB [[(p,o7 q ws.length),(q,aU ws)],b,Y] σ (a:=[0,1,2]) (b:=[1,0,2]) (by decide)
theorem afs{t:rH}{i:Nat}{d:Int}(σ:Hp)(hs:LS s l)(hi:i<I.length)(hI:I[i].1=i)(hk:(I.length:Int)=l.k)(hf:qT s l t.abs):ACalls Tryz.prog 390 [.ptr I[i].2 0,km p,.int .i64 d] (bN p q t.ws (di s l I t.Z)++σ) (fun x σ'=>∃t':rH,t'.abs=(gC s l t.abs i d).1∧x=.bool (gC s l t.abs i d).2∧σ'=bN p q t'.ws (di s l I t'.Z)++σ):=by
 have hz:i<t.Z.length:=by
  have h1:=hf.len;have h2:((t.Z.map (·.x)).length:Int)=l.k:=h1;rw[cN]at h2;omega
 have hW:t.abs.W[i]?=some t.Z[i].x:=by
  show (t.Z.map (·.x))[i]?=_;rw[fD,bu hz];rfl
 have hB:=wzP (p:=p) (q:=q) _ (JJ (s:=s) (l:=l) hi hz) t.ws σ;have w7:=fun (ws:List Int) (y:WZ)=>wzP (p:=p) (q:=q) _ (Qi (s:=s) (l:=l) hi hz y) ws σ;have L5:=hf.wv i _ hW;rw[hI]at hB w7;have aq:=BB (s:=s) (l:=l) (d:=d) hW;have iV:∀(y:WZ),(t.Z.set i y).map (·.x)=t.abs.W.set i y.x:=fun y=>by show _=(t.Z.map (·.x)).set i y.x;rw[sB]
 rw[aq];refine (agS p q I[i].2 t.Z[i].r t.Z[i].c t.Z[i].acc s l i t.Z[i].x d t.ws (((I.zip t.Z).eraseIdx i).flatMap (wU s l)++σ) hs.fit hf.fl.2.a64 (L5.ok hs) t.Z[i].rd (x':=(de bR s l i t.Z[i].x d t.ws).1) (ws':=(de bR s l i t.Z[i].x d t.ws).2.1) (b:=(de bR s l i t.Z[i].x d t.ws).2.2) rfl).K8 hB.symm ?_;rintro _ _ ⟨r',c',aJ,my,rfl,rfl⟩;refine⟨_,w7 _ ⟨r',c',aJ,(de bR s l i t.Z[i].x d t.ws).1,my⟩,⟨(de bR s l i t.Z[i].x d t.ws).2.1,t.Z.set i ⟨r',c',aJ,(de bR s l i t.Z[i].x d t.ws).1,my⟩⟩,?_,rfl,rfl⟩;exact congrArg (fun z=>WA.mk z _) (iV _)
end
theorem mWorker_ : Meth Tryz.prog 168 "Step" 390 := fun a w => by kernel_rfl
def B6(s:Sy)(l:Lay)(hs:LS s l)(p q:Nat)(I:List (Nat×Nat))(hI:∀i (h:i<I.length),I[i].1=i)(hk:(I.length:Int)=l.k):AWorld where
 A:=WA
 S:=rH
 abs:=rH.abs
 B t:=bN p q t.ws (di s l I t.Z)
 L:=I.map fun y=>.iface 168 (.ptr y.2 0)
 mt:=94
 mx:=.ptr p 0
 step:=gC s l
 tell a _:=a
 free _:=qT s l
 keeps _ a i d _ h _:=h.step hs i d
 told _ _ _ h:=h
 more _ _ h:=h
 mach i h:=by
  have hi:i<I.length:=by simpa using h
  refine .inr ⟨168,I[i].2,by simp,_,mWorker_,fun _ t d σ _ hf=>?_⟩;refine (afs (p:=p) (q:=q) (t:=t) (d:=d) σ hs hi (hI i hi) hk hf).mono ?_;rintro _ _ ⟨t',h1,rfl,rfl⟩;exact⟨t',h1,rfl,rfl⟩
set_option maxHeartbeats 4000000
def rX(l:Lay)(ws:List Int)(n:Nat):List (List Int):=(List.range n).map fun v:Nat=>pY (dX l v) ws (cw l.words)
theorem Wk(bl bm p q v:Nat)(l:Lay)(ws:List Int)(τ:Hp):ACalls Tryz.prog 105 [.int .i64 v,.ptr bl 0,.ptr bm 0] ((bl,dp l)::(bm,[km p])::bN p q ws τ) (ay (.ae (.int .u64) (pY (dX l v) ws (cw l.words))) ((bl,dp l)::(bm,[km p])::bN p q ws τ)):=by
 refine ao Tryz.func105 ?_;refine .quiet (by kernel_rfl) ?_;refine aa 0 ?_;refine aN [] (Gc l v _) ?_;refine aa 1 ?_;refine aN [3,3] (agY p q ws _ _ _ _) ?_;exact .done ⟨rfl,rfl⟩
theorem IS(p q:Nat)(l:Lay)(n:Nat)(ws:List Int)(σ:Hp)(hn:l.n=n)(np:n≤100000):ACalls Tryz.prog 43 [km p,.agg (dp l)] (bN p q ws σ) (ay (.ae (.slice (.int .u64)) (rX l ws n)) (bN p q ws σ)):=by
 refine ao Tryz.func43 ?_;intro bm;intro bl;refine aa 0 ?_;have hE:=fun τ=>aeH 105 [.ptr bl 0,.ptr bm 0] ((bl,dp l)::(bm,[km p])::bN p q ws []) τ (fun v:Nat=>pY (dX l v) ws (cw l.words)) n np (fun i _ τ=>Wk bl bm p q i l ws τ);rw[← hn]at hE;refine aw [] (hE _) ?_;exact .drop 0 2 (.done ⟨rfl,rfl⟩)
def dr(mv:AV)(l:Lay)(wv st dn:AV)(us:Int):List AV:=[mv,.int .i64 l.what,.int .i64 l.words,.int .i64 l.n,.int .i64 l.k,wv,st,dn,.int .i64 us]
def pW(w:Nat):AV:=.ptr w 0
def iW(w:Nat):AV:=.iface 168 (.ptr w 0)
theorem aeq(bs bp i:Nat)(s:Sy)(l:Lay)(mv wv st dn:AV)(us:Int)(τ:Hp)(hf:Fit s)(he:cI s l.k=0)(hL:fN s l.k=l)(h1:(i:Int)<l.k):ACalls Tryz.prog 99 [.int .i64 i,.ptr bs 0,.ptr bp 0] ((bs,aP s)::(bp,dr mv l wv st dn us)::τ) (fun r σ'=>∃w,r=.ptr w 0∧σ'=WB s l i w 0 .ag [] q8++((bs,aP s)::(bp,dr mv l wv st dn us)::τ)):=by
 refine ao Tryz.func99 ?_;refine aa 0 ?_;refine aa 1 ?_
 (refine .mk [] _ (Tj s l i _ hf he hL (by omega) h1) ?_;rintro _ _ ⟨w,rfl,rfl⟩)
 exact .done ⟨w,rfl,rfl⟩
theorem aep(bp lw i n:Nat)(L:List Nat)(l:Lay)(mv st dn:AV)(us:Int)(τ:Hp)(hl:L.length=n)(hi:i<n):ACalls Tryz.prog 103 [.int .i64 i,.ptr bp 0] ((bp,dr mv l (.af lw 0 n 1) st dn us)::(lw,L.map pW)::τ) (ay (iW (L.getD i 0)) ((bp,dr mv l (.af lw 0 n 1) st dn us)::(lw,L.map pW)::τ)):=by
 have hg:(L.map pW)[0+((i:Int)).toNat*1]?=some (.ptr (L.getD i 0) 0):=by
  rw[bD,dH,dD,fD,bu (by omega),bK,bu (by omega)];rfl
 refine ao Tryz.func103 ?_;refine aa 0 ?_;refine aH ?_;refine aS 1 rfl (gD rfl hg) ?_;exact .done ⟨rfl,rfl⟩
def cy(L:List Nat):List (Nat×Nat):=(List.range L.length).zip L
def fg:WZ:=⟨0,.ag,[],q8,trivial⟩
theorem sQ(L:List Nat):∀i (h:i<(cy L).length),(cy L)[i].1=i:=fun i h=>by simp[cy]
theorem xW(L:List Nat):(cy L).length=L.length:=by simp[cy]
theorem Q1(L:List Nat):(cy L).map (fun y=>AV.iface 168 (.ptr y.2 0))=L.map iW:=by
 unfold cy;have:(fun y:Nat×Nat=>AV.iface 168 (.ptr y.2 0))=iW ∘ Prod.snd:=rfl;rw[this,← List.map_map,List.map_snd_zip (by simp)]
theorem Qh(s:Sy)(l:Lay)(L:List Nat)(w:Nat):di s l (cy (L++[w])) (List.replicate (L++[w]).length fg)=di s l (cy L) (List.replicate L.length fg)++WB s l L.length w 0 .ag [] q8:=by
 have e1:cy (L++[w])=cy L++[(L.length,w)]:=by
  unfold cy;rw[List.length_append,List.length_singleton,List.range_succ,List.zip_append (by simp)];rfl
 have e2:List.replicate (L++[w]).length fg=List.replicate L.length fg++[fg]:=by
  rw[bB,A5,List.replicate_succ']
 unfold di;rw[e1,e2,List.zip_append (by rw[gh,xW]),sF];rfl
set_option maxHeartbeats 4000000
theorem Gk{n:Nat}(h:n<9000000000000000000):wr (n:Int)=n:=by
 show IntKind.i64.wrap _=_;rw[IntKind.wrap_i64];omega
theorem adD{bs:Nat}(h:bs<1000000000):ff (bs:Int)=((bs+1:Nat):Int):=by
 unfold ff;exact Gk (n:=bs+1) (by omega)
theorem ZH{bs:Nat}(h:bs<1000000000)(cap:Int)(i:Nat):jy (bs:Int) cap (i:Nat)=((bs+2+i % rm cap:Nat):Int):=by
 have hr:=Gj cap;have hm:i % rm cap<rm cap:=tL _ (by omega);unfold jy;rw[show ((bs:Int)+2)=((bs+2:Nat):Int) by omega,Gk (by omega),← Int.natCast_emod,Gk (by omega),← tM];exact Gk (by omega)
set_option maxHeartbeats 4000000
theorem KT(a:List Int)(i:Nat):a.getD i 0=wd a i:=by rw[bK];rfl
section
variable {s:Sy} {l:Lay} (hs:LS s l)
include hs
theorem LS.afL:ez s.what s.w=(nW l:Int):=by have:=hs.words;have:=hs.ww;omega
theorem LS.afM{a:List Int}:rI s.what s.w a↔(a.length=nW l∧∀i,i<nW l→jT s.what s.w i (a.getD i 0)):=by
 rw[Bs hs.nf.tA,hs.afL];constructor
 ·rintro⟨h1,h2⟩;have h1:a.length=nW l:=by omega
  exact⟨h1,fun i hi=>by rw[KT];exact h2 i (by omega)⟩
 ·rintro⟨h1,h2⟩;exact⟨by omega,fun i hi=>by rw[← KT];exact h2 i (by omega)⟩
end
abbrev Eh(s:Sy)(l:Lay)(j:Nat):Nat:=nN s*nW l+nN s+1+j*(nN s+3)
section
variable {s:Sy} {l:Lay} {hs:LS s l} {W:List WS} {ws:List Int} {D:List (List Nat)} {T:Nat→Nat} {M:Nat}
end
set_option maxHeartbeats 4000000
section
variable {s:Sy} {l:Lay} {hs:LS s l} {W:List WS} {ws:List Int} {D:List (List Nat)} {T:Nat→Nat} {M:Nat}
theorem acq(hs:LS s l){j:Nat}(hj:j≤64):Eh s l j<1000000000:=by
 have h1:=hs.nn;have h2:=hs.ww;have h3:=rV h1.2.2 h2.2;have h4:j*(nN s+3)≤64*259:=oe hj (by omega);unfold Eh;omega
end
set_option maxHeartbeats 4000000
theorem Wz{s:Sy}{l:Lay}(cM:ic s l)(hn:nN s≤256):jP l.k.toNat (jA (nN s) l.k.toNat s.cd) (wz (nN s) s.cd s.entry).reverse=mS s l:=by
 have h:wz (nN s) s.cd s.entry=qZ (nN s) s.cd s.entry:=SP cM.post (by omega) (fun p hp x hx=>cM.flat.rg x (nr.2 ⟨p,hp,hx⟩)) cM.flat.nd;rw[h];rfl
theorem aaL(s:Sy)(l:Lay)(σ:Hp)(hs:LS s l)(cM:ic s l):ACalls Tryz.prog 83 [.int .i64 s.n,.ae cg s.cd,.ae (.int .i64) s.entry,.int .i64 l.k] σ (ay (.ae (.slice (.int .i64)) (mS s l)) σ):=by
 have h1:=hs.nn;obtain⟨k,hk,jr,dR⟩:=hs.kk;have he:=hs.nf.Nk;have gF:l.k.toNat=k:=by omega
 have zX:=Wz cM h1.2.2;have jI:=cM.own;rw[gF]at zX jI;rw[hk];have hn:=h1.1;rw[hn]at he ⊢;refine (aaK (nN s) s.cd s.entry k σ hs.fit.wQ h1.2.1 h1.2.2 jr dR hs.fit.wK he jI).mono ?_;rintro _ _ ⟨ls,rfl,rfl,rfl⟩;exact⟨by rw[zX],rfl⟩
def dM(s:Sy)(l:Lay):List Int:=yh s l (List.replicate (cJ l) 0)
theorem acW(s:Sy)(l:Lay)(σ:Hp)(hs:LS s l)(cM:ic s l):ACalls Tryz.prog 36 [.agg (aP s),.agg (dp l)] σ (fun r σ'=>∃m q,r=.ptr m 0∧σ'=Hd m q (dM s l) σ∧(dM s l).length=cJ l):=by
 obtain⟨hsz1,hsz2,ag7⟩:=hs.size;have hn:=hs.nn;have hw:=hs.ww;refine ao Tryz.func36 ?_;intro ax;intro bX;refine aa 0 ?_;refine aw [] (Sl l _) ?_
 (refine .mk [] _ (afx _ _) ?_;rintro _ _ ⟨m,q,rfl,rfl⟩)
 rw[ag7];have hN:=hs.n;have oX:=hs.low;have rb:(List.replicate (cJ l) (0:Int)).length=cJ l:=gh;have jc:(dM s l).length=cJ l:=(Vv _ _ _ _ _).trans rb;have nS:dM s l=lW (nN s*nW l+nN s+1) (nN s+3) (nN s+1) (mS s l) ((nE (nN s) (nW l) (fun v=>eN s v) (List.replicate (cJ l) 0) (nN s)).set (nN s*nW l+nN s) (nN s:Int)) (mS s l).length:=rfl;have fk:=fun v=>It (nN s) (nW l) (fun v=>eN s v) (List.replicate (cJ l) 0) v;rw[rb]at fk;refine bc (S:=Nat) (fun t=>[(2,.ptr ax 0),(3,.ptr bX 0),(5,.ptr m 0),(6,.int .i64 t)]) (fun t=>(m,[AV.af q 0 (cJ l) 1])::(q,aU (nE (nN s) (nW l) (fun v=>eN s v) (List.replicate (cJ l) 0) t))::(bX,dp l)::(ax,aP s)::σ) (fun t=>t≤nN s) (fun t=>nN s-t) 0 ⟨aV _,⟨rfl,rfl,rfl,rfl,trivial⟩,by show (m,[AV.af q 0 (List.replicate (cJ l) (0:Int)).length 1])::_=_;rw[rb];rfl⟩ ?_;intro v g oa;have hv:v≤nN s:=oa;clear oa;refine aa 2 ?_;refine ai (p:=(v:Int)<l.n) (fun ab=>?_) (fun ak=>?_)
 ·have ab:v<nN s:=by omega
  refine aa 3 ?_;refine aw [] (Y7 s v _ hs.fit hs.nf) ?_;have aq:=EP hs.fit hs.nf v;have hsv:rI s.what s.w (eN s v):=⟨aq.1,aq.2⟩
  have ag9:=(Bs hs.nf.tA).1 hsv;have Up:(eN s v).length=nW l:=by have:=ag9.1;have:=hs.words;omega
  have cz:nE (nN s) (nW l) (fun v=>eN s v) (List.replicate (cJ l) 0) (v+1)=(qU (v*nW l) (eN s v) (nE (nN s) (nW l) (fun v=>eN s v) (List.replicate (cJ l) 0) v) (nW l)).set (nN s*nW l+v) 1:=rfl;have cQ:=fk v;generalize nE (nN s) (nW l) (fun v=>eN s v) (List.replicate (cJ l) 0) v=us at cz cQ;generalize eN s v=st at Up cz;refine bc (S:=Nat) (fun t=>[(2,.ptr ax 0),(3,.ptr bX 0),(5,.ptr m 0),(6,.int .i64 v),(25,.ae (.int .u64) st),(26,.int .i64 st.length),(27,.int .i64 t)]) (fun t=>(m,[AV.af q 0 (cJ l) 1])::(q,aU (qU (v*nW l) st us t))::(bX,dp l)::(ax,aP s)::σ) (fun t=>t≤st.length) (fun t=>st.length-t) 0 ⟨aV _,⟨rfl,rfl,rfl,rfl,rfl,rfl,rfl,trivial⟩,rfl⟩ ?_;intro i g2 dK;have hi:i≤st.length:=dK;clear dK;have qh:=(N1 (v*nW l) st us i).trans cQ;refine ai (p:=(i:Int)<(st.length:Int)) (fun da=>?_) (fun jl=>?_)
  ·have da:i<st.length:=by omega
   have hiW:i<nW l:=by omega
   obtain⟨x,hx⟩:∃x,st[i]=x:=⟨_,rfl⟩
   have Hk:=mg st da;rw[hx]at Hk;have jz:IntKind.i64.wrap (IntKind.i64.wrap ((v:Int)*l.words)+(i:Int))=((v*nW l+i:Nat):Int):=hs.Gz ab hiW;have fk:=FH ab hiW;refine aF.mk rfl (aY.mk x (by omega) ((get_some da).trans (congrArg some hx)) ?_);refine .sched [] (upto [] 13 0) (by kernel_rfl) ?_;refine aa 0 ?_;refine aa 2 ?_;refine aF.mk ⟨rfl,by rw[jz];omega,by rw[jz];omega⟩ ?_;refine bM 1 rfl (s5 (i:=v*nW l+i) (by omega) x jz) ?_;exact aM (i+1) (by show st.length-(i+1)<st.length-i;omega) da ⟨rfl,rfl,rfl,rfl,rfl,rfl,aI (by omega),trivial⟩ (aL (by rw[qU,Hk];rfl))
  ·have jl:i=st.length:=by omega
   subst jl;refine .sched [] (upto [] 13 0) (by kernel_rfl) ?_;refine aa 0 ?_;refine aa 2 ?_;refine aa 2 ?_;have Lm:IntKind.i64.wrap (IntKind.i64.wrap (l.n*l.words)+(v:Int))=((nN s*nW l+v:Nat):Int):=hs.Cs ab;refine aF.mk ⟨rfl,by rw[Lm];omega,by rw[Lm];omega⟩ ?_;refine bM 1 rfl (s5 (i:=nN s*nW l+v) (by omega) 1 Lm) ?_;exact aM (v+1) (by show nN s-(v+1)<nN s-v;omega) ab ⟨rfl,rfl,rfl,aI (by omega),trivial⟩ (aL (by rw[cz,Up];rfl))
 have ak:v=nN s:=by omega
 subst ak;have cQ:=fk (nN s);obtain⟨us,dU⟩:∃us,nE (nN s) (nW l) (fun v=>eN s v) (List.replicate (cJ l) 0) (nN s)=us:=⟨_,rfl⟩
 rw[dU]at cQ nS ⊢;refine .sched [] (upto [] 17 0) (by kernel_rfl) ?_;refine aa 0 ?_;refine aa 2 ?_;refine aa 2 ?_;refine aa 2 ?_;refine aa 2 ?_;have yQ:IntKind.i64.wrap (IntKind.i64.wrap (l.n*l.words)+l.n)=((nN s*nW l+nN s:Nat):Int):=hs.count;refine aF.mk ⟨rfl,by rw[yQ];omega,by rw[yQ];omega⟩ ?_;refine bM 1 rfl (s5 (i:=nN s*nW l+nN s) (by omega) _ yQ) ?_;have uN:IntKind.u64.wrap l.n=(nN s:Int):=by rw[IntKind.wrap_u64];omega
 refine aa 3 ?_;refine aa 3 ?_;refine aa 3 ?_;refine aa 2 ?_;refine aw [] (aaL s l _ hs cM) ?_;have hx:=cM.rows hn.2.2;have bP:=N3 s l;generalize mS s l=ls at hx bP nS;obtain⟨wW,yo⟩:∃wW,us.set (nN s*nW l+nN s) (nN s:Int)=wW:=⟨_,rfl⟩
 have ag5:wW.length=cJ l:=by rw[← yo,dY];exact cQ
 rw[yo]at nS
 refine bc (S:=Nat) (fun t=>[(3,.ptr bX 0),(5,.ptr m 0),(81,.ae (.slice (.int .i64)) ls),(82,.int .i64 ls.length),(83,.int .i64 t)]) (fun t=>(m,[AV.af q 0 (cJ l) 1])::(q,aU (lW (nN s*nW l+nN s+1) (nN s+3) (nN s+1) ls wW t))::(bX,dp l)::(ax,aP s)::σ) (fun t=>t≤ls.length) (fun t=>ls.length-t) 0 ⟨aV _,⟨rfl,rfl,rfl,rfl,rfl,trivial⟩,by
  show (m,[AV.af q 0 (cJ l) 1])::(q,aU (us.set (nN s*nW l+nN s) (IntKind.u64.wrap l.n)))::_=_
  rw[uN,yo];rfl⟩ ?_
 intro w g2 dK;have hi:w≤ls.length:=dK;clear dK;refine ai (p:=(w:Int)<(ls.length:Int)) (fun ab=>?_) (fun ak=>?_);rotate_left
 ·have ak:w=ls.length:=by omega
  subst ak;rw[← nS];exact .drop 2 2 (.done ⟨m,q,rfl,by unfold Hd;rw[jc];rfl,jc⟩)
 have ab:w<ls.length:=by omega
 obtain⟨x,qg⟩:∃x:List Int,ls[w]=x:=⟨_,rfl⟩
 obtain⟨yF,Di⟩:=hx _ (bU ab);rw[qg]at yF Di;have L2:ls.getD w []=x:=by rw[bK,bu ab,qg];rfl
 obtain⟨k,hk,jr,dR⟩:=hs.kk;have DB:=hs.uF (k:=w) (by omega);have agx:=hs.afj (k:=w) (by omega);have cz:lW (nN s*nW l+nN s+1) (nN s+3) (nN s+1) ls wW (w+1)=xD (nN s*nW l+nN s+1+w*(nN s+3)) (nN s+1) x (lW (nN s*nW l+nN s+1) (nN s+3) (nN s+1) ls wW w):=by rw[lW,L2]
 have yG:=(Oh (nN s*nW l+nN s+1) (nN s+3) (nN s+1) ls wW w).trans ag5;refine aF.mk rfl (aY.mk x (by omega) ((get_some ab).trans (congrArg some qg)) ?_);refine aa 2 ?_;refine aw [] (mf (Rs l w _) (congrArg (AV.int .i64) DB)) ?_
 have nq:nN s*nW l+nN s+1+w*(nN s+3)+nN s+3≤cJ l:=by
  obtain⟨a,q1,q2,q3⟩:=agx;omega
 generalize nN s*nW l+nN s+1+w*(nN s+3)=a at DB cz nq;generalize lW (nN s*nW l+nN s+1) (nN s+3) (nN s+1) ls wW w=vs at cz yG;refine aa 0 ?_;refine aH ?_;refine bM 1 rfl (s5 (l:=vs) (i:=a) (by omega) 1 rfl) ?_;have hv1:(vs.set a 1).length=cJ l:=by rw[dY];exact yG
 have ha3:IntKind.i64.wrap ((a:Int)+1)=((a+1:Nat):Int):=by rw[IntKind.wrap_i64];omega
 refine aa 0 ?_;refine aH ?_;refine bM 1 rfl (s5 (l:=vs.set a 1) (i:=a+1) (by omega) _ ha3) ?_
 have Ds:IntKind.u64.wrap (IntKind.i64.wrap (1+(x.length:Int)))=((1+x.length:Nat):Int):=by
  rw[show IntKind.i64.wrap (1+(x.length:Int))=1+(x.length:Int) from gT (by omega) (by omega),IntKind.wrap_u64];omega
 refine bc (S:=Nat) (fun t=>[(3,.ptr bX 0),(5,.ptr m 0),(11,.int .i64 a),(81,.ae (.slice (.int .i64)) ls),(82,.int .i64 ls.length),(83,.int .i64 w),(108,.ae (.int .i64) x),(109,.int .i64 x.length),(110,.int .i64 t)]) (fun t=>(m,[AV.af q 0 (cJ l) 1])::(q,aU (kV a (nN s+1) x ((vs.set a 1).set (a+1) ((1+x.length:Nat):Int)) t))::(bX,dp l)::(ax,aP s)::σ) (fun t=>t≤x.length) (fun t=>x.length-t) 0 ⟨aV _,⟨rfl,rfl,rfl,rfl,rfl,rfl,rfl,rfl,rfl,trivial⟩,by
  show (m,[AV.af q 0 (cJ l) 1])::(q,aU ((vs.set a 1).set (a+1) (IntKind.u64.wrap (IntKind.i64.wrap (1+(x.length:Int))))))::_=_
  rw[Ds];rfl⟩ ?_
 intro j g3 gx;have hj:j≤x.length:=gx;clear gx;refine ai (p:=(j:Int)<(x.length:Int)) (fun da=>?_) (fun jl=>?_);rotate_left
 ·have jl:j=x.length:=by omega
  subst jl;exact aM (w+1) (by show ls.length-(w+1)<ls.length-w;omega) ab ⟨rfl,rfl,rfl,rfl,aI (by omega),trivial⟩ (aL (by rw[cz];rfl))
 have da:j<x.length:=by omega
 obtain⟨z,hz⟩:∃z,x[j]=z:=⟨_,rfl⟩
 have gN:=Di z (hz▸bU da);have LZ:x.getD j 0=z:=by rw[bK,bu da,hz];rfl
 refine aF.mk rfl (aY.mk z (by omega) ((get_some da).trans (congrArg some hz)) ?_);have e3:IntKind.i64.wrap (l.n+1)=((nN s+1:Nat):Int):=by rw[IntKind.wrap_i64];omega
 have lu:IntKind.i64.wrap (IntKind.i64.wrap ((a:Int)+2)+(IntKind.i64.wrap (1+(j:Int))).tmod (IntKind.i64.wrap (l.n+1)))=((a+2+(1+j) % (nN s+1):Nat):Int):=OW hs (by omega) (by omega);have Ay:IntKind.u64.wrap z=z:=by rw[IntKind.wrap_u64];omega
 have Li:=tL (1+j) (show 0<nN s+1 by omega);have kR:=OY a (nN s+1) x ((vs.set a 1).set (a+1) ((1+x.length:Nat):Int)) j;rw[dY,hv1]at kR;refine .sched [] (upto [] 17 0) (by kernel_rfl) ?_;refine aa 0 ?_;refine aa 2 ?_;refine aF.mk (by rw[e3];omega) ?_;refine aF.mk ⟨rfl,by rw[lu];omega,by rw[lu];omega⟩ ?_;refine bM 1 rfl (s5 (i:=a+2+(1+j) % (nN s+1)) (by omega) _ lu) ?_;exact aM (j+1) (by show x.length-(j+1)<x.length-j;omega) da ⟨rfl,rfl,rfl,rfl,rfl,rfl,rfl,rfl,aI (by omega),trivial⟩ (aL (by rw[kV,LZ,Ay];rfl))
def W0(l:Lay):List WS:=List.replicate l.k.toNat q8
def D5(s:Sy)(l:Lay)(ar:List (Int×Int×Unit))(x:jw WA):jw WA:=iB (gC s l) (fun a _=>a) l.k.toNat ar x
def G8(s:Sy)(l:Lay):jw WA:=⟨⟨W0 l,dM s l⟩,List.replicate l.k.toNat 0,List.replicate l.k.toNat false,0⟩
def fx(s:Sy)(l:Lay)(ar:List (Int×Int×Unit)):jw WA:=D5 s l ar (G8 s l)
def sG(W:List WS):Int:=W.foldl (fun a x=>wr (a+x.ev)) 0
def sk(W:List WS):Int:=W.foldl (fun a x=>wr (a+x.jo)) 0
theorem aaf{W:List WS}{i:Nat}(h:i<W.length):wr (sG (W.take i)+W[i].ev)=sG (W.take (i+1)):=by
 unfold sG;rw[eM h,rE];rfl
theorem Z6{W:List WS}{i:Nat}(h:i<W.length):wr (sk (W.take i)+W[i].jo)=sk (W.take (i+1)):=by
 unfold sk;rw[eM h,rE];rfl
set_option maxHeartbeats 4000000
section
variable {N W:Nat} {st:Nat→List Int} {ws:List Int}
end
section
variable {b0 N:Nat} {ls:List (List Int)} {ws:List Int}
end
section
variable {s:Sy} {l:Lay} (hs:LS s l)
include hs
theorem LS.Wu{v i:Nat}(hi:i<nW l):jT s.what s.w i (wd (eN s v) i):=by
 have h:=(hs.afM).1 (XK hs.fit hs.nf v);rw[← KT];exact h.2 i hi
theorem R7{v:Nat}{ws:List Int}(h:oZ s l ws):∀k,k≤nW l→oZ s l (qU (v*nW l) (eN s v) ws k)
 | 0,_=>h
 |k+1,hk=>by
  have ih:=R7 h k (by omega) (v:=v);rw[qU];exact⟨by rw[dY];exact ih.1,ih.2.Zu (by omega) (hs.Wu (by omega))⟩
theorem Q7{ws:List Int}(h:oZ s l ws):∀k,oZ s l (nE (nN s) (nW l) (fun v=>eN s v) ws k)
 | 0=>h
 |k+1=>by
  rw[nE];exact (R7 hs (Q7 h k) _ (bg _)).hi (by omega) (by unfold bO;omega)
theorem S5{b r:Nat}{x ws:List Int}(hb:nN s*nW l≤b)(hx:∀z∈x,0≤z∧z<(nN s:Int))(h:oZ s l ws):∀k,oZ s l (kV b r x ws k)
 | 0=>h
 |k+1=>by
  rw[kV];refine (S5 hb hx h k).hi (by omega) ?_;have hn:=hs.nn;rw[bK];cases hk:x[k]? with
  |none=>exact zk
  |some z=>
   have:=hx z (dz hk);show bO z;unfold bO;omega
theorem S4{ls:List (List Int)}{ws:List Int}(hx:∀x∈ls,x.length≤256∧∀z∈x,0≤z∧z<(nN s:Int))(h:oZ s l ws):∀k,oZ s l (lW (nN s*nW l+nN s+1) (nN s+3) (nN s+1) ls ws k)
 | 0=>h
 |k+1=>by
  rw[lW,xD]
  have h2:(ls.getD k []).length≤256∧∀z∈ls.getD k [],0≤z∧z<(nN s:Int):=by
   rw[bK];cases hk:ls[k]? with
   |none=>exact⟨aV _,fun z hz=>by cases hz⟩
   |some x=>exact hx x (dz hk)
  refine S5 hs (by omega) h2.2 (((S4 hx h k).hi (by omega) (by unfold bO;omega)).hi (by omega) ?_) _;unfold bO;omega
theorem acg(cM:ic s l):oZ s l (dM s l):=by
 unfold dM yh Gv;have hn:=hs.nn;refine S4 hs (cM.rows hn.2.2) (oZ.hi (Q7 hs ⟨gh,abX s l _⟩ _) (by omega) ?_) _;unfold bO;omega
end
section
variable {s:Sy} {l:Lay} (hs:LS s l) (cM:ic s l)
include hs cM
end
section
variable {s:Sy} {l:Lay} {hs:LS s l} (cM:ic s l)
include cM
theorem F6(hs:LS s l):qT s l ⟨W0 l,dM s l⟩:=by
 have jr:=hs.k1;refine⟨by show ((W0 l).length:Int)=l.k;unfold W0;rw[gh];omega,acg hs cM,fun i x hx=>?_⟩;rw[Ic (dz hx)];exact wv0 hs i
end
set_option maxHeartbeats 4000000
theorem Fy{s:Sy}{k:Int}(he:cI s k=0):(fN s k).k=k:=by unfold fN qe;rw[he];rfl
theorem E1{k:Nat}{v:AV}{acc:Hp}{cs:List AV}(h:Acc 1 k v acc cs)(hk:0<k):∃b,v=.af b 0 k 1∧acc=[(b,cs)]:=by
 cases h with
 |nil=>omega
 |af b k cs h=>exact⟨b,rfl,rfl⟩
def En(s:Sy)(l:Lay)(bs bp p:Nat)(L:List Nat)(S:Hp):Prop:=S=(bs,aP s)::(bp,dr (.ptr p 0) l .ag .ag .ag 0)::di s l (cy L) (List.replicate L.length fg)
theorem Zq(s:Sy)(l:Lay)(k bs bp p:Nat)(hf:Fit s)(he:cI s l.k=0)(hL:fN s l.k=l)(hk:l.k=k)(L:List Nat)(S τ:Hp)(ab:L.length<k)(hS:En s l bs bp p L S):ACalls Tryz.prog 99 (.int .i64 L.length::[.ptr bs 0,.ptr bp 0]) (S++τ) (fun r σ'=>∃w S',r=.ptr w 0∧σ'=S'++τ∧En s l bs bp p (L++[w]) S'):=by
 unfold En at hS;subst hS;refine (aeq bs bp L.length s l (.ptr p 0) .ag .ag .ag 0 (di s l (cy L) (List.replicate L.length fg)++τ) hf he hL (by omega)).K8 (.refl _) ?_;rintro _ _ ⟨w,rfl,rfl⟩;refine⟨((bs,aP s)::(bp,dr (.ptr p 0) l .ag .ag .ag 0)::di s l (cy (L++[w])) (List.replicate (L++[w]).length fg))++τ,?_,w,_,rfl,rfl,rfl⟩;rw[Qh];have h:=kB [[(bs,aP s),(bp,dr (.ptr p 0) l .ag .ag .ag 0)],di s l (cy L) (List.replicate L.length fg),WB s l L.length w 0 .ag [] q8] τ (a:=[0,1,2]) (b:=[2,0,1]) (by decide);have e:((bs,aP s)::(bp,dr (.ptr p 0) l .ag .ag .ag 0)::(di s l (cy L) (List.replicate L.length fg)++WB s l L.length w 0 .ag [] q8))++τ=[(bs,aP s),(bp,dr (.ptr p 0) l .ag .ag .ag 0)]++(di s l (cy L) (List.replicate L.length fg)++(WB s l L.length w 0 .ag [] q8++τ)):=by simp
 rw[e];exact h
theorem Qq(l:Lay)(k bp lw:Nat)(mv:AV)(L:List Nat)(hL:L.length=k)(L':List Nat)(S τ:Hp)(ab:L'.length<k)(hS:S=[(bp,dr mv l (.af lw 0 k 1) .ag .ag 0),(lw,L.map pW)]∧L'=L.take L'.length):ACalls Tryz.prog 103 (.int .i64 L'.length::[.ptr bp 0]) (S++τ) (fun r σ'=>∃w S',r=.iface 168 (.ptr w 0)∧σ'=S'++τ∧(S'=[(bp,dr mv l (.af lw 0 k 1) .ag .ag 0),(lw,L.map pW)]∧L'++[w]=L.take (L'++[w]).length)):=by
 obtain⟨rfl,hL'⟩:=hS;refine (aep bp lw L'.length k L l mv .ag .ag 0 τ hL ab).mono ?_;rintro _ _ ⟨rfl,rfl⟩;refine⟨L.getD L'.length 0,_,rfl,rfl,rfl,?_⟩;rw[bB,A5,eM (by omega),← hL',bK,bu (by omega)];rfl
theorem Rq(s:Sy)(l:Lay)(hs:LS s l)(cM:ic s l)(p q lb k:Nat)(L:List Nat)(ar:List (Int×Int×Unit))(σ:Hp)(hL:L.length=k)(hk:l.k=k)(dR:k≤64)(kh:ar.length≤100000):
  ACalls Tryz.prog 101 [km p,.af lb 0 k 1,.ae gV ar] ((lb,L.map iW)::(bN p q (dM s l) (di s l (cy L) (List.replicate L.length fg))++σ)) (fun r σ'=>∃Z:List WZ,Z.map (·.x)=(fx s l ar).a.W∧r=.agg [.ae (.int .i64) (fx s l ar).st,.ae .bool (fx s l ar).dn,.int .i64 (fx s l ar).us]∧σ'=(lb,L.map iW)::(bN p q (fx s l ar).a.ws (di s l (cy L) Z)++σ)):=by
 have hI:((cy L).length:Int)=l.k:=by rw[xW];omega
 have xg:rH.abs ⟨dM s l,List.replicate L.length fg⟩=⟨W0 l,dM s l⟩:=by
  show WA.mk ((List.replicate L.length fg).map (·.x)) (dM s l)=_;rw[MW];unfold W0;rw[show l.k.toNat=L.length by omega];rfl
 have hl:(B6 s l hs p q (cy L) (sQ L) hI).L.length=k:=by
  show ((cy L).map _).length=_;rw[cN,xW];exact hL
 have DL:(B6 s l hs p q (cy L) (sQ L) hI).L=L.map iW:=Q1 L
 have hE:=afv (B6 s l hs p q (cy L) (sQ L) hI) lb ar (⟨dM s l,List.replicate L.length fg⟩:rH) σ (by omega) kh (by
  show qT s l (rH.abs ⟨dM s l,List.replicate L.length fg⟩)
  rw[xg];exact F6 cM hs) (fun _ _=>rfl)
 have fp:(B6 s l hs p q (cy L) (sQ L) hI).run ar (rH.abs ⟨dM s l,List.replicate L.length fg⟩)=fx s l ar:=by
  unfold AWorld.run AWorld.init;rw[hl,DL,xg]
  have e1:(L.map iW).map isNil=List.replicate k false:=by
   rw[← hL,List.map_map];exact List.map_eq_replicate_iff.2 fun _ _=>rfl
  rw[e1];unfold fx D5 G8;rw[show l.k.toNat=k by omega];rfl
 have vE:ACalls Tryz.prog 101 [km p,.af lb 0 k 1,.ae gV ar] ((lb,L.map iW)::(bN p q (dM s l) (di s l (cy L) (List.replicate L.length fg))++σ)) (BH (B6 s l hs p q (cy L) (sQ L) hI) ar (rH.abs ⟨dM s l,List.replicate L.length fg⟩) [(lb,L.map iW)] σ):=by
  rw[hl,DL]at hE;exact hE
 refine vE.mono ?_;rintro _ _ ⟨t',h1,rfl,rfl⟩;have h1:rH.abs t'=(fx s l ar).a:=Eq.trans h1 (congrArg jw.a fp);rw[fp];refine⟨t'.Z,congrArg WA.W h1,rfl,?_⟩;have h2:t'.ws=(fx s l ar).a.ws:=congrArg WA.ws h1;rw[← h2];rfl
theorem Y6(s:Sy)(k:Nat)(l:Lay)(hl:fN s k=l)(ar:List (Int×Int×Unit))(σ:Hp)(hf:Fit s)(he:cI s k=0)(kh:ar.length≤100000):
  ACalls Tryz.prog 41 [.agg (aP s),.int .i64 k,.ae gV ar] σ (fun r σ'=>∃(p q lw:Nat) (L:List Nat) (Z:List WZ),r=.tup [.agg (dr (.ptr p 0) l (.af lw 0 k 1) (.ae (.int .i64) (fx s l ar).st) (.ae .bool (fx s l ar).dn) (fx s l ar).us),.int .i64 0]∧L.length=k∧Z.map (·.x)=(fx s l ar).a.W∧σ'=(lw,L.map pW)::bN p q (fx s l ar).a.ws (di s l (cy L) Z++σ)∧ic s l):=by
 obtain⟨hs,AQ⟩:=ye hf he;obtain⟨yE,vf,tB⟩:=hs.size;obtain⟨jr,dR⟩:=(E5 he).2;have Cr:=fun p q ws σ (dG:cJ (fN s k)≤ws.length)=>Ss s k p q ws σ hf he dG;have hk:l.k=k:=by rw[← hl];exact Fy he
 have e1:AV.tup [.agg (dp (fN s k)),.int .i64 (cI s k)]=.tup [.agg (dp l),.int .i64 (cI s k)]:=by rw[hl]
 have vE:cI s l.k=0:=by rw[hk];exact he
 have ML:fN s l.k=l:=by rw[hk];exact hl
 rw[hl]at hs yE vf tB Cr;refine ao Tryz.func41 ?_;generalize hE:cI s k=E at e1 he;intro bs;intro br;intro bp;refine aa 2 ?_;refine aw [] (mf (zP s k _ hf) (hE▸e1)) ?_;refine ah 0 ?_;refine cO (fun c1=>?_) (fun c1=>?_)
 ·have c1:¬(cI s (↑k:Int)=0):=by simpa using c1
  refine ah 1 ?_;refine aa 1 ?_;exact absurd (hE.trans he) c1
 ·have c1:cI s (↑k:Int)=0:=by simpa using c1
  refine aa 0 ?_;refine aw [] (Kz l _) ?_
  (refine .mk [] _ (LF _ _) ?_;rintro _ _ ⟨p,q,rfl,rfl⟩)
  rw[tB];obtain⟨us,dU⟩:∃us,List.replicate (cJ l) (0:Int)=us:=⟨_,rfl⟩
  have cQ:us.length=cJ l:=by rw[← dU];exact gh
  rw[dU,← cQ];refine ah 2 ?_;refine aa 2 ?_;refine aa 4 ?_
  (refine .mk [] _ (Cr p q us _ (by omega)) ?_;rintro _ _ ⟨rfl,rfl,cM⟩)
  have yo:yh s l us=dM s l:=by rw[← dU];rfl
  rw[yo];refine .perm (σ2:=[(bs,aP s),(bp,dr (.ptr p 0) l .ag .ag .ag 0)]++bN p q (dM s l) ((br,dr .cR ⟨0,0,0,0⟩ .ag .ag .ag 0)::σ)) _ (kB [[(bs,aP s)],[(bp,dr (.ptr p 0) l .ag .ag .ag 0)],bN p q (dM s l) [],[(br,dr .cR ⟨0,0,0,0⟩ .ag .ag .ag 0)]] σ (a:=[0,1,2,3]) (b:=[2,1,3,0]) (by decide)) (aeG 99 [.ptr bs 0,.ptr bp 0] (En s l bs bp p) _ _ rfl k (by omega) (fun L S τ h1 h2=>Zq s l k bs bp p hf vE ML hk L S τ h1 h2)) ?_;rintro v _ ⟨L,S',acc,hL,AP,bF,rfl⟩;unfold En at AP;subst AP;obtain⟨lw,rfl,rfl⟩:=E1 bF (by omega);refine⟨_,.refl _,?_⟩;refine ah 2 ?_;refine .sched [] (kl [0,3,4,6] (.alt 1 (ca [2,5,7,8,9]) (ca [5,1,2,7,8,9]))) (by kernel_rfl) ?_;refine And.intro ?_ ?_
  ·refine aa 2 ?_;refine .perm (σ2:=[(bp,dr (.ptr p 0) l (.af lw 0 k 1) .ag .ag 0),(lw,L.map pW)]++((bs,aP s)::(di s l (cy L) (List.replicate L.length fg)++bN p q (dM s l) ((br,dr .cR ⟨0,0,0,0⟩ .ag .ag .ag 0)::σ)))) _ (kB [[(bp,dr (.ptr p 0) l (.af lw 0 k 1) .ag .ag 0)],[(lw,L.map pW)],[(bs,aP s)],di s l (cy L) (List.replicate L.length fg),bN p q (dM s l) [],[(br,dr .cR ⟨0,0,0,0⟩ .ag .ag .ag 0)]] σ (a:=[0,1,2,3,4,5]) (b:=[1,2,0,3,4,5]) (by decide)) (Ts 103 [.ptr bp 0] (fun L' S=>S=[(bp,dr (.ptr p 0) l (.af lw 0 k 1) .ag .ag 0),(lw,L.map pW)]∧L'=L.take L'.length) _ _ ⟨rfl,rfl⟩ k (by omega) (fun L' S τ h1 h2=>Qq l k bp lw (.ptr p 0) L hL L' S τ h1 h2)) ?_;rintro v2 _ ⟨L',S2,agR,Lq,⟨rfl,DH⟩,Cq,rfl⟩;rw[Lq,← hL,er]at DH;rw[DH]at Cq;obtain⟨lb,rfl,rfl⟩:=E1 Cq (by omega);refine⟨_,.refl _,?_⟩;have hR:=Rq s l hs cM p q lb k L ar ([(bp,dr (.ptr p 0) l (.af lw 0 k 1) .ag .ag 0),(br,dr .cR ⟨0,0,0,0⟩ .ag .ag .ag 0),(bs,aP s),(lw,L.map pW)]++σ) hL hk (by omega) kh;refine .perm _ (kB [[(lb,L.map iW)],bN p q (dM s l) [],di s l (cy L) (List.replicate L.length fg),[(bp,dr (.ptr p 0) l (.af lw 0 k 1) .ag .ag 0)],[(br,dr .cR ⟨0,0,0,0⟩ .ag .ag .ag 0)],[(bs,aP s)],[(lw,L.map pW)]] σ (a:=[0,1,2,3,4,5,6]) (b:=[0,3,6,5,2,1,4]) (by decide)) hR ?_;rintro _ _ ⟨Z,hZ,rfl,rfl⟩;refine⟨_,kB [[(lb,L.map iW)],bN p q (fx s l ar).a.ws [],di s l (cy L) Z,[(bp,dr (.ptr p 0) l (.af lw 0 k 1) .ag .ag 0)],[(br,dr .cR ⟨0,0,0,0⟩ .ag .ag .ag 0)],[(bs,aP s)],[(lw,L.map pW)]] σ (a:=[0,3,4,5,6,1,2]) (b:=[0,1,2,3,4,5,6]) (by decide),?_⟩;refine ah 1 ?_;refine aa 1 ?_;refine ah 2 ?_;refine aa 2 ?_;exact .drop 0 4 (.done ⟨p,q,lw,L,Z,rfl,hL,hZ,rfl,cM⟩)
  ·refine .perm (σ2:=[(bp,dr (.ptr p 0) l (.af lw 0 k 1) .ag .ag 0),(lw,L.map pW)]++((bs,aP s)::(di s l (cy L) (List.replicate L.length fg)++bN p q (dM s l) ((br,dr .cR ⟨0,0,0,0⟩ .ag .ag .ag 0)::σ)))) _ (kB [[(bp,dr (.ptr p 0) l (.af lw 0 k 1) .ag .ag 0)],[(lw,L.map pW)],[(bs,aP s)],di s l (cy L) (List.replicate L.length fg),bN p q (dM s l) [],[(br,dr .cR ⟨0,0,0,0⟩ .ag .ag .ag 0)]] σ (a:=[0,1,2,3,4,5]) (b:=[1,2,0,3,4,5]) (by decide)) (Ts 103 [.ptr bp 0] (fun L' S=>S=[(bp,dr (.ptr p 0) l (.af lw 0 k 1) .ag .ag 0),(lw,L.map pW)]∧L'=L.take L'.length) _ _ ⟨rfl,rfl⟩ k (by omega) (fun L' S τ h1 h2=>Qq l k bp lw (.ptr p 0) L hL L' S τ h1 h2)) ?_;rintro v2 _ ⟨L',S2,agR,Lq,⟨rfl,DH⟩,Cq,rfl⟩;rw[Lq,← hL,er]at DH;rw[DH]at Cq;obtain⟨lb,rfl,rfl⟩:=E1 Cq (by omega);refine⟨_,.refl _,?_⟩;refine aa 1 ?_;have hR:=Rq s l hs cM p q lb k L ar ([(bp,dr (.ptr p 0) l (.af lw 0 k 1) .ag .ag 0),(br,dr .cR ⟨0,0,0,0⟩ .ag .ag .ag 0),(bs,aP s),(lw,L.map pW)]++σ) hL hk (by omega) kh;refine .perm _ (kB [[(lb,L.map iW)],bN p q (dM s l) [],di s l (cy L) (List.replicate L.length fg),[(bp,dr (.ptr p 0) l (.af lw 0 k 1) .ag .ag 0)],[(br,dr .cR ⟨0,0,0,0⟩ .ag .ag .ag 0)],[(bs,aP s)],[(lw,L.map pW)]] σ (a:=[0,1,2,3,4,5,6]) (b:=[0,3,6,5,2,1,4]) (by decide)) hR ?_;rintro _ _ ⟨Z,hZ,rfl,rfl⟩;refine⟨_,kB [[(lb,L.map iW)],bN p q (fx s l ar).a.ws [],di s l (cy L) Z,[(bp,dr (.ptr p 0) l (.af lw 0 k 1) .ag .ag 0)],[(br,dr .cR ⟨0,0,0,0⟩ .ag .ag .ag 0)],[(bs,aP s)],[(lw,L.map pW)]] σ (a:=[0,3,4,5,6,1,2]) (b:=[0,1,2,3,4,5,6]) (by decide),?_⟩;refine ah 1 ?_;refine aa 1 ?_;refine ah 2 ?_;refine aa 2 ?_;exact .drop 0 4 (.done ⟨p,q,lw,L,Z,rfl,hL,hZ,rfl,cM⟩)
set_option maxHeartbeats 4000000
theorem aft(p q:Nat)(ws:List Int)(b c:Int)(σ:Hp):ACalls Tryz.prog 53 [.agg [.int .i64 b,.int .i64 c],km p] (bN p q ws σ) (ay (.int .i64 (wr (eT ws b))) (bN p q ws σ)):=by
 refine ao Tryz.func53 ?_;intro ax;refine .sched [1] (upto [1] 7 0) (by kernel_rfl) ?_;refine aN [] (dI _ _ _) ?_;refine aa 0 ?_;refine InvAt.mk _ mLoad_ ?_;refine aw [2,2] (aLoad p q _ _ _) ?_;exact .drop 2 1 (.done ⟨rfl,rfl⟩)
theorem ab8(p q:Nat)(ws:List Int)(b c:Int)(σ:Hp):ACalls Tryz.prog 55 [.agg [.int .i64 b,.int .i64 c],km p] (bN p q ws σ) (ay (.int .i64 (wr (eT ws (ff b)))) (bN p q ws σ)):=by
 refine ao Tryz.func55 ?_;intro ax;refine .sched [1,3] (upto [1,3] 10 0) (by kernel_rfl) ?_;refine aN [] (dI _ _ _) ?_;refine aa 0 ?_;refine aN [] (sV _ _ _) ?_;refine eY.mk hLoad_ ?_;refine InvAt.mk _ mLoad_ ?_;refine aw [2,2] (aLoad p q _ _ _) ?_;exact .drop 2 1 (.done ⟨rfl,rfl⟩)
set_option maxHeartbeats 4000000
theorem ada(s:Sy)(l:Lay)(p q lw n:Nat)(L:List Nat)(Z:List WZ)(W:List WS)(st:List Int)(dn:List Bool)(us:Int)(ws:List Int)(σ:Hp)(hW:Z.map (·.x)=W)(hL:L.length=n)(hZ:W.length=n)(hn:n≤64):
  ACalls Tryz.prog 44 [.agg (dr (.ptr p 0) l (.af lw 0 n 1) (.ae (.int .i64) st) (.ae .bool dn) us)] ((lw,L.map pW)::bN p q ws (di s l (cy L) Z++σ)) (ay (.tup [.int .i64 (sG W),.int .i64 (sk W)]) ((lw,L.map pW)::bN p q ws (di s l (cy L) Z++σ))):=by
 have hZl:Z.length=n:=by rw[← hZ,← hW,cN]
 refine ao Tryz.func44 ?_;intro b1;refine aa 0 ?_;refine bc (S:=Nat) (fun i=>[(4,.int .i64 (sG (W.take i))),(5,.int .i64 (sk (W.take i))),(9,.af lw 0 n 1),(10,.int .i64 n),(11,.int .i64 i)]) (fun _=>(b1,dr (.ptr p 0) l (.af lw 0 n 1) (.ae (.int .i64) st) (.ae .bool dn) us)::(lw,L.map pW)::bN p q ws (di s l (cy L) Z++σ)) (fun i=>i≤n) (fun i=>n-i) 0 ⟨aV _,⟨rfl,rfl,rfl,rfl,rfl,trivial⟩,rfl⟩ ?_;intro i g dK;have hi:i≤n:=dK;clear dK;refine ai (p:=(i:Int)<(n:Int)) (fun ab=>?_) (fun ak=>?_);rotate_left
 ·have ak:i=n:=by omega
  have e:W.take i=W:=dZ (by omega);rw[e];exact .drop 0 1 (.done ⟨rfl,rfl⟩)
 have ab:i<n:=by omega
 have hg:(L.map pW)[0+((i:Int)).toNat*1]?=some (.ptr L[i] 0):=by
  rw[bD,dH,dD,fD,bu (by omega)];rfl
 refine aH ?_;refine aS 1 rfl (gD rfl hg) ?_;have hw:=JJ (s:=s) (l:=l) (I:=cy L) (Z:=Z) (i:=i) (by rw[xW];omega) (by omega);have hI:(cy L)[i]'(by rw[xW];omega)=(i,L[i]):=by simp[cy]
 have hx:Z[i].x=W[i]:=by
  have:(Z.map (·.x))[i]'(by rw[cN];omega)=Z[i].x:=D1 ..;rw[← this];congr 1
 rw[hI,hx]at hw;have yO:=aaf (W:=W) (i:=i) (by omega);have Hz:=Z6 (W:=W) (i:=i) (by omega);generalize W[i]=x at hw yO Hz
 have hp:((b1,dr (.ptr p 0) l (.af lw 0 n 1) (.ae (.int .i64) st) (.ae .bool dn) us)::(lw,L.map pW)::bN p q ws (di s l (cy L) Z++σ)).Perm ((L[i],ei s l i x.ev x.jo x.en x.an (He Z[i].r x.now) x.node x.has x.nx x.out)::(Hf l x.node Z[i].r Z[i].c Z[i].acc x.now++((b1,dr (.ptr p 0) l (.af lw 0 n 1) (.ae (.int .i64) st) (.ae .bool dn) us)::(lw,L.map pW)::bN p q ws ((((cy L).zip Z).eraseIdx i).flatMap (wU s l)++σ)))):=by
  refine (List.Perm.append_left [_,_,_,_] (List.Perm.append_right σ hw)).trans ?_;have h:=kB [[(b1,dr (.ptr p 0) l (.af lw 0 n 1) (.ae (.int .i64) st) (.ae .bool dn) us),(lw,L.map pW)],bN p q ws [],[(L[i],ei s l i x.ev x.jo x.en x.an (He Z[i].r x.now) x.node x.has x.nx x.out)],Hf l x.node Z[i].r Z[i].c Z[i].acc x.now,(((cy L).zip Z).eraseIdx i).flatMap (wU s l)] σ (a:=[0,1,2,3,4]) (b:=[2,3,0,1,4]) (by decide);unfold WB;rw[AW,cU];exact h
 refine .dT (.perm hp.symm (.refl _)) ?_;refine .quiet (by kernel_rfl) ?_;refine aa 0 ?_;refine aa 0 ?_;exact aM (i+1) (by show n-(i+1)<n-i;omega) ab ⟨congrArg (AV.int .i64) yO,congrArg (AV.int .i64) Hz,rfl,rfl,aI (by omega),trivial⟩ (.perm hp (.refl _))
theorem Wn(bp p q v:Nat)(l:Lay)(wv st dn:AV)(us:Int)(ws:List Int)(τ:Hp):ACalls Tryz.prog 48 [.int .i64 v,.ptr bp 0] ((bp,dr (.ptr p 0) l wv st dn us)::bN p q ws τ) (ay (.bool (decide (eT ws (wr (gK l+(v:Nat)))=1))) ((bp,dr (.ptr p 0) l wv st dn us)::bN p q ws τ)):=by
 refine ao Tryz.func48 ?_;refine .quiet (by kernel_rfl) ?_;refine aa 0 ?_;refine aN [] (zC l _) ?_;refine aa 0 ?_;refine aN [2,2] (mf (acD (gK l) (fL l) v p q ws _) (congrArg AV.bool (by rw[aX (show (0:Int)≤(v:Nat) by omega),yU]))) ?_;exact .done ⟨rfl,rfl⟩
theorem Wj(bp p q v:Nat)(l:Lay)(wv st dn:AV)(us:Int)(ws:List Int)(τ:Hp):ACalls Tryz.prog 51 [.int .i64 v,.ptr bp 0] ((bp,dr (.ptr p 0) l wv st dn us)::bN p q ws τ) (ay (.int .i64 (wr (eT ws (fF l v)))) ((bp,dr (.ptr p 0) l wv st dn us)::bN p q ws τ)):=by
 refine ao Tryz.func51 ?_;refine .quiet (by kernel_rfl) ?_;refine aa 0 ?_;refine aN [] (x6 l v _) ?_;refine aa 0 ?_;refine aN [2,2] (aft p q ws _ _ _) ?_;exact .done ⟨rfl,rfl⟩
theorem Wm(bp p q v:Nat)(l:Lay)(wv st dn:AV)(us:Int)(ws:List Int)(τ:Hp):ACalls Tryz.prog 54 [.int .i64 v,.ptr bp 0] ((bp,dr (.ptr p 0) l wv st dn us)::bN p q ws τ) (ay (.int .i64 (wr (eT ws (ff (fF l v))))) ((bp,dr (.ptr p 0) l wv st dn us)::bN p q ws τ)):=by
 refine ao Tryz.func54 ?_;refine .quiet (by kernel_rfl) ?_;refine aa 0 ?_;refine aN [] (x6 l v _) ?_;refine aa 0 ?_;refine aN [2,2] (ab8 p q ws _ _ _) ?_;exact .done ⟨rfl,rfl⟩
set_option maxHeartbeats 4000000
def B4(l:Lay)(ws:List Int)(n:Nat):List Bool:=(List.range n).map fun v:Nat=>decide (eT ws (wr (gK l+(v:Nat)))=1)
def Gg(l:Lay)(ws:List Int)(k:Nat):List Int:=(List.range k).map fun v:Nat=>wr (eT ws (fF l v))
def KW(l:Lay)(ws:List Int)(k:Nat):List Int:=(List.range k).map fun v:Nat=>wr (eT ws (ff (fF l v)))
def rR(dh:List (List Int))(waits:List Bool)(num ev jo us:Int)(gp nY:List Int)(dn:List Bool):List AV:=[.ae (.slice (.int .u64)) dh,.ae .bool waits,.int .i64 num,.int .i64 ev,.int .i64 jo,.int .i64 us,.ae (.int .i64) gp,.ae (.int .i64) nY,.ae .bool dn]
def oH:List AV:=[.ag,.ag,.int .i64 0,.int .i64 0,.int .i64 0,.int .i64 0,.ag,.ag,.ag]
def ya(dh:List (List Int))(wv:AV)(num ev jo us:Int)(tv bv:AV)(dn:List Bool):List AV:=[.ae (.slice (.int .u64)) dh,wv,.int .i64 num,.int .i64 ev,.int .i64 jo,.int .i64 us,tv,bv,.ae .bool dn]
theorem afK(s:Sy)(k:Nat)(l:Lay)(hl:fN s k=l)(ar:List (Int×Int×Unit))(σ:Hp)(hf:Fit s)(he:cI s k=0)(kh:ar.length≤100000)(dR:k≤64)(hn:l.n=(nN s:Int))(np:nN s≤100000)(fT:s.n=(nN s:Int))(rz:(fx s l ar).a.W.length=k):ACalls Tryz.prog 14 [.agg (aP s),.int .i64 k,.ae gV ar] σ (fun r σ'=>r=.tup [.agg (rR (rX l (fx s l ar).a.ws (nN s)) (B4 l (fx s l ar).a.ws (nN s)) (wr (eT (fx s l ar).a.ws (fL l))) (sG (fx s l ar).a.W) (sk (fx s l ar).a.W) (fx s l ar).us (Gg l (fx s l ar).a.ws k) (KW l (fx s l ar).a.ws k) (fx s l ar).dn),.int .i64 0]∧σ'=σ∧ic s l):=by
 refine ao Tryz.func14 ?_;intro b3;intro b6;refine aa 1 ?_;refine .perm _ (.refl _) (Y6 s k l hl ar _ hf he kh) ?_;rintro _ _ ⟨p,q,lw,L,Z,rfl,hL,hZ,rfl,cM⟩;refine⟨_,kB [[(lw,L.map pW)],bN p q (fx s l ar).a.ws [],di s l (cy L) Z,[(b6,oH)],[(b3,aP s)]] σ (a:=[0,3,4,1,2]) (b:=[0,1,2,3,4]) (by decide),?_⟩;generalize (fx s l ar)=x at hZ rz ⊢;intro ax;refine ah 0 ?_;obtain⟨P,hP⟩:∃P,P=(ax,dr (.ptr p 0) l (.af lw 0 k 1) (.ae (.int .i64) x.st) (.ae .bool x.dn) x.us):=⟨_,rfl⟩
 have q1:(bN p q x.a.ws (P::(lw,L.map pW)::(b6,oH)::(b3,aP s)::(di s l (cy L) Z++σ))).Perm (P::(lw,L.map pW)::(b6,oH)::(b3,aP s)::bN p q x.a.ws (di s l (cy L) Z++σ)):=kB [[P,(lw,L.map pW),(b6,oH),(b3,aP s)],bN p q x.a.ws [],di s l (cy L) Z] σ (a:=[1,0,2]) (b:=[0,1,2]) (by decide);have q2:∀Q,(bN p q x.a.ws (Q::P::(lw,L.map pW)::(b6,oH)::(b3,aP s)::(di s l (cy L) Z++σ))).Perm (Q::P::(lw,L.map pW)::(b6,oH)::(b3,aP s)::bN p q x.a.ws (di s l (cy L) Z++σ)):=fun Q=>kB [[Q,P,(lw,L.map pW),(b6,oH),(b3,aP s)],bN p q x.a.ws [],di s l (cy L) Z] σ (a:=[1,0,2]) (b:=[0,1,2]) (by decide);subst hP;refine gn.Gm (S:=Nat) [5,8,12] (kl [0,1,2,3,4,6,7,9,10,11,13,14,15,16,17,18] (.Ao 5 (.Ao 8 (.Ao 12 (ca [19,20,21]) (.one 20 false (.one 12 true (ca [19,21])))) (.one 20 false (.one 8 true (.one 12 true (ca [19,21]))))) (.one 20 false (.one 5 true (.one 8 true (.one 12 true (ca [19,21]))))))) (fun b=>[(1,.int .i64 k),(3,.ptr b3 0),(6,.ptr b6 0),(8,.ptr ax 0),(10,.ptr b 0)]) (fun b=>(b,ya (rX l x.a.ws (nN s)) .ag (wr (eT x.a.ws (fL l))) 0 0 x.us .ag .ag x.dn)::(ax,dr (.ptr p 0) l (.af lw 0 k 1) (.ae (.int .i64) x.st) (.ae .bool x.dn) x.us)::(lw,L.map pW)::(b6,oH)::(b3,aP s)::bN p q x.a.ws (di s l (cy L) Z++σ)) (by kernel_rfl) ?_ ?_
 ·repeat' first
   |exact cX.mk _ ⟨rfl,rfl,rfl,rfl,rfl,trivial⟩ (aL rfl)
   |refine And.intro ?_ ?_
   |refine aa 0 ?_
   |refine aa 1 ?_
   |refine ah 0 ?_
   |refine aN [5,5] (IS p q l (nN s) _ _ hn np) ?_
   |refine aN [6,6] (IS p q l (nN s) _ _ hn np) ?_
   |refine aN [] (zC l _) ?_
   |refine aw [] (zC l _) ?_
   |(refine .perm _ q1 (IS p q l (nN s) _ _ hn np) ?_;rintro _ _ ⟨rfl,rfl⟩;refine⟨_,q1.symm,?_⟩)
   |(refine .perm _ q1 (JH _ _ p q _ _) ?_;rintro _ _ ⟨rfl,rfl⟩;refine⟨_,q1.symm,?_⟩)
   |refine aN [5,5] (JH _ _ p q _ _) ?_
   |refine aN [6,6] (JH _ _ p q _ _) ?_
   |intro b
 intro b g;clear q1 q2;refine aa 1 ?_;refine .perm _ (kB [[(lw,L.map pW)],bN p q x.a.ws [],di s l (cy L) Z,[(b,ya (rX l x.a.ws (nN s)) .ag (wr (eT x.a.ws (fL l))) 0 0 x.us .ag .ag x.dn)],[(ax,dr (.ptr p 0) l (.af lw 0 k 1) (.ae (.int .i64) x.st) (.ae .bool x.dn) x.us)],[(b6,oH)],[(b3,aP s)]] σ (a:=[0,1,2,3,4,5,6]) (b:=[3,4,0,5,6,1,2]) (by decide)) (ada s l p q lw k L Z _ _ _ _ _ _ hZ hL rz dR) ?_;rintro _ _ ⟨rfl,rfl⟩;refine⟨(b,ya (rX l x.a.ws (nN s)) .ag (wr (eT x.a.ws (fL l))) 0 0 x.us .ag .ag x.dn)::(ax,dr (.ptr p 0) l (.af lw 0 k 1) (.ae (.int .i64) x.st) (.ae .bool x.dn) x.us)::(lw,L.map pW)::(b6,oH)::(b3,aP s)::bN p q x.a.ws (di s l (cy L) Z++σ),kB [[(lw,L.map pW)],bN p q x.a.ws [],di s l (cy L) Z,[(b,ya (rX l x.a.ws (nN s)) .ag (wr (eT x.a.ws (fL l))) 0 0 x.us .ag .ag x.dn)],[(ax,dr (.ptr p 0) l (.af lw 0 k 1) (.ae (.int .i64) x.st) (.ae .bool x.dn) x.us)],[(b6,oH)],[(b3,aP s)]] σ (a:=[3,4,0,5,6,1,2]) (b:=[0,1,2,3,4,5,6]) (by decide),?_⟩;refine ah 0 ?_;refine ah 0 ?_;refine aa 4 ?_;have hE1:=fun τ=>aeI 48 [.ptr ax 0] ((ax,dr (.ptr p 0) l (.af lw 0 k 1) (.ae (.int .i64) x.st) (.ae .bool x.dn) x.us)::bN p q x.a.ws []) τ (fun v:Nat=>decide (eT x.a.ws (wr (gK l+(v:Nat)))=1)) (nN s) np (fun i _ τ=>Wn ax p q i l _ _ _ _ x.a.ws τ);have vE:=fun τ=>Tt 51 [.ptr ax 0] ((ax,dr (.ptr p 0) l (.af lw 0 k 1) (.ae (.int .i64) x.st) (.ae .bool x.dn) x.us)::bN p q x.a.ws []) τ (fun v:Nat=>wr (eT x.a.ws (fF l v))) k (by omega) (fun i _ τ=>Wj ax p q i l _ _ _ _ x.a.ws τ);have hE3:=fun τ=>Tt 54 [.ptr ax 0] ((ax,dr (.ptr p 0) l (.af lw 0 k 1) (.ae (.int .i64) x.st) (.ae .bool x.dn) x.us)::bN p q x.a.ws []) τ (fun v:Nat=>wr (eT x.a.ws (ff (fF l v)))) k (by omega) (fun i _ τ=>Wm ax p q i l _ _ _ _ x.a.ws τ);rw[← fT]at hE1;refine aw [3,6,6] (hE1 ((b,ya (rX l x.a.ws (nN s)) .ag (wr (eT x.a.ws (fL l))) (sG x.a.W) (sk x.a.W) x.us .ag .ag x.dn)::(lw,L.map pW)::(b6,oH)::(b3,aP s)::(di s l (cy L) Z++σ))) ?_;refine ah 3 ?_;refine aw [] (vE ((b,ya (rX l x.a.ws (nN s)) (.ae .bool (B4 l x.a.ws (nN s))) (wr (eT x.a.ws (fL l))) (sG x.a.W) (sk x.a.W) x.us .ag .ag x.dn)::(lw,L.map pW)::(b6,oH)::(b3,aP s)::(di s l (cy L) Z++σ))) ?_;refine ah 3 ?_;refine aw [] (hE3 ((b,ya (rX l x.a.ws (nN s)) (.ae .bool (B4 l x.a.ws (nN s))) (wr (eT x.a.ws (fL l))) (sG x.a.W) (sk x.a.W) x.us (.ae (.int .i64) (Gg l x.a.ws k)) .ag x.dn)::(lw,L.map pW)::(b6,oH)::(b3,aP s)::(di s l (cy L) Z++σ))) ?_;refine ah 3 ?_;refine aa 3 ?_;refine ah 5 ?_;refine aa 5 ?_;exact .drop 0 7 (Yv (di s l (cy L) Z) (.done ⟨rfl,rfl,cM⟩))
set_option maxHeartbeats 4000000
section
variable {s:Sy} {l:Lay} (hs:LS s l)
include hs
end
section
variable {s:Sy} {l:Lay} {hs:LS s l}
end
section
variable {s:Sy} {l:Lay} {hs:LS s l}
theorem XE{s:Sy}{l:Lay}{who:Int}{x:WS}{d:Int}{ws:List Int}:(de bR s l who x d ws).2.2=(de bR s l who x d ws).1.en:=by
 cases he:x.en with
 |true=>unfold de;rw[az he];exact he.symm
 |false=>exact Zh (s:=s) (l:=l) (who:=who) (d:=d) (ws:=ws) he
end
set_option maxHeartbeats 4000000
section
variable {s:Sy} {l:Lay} {I:List (Nat×Nat)}
end
structure XL(s:Sy)(l:Lay)(x:jw WA):Prop where
 free:qT s l x.a
 dn:x.dn=x.a.W.map (·.en)
theorem XL.pick{s:Sy}{l:Lay}(hs:LS s l){x:jw WA}(h:XL s l x)(p:Int×Int×Unit):XL s l (kJ (gC s l) (fun a _=>a) l.k.toNat x p):=by
 have jr:=hs.k1;have mY:=uf (p:=p.1) (show 0<l.k.toNat by omega);have hlen:=h.free.len;unfold kJ
 by_cases hd:x.dn.getD (gE p.1 l.k.toNat) true=true
 ·rw[az hd];exact⟨h.free,h.dn⟩
 ·rw[aB hd];refine⟨h.free.step hs _ _,?_⟩;show x.dn.set _ _=(gC s l x.a _ _).1.W.map (·.en);have hW:x.a.W[gE p.1 l.k.toNat]?=some x.a.W[gE p.1 l.k.toNat]:=bu (by omega);rw[BB hW,h.dn,XE];show _=(List.set _ _ _).map _;rw[sB]
theorem XL.go{s:Sy}{l:Lay}(hs:LS s l):∀(ar:List (Int×Int×Unit)) {x:jw WA},XL s l x→XL s l (D5 s l ar x)
 | [],_,h=>h
 |p::ar,x,h=>by
  show XL s l (if x.dn.all id=true then x else D5 s l ar (kJ (gC s l) (fun a _=>a) l.k.toNat x p));split
  ·exact h
  ·exact XL.go hs ar (h.pick hs p)
theorem adl{s:Sy}{l:Lay}(hs:LS s l)(cM:ic s l)(ar:List (Int×Int×Unit)):XL s l (fx s l ar):=
 XL.go hs ar ⟨F6 cM hs,by show List.replicate _ _=(List.replicate _ _).map _;rw[MW];rfl⟩
set_option maxHeartbeats 4000000
theorem ZG{s:Sy}{l:Lay}(n:Nat)(x:jw WA)(p:Int×Int×Unit):(kJ (gC s l) (fun a _=>a) n x p).dn.length=x.dn.length∧(kJ (gC s l) (fun a _=>a) n x p).a.W.length=x.a.W.length:=by
 unfold kJ;split
 ·exact⟨rfl,rfl⟩
 ·refine⟨dY ..,?_⟩;show (gC s l x.a _ _).1.W.length=_;unfold gC;split
  ·exact dY ..
  ·rfl
theorem SZ{s:Sy}{l:Lay}(n:Nat):∀(ar:List (Int×Int×Unit)) (x:jw WA),(iB (gC s l) (fun a _=>a) n ar x).dn.length=x.dn.length∧(iB (gC s l) (fun a _=>a) n ar x).a.W.length=x.a.W.length
 | [],x=>⟨rfl,rfl⟩
 |p::ar,x=>by
  show (if x.dn.all id=true then x else iB (gC s l) (fun a _=>a) n ar (kJ (gC s l) (fun a _=>a) n x p)).dn.length=_∧(if x.dn.all id=true then x else iB (gC s l) (fun a _=>a) n ar (kJ (gC s l) (fun a _=>a) n x p)).a.W.length=_;split
  ·exact⟨rfl,rfl⟩
  ·have h1:=SZ (s:=s) (l:=l) n ar (kJ (gC s l) (fun a _=>a) n x p);have h2:=ZG (s:=s) (l:=l) n x p;exact⟨h1.1.trans h2.1,h1.2.trans h2.2⟩
theorem abu(s:Sy)(l:Lay)(ar:List (Int×Int×Unit)):(fx s l ar).dn.length=l.k.toNat∧(fx s l ar).a.W.length=l.k.toNat:=by
 have h:=SZ (s:=s) (l:=l) l.k.toNat ar (G8 s l);exact⟨h.1.trans gh,h.2.trans gh⟩
def Uj:List Int:=[1,1,1,1,2,0,0]
def wT:jw WA:=⟨⟨[q8],Uj⟩,[0],[false],0⟩
def KF(s:Sy)(l:Lay)(k:Nat)(x:jw WA):List AV:=rR (rX l x.a.ws (nN s)) (B4 l x.a.ws (nN s)) (wr (eT x.a.ws (fL l))) (sG x.a.W) (sk x.a.W) x.us (Gg l x.a.ws k) (KW l x.a.ws k) x.dn
theorem af0{s:Sy}{k:Int}(hf:Fit s)(he:cI s k=0):∃n:Nat,k=(n:Int)∧1≤n∧n≤64:=by
 obtain⟨hs,_⟩:=ye hf he;have h1:=hs.k1;have h2:=hs.k2;rw[Fy he]at h1 h2;exact⟨k.toNat,by omega,by omega,by omega⟩
theorem acG(s:Sy)(va Ha:List (List Int))(wv wv' dv dv':AV)(num afV ev Im jo Hg us Hb:Int)(tv tv' bv bv':AV)(σ:Hp)(hf:Fit s)(tD:lT va)(ag3:lT Ha):ACalls Tryz.prog 76 [.agg (aP s),.agg [.ae (.slice (.int .u64)) va,wv,.int .i64 num,.int .i64 ev,.int .i64 jo,.int .i64 us,tv,bv,dv],.agg [.ae (.slice (.int .u64)) Ha,wv',.int .i64 afV,.int .i64 Im,.int .i64 Hg,.int .i64 Hb,tv',bv',dv']] σ (ay (.bool (wo s va Ha&&decide (ev≤Im)&&decide (jo≤Hg)&&decide (us≤Hb))) σ):=by
 refine ao Tryz.func76 ?_;intro ax;intro bX;intro kX;refine aa 2 ?_;refine aa 1 ?_;refine aa 0 ?_;refine dc [] (Jh s va Ha _ hf tD ag3) (fun c0=>?_) (fun c0=>?_)
 ·refine aa 1 ?_;refine aa 0 ?_;refine ai (fun c1=>?_) (fun c1=>?_)
  ·have c1:ev≤Im:=c1;refine aa 1 ?_;refine aa 0 ?_;refine ai (fun c2=>?_) (fun c2=>?_)
   ·have c2:jo≤Hg:=c2;refine aa 1 ?_;refine aa 0 ?_;refine ai (fun c3=>?_) (fun c3=>?_)
    ·have c3:us≤Hb:=c3;exact .drop 0 3 (.done ⟨by rw[c0,aX c1,aX c2,aX c3];rfl,rfl⟩)
    ·have c3:¬(us≤Hb):=c3;exact .drop 0 3 (.done ⟨by rw[c0,aX c1,aX c2,cp c3];rfl,rfl⟩)
   ·have c2:¬(jo≤Hg):=c2;exact .drop 0 3 (.done ⟨by rw[c0,aX c1,cp c2];rfl,rfl⟩)
  ·have c1:¬(ev≤Im):=c1;exact .drop 0 3 (.done ⟨by rw[c0,cp c1];rfl,rfl⟩)
 ·exact .drop 0 3 (.done ⟨by rw[c0];rfl,rfl⟩)
theorem aei(s:Sy)(va:List (List Int))(wv dv:AV)(num ev jo us:Int)(gp nY:List Int)(σ:Hp)(hf:Fit s)(hg:Good s)(tD:lT va)(Ma:lT (r7 s).1)(hlen:gp.length≤100000)(hb:wo s va (r7 s).1=true)(Ux:0≤num∧num≤wr (s.n+(gp.length:Int)))(hl:gp.length=nY.length)(yO:ev≤zM s)(Hz:jo≤zI s)(hd:∀i:Nat,i<gp.length→1≤gp.getD i 0∧¬nY.getD i 0<wr (gp.getD i 0-1)∧¬(gp.getD i 0≤nY.getD i 0∧s.n<wr (nY.getD i 0-gp.getD i 0))):ACalls Tryz.prog 75 [.agg (aP s),.agg [.ae (.slice (.int .u64)) va,wv,.int .i64 num,.int .i64 ev,.int .i64 jo,.int .i64 us,.ae (.int .i64) gp,.ae (.int .i64) nY,dv]] σ (ay (.bool true) σ):=by
 refine ao Tryz.func75 ?_;intro ax;intro bX;refine aa 1 ?_;refine aw [] (Rp s _ hf hg) ?_;refine aa 1 ?_;refine aa 0 ?_;refine aw [] (mf (Jh s va _ _ hf tD Ma) (by rw[hb])) ?_;refine aa 0 ?_;refine ai (fun c1=>?_) (fun c1=>?_)
 ·have c1:num<0:=c1;exact absurd c1 (AR.2 Ux.1)
 ·have c1:¬(num<0):=c1;refine aa 0 ?_;refine aa 1 ?_;refine aa 0 ?_;refine ai (fun c2=>?_) (fun c2=>?_)
  ·have c2:IntKind.i64.wrap (s.n+(↑gp.length:Int))<num:=c2;exact absurd c2 (AR.2 Ux.2)
  ·have c2:¬(IntKind.i64.wrap (s.n+(↑gp.length:Int))<num):=c2;refine .quiet (by kernel_rfl) ?_;refine aa 0 ?_;refine aa 0 ?_;refine cO (fun c3=>?_) (fun c3=>?_)
   ·have c3:(!decide ((↑gp.length:Int)=(↑nY.length:Int)))=true:=c3;exact absurd hl (fun h=>by rw[h]at c3;simp at c3)
   ·have c3:(!decide ((↑gp.length:Int)=(↑nY.length:Int)))=false:=c3;refine aa 0 ?_;refine aa 1 ?_;refine aN [] (Xv s _ hf) ?_;refine ai (fun c1=>?_) (fun c1=>?_)
    ·have c1:zM s<ev:=c1;exact absurd c1 (AR.2 yO)
    ·have c1:¬(zM s<ev):=c1;refine aa 0 ?_;refine aa 1 ?_;refine aN [] (Xu s _ hf) ?_;refine ai (fun c1=>?_) (fun c1=>?_)
     ·have c1:zI s<jo:=c1;exact absurd c1 (AR.2 Hz)
     ·have c1:¬(zI s<jo):=c1;refine aa 0 ?_;refine bc (S:=Nat) (fun i=>[(2,.ptr ax 0),(3,.ptr bX 0),(65,.ae (.int .i64) gp),(66,.int .i64 gp.length),(67,.int .i64 i)]) (fun _=>(bX,[.ae (.slice (.int .u64)) va,wv,.int .i64 num,.int .i64 ev,.int .i64 jo,.int .i64 us,.ae (.int .i64) gp,.ae (.int .i64) nY,dv])::(ax,aP s)::σ) (fun i=>i≤gp.length) (fun i=>gp.length-i) 0 ⟨aV _,⟨rfl,rfl,rfl,rfl,rfl,trivial⟩,by rfl⟩ ?_;intro i g dK;have Dx:i≤gp.length:=dK;clear dK;refine ai (p:=(i:Int)<(gp.length:Int)) (fun ab=>?_) (fun ak=>?_)
      ·have ab:i<gp.length:=by omega
       refine aF.mk rfl ?_;obtain⟨t,htx⟩:∃t,gp[i]=t:=⟨_,rfl⟩
       obtain⟨b,hbx⟩:∃b,nY[i]'(by omega)=b:=⟨_,rfl⟩
       have Uz:i<nY.length:=by omega
       obtain⟨d1,d2,d3⟩:=hd i ab;have e1:gp.getD i 0=t:=by rw[bK,bu ab,htx];rfl
       have e2:nY.getD i 0=b:=by rw[bK,bu Uz,hbx];rfl
       rw[e1]at d1 d2 d3;rw[e2]at d2 d3;refine aY.mk t (by omega) ((get_some ab).trans (congrArg some htx)) ?_;refine aa 0 ?_;refine aF.mk rfl ?_;refine aY.mk b (by omega) ((get_some Uz).trans (congrArg some hbx)) ?_;refine ai (fun c1=>?_) (fun c1=>?_)
       ·have c1:t<1:=c1;exact absurd c1 (AR.2 d1)
       ·have c1:¬(t<1):=c1;refine ai (fun c2=>?_) (fun c2=>?_)
        ·have c2:b<IntKind.i64.wrap (t-1):=c2;exact absurd c2 d2
        ·have c2:¬(b<IntKind.i64.wrap (t-1)):=c2;refine ai (fun c3=>?_) (fun c3=>?_)
         ·have c3:t≤b:=c3;refine aa 1 ?_;refine ai (fun c4=>?_) (fun c4=>?_)
          ·have c4:s.n<IntKind.i64.wrap (b-t):=c4;exact absurd ⟨c3,c4⟩ d3
          ·have c4:¬(s.n<IntKind.i64.wrap (b-t)):=c4;exact aM (i+1) (by show gp.length-(i+1)<gp.length-i;omega) ab ⟨rfl,rfl,rfl,rfl,aI (by omega),trivial⟩ (.refl _)
         ·have c3:¬(t≤b):=c3;exact aM (i+1) (by show gp.length-(i+1)<gp.length-i;omega) ab ⟨rfl,rfl,rfl,rfl,aI (by omega),trivial⟩ (.refl _)
      exact .drop 0 2 (.done ⟨rfl,rfl⟩)
theorem acE(s:Sy)(va:List (List Int))(wv dv:AV)(num ev jo us:Int)(gp nY:List Int)(σ:Hp)(hf:Fit s)(hg:Good s)(tD:lT va)(Ma:lT (r7 s).1)(hb:wo s va (r7 s).1=false):ACalls Tryz.prog 75 [.agg (aP s),.agg [.ae (.slice (.int .u64)) va,wv,.int .i64 num,.int .i64 ev,.int .i64 jo,.int .i64 us,.ae (.int .i64) gp,.ae (.int .i64) nY,dv]] σ (ay (.bool false) σ):=by
 refine ao Tryz.func75 ?_;intro ax;intro bX;refine aa 1 ?_;refine aw [] (Rp s _ hf hg) ?_;refine aa 1 ?_;refine aa 0 ?_;refine aw [] (mf (Jh s va _ _ hf tD Ma) (by rw[hb])) ?_;exact .drop 0 2 (.done ⟨rfl,rfl⟩)
set_option maxHeartbeats 4000000
def UZ(s:Sy)(l:Lay)(e:Ev):Prop:=∃a:Nat,e.at_=a∧a<cJ l∧(a<nN s*nW l→e.kind=1∨e.kind=3)
def tw(s:Sy)(l:Lay)(ws:List Int)(es iM:List Ev)(ws':List Int):Prop:=(iM=es∧ws'=ws)∨∃k t x y:Int,(1≤k∧k≤4)∧iM=es++[(ij bR ws k t x y).1]∧ws'=(ij bR ws k t x y).2∧UZ s l (ij bR ws k t x y).1
section
variable {s:Sy} {l:Lay} {ws:List Int} {es:List Ev}
theorem qI{t:Int}(h:∃a:Nat,t=a∧a<cJ l):tw s l ws es (es++[⟨1,t,0,0,eT ws t,false⟩]) ws:=by
 obtain⟨a,h1,h2⟩:=h;exact .inr ⟨1,t,0,0,⟨by decide,by decide⟩,rfl,rfl,a,h1,h2,fun _=>.inl rfl⟩
theorem x4{t x:Int}(h:∃a:Nat,t=a∧a<cJ l∧nN s*nW l≤a):tw s l ws es (es++[⟨2,t,x,0,0,false⟩]) (gJ ws t x):=by
 obtain⟨a,h1,h2,h3⟩:=h;exact .inr ⟨2,t,x,0,⟨by decide,by decide⟩,rfl,rfl,a,h1,h2,fun h=>absurd h (Nat.not_lt.2 h3)⟩
theorem BT{t x y:Int}(h:∃a:Nat,t=a∧a<cJ l):tw s l ws es (es++[⟨3,t,x,y,0,tg ws t x⟩]) (mP ws t x y):=by
 obtain⟨a,h1,h2⟩:=h;exact .inr ⟨3,t,x,y,⟨by decide,by decide⟩,rfl,rfl,a,h1,h2,fun _=>.inr rfl⟩
theorem R8{t x:Int}(h:∃a:Nat,t=a∧a<cJ l∧nN s*nW l≤a):tw s l ws es (es++[⟨4,t,x,0,Ak ws t x,false⟩]) (rQ ws t x):=by
 obtain⟨a,h1,h2,h3⟩:=h;exact .inr ⟨4,t,x,0,⟨by decide,by decide⟩,rfl,rfl,a,h1,h2,fun h=>absurd h (Nat.not_lt.2 h3)⟩
theorem pH:tw s l ws es es ws:=.inl ⟨rfl,rfl⟩
theorem oN{t:Int}{p:Nat→Prop}(h:∃a:Nat,t=a∧a<cJ l∧p a):∃a:Nat,t=a∧a<cJ l:=⟨_,h.choose_spec.1,h.choose_spec.2.1⟩
end
def p7(s:Sy)(l:Lay){X:Type}(ws:List Int)(es:List Ev)(r:X×List Int×Bool)(q:X×(List Int×List Ev)×Bool):Prop:=∃iM,q=(r.1,(r.2.1,iM),r.2.2)∧tw s l ws es iM r.2.1
section
variable {s:Sy} {l:Lay} {ws:List Int} {es:List Ev}
theorem abG(q:DQ)(h1:∃a:Nat,q.base=a∧a<cJ l∧nN s*nW l≤a)(h2:∃a:Nat,ff q.base=a∧a<cJ l∧nN s*nW l≤a)(h3:∃a:Nat,jy q.base q.cap q.b=a∧a<cJ l∧nN s*nW l≤a):p7 s l ws es (jf bR q ws) (jf (fW bR) q (ws,es)):=by
 unfold jf fW;dsimp only
 repeat' split
 all_goals first
  |exact⟨_,rfl,pH⟩
  |exact⟨_,rfl,qI (oN h1)⟩
  |exact⟨_,rfl,qI (oN h2)⟩
  |exact⟨_,rfl,qI (oN h3)⟩
  |exact⟨_,rfl,x4 h1⟩
  |exact⟨_,rfl,x4 h2⟩
  |exact⟨_,rfl,x4 h3⟩
  |exact⟨_,rfl,BT (oN h1)⟩
theorem ZE(q:DQ)(h1:∃a:Nat,q.base=a∧a<cJ l∧nN s*nW l≤a)(h2:∃a:Nat,ff q.base=a∧a<cJ l∧nN s*nW l≤a)(h3:∃a:Nat,jy q.base q.cap q.b=a∧a<cJ l∧nN s*nW l≤a):p7 s l ws es (kz bR q ws) (kz (fW bR) q (ws,es)):=by
 unfold kz fW;dsimp only
 repeat' split
 all_goals first
  |exact⟨_,rfl,pH⟩
  |exact⟨_,rfl,qI (oN h1)⟩
  |exact⟨_,rfl,qI (oN h2)⟩
  |exact⟨_,rfl,qI (oN h3)⟩
  |exact⟨_,rfl,x4 h1⟩
  |exact⟨_,rfl,x4 h2⟩
  |exact⟨_,rfl,x4 h3⟩
  |exact⟨_,rfl,BT (oN h1)⟩
theorem XJ(q:DQ)(h1:∃a:Nat,q.base=a∧a<cJ l∧nN s*nW l≤a)(h2:∃a:Nat,ff q.base=a∧a<cJ l∧nN s*nW l≤a)(h3:∃a:Nat,jy q.base q.cap q.t=a∧a<cJ l∧nN s*nW l≤a):p7 s l ws es (j8 bR q ws) (j8 (fW bR) q (ws,es)):=by
 unfold j8 fW;dsimp only
 repeat' split
 all_goals first
  |exact⟨_,rfl,pH⟩
  |exact⟨_,rfl,qI (oN h1)⟩
  |exact⟨_,rfl,qI (oN h2)⟩
  |exact⟨_,rfl,qI (oN h3)⟩
  |exact⟨_,rfl,BT (oN h1)⟩
theorem adA(t:Qk)(h1:∃a:Nat,t.c=a∧a<cJ l∧nN s*nW l≤a):p7 s l ws es (oz bR t ws) (oz (fW bR) t (ws,es)):=by
 unfold oz fW;dsimp only
 repeat' split
 all_goals first
  |exact⟨_,rfl,pH⟩
  |exact⟨_,rfl,qI (oN h1)⟩
theorem adv(t:Rk)(h1:∃a:Nat,t.c=a∧a<cJ l∧nN s*nW l≤a):p7 s l ws es (pJ bR t ws) (pJ (fW bR) t (ws,es)):=by
 unfold pJ fW;dsimp only
 repeat' split
 all_goals first
  |exact⟨_,rfl,pH⟩
  |exact⟨_,rfl,R8 h1⟩
theorem ae9(t:Ck)(h1:∃a:Nat,wr (t.f+t.v)=a∧a<cJ l∧nN s*nW l≤a):p7 s l ws es (oG bR t ws) (oG (fW bR) t (ws,es)):=by
 unfold oG fW;dsimp only
 by_cases he:t.ended=true
 ·rw[az he,az he];exact⟨_,rfl,pH⟩
 ·rw[aB he,aB he]
  by_cases hv:0≤t.v
  ·rw[az hv,az hv];exact⟨_,rfl,x4 h1⟩
  ·rw[aB hv,aB hv];exact⟨_,rfl,pH⟩
theorem adp(t:Tk)(h1:∃a:Nat,wr (t.f+t.v)=a∧a<cJ l∧nN s*nW l≤a)(h2:∃a:Nat,t.c=a∧a<cJ l∧nN s*nW l≤a):p7 s l ws es (lJ bR t ws) (lJ (fW bR) t (ws,es)):=by
 unfold lJ fW;dsimp only
 repeat' split
 all_goals first
  |exact⟨_,rfl,pH⟩
  |exact⟨_,rfl,BT (oN h1)⟩
  |exact⟨_,rfl,R8 h2⟩
theorem ZC(base:Int)(x:List Int)(h:x.length<cw l.words→∃a:Nat,wr (base+(x.length:Nat))=a∧a<cJ l):p7 s l ws es (nA bR l base x ws) (nA (fW bR) l base x (ws,es)):=by
 unfold nA fW;dsimp only;split
 ·next hc=>exact⟨_,rfl,qI (h hc)⟩
 ·exact⟨_,rfl,pH⟩
theorem adR(j:Jn)(h:¬j.at_=cw j.words→∃a:Nat,wr (j.base+(j.at_:Nat))=a∧a<cJ l):p7 s l ws es (jS bR j ws) (jS (fW bR) j (ws,es)):=by
 unfold jS fW;dsimp only
 by_cases h0:j.ended=true
 ·rw[az h0,az h0];exact⟨_,rfl,pH⟩
 rw[aB h0,aB h0]
 by_cases h1:j.at_=cw j.words
 ·rw[az h1,az h1];exact⟨_,rfl,pH⟩
 rw[aB h1,aB h1];have h:=h h1
 repeat' split
 all_goals first
  |exact⟨_,rfl,qI h⟩
  |exact⟨_,rfl,BT h⟩
end
theorem LS.Db{s:Sy}{l:Lay}(hs:LS s l):cJ l=nN s*nW l+nN s+1+l.k.toNat*(nN s+3):=by
 have h1:=hs.k1;have h2:=hs.k2;have h3:=hs.size.1;have h4:=hs.uF (k:=l.k.toNat) (by omega);rw[show ((l.k.toNat:Nat):Int)=l.k by omega]at h4;omega
theorem Ko{s:Sy}{l:Lay}(hs:LS s l){j:Nat}(hj:(j:Int)<l.k):(∃a:Nat,fF l j=a∧a<cJ l∧nN s*nW l≤a)∧(∃a:Nat,ff (fF l j)=a∧a<cJ l∧nN s*nW l≤a)∧∀i:Int,0≤i→∃a:Nat,jy (fF l j) (fH l) i=a∧a<cJ l∧nN s*nW l≤a:=by
 have hk:=hs.k2;have dG:=hs.Db;have hb:=acq hs (j:=j) (by omega);have hr:=hs.room;have h1:=hs.uF (k:=j) (by omega);have h4:(j+1)*(nN s+3)≤l.k.toNat*(nN s+3):=nt _ (by omega);rw[rD]at h4;have hd:Eh s l j=nN s*nW l+nN s+1+j*(nN s+3):=rfl;rw[h1];refine⟨⟨_,rfl,by omega,by omega⟩,⟨Eh s l j+1,adD hb,by omega,by omega⟩,fun i hi=>?_⟩;obtain⟨i,rfl⟩:=qx hi;refine⟨_,ZH (bs:=Eh s l j) hb (fH l) i,?_,by omega⟩;have:=tL i (show 0<rm (fH l) by omega);omega
section
variable {s:Sy} {l:Lay} {ws:List Int} {es:List Ev}
theorem adM(hs:LS s l){who an node:Int}{nx out:List Int}{n:Nw}(mY:0≤who∧who<l.k)(rW:0≤node∧node<s.n)(cz:∀u∈nx,0≤u∧u<s.n)(hh:an=5∨an=6∨an=7→0<nx.length)(hb:Ai s l who an node nx out n):
  p7 s l ws es (ka bR l node n ws) (ka (fW bR) l node n (ws,es)):=by
 have lift:∀{X:Type} {f:X→Nw} {r:X×List Int×Bool} {q:X×(List Int×List Ev)×Bool},p7 s l ws es r q→p7 s l ws es (f r.1,r.2) (f q.1,q.2):=by
  rintro X f r q ⟨iM,rfl,h⟩;exact⟨iM,rfl,h⟩
 have hnn:=hs.nn;have dG:=hs.Db;obtain⟨i,rfl⟩:=qx mY.1;obtain⟨v,rfl⟩:=qx rW.1;have uN:∃a:Nat,fL l=a∧a<cJ l∧nN s*nW l≤a:=⟨_,hs.count,by omega,by omega⟩
 have TV:∀{u:Nat},u<nN s→∃a:Nat,wr (gK l+(u:Nat))=a∧a<cJ l∧nN s*nW l≤a:=fun hu=>⟨_,hs.Cs hu,by omega,by omega⟩
 have jz:∀{u k:Nat},u<nN s→k<nW l→∃a:Nat,wr (dX l u+(k:Nat))=a∧a<cJ l:=fun hu hk=>⟨_,hs.Gz hu hk,by have:=FH hu hk;omega⟩
 cases n with
 |none=>exact hb.elim
 |pop q=>
  obtain⟨_,hw,h1,h2⟩:=hb;obtain⟨d1,d2,d3⟩:=Ko hs mY.2;exact lift (abG q (h1▸d1) (h1▸d2) (by rw[h1,h2];exact d3 _ hw.b.1))
 |ft q=>
  obtain⟨_,hw,⟨j,hj,h1⟩,h2,_⟩:=hb;obtain⟨d1,d2,d3⟩:=Ko hs hj;exact lift (XJ q (h1▸d1) (h1▸d2) (by rw[h1,h2];exact d3 _ hw.t.1))
 |quiet t=>obtain⟨_,rfl⟩:=hb;exact lift (adA _ uN)
 |clear t=>obtain⟨_,rfl⟩:=hb;exact lift (ae9 _ (TV (by omega)))
 |read y=>exact lift (ZC _ y fun hc=>jz (by omega) hc)
 |join j=>
  obtain⟨hd,⟨h1,h2,h3,_⟩,h4,h5,_⟩:=hb;obtain⟨u,hu,L9⟩:=FA cz (hh (.inl hd));refine lift (adR j fun hc=>?_);rw[h1,hu];rw[h3]at hc;exact jz (by omega) (by show j.at_<cw l.words;have:j.at_≤cw l.words:=h5;omega)
 |take t=>
  obtain⟨hd,kv,rfl⟩:=hb;obtain⟨u,hu,L9⟩:=FA cz (hh (.inr (.inl hd)));exact lift (adp _ (by show ∃a:Nat,wr (gK l+nx.headD 0)=a∧_;rw[hu];exact TV (by omega)) uN)
 |push q=>
  obtain⟨_,hw,h1,h2,_⟩:=hb;obtain⟨d1,d2,d3⟩:=Ko hs mY.2;exact lift (ZE q (h1▸d1) (h1▸d2) (by rw[h1,h2];exact d3 _ hw.b.1))
 |ib t=>obtain⟨_,rfl⟩:=hb;exact lift (adv _ uN)
theorem XD(hs:LS s l){who:Int}{x:WS}{d:Int}(mY:0≤who∧who<l.k)(h:WV s l who x):p7 s l ws es (de bR s l who x d ws) (de (fW bR) s l who x d (ws,es)):=by
 unfold de
 by_cases he:x.en=true
 ·rw[az he,az he];exact⟨_,rfl,pH⟩
 rw[aB he,aB he];obtain⟨iM,h1,h2⟩:=adM (ws:=ws) (es:=es) hs mY h.node h.nx h.head (R0 (d:=d) hs mY h);rw[h1];dsimp only;split
 ·exact⟨_,rfl,h2⟩
 ·exact⟨_,rfl,h2⟩
end
inductive wH(s:Sy)(l:Lay)(ws:List Int):List Ev→List Int→Prop where
 |nil:wH s l ws [] ws
 |snoc {es iM:List Ev} {ws1 ws2:List Int} (h:wH s l ws es ws1) (h2:tw s l ws1 es iM ws2):wH s l ws iM ws2
def kb:Nat→List Int→List Ev
 |_,[]=>[]
 |k,w::ws=>⟨2,k,w,0,0,false⟩::kb (k+1) ws
theorem IA(w:Int):∀(ws:List Int) (k:Nat),kb k (ws++[w])=kb k ws++[⟨2,((k+ws.length:Nat):Int),w,0,0,false⟩]
 | [],k=>rfl
 |y::ws,k=>by
  show (⟨2,k,y,0,0,false⟩::kb (k+1) (ws++[w]))=_;rw[IA w ws (k+1)];show _=⟨2,k,y,0,0,false⟩::(kb (k+1) ws++_);rw[gH,show k+1+ws.length=k+(ws.length+1) by omega]
theorem OT:∀(ws:List Int) (k:Nat),(kb k ws).length=ws.length
 | [],_=>rfl
 |_::ws,k=>congrArg (· + 1) (OT ws (k+1))
theorem NV(W zs:List Int)(hz:zs.length=W.length):∀k,k≤W.length→replay zs ((kb 0 (W.take k)).map Ev.d)=(kb 0 (W.take k),W.take k++zs.drop k)
 | 0,_=>rfl
 |k+1,hk=>by
  have h:=NV W zs hz k (by omega);have ab:k<W.length:=by omega
  rw[eM ab,IA,dD,oh,yX (by omega)];have:=N8 (k:=2) (t:=(k:Int)) (x:=W[k]) (y:=0) ⟨by decide,by decide⟩ h;refine this.trans (Prod.ext rfl ?_);show gJ (W.take k++zs.drop k) k W[k]=W.take k++[W[k]]++zs.drop (k+1);unfold gJ;rw[aB (by omega),bD,Ec _ _ (by rw[oh];omega),oh,yX (by omega),l7,tQ (show k<zs.length by omega),List.set_cons_zero,cU];rfl
theorem Xf{s:Sy}{l:Lay}{W zs:List Int}{es:List Ev}{ws:List Int}(hz:zs.length=W.length)(h:wH s l W es ws):replay zs ((kb 0 W++es).map Ev.d)=(kb 0 W++es,ws):=by
 induction h with
 |nil=>
  have h:=NV W zs hz W.length (bg _);rw[er,xz (by omega),fC]at h;rw[fC];exact h
 |snoc h h2 ih=>
  rcases h2 with ⟨rfl,rfl⟩ | ⟨k,t,x,y,hk,rfl,rfl,_⟩
  ·exact ih
  ·have:=N8 (k:=k) (t:=t) (x:=x) (y:=y) hk ih;rw[← cU];exact this
theorem R9{s:Sy}{l:Lay}{W:List Int}{es:List Ev}{ws:List Int}(h:wH s l W es ws):∀e∈es,UZ s l e∧oM e.d=true:=by
 induction h with
 |nil=>intro e he;cases he
 |snoc h h2 ih=>
  rcases h2 with ⟨rfl,rfl⟩ | ⟨k,t,x,y,hk,rfl,rfl,ht⟩
  ·exact ih
  ·intro e he
   rcases bQ.1 he with he | he
   ·exact ih e he
   ·obtain rfl:=bj.1 he;exact⟨ht,(P6 _ k t x y hk _ rfl).1⟩
theorem Od:∀(ws:List Int) (k:Nat),∀e∈kb k ws,oM e.d=true
 | [],_,e,he=>by cases he
 |w::ws,k,e,he=>by
  rcases dW.1 he with rfl | he
  ·rfl
  ·exact Od ws (k+1) e he
theorem YA{s:Sy}{l:Lay}{W:List Int}{es:List Ev}{ws:List Int}{n:Nat}(hn:n=W.length)(np:n≤1048576)(h:wH s l W es ws):ur n ((kb 0 W++es).map Ev.d)=true:=by
 unfold ur;have hc:kO (n:Int)=n:=by unfold kO;omega
 rw[hc,Xf (by rw[gh];exact hn) h,bS];refine⟨fq.2 fun d hd=>?_,aX rfl⟩;obtain⟨e,he,rfl⟩:=eW.1 hd
 rcases bQ.1 he with he | he
 ·exact Od _ _ e he
 ·exact (R9 h e he).2
end Go.Proofs.YtnikdflhefijbaaGreat
