import Derived.Test.YtnikdflhefijbaaGreatBn20
import Derived.Test.YtnikdflhefijbaaGreatBn19
import Derived.Test.YtnikdflhefijbaaGreatBn6
import Derived.Test.YtnikdflhefijbaaGreatBn11
import Derived.Test.YtnikdflhefijbaaGreatBn13
import Derived.Test.YtnikdflhefijbaaGreatBn10
import Derived.Below
import Derived.ChangeOld
import Derived.OpenShut
import Derived.ProofKit
import Derived.Test.YtnikdflhefijbaaGreatRows
import Derived.WalkKit
import Derived.Test.YtnikdflhefijbaaGreatBn5
namespace Go.Proofs.YtnikdflhefijbaaGreat
open Go.RowKit
set_option maxRecDepth 100000
set_option maxHeartbeats 4000000
theorem X2(s:Sy)(k:Int)(aC:List (Int×Int×Unit))(σ:Hp)(hf:Fit s)(he:¬du s k=0):ACalls Tryz.prog 41 [.agg (aW s),.int .i64 k,.ae k9 aC] σ (ay (.tup [.agg (dh .cY ⟨0,0,0,0⟩ .ai .ai .ai 0),.int .i64 (du s k)]) σ):=by
 refine ar Tryz.func41 ?_
 intro aB
 intro dc
 intro qj
 refine aa 2 ?_
 refine aw [] (It s k _ hf) ?_
 refine aj 0 ?_
 refine cX (fun c4=>?_) (fun c4=>?_)
 ·have c4:¬(du s k=0):=by simpa using c4
  refine aj 1 ?_
  refine aa 1 ?_
  exact .drop 0 3 (.done ⟨rfl,rfl⟩)
 ·have c4:du s k=0:=by simpa using c4
  refine aa 0 ?_
  exact absurd c4 he
theorem Mz{s:Sy}{k:Int}(he:du s k=0):(iJ s k).k=k:=by unfold iJ qR;rw[he];rfl
theorem LK{k:Nat}{v:AV}{acc:Hp}{cs:List AV}(h:Acc 1 k v acc cs)(hk:0<k):∃b,v=.af b 0 k 1∧acc=[(b,cs)]:=by
 cases h with
 |nil=>omega
 |af b k cs h=>exact⟨b,rfl,rfl⟩
def Gq(s:Sy)(l:Lay)(bs bp p:Nat)(L:List Nat)(S:Hp):Prop:=S=(bs,aW s)::(bp,dh (.ptr p 0) l .ai .ai .ai 0)::eu s l (da L) (List.replicate L.length jx)
theorem abv(s:Sy)(l:Lay)(k bs bp p:Nat)(hf:Fit s)(he:du s l.k=0)(hL:iJ s l.k=l)(hk:l.k=k)(L:List Nat)(S τ:Hp)(ab:L.length<k)(hS:Gq s l bs bp p L S):ACalls Tryz.prog 99 (.int .i64 L.length::[.ptr bs 0,.ptr bp 0]) (S++τ) (fun r σ'=>∃w S',r=.ptr w 0∧σ'=S'++τ∧Gq s l bs bp p (L++[w]) S'):=by
 unfold Gq at hS
 subst hS
 refine (agB bs bp L.length s l (.ptr p 0) .ai .ai .ai 0 (eu s l (da L) (List.replicate L.length jx)++τ) hf he hL (by omega)).WN (.refl _) ?_
 rintro _ _ ⟨w,rfl,rfl⟩
 refine⟨((bs,aW s)::(bp,dh (.ptr p 0) l .ai .ai .ai 0)::eu s l (da (L++[w])) (List.replicate (L++[w]).length jx))++τ,?_,w,_,rfl,rfl,rfl⟩
 rw[ab9]
 have h:=ov [[(bs,aW s),(bp,dh (.ptr p 0) l .ai .ai .ai 0)],eu s l (da L) (List.replicate L.length jx),WB s l L.length w 0 .ai [] nP] τ (a:=[0,1,2]) (b:=[2,0,1]) (by decide)
 have e:((bs,aW s)::(bp,dh (.ptr p 0) l .ai .ai .ai 0)::(eu s l (da L) (List.replicate L.length jx)++WB s l L.length w 0 .ai [] nP))++τ=[(bs,aW s),(bp,dh (.ptr p 0) l .ai .ai .ai 0)]++(eu s l (da L) (List.replicate L.length jx)++(WB s l L.length w 0 .ai [] nP++τ)):=by simp
 rw[e]
 exact h
theorem SL(l:Lay)(k bp lw:Nat)(mv:AV)(L:List Nat)(hL:L.length=k)(L':List Nat)(S τ:Hp)(ab:L'.length<k)(hS:S=[(bp,dh mv l (.af lw 0 k 1) .ai .ai 0),(lw,L.map pW)]∧L'=L.take L'.length):ACalls Tryz.prog 103 (.int .i64 L'.length::[.ptr bp 0]) (S++τ) (fun r σ'=>∃w S',r=.iface 168 (.ptr w 0)∧σ'=S'++τ∧(S'=[(bp,dh mv l (.af lw 0 k 1) .ai .ai 0),(lw,L.map pW)]∧L'++[w]=L.take (L'++[w]).length)):=by
 obtain⟨rfl,hL'⟩:=hS
 refine (agA bp lw L'.length k L l mv .ai .ai 0 τ hL ab).mono ?_
 rintro _ _ ⟨rfl,rfl⟩
 refine⟨L.getD L'.length 0,_,rfl,rfl,rfl,?_⟩
 rw[bZ,tp,ff (by omega),← hL',aZ,bh (by omega)]
 rfl
theorem TU(s:Sy)(l:Lay)(hs:LS s l)(cb:kE s l)(p q lb k:Nat)(L:List Nat)(aC:List (Int×Int×Unit))(σ:Hp)(hL:L.length=k)(hk:l.k=k)(ei:k≤64)(mT:aC.length≤100000):
  ACalls Tryz.prog 101 [kK p,.af lb 0 k 1,.ae k9 aC] ((lb,L.map iW)::(bM p q (eP s l) (eu s l (da L) (List.replicate L.length jx))++σ)) (fun r σ'=>∃Z:List WZ,Z.map (·.x)=(dL s l aC).a.W∧r=.agg [.ae (.int .i64) (dL s l aC).st,.ae .bool (dL s l aC).dn,.int .i64 (dL s l aC).us]∧σ'=(lb,L.map iW)::(bM p q (dL s l aC).a.ws (eu s l (da L) Z)++σ)):=by
 have hI:((da L).length:Int)=l.k:=by rw[Dn];omega
 have qa:sn.abs ⟨eP s l,List.replicate L.length jx⟩=⟨W0 l,eP s l⟩:=by
  show WA.mk ((List.replicate L.length jx).map (·.x)) (eP s l)=_
  rw[List.map_replicate]
  unfold W0
  rw[show l.k.toNat=L.length by omega];rfl
 have hl:(DV s l hs p q (da L) (Dp L) hI).L.length=k:=by
  show ((da L).map _).length=_
  rw[cg,Dn];exact hL
 have hLL:(DV s l hs p q (da L) (Dp L) hI).L=L.map iW:=aci L
 have hE:=ahz (DV s l hs p q (da L) (Dp L) hI) lb aC (⟨eP s l,List.replicate L.length jx⟩:sn) σ (by omega) mT (by
  show vL s l (sn.abs ⟨eP s l,List.replicate L.length jx⟩)
  rw[qa];exact VB cb hs) (fun _ _=>rfl)
 have fO:(DV s l hs p q (da L) (Dp L) hI).run aC (sn.abs ⟨eP s l,List.replicate L.length jx⟩)=dL s l aC:=by
  unfold AWorld.run AWorld.init
  rw[hl,hLL,qa]
  have e1:(L.map iW).map isNil=List.replicate k false:=by
   rw[← hL,Kl]
   exact List.map_eq_replicate_iff.2 fun _ _=>rfl
  rw[e1]
  unfold dL sh x6
  rw[show l.k.toNat=k by omega];rfl
 have Aj:ACalls Tryz.prog 101 [kK p,.af lb 0 k 1,.ae k9 aC] ((lb,L.map iW)::(bM p q (eP s l) (eu s l (da L) (List.replicate L.length jx))++σ)) (Mf (DV s l hs p q (da L) (Dp L) hI) aC (sn.abs ⟨eP s l,List.replicate L.length jx⟩) [(lb,L.map iW)] σ):=by
  rw[hl,hLL]at hE;exact hE
 refine Aj.mono ?_
 rintro _ _ ⟨t',h1,rfl,rfl⟩
 have h1:sn.abs t'=(dL s l aC).a:=Eq.trans h1 (congrArg iF.a fO)
 rw[fO]
 refine⟨t'.Z,congrArg WA.W h1,rfl,?_⟩
 have h2:t'.ws=(dL s l aC).a.ws:=congrArg WA.ws h1
 rw[← h2];rfl
theorem ab3(s:Sy)(k:Nat)(l:Lay)(hl:iJ s k=l)(aC:List (Int×Int×Unit))(σ:Hp)(hf:Fit s)(he:du s k=0)(mT:aC.length≤100000):
  ACalls Tryz.prog 41 [.agg (aW s),.int .i64 k,.ae k9 aC] σ (fun r σ'=>∃(p q lw:Nat) (L:List Nat) (Z:List WZ),r=.tup [.agg (dh (.ptr p 0) l (.af lw 0 k 1) (.ae (.int .i64) (dL s l aC).st) (.ae .bool (dL s l aC).dn) (dL s l aC).us),.int .i64 0]∧L.length=k∧Z.map (·.x)=(dL s l aC).a.W∧σ'=(lw,L.map pW)::bM p q (dL s l aC).a.ws (eu s l (da L) Z++σ)∧kE s l):=by
 obtain⟨hs,J7⟩:=Eb hf he
 obtain⟨ya,fR,mw⟩:=hs.size
 obtain⟨n0,ei⟩:=(LY he).2
 have Wu:=fun p q ws σ (eF:nQ (iJ s k)≤ws.length)=>afp s k p q ws σ hf he eF
 have hk:l.k=k:=by rw[← hl];exact Mz he
 have e1:AV.tup [.agg (ib (iJ s k)),.int .i64 (du s k)]=.tup [.agg (ib l),.int .i64 (du s k)]:=by rw[hl]
 have Aj:du s l.k=0:=by rw[hk];exact he
 have hL2:iJ s l.k=l:=by rw[hk];exact hl
 rw[hl]at hs ya fR mw Wu
 refine ar Tryz.func41 ?_
 generalize hE:du s k=E at e1 he
 intro bs
 intro br
 intro bp
 refine aa 2 ?_
 refine aw [] (ot (It s k _ hf) (hE▸e1)) ?_
 refine aj 0 ?_
 refine cX (fun c1=>?_) (fun c1=>?_)
 ·have c1:¬(du s (↑k:Int)=0):=by simpa using c1
  refine aj 1 ?_
  refine aa 1 ?_
  exact absurd (hE.trans he) c1
 ·have c1:du s (↑k:Int)=0:=by simpa using c1
  refine aa 0 ?_
  refine aw [] (VW l _) ?_
  (refine .mk [] _ (aiR _ _) ?_;rintro _ _ ⟨p,q,rfl,rfl⟩)
  rw[mw]
  obtain⟨us,gu⟩:∃us,List.replicate (nQ l) (0:Int)=us:=⟨_,rfl⟩
  have ga:us.length=nQ l:=by rw[← gu];exact gl
  rw[gu,← ga]
  refine aj 2 ?_
  refine aa 2 ?_
  refine aa 4 ?_
  (refine .mk [] _ (Wu p q us _ (by omega)) ?_;rintro _ _ ⟨rfl,rfl,cb⟩)
  have ai0:zA s l us=eP s l:=by rw[← gu];rfl
  rw[ai0]
  refine .perm (σ2:=[(bs,aW s),(bp,dh (.ptr p 0) l .ai .ai .ai 0)]++bM p q (eP s l) ((br,dh .cY ⟨0,0,0,0⟩ .ai .ai .ai 0)::σ)) _ (ov [[(bs,aW s)],[(bp,dh (.ptr p 0) l .ai .ai .ai 0)],bM p q (eP s l) [],[(br,dh .cY ⟨0,0,0,0⟩ .ai .ai .ai 0)]] σ (a:=[0,1,2,3]) (b:=[2,1,3,0]) (by decide)) (agO 99 [.ptr bs 0,.ptr bp 0] (Gq s l bs bp p) _ _ rfl k (by omega) (fun L S τ h1 h2=>abv s l k bs bp p hf Aj hL2 hk L S τ h1 h2)) ?_
  rintro v _ ⟨L,S',acc,hL,Cj,bY,rfl⟩
  unfold Gq at Cj
  subst Cj
  obtain⟨lw,rfl,rfl⟩:=LK bY (by omega)
  refine⟨_,.refl _,?_⟩
  refine aj 2 ?_
  refine .sched [] (.one 0 false (.one 3 false (.one 4 false (.one 6 false (.alt 1 (.one 2 false (.one 5 false (.one 7 false (.one 8 false (.one 9 false .stop))))) (.one 5 false (.one 1 false (.one 2 false (.one 7 false (.one 8 false (.one 9 false .stop))))))))))) (by kernel_rfl) ?_
  refine And.intro ?_ ?_
  ·refine aa 2 ?_
   refine .perm (σ2:=[(bp,dh (.ptr p 0) l (.af lw 0 k 1) .ai .ai 0),(lw,L.map pW)]++((bs,aW s)::(eu s l (da L) (List.replicate L.length jx)++bM p q (eP s l) ((br,dh .cY ⟨0,0,0,0⟩ .ai .ai .ai 0)::σ)))) _ (ov [[(bp,dh (.ptr p 0) l (.af lw 0 k 1) .ai .ai 0)],[(lw,L.map pW)],[(bs,aW s)],eu s l (da L) (List.replicate L.length jx),bM p q (eP s l) [],[(br,dh .cY ⟨0,0,0,0⟩ .ai .ai .ai 0)]] σ (a:=[0,1,2,3,4,5]) (b:=[1,2,0,3,4,5]) (by decide)) (V2 103 [.ptr bp 0] (fun L' S=>S=[(bp,dh (.ptr p 0) l (.af lw 0 k 1) .ai .ai 0),(lw,L.map pW)]∧L'=L.take L'.length) _ _ ⟨rfl,rfl⟩ k (by omega) (fun L' S τ h1 h2=>SL l k bp lw (.ptr p 0) L hL L' S τ h1 h2)) ?_
   rintro v2 _ ⟨L',S2,aiK,N6,⟨rfl,FJ⟩,El,rfl⟩
   rw[N6,← hL,fA]at FJ
   rw[FJ]at El
   obtain⟨lb,rfl,rfl⟩:=LK El (by omega)
   refine⟨_,.refl _,?_⟩
   have hR:=TU s l hs cb p q lb k L aC ([(bp,dh (.ptr p 0) l (.af lw 0 k 1) .ai .ai 0),(br,dh .cY ⟨0,0,0,0⟩ .ai .ai .ai 0),(bs,aW s),(lw,L.map pW)]++σ) hL hk (by omega) mT
   refine .perm _ (ov [[(lb,L.map iW)],bM p q (eP s l) [],eu s l (da L) (List.replicate L.length jx),[(bp,dh (.ptr p 0) l (.af lw 0 k 1) .ai .ai 0)],[(br,dh .cY ⟨0,0,0,0⟩ .ai .ai .ai 0)],[(bs,aW s)],[(lw,L.map pW)]] σ (a:=[0,1,2,3,4,5,6]) (b:=[0,3,6,5,2,1,4]) (by decide)) hR ?_
   rintro _ _ ⟨Z,hZ,rfl,rfl⟩
   refine⟨_,ov [[(lb,L.map iW)],bM p q (dL s l aC).a.ws [],eu s l (da L) Z,[(bp,dh (.ptr p 0) l (.af lw 0 k 1) .ai .ai 0)],[(br,dh .cY ⟨0,0,0,0⟩ .ai .ai .ai 0)],[(bs,aW s)],[(lw,L.map pW)]] σ (a:=[0,3,4,5,6,1,2]) (b:=[0,1,2,3,4,5,6]) (by decide),?_⟩
   refine aj 1 ?_
   refine aa 1 ?_
   refine aj 2 ?_
   refine aa 2 ?_
   exact .drop 0 4 (.done ⟨p,q,lw,L,Z,rfl,hL,hZ,rfl,cb⟩)
  ·refine .perm (σ2:=[(bp,dh (.ptr p 0) l (.af lw 0 k 1) .ai .ai 0),(lw,L.map pW)]++((bs,aW s)::(eu s l (da L) (List.replicate L.length jx)++bM p q (eP s l) ((br,dh .cY ⟨0,0,0,0⟩ .ai .ai .ai 0)::σ)))) _ (ov [[(bp,dh (.ptr p 0) l (.af lw 0 k 1) .ai .ai 0)],[(lw,L.map pW)],[(bs,aW s)],eu s l (da L) (List.replicate L.length jx),bM p q (eP s l) [],[(br,dh .cY ⟨0,0,0,0⟩ .ai .ai .ai 0)]] σ (a:=[0,1,2,3,4,5]) (b:=[1,2,0,3,4,5]) (by decide)) (V2 103 [.ptr bp 0] (fun L' S=>S=[(bp,dh (.ptr p 0) l (.af lw 0 k 1) .ai .ai 0),(lw,L.map pW)]∧L'=L.take L'.length) _ _ ⟨rfl,rfl⟩ k (by omega) (fun L' S τ h1 h2=>SL l k bp lw (.ptr p 0) L hL L' S τ h1 h2)) ?_
   rintro v2 _ ⟨L',S2,aiK,N6,⟨rfl,FJ⟩,El,rfl⟩
   rw[N6,← hL,fA]at FJ
   rw[FJ]at El
   obtain⟨lb,rfl,rfl⟩:=LK El (by omega)
   refine⟨_,.refl _,?_⟩
   refine aa 1 ?_
   have hR:=TU s l hs cb p q lb k L aC ([(bp,dh (.ptr p 0) l (.af lw 0 k 1) .ai .ai 0),(br,dh .cY ⟨0,0,0,0⟩ .ai .ai .ai 0),(bs,aW s),(lw,L.map pW)]++σ) hL hk (by omega) mT
   refine .perm _ (ov [[(lb,L.map iW)],bM p q (eP s l) [],eu s l (da L) (List.replicate L.length jx),[(bp,dh (.ptr p 0) l (.af lw 0 k 1) .ai .ai 0)],[(br,dh .cY ⟨0,0,0,0⟩ .ai .ai .ai 0)],[(bs,aW s)],[(lw,L.map pW)]] σ (a:=[0,1,2,3,4,5,6]) (b:=[0,3,6,5,2,1,4]) (by decide)) hR ?_
   rintro _ _ ⟨Z,hZ,rfl,rfl⟩
   refine⟨_,ov [[(lb,L.map iW)],bM p q (dL s l aC).a.ws [],eu s l (da L) Z,[(bp,dh (.ptr p 0) l (.af lw 0 k 1) .ai .ai 0)],[(br,dh .cY ⟨0,0,0,0⟩ .ai .ai .ai 0)],[(bs,aW s)],[(lw,L.map pW)]] σ (a:=[0,3,4,5,6,1,2]) (b:=[0,1,2,3,4,5,6]) (by decide),?_⟩
   refine aj 1 ?_
   refine aa 1 ?_
   refine aj 2 ?_
   refine aa 2 ?_
   exact .drop 0 4 (.done ⟨p,q,lw,L,Z,rfl,hL,hZ,rfl,cb⟩)
set_option maxHeartbeats 4000000
theorem ahy(p q:Nat)(ws:List Int)(b c:Int)(σ:Hp):ACalls Tryz.prog 53 [.agg [.int .i64 b,.int .i64 c],kK p] (bM p q ws σ) (ay (.int .i64 (wr (cc ws b))) (bM p q ws σ)):=by
 refine ar Tryz.func53 ?_
 intro aB
 refine .sched [1] (upto [1] 7 0) (by kernel_rfl) ?_
 refine aI [] (dG _ _ _) ?_
 refine aa 0 ?_
 refine⟨_,mLoad_,?_⟩
 refine aw [2,2] (aLoad p q _ _ _) ?_
 exact .drop 2 1 (.done ⟨rfl,rfl⟩)
theorem adp(p q:Nat)(ws:List Int)(b c:Int)(σ:Hp):ACalls Tryz.prog 55 [.agg [.int .i64 b,.int .i64 c],kK p] (bM p q ws σ) (ay (.int .i64 (wr (cc ws (eR b)))) (bM p q ws σ)):=by
 refine ar Tryz.func55 ?_
 intro aB
 refine .sched [1,3] (upto [1,3] 10 0) (by kernel_rfl) ?_
 refine aI [] (dG _ _ _) ?_
 refine aa 0 ?_
 refine aI [] (tL _ _ _) ?_
 refine fo.mk hLoad_ ?_
 refine⟨_,mLoad_,?_⟩
 refine aw [2,2] (aLoad p q _ _ _) ?_
 exact .drop 2 1 (.done ⟨rfl,rfl⟩)
set_option maxHeartbeats 4000000
theorem afr(s:Sy)(l:Lay)(p q lw n:Nat)(L:List Nat)(Z:List WZ)(W:List WS)(st:List Int)(dn:List Bool)(us:Int)(ws:List Int)(σ:Hp)(hW:Z.map (·.x)=W)(hL:L.length=n)(hZ:W.length=n)(hn:n≤64):
  ACalls Tryz.prog 44 [.agg (dh (.ptr p 0) l (.af lw 0 n 1) (.ae (.int .i64) st) (.ae .bool dn) us)] ((lw,L.map pW)::bM p q ws (eu s l (da L) Z++σ)) (ay (.tup [.int .i64 (qi W),.int .i64 (pY W)]) ((lw,L.map pW)::bM p q ws (eu s l (da L) Z++σ))):=by
 have hZl:Z.length=n:=by rw[← hZ,← hW,cg]
 refine ar Tryz.func44 ?_
 intro b1
 refine aa 0 ?_
 refine bQ (S:=Nat) (fun i=>[(4,.int .i64 (qi (W.take i))),(5,.int .i64 (pY (W.take i))),(9,.af lw 0 n 1),(10,.int .i64 n),(11,.int .i64 i)]) (fun _=>(b1,dh (.ptr p 0) l (.af lw 0 n 1) (.ae (.int .i64) st) (.ae .bool dn) us)::(lw,L.map pW)::bM p q ws (eu s l (da L) Z++σ)) (fun i=>i≤n) (fun i=>n-i) 0 ⟨bA _,⟨rfl,rfl,rfl,rfl,rfl,trivial⟩,rfl⟩ ?_
 intro i g dZ
 have hi:i≤n:=dZ
 clear dZ
 refine ak (p:=(i:Int)<(n:Int)) (fun ab=>?_) (fun aq=>?_)
 rotate_left
 ·have aq:i=n:=by omega
  have e:W.take i=W:=ek (by omega)
  rw[e]
  exact .drop 0 1 (.done ⟨rfl,rfl⟩)
 have ab:i<n:=by omega
 have hg:(L.map pW)[0+((i:Int)).toNat*1]?=some (.ptr L[i] 0):=by
  rw[bC,eA,dR,fm,bh (by omega)];rfl
 refine aM ?_
 refine bf 1 rfl (jf rfl hg) ?_
 have hw:=Ua (s:=s) (l:=l) (I:=da L) (Z:=Z) (i:=i) (by rw[Dn];omega) (by omega)
 have hI:(da L)[i]'(by rw[Dn];omega)=(i,L[i]):=by simp[da]
 have hx:Z[i].x=W[i]:=by
  have:(Z.map (·.x))[i]'(by rw[cg];omega)=Z[i].x:=Cr ..
  rw[← this];congr 1
 rw[hI,hx]at hw
 have kv:=acB (W:=W) (i:=i) (by omega)
 have l6:=acg (W:=W) (i:=i) (by omega)
 generalize W[i]=x at hw kv l6
 have hp:((b1,dh (.ptr p 0) l (.af lw 0 n 1) (.ae (.int .i64) st) (.ae .bool dn) us)::(lw,L.map pW)::bM p q ws (eu s l (da L) Z++σ)).Perm ((L[i],dW s l i x.ev x.jo x.en x.does (JE Z[i].r x.now) x.node x.has x.nx x.out)::(JF l x.node Z[i].r Z[i].c Z[i].acc x.now++((b1,dh (.ptr p 0) l (.af lw 0 n 1) (.ae (.int .i64) st) (.ae .bool dn) us)::(lw,L.map pW)::bM p q ws ((((da L).zip Z).eraseIdx i).flatMap (x7 s l)++σ)))):=by
  refine (List.Perm.append_left [_,_,_,_] (List.Perm.append_right σ hw)).trans ?_
  have h:=ov [[(b1,dh (.ptr p 0) l (.af lw 0 n 1) (.ae (.int .i64) st) (.ae .bool dn) us),(lw,L.map pW)],bM p q ws [],[(L[i],dW s l i x.ev x.jo x.en x.does (JE Z[i].r x.now) x.node x.has x.nx x.out)],JF l x.node Z[i].r Z[i].c Z[i].acc x.now,(((da L).zip Z).eraseIdx i).flatMap (x7 s l)] σ (a:=[0,1,2,3,4]) (b:=[2,3,0,1,4]) (by decide)
  unfold WB
  rw[F4,dU]
  exact h
 refine .dO (.perm hp.symm (.refl _)) ?_
 refine .quiet (by kernel_rfl) ?_
 refine aa 0 ?_
 refine aa 0 ?_
 exact aY (i+1) (by show n-(i+1)<n-i;omega) ab ⟨congrArg (AV.int .i64) kv,congrArg (AV.int .i64) l6,rfl,rfl,aS (by omega),trivial⟩ (.perm hp (.refl _))
theorem YS(bp p q v:Nat)(l:Lay)(wv st dn:AV)(us:Int)(ws:List Int)(τ:Hp):ACalls Tryz.prog 48 [.int .i64 v,.ptr bp 0] ((bp,dh (.ptr p 0) l wv st dn us)::bM p q ws τ) (ay (.bool (decide (cc ws (wr (cO l+(v:Nat)))=1))) ((bp,dh (.ptr p 0) l wv st dn us)::bM p q ws τ)):=by
 refine ar Tryz.func48 ?_
 refine .quiet (by kernel_rfl) ?_
 refine aa 0 ?_
 refine aI [] (A9 l _) ?_
 refine aa 0 ?_
 refine aI [2,2] (ot (aeW (cO l) (cq l) v p q ws _) (congrArg AV.bool (by rw[aT (show (0:Int)≤(v:Nat) by omega),wR]))) ?_
 exact .done ⟨rfl,rfl⟩
theorem YO(bp p q v:Nat)(l:Lay)(wv st dn:AV)(us:Int)(ws:List Int)(τ:Hp):ACalls Tryz.prog 51 [.int .i64 v,.ptr bp 0] ((bp,dh (.ptr p 0) l wv st dn us)::bM p q ws τ) (ay (.int .i64 (wr (cc ws (ec l v)))) ((bp,dh (.ptr p 0) l wv st dn us)::bM p q ws τ)):=by
 refine ar Tryz.func51 ?_
 refine .quiet (by kernel_rfl) ?_
 refine aa 0 ?_
 refine aI [] (za l v _) ?_
 refine aa 0 ?_
 refine aI [2,2] (ahy p q ws _ _ _) ?_
 exact .done ⟨rfl,rfl⟩
theorem YR(bp p q v:Nat)(l:Lay)(wv st dn:AV)(us:Int)(ws:List Int)(τ:Hp):ACalls Tryz.prog 54 [.int .i64 v,.ptr bp 0] ((bp,dh (.ptr p 0) l wv st dn us)::bM p q ws τ) (ay (.int .i64 (wr (cc ws (eR (ec l v))))) ((bp,dh (.ptr p 0) l wv st dn us)::bM p q ws τ)):=by
 refine ar Tryz.func54 ?_
 refine .quiet (by kernel_rfl) ?_
 refine aa 0 ?_
 refine aI [] (za l v _) ?_
 refine aa 0 ?_
 refine aI [2,2] (adp p q ws _ _ _) ?_
 exact .done ⟨rfl,rfl⟩
set_option maxHeartbeats 4000000
def lM(l:Lay)(ws:List Int)(n:Nat):List Bool:=(List.range n).map fun v:Nat=>decide (cc ws (wr (cO l+(v:Nat)))=1)
def sA(l:Lay)(ws:List Int)(k:Nat):List Int:=(List.range k).map fun v:Nat=>wr (cc ws (ec l v))
def tV(l:Lay)(ws:List Int)(k:Nat):List Int:=(List.range k).map fun v:Nat=>wr (cc ws (eR (ec l v)))
def vB(cz:List (List Int))(waits:List Bool)(num ev jo us:Int)(gH oW:List Int)(dn:List Bool):List AV:=[.ae (.slice (.int .u64)) cz,.ae .bool waits,.int .i64 num,.int .i64 ev,.int .i64 jo,.int .i64 us,.ae (.int .i64) gH,.ae (.int .i64) oW,.ae .bool dn]
def oE:List AV:=[.ai,.ai,.int .i64 0,.int .i64 0,.int .i64 0,.int .i64 0,.ai,.ai,.ai]
def zk(cz:List (List Int))(wv:AV)(num ev jo us:Int)(tv bv:AV)(dn:List Bool):List AV:=[.ae (.slice (.int .u64)) cz,wv,.int .i64 num,.int .i64 ev,.int .i64 jo,.int .i64 us,tv,bv,.ae .bool dn]
theorem agV(s:Sy)(k:Int)(aC:List (Int×Int×Unit))(σ:Hp)(hf:Fit s)(he:¬du s k=0):ACalls Tryz.prog 14 [.agg (aW s),.int .i64 k,.ae k9 aC] σ (ay (.tup [.agg oE,.int .i64 (du s k)]) σ):=by
 refine ar Tryz.func14 ?_
 intro aB
 intro dc
 refine aa 1 ?_
 refine aw [] (X2 s k aC _ hf he) ?_
 intro qj
 refine aj 0 ?_
 refine cX (fun c4=>?_) (fun c4=>?_)
 ·have c4:¬(du s k=0):=by simpa using c4
  refine aj 1 ?_
  refine aa 1 ?_
  exact .drop 0 3 (.done ⟨rfl,rfl⟩)
 ·have c4:du s k=0:=by simpa using c4
  exact absurd c4 he
theorem ahI(s:Sy)(k:Nat)(l:Lay)(hl:iJ s k=l)(aC:List (Int×Int×Unit))(σ:Hp)(hf:Fit s)(he:du s k=0)(mT:aC.length≤100000)(ei:k≤64)(hn:l.n=(nN s:Int))(o9:nN s≤100000)(gV:s.n=(nN s:Int))(sg:(dL s l aC).a.W.length=k):ACalls Tryz.prog 14 [.agg (aW s),.int .i64 k,.ae k9 aC] σ (fun r σ'=>r=.tup [.agg (vB (oJ l (dL s l aC).a.ws (nN s)) (lM l (dL s l aC).a.ws (nN s)) (wr (cc (dL s l aC).a.ws (cq l))) (qi (dL s l aC).a.W) (pY (dL s l aC).a.W) (dL s l aC).us (sA l (dL s l aC).a.ws k) (tV l (dL s l aC).a.ws k) (dL s l aC).dn),.int .i64 0]∧σ'=σ∧kE s l):=by
 refine ar Tryz.func14 ?_
 intro b3
 intro b6
 refine aa 1 ?_
 refine .perm _ (.refl _) (ab3 s k l hl aC _ hf he mT) ?_
 rintro _ _ ⟨p,q,lw,L,Z,rfl,hL,hZ,rfl,cb⟩
 refine⟨_,ov [[(lw,L.map pW)],bM p q (dL s l aC).a.ws [],eu s l (da L) Z,[(b6,oE)],[(b3,aW s)]] σ (a:=[0,3,4,1,2]) (b:=[0,1,2,3,4]) (by decide),?_⟩
 generalize (dL s l aC)=x at hZ sg ⊢
 intro aB
 refine aj 0 ?_
 obtain⟨P,hP⟩:∃P,P=(aB,dh (.ptr p 0) l (.af lw 0 k 1) (.ae (.int .i64) x.st) (.ae .bool x.dn) x.us):=⟨_,rfl⟩
 have q1:(bM p q x.a.ws (P::(lw,L.map pW)::(b6,oE)::(b3,aW s)::(eu s l (da L) Z++σ))).Perm (P::(lw,L.map pW)::(b6,oE)::(b3,aW s)::bM p q x.a.ws (eu s l (da L) Z++σ)):=ov [[P,(lw,L.map pW),(b6,oE),(b3,aW s)],bM p q x.a.ws [],eu s l (da L) Z] σ (a:=[1,0,2]) (b:=[0,1,2]) (by decide)
 have q2:∀Q,(bM p q x.a.ws (Q::P::(lw,L.map pW)::(b6,oE)::(b3,aW s)::(eu s l (da L) Z++σ))).Perm (Q::P::(lw,L.map pW)::(b6,oE)::(b3,aW s)::bM p q x.a.ws (eu s l (da L) Z++σ)):=fun Q=>ov [[Q,P,(lw,L.map pW),(b6,oE),(b3,aW s)],bM p q x.a.ws [],eu s l (da L) Z] σ (a:=[1,0,2]) (b:=[0,1,2]) (by decide)
 subst hP
 refine gq.IC (S:=Nat) [5,8,12] (.one 0 false (.one 1 false (.one 2 false (.one 3 false (.one 4 false (.one 6 false (.one 7 false (.one 9 false (.one 10 false (.one 11 false (.one 13 false (.one 14 false (.one 15 false (.one 16 false (.one 17 false (.one 18 false (.BQ 5 (.BQ 8 (.BQ 12 (.one 19 false (.one 20 false (.one 21 false .stop))) (.one 20 false (.one 12 true (.one 19 false (.one 21 false .stop))))) (.one 20 false (.one 8 true (.one 12 true (.one 19 false (.one 21 false .stop)))))) (.one 20 false (.one 5 true (.one 8 true (.one 12 true (.one 19 false (.one 21 false .stop))))))))))))))))))))))) (fun b=>[(1,.int .i64 k),(3,.ptr b3 0),(6,.ptr b6 0),(8,.ptr aB 0),(10,.ptr b 0)]) (fun b=>(b,zk (oJ l x.a.ws (nN s)) .ai (wr (cc x.a.ws (cq l))) 0 0 x.us .ai .ai x.dn)::(aB,dh (.ptr p 0) l (.af lw 0 k 1) (.ae (.int .i64) x.st) (.ae .bool x.dn) x.us)::(lw,L.map pW)::(b6,oE)::(b3,aW s)::bM p q x.a.ws (eu s l (da L) Z++σ)) (by kernel_rfl) ?_ ?_
 ·repeat' first
   |exact dm.mk _ ⟨rfl,rfl,rfl,rfl,rfl,trivial⟩ (aL rfl)
   |refine And.intro ?_ ?_
   |refine aa 0 ?_
   |refine aa 1 ?_
   |refine aj 0 ?_
   |refine aI [5,5] (Ln p q l (nN s) _ _ hn o9) ?_
   |refine aI [6,6] (Ln p q l (nN s) _ _ hn o9) ?_
   |refine aI [] (A9 l _) ?_
   |refine aw [] (A9 l _) ?_
   |(refine .perm _ q1 (Ln p q l (nN s) _ _ hn o9) ?_;rintro _ _ ⟨rfl,rfl⟩;refine⟨_,q1.symm,?_⟩)
   |(refine .perm _ q1 (Me _ _ p q _ _) ?_;rintro _ _ ⟨rfl,rfl⟩;refine⟨_,q1.symm,?_⟩)
   |refine aI [5,5] (Me _ _ p q _ _) ?_
   |refine aI [6,6] (Me _ _ p q _ _) ?_
   |intro b
 intro b g
 clear q1 q2
 refine aa 1 ?_
 refine .perm _ (ov [[(lw,L.map pW)],bM p q x.a.ws [],eu s l (da L) Z,[(b,zk (oJ l x.a.ws (nN s)) .ai (wr (cc x.a.ws (cq l))) 0 0 x.us .ai .ai x.dn)],[(aB,dh (.ptr p 0) l (.af lw 0 k 1) (.ae (.int .i64) x.st) (.ae .bool x.dn) x.us)],[(b6,oE)],[(b3,aW s)]] σ (a:=[0,1,2,3,4,5,6]) (b:=[3,4,0,5,6,1,2]) (by decide)) (afr s l p q lw k L Z _ _ _ _ _ _ hZ hL sg ei) ?_
 rintro _ _ ⟨rfl,rfl⟩
 refine⟨(b,zk (oJ l x.a.ws (nN s)) .ai (wr (cc x.a.ws (cq l))) 0 0 x.us .ai .ai x.dn)::(aB,dh (.ptr p 0) l (.af lw 0 k 1) (.ae (.int .i64) x.st) (.ae .bool x.dn) x.us)::(lw,L.map pW)::(b6,oE)::(b3,aW s)::bM p q x.a.ws (eu s l (da L) Z++σ),ov [[(lw,L.map pW)],bM p q x.a.ws [],eu s l (da L) Z,[(b,zk (oJ l x.a.ws (nN s)) .ai (wr (cc x.a.ws (cq l))) 0 0 x.us .ai .ai x.dn)],[(aB,dh (.ptr p 0) l (.af lw 0 k 1) (.ae (.int .i64) x.st) (.ae .bool x.dn) x.us)],[(b6,oE)],[(b3,aW s)]] σ (a:=[3,4,0,5,6,1,2]) (b:=[0,1,2,3,4,5,6]) (by decide),?_⟩
 refine aj 0 ?_
 refine aj 0 ?_
 refine aa 4 ?_
 have hE1:=fun τ=>agQ 48 [.ptr aB 0] ((aB,dh (.ptr p 0) l (.af lw 0 k 1) (.ae (.int .i64) x.st) (.ae .bool x.dn) x.us)::bM p q x.a.ws []) τ (fun v:Nat=>decide (cc x.a.ws (wr (cO l+(v:Nat)))=1)) (nN s) o9 (fun i _ τ=>YS aB p q i l _ _ _ _ x.a.ws τ)
 have Aj:=fun τ=>V3 51 [.ptr aB 0] ((aB,dh (.ptr p 0) l (.af lw 0 k 1) (.ae (.int .i64) x.st) (.ae .bool x.dn) x.us)::bM p q x.a.ws []) τ (fun v:Nat=>wr (cc x.a.ws (ec l v))) k (by omega) (fun i _ τ=>YO aB p q i l _ _ _ _ x.a.ws τ)
 have hE3:=fun τ=>V3 54 [.ptr aB 0] ((aB,dh (.ptr p 0) l (.af lw 0 k 1) (.ae (.int .i64) x.st) (.ae .bool x.dn) x.us)::bM p q x.a.ws []) τ (fun v:Nat=>wr (cc x.a.ws (eR (ec l v)))) k (by omega) (fun i _ τ=>YR aB p q i l _ _ _ _ x.a.ws τ)
 rw[← gV]at hE1
 refine aw [3,6,6] (hE1 ((b,zk (oJ l x.a.ws (nN s)) .ai (wr (cc x.a.ws (cq l))) (qi x.a.W) (pY x.a.W) x.us .ai .ai x.dn)::(lw,L.map pW)::(b6,oE)::(b3,aW s)::(eu s l (da L) Z++σ))) ?_
 refine aj 3 ?_
 refine aw [] (Aj ((b,zk (oJ l x.a.ws (nN s)) (.ae .bool (lM l x.a.ws (nN s))) (wr (cc x.a.ws (cq l))) (qi x.a.W) (pY x.a.W) x.us .ai .ai x.dn)::(lw,L.map pW)::(b6,oE)::(b3,aW s)::(eu s l (da L) Z++σ))) ?_
 refine aj 3 ?_
 refine aw [] (hE3 ((b,zk (oJ l x.a.ws (nN s)) (.ae .bool (lM l x.a.ws (nN s))) (wr (cc x.a.ws (cq l))) (qi x.a.W) (pY x.a.W) x.us (.ae (.int .i64) (sA l x.a.ws k)) .ai x.dn)::(lw,L.map pW)::(b6,oE)::(b3,aW s)::(eu s l (da L) Z++σ))) ?_
 refine aj 3 ?_
 refine aa 3 ?_
 refine aj 5 ?_
 refine aa 5 ?_
 exact .drop 0 7 (aaw (eu s l (da L) Z) (.done ⟨rfl,rfl,cb⟩))
set_option maxHeartbeats 4000000
def Ep(s:Sy)(v i:Nat):Int:=((iV s).1.getD v []).getD i 0
theorem ac9{a:List Int}{n:Nat}(h:a.length=n):(List.range n).map (fun i=>a.getD i 0)=a:=by
 subst h
 refine List.ext_getElem (by simp) fun i h1 h2=>?_
 rw[Cr,F8,aZ,bh h2];rfl
def ny(s:Sy)(l:Lay)(ws:List Int):List (List Int):=(List.range (nN s)).map fun v=>(List.range (nW l)).map fun i=>ws.getD (v*nW l+i) 0
theorem AJ{s:Sy}{l:Lay}{ws:List Int}{v:Nat}(h:v<nN s):(ny s l ws).getD v []=(List.range (nW l)).map fun i=>ws.getD (v*nW l+i) 0:=by
 unfold ny
 rw[aZ,fm,tf h];rfl
theorem rq{f:Nat→Int}{n i:Nat}(h:i<n):((List.range n).map f).getD i 0=f i:=by
 rw[aZ,fm,tf h];rfl
def usS(s:Sy):List Nat:=(List.range (nN s)).filter fun u=>s.aO.any fun e=>decide (e.2.1=(u:Int))
def rkS(s:Sy)(l:Lay)(c:Nat→Int):Nat:=sC s.what s.w ((List.range (nW l)).map c)
section
variable {s:Sy} {l:Lay} (hs:LS s l)
include hs
theorem LS.AM{f:Nat→Int}(h:∀i,i<nW l→fX s.what s.w i (f i)):eI s.what s.w ((List.range (nW l)).map f):=
 (hs.rU).2 ⟨by simp,fun i hi=>by rw[rq hi];exact h i hi⟩
theorem yL{ws:List Int}(h:MV s l ws):ic s (ny s l ws):=by
 refine⟨by unfold ny;rw[cg,kS];exact hs.nn.1.symm,fun x hx=>?_⟩
 obtain⟨v,hv,rfl⟩:=dT.1 hx
 exact hs.AM fun i hi=>h.cells v i (gy.1 hv) hi
theorem Mo{v:Nat}(hv:v<nN s):eI s.what s.w ((iV s).1.getD v []):=(xd hs.fit hs.gK).1.get (by have:=hs.nn;omega)
theorem aaO{v:Nat}(hv:v<nN s):SX.ml (kU s l hs) (Ep s) v=(iV s).1.getD v []:=ac9 ((hs.rU).1 (Mo hs hv)).1
theorem UB{v u:Nat}(hu:u∈JD s v):v<nN s∧u<nN s∧∃e∈s.aO,e.1=(v:Int)∧e.2.1=(u:Int):=by
 obtain⟨z,hz,rfl⟩:=dT.1 hu
 obtain⟨h1,h2,e,he,e1,e2⟩:=lL.1 hz
 have:=hs.nn
 exact⟨by omega,by omega,e,he,e1,by omega⟩
theorem aeG{e:bK}(he:e∈s.aO):e.2.1.toNat∈JD s e.1.toNat:=by
 have h:=hs.gK.ui e he
 refine dT.2 ⟨e.2.1,lL.2 ⟨h.2,by omega,e,he,by omega,rfl⟩,rfl⟩
theorem aaP:SX.Xx (kU s l hs) (Ep s):=by
 obtain⟨hv,EP,_,_⟩:=xd hs.fit hs.gK
 refine⟨fun v i dy hi=>((hs.rU).1 (Mo hs dy)).2 i hi,fun v dy u hu i hi=>?_⟩
 obtain⟨h1,h2,e,he,e1,e2⟩:=UB hs hu
 have Ei:=(K9 hs.fit hs.gK hv u s.aO.length (a8 _)).2 e (by rw[fA];exact he) e2
 rw[← CZ s _ (show ((u:Nat):Int)<s.n by have:=hs.nn;omega),← EP,show e.1.toNat=v by omega]at Ei
 have:=(hs.wo Ei.1 Ei.2.1).1 Ei i hi
 rw[aaO hs dy]
 exact this
theorem adX:SX.Xw (kU s l hs) (usS s) (rkS s l):=by
 refine⟨List.Pairwise.filter _ List.nodup_range,fun v hv u hu=>?_,fun c i x hi hc hx aX=>?_⟩
 ·obtain⟨h1,h2,e,he,e1,e2⟩:=UB hs hu
  exact oe.2 ⟨gy.2 h2,mF.2 ⟨e,he,aT e2⟩⟩
 ·have hi:i<nW l:=hi
  have hw:=hs.vA
  have j5:∀j,j<nW l→fX s.what s.w j (if j=i then de s.what (c i) x else c j):=fun j hj=>by
   by_cases e:j=i
   ·subst e;rw[ah rfl];exact CL hw (hc j hj) hx
   ·rw[ag e];exact hc j hj
  have v1:=hs.AM (f:=c) hc
  have v2:=hs.AM (f:=fun j=>if j=i then de s.what (c i) x else c j) j5
  have hle:dE s.what s.w ((List.range (nW l)).map c) ((List.range (nW l)).map fun j=>if j=i then de s.what (c i) x else c j):=(hs.wo v1 v2).2 fun j hj=>by
   rw[rq hj,rq hj]
   by_cases e:j=i
   ·subst e;rw[ah rfl];exact SX.Mw (A:=kU s l hs) (hc j hj) hx
   ·rw[ag e];exact CK hw (hc j hj)
  obtain⟨h1,h2⟩:=Mr hle
  rcases Cx h1 with h3 | h3
  ·exact h3
  ·have h4:=congrArg (fun a=>a.getD i 0) (h2 h3)
   rw[rq hi,rq hi,ah rfl]at h4
   exact absurd h4.symm aX
end
theorem Qd{s:Sy}{a:List (List Int)}{y:List Int}(v:Nat)(h0:dE s.what s.w (fp s v) y)(he:∀(i:Nat) (hi:i<s.aO.length),s.aO[i].2.1=v→dE s.what s.w (gg s (a.getD s.aO[i].1.toNat []) s.aO[i].1.toNat) y):∀k,k≤s.aO.length→dE s.what s.w (iy s a k v) y
 | 0,_=>h0
 |k+1,hk=>by
  have ih:=Qd v h0 he k (by omega)
  rw[w9 s a (by omega)]
  unfold tS
  split
  ·next hc=>exact dE.join ih (he k (by omega) hc)
  ·exact ih
def nO(s:Sy)(l:Lay)(ws ws':List Int):Prop:=∀v i,v<nN s→i<nW l→de s.what (ws.getD (v*nW l+i) 0) (ws'.getD (v*nW l+i) 0)=ws'.getD (v*nW l+i) 0
structure WI(s:Sy)(l:Lay)(hs:LS s l)(a:WA)(us:Nat):Prop where
 free:vL s l a
 ref:∃D T,RJ s l hs a.W a.ws D T (us+1)∧SX.VI (kU s l hs) (Ep s) (cu s l a.W a.ws D)∧(∀v,v<nN s→SX.yC (kU s l hs) (cu s l a.W a.ws D) v)∧SX.Rest (cu s l a.W a.ws D)∧SX.EI (cu s l a.W a.ws D) (nN s)∧SX.JI (cu s l a.W a.ws D) (usS s) (rkS s l)
 low:∀v i,v<nN s→i<nW l→de s.what (wd (fp s v) i) (a.ws.getD (v*nW l+i) 0)=a.ws.getD (v*nW l+i) 0
section
variable {s:Sy} {l:Lay} {hs:LS s l}
theorem yJ{W:List WS}{ws:List Int}{D:List (List Nat)}{v i:Nat}(hv:v<nN s)(hi:i<nW l):(cu s l W ws D).cell v i=ws.getD (v*nW l+i) 0:=ah ⟨hv,hi⟩
theorem WI.word{a:WA}{us:Nat}(h:WI s l hs a us){v i:Nat}(hv:v<nN s)(hi:i<nW l):fX s.what s.w i (a.ws.getD (v*nW l+i) 0):=h.free.fl.2.cells v i hv hi
theorem nO.refl{a:WA}{us:Nat}(h:WI s l hs a us):nO s l a.ws a.ws:=fun _ _ hv hi=>CK hs.vA (h.word hv hi)
theorem nO.trans{a b c:WA}{u1 u2 u3:Nat}(h1:WI s l hs a u1)(h2:WI s l hs b u2)(h3:WI s l hs c u3)(r1:nO s l a.ws b.ws)(r2:nO s l b.ws c.ws):nO s l a.ws c.ws:=fun v i hv hi=>
 SX.le_trans (A:=kU s l hs) (h1.word hv hi) (h2.word hv hi) (h3.word hv hi) (r1 v i hv hi) (r2 v i hv hi)
theorem WI.step{a:WA}{us:Nat}(h:WI s l hs a us)(hu:us<100000000)(i:Nat)(d:Int):WI s l hs (eZ s l a i d).1 (us+1)∧nO s l a.ws (eZ s l a i d).1.ws:=by
 obtain⟨hF,⟨D,T,hR,hV,hC,Cl,hE,hJ⟩,fv⟩:=h
 obtain⟨D',T',Pg,mX⟩:=hR.step (by omega) hF i d
 have hb:=aaP hs
 obtain⟨hV',zu⟩:=hV.step hb hR.ti mX
 have hF':=hF.step hs i d
 have hr:nO s l a.ws (eZ s l a i d).1.ws:=fun v j hv hj=>by
  have:=zu v j hv hj
  rw[yJ hv hj,yJ hv hj]at this
  exact this
 refine⟨⟨hF',⟨D',T',Pg,hV',fun v hv=>?_,Cl.step hR.ti mX,hE.step mX,hJ.step (adX hs) hR.ti hV mX⟩,fun v j hv hj=>?_⟩,hr⟩
 ·exact SX.yC.step hR.ti hV mX hv (hC v hv)
 ·exact SX.le_trans (A:=kU s l hs) (hs.GF hj) (hF.fl.2.cells v j hv hj) (hF'.fl.2.cells v j hv hj) (fv v j hv hj) (hr v j hv hj)
theorem ZU(hs:LS s l){v i:Nat}(hv:v<nN s)(hi:i<nW l):de s.what (wd (fp s v) i) (Ep s v i)=Ep s v i:=by
 obtain⟨bR,EP,_,_⟩:=xd hs.fit hs.gK
 have h1:=(K9 hs.fit hs.gK bR v s.aO.length (a8 _)).1
 rw[← CZ s _ (show ((v:Nat):Int)<s.n by have:=hs.nn;omega),← EP]at h1
 have:=(hs.wo h1.1 h1.2.1).1 h1 i hi
 rw[sG (fp s v)]at this
 exact this
theorem wi0(cb:kE s l):WI s l hs ⟨W0 l,eP s l⟩ 0:=by
 obtain⟨mB,oa,FB⟩:=Sg hs
 have ng:∀p∈(cu s l (W0 l) (eP s l) (D0 s l)).ph,p=.idle 0 0:=fun p hp=>by
  obtain⟨x,hx,rfl⟩:=dT.1 hp
  rw[show x=nP from Ar hx];rfl
 have kv:(cu s l (W0 l) (eP s l) (D0 s l)).ev=0:=Uj (f:=fun x:WS=>x.ev.toNat) (x:=nP) rfl _
 have l6:(cu s l (W0 l) (eP s l) (D0 s l)).jo=0:=Uj (f:=fun x:WS=>x.jo.toNat) (x:=nP) rfl _
 refine⟨VB cb hs,⟨D0 s l,fun _=>1,rj0 cb,⟨fun v i hv hi=>?_,fun v i hv hi=>?_,fun p hp=>?_⟩,fun v hv=>.inl ?_,fun h=>?_,?_,?_⟩,fun v i hv hi=>?_⟩
 ·rw[yJ hv hi,mB v i hv hi];exact hs.GF hi
 ·rw[yJ hv hi,mB v i hv hi];exact ZU hs hv hi
 ·rw[ng p hp];trivial
 ·exact aT ⟨hv,by rw[oa v hv];decide⟩
 ·exact absurd (ng _ h) (by intro h;cases h)
 ·show SX.AS.ev _+SX.aN List.length (D0 s l)+SX.aN SX.iq _≤nN s+SX.AS.jo _
  rw[kv,l6,Wa cb,SX.wZ fun p hp=>by rw[ng p hp];rfl];omega
 ·show SX.AS.jo _+SX.aN SX.fS _≤_
  rw[l6,SX.wZ fun p hp=>by rw[ng p hp];rfl];omega
 ·rw[mB v i hv hi];exact CK hs.vA (hs.GF hi)
theorem WI.Xm{a:WA}{us:Nat}(h:WI s l hs a us):kN s (ny s l a.ws) (iV s).1:=by
 obtain⟨hF,⟨D,T,hR,hV,_⟩,_⟩:=h
 refine⟨yL hs hF.fl.2,(xd hs.fit hs.gK).1,fun v hv=>?_⟩
 have hv:v<nN s:=by have:=hs.nn;omega
 rw[AJ hv]
 refine (hs.wo (hs.AM fun i hi=>hF.fl.2.cells v i hv hi) (Mo hs hv)).2 fun i hi=>?_
 rw[rq hi]
 have:=hV.low v i hv hi
 rw[yJ hv hi]at this
 exact this
theorem abE{a b:WA}{u1 u2:Nat}(h1:WI s l hs a u1)(h2:WI s l hs b u2)(hr:nO s l a.ws b.ws):kN s (ny s l a.ws) (ny s l b.ws):=by
 refine⟨yL hs h1.free.fl.2,yL hs h2.free.fl.2,fun v hv=>?_⟩
 have hv:v<nN s:=by have:=hs.nn;omega
 rw[AJ hv,AJ hv]
 refine (hs.wo (hs.AM fun i hi=>h1.word hv hi) (hs.AM fun i hi=>h2.word hv hi)).2 fun i hi=>?_
 rw[rq hi,rq hi]
 exact hr v i hv hi
theorem acb{a b:List (List Int)}(h1:kN s a b)(h2:kN s b a):a=b:=by
 have la:=h1.1.len
 have lb:=h1.2.1.len
 refine As (by omega) fun i hi qY=>?_
 have:=(h1.2.2 i (by omega)).aiJ (h2.2.2 i (by omega))
 rw[aZ,aZ,bh hi,bh qY]at this
 exact this
theorem WI.solved{a:WA}{us:Nat}(h:WI s l hs a us)(h0:(a.ws.getD (nN s*nW l+nN s) 0).toNat=0):ny s l a.ws=(iV s).1:=by
 have zx:=h.Xm
 obtain⟨hF,⟨D,T,hR,hV,hC,Cl,hE,hJ⟩,fv⟩:=h
 refine acb zx ?_
 obtain⟨h1,h2,h3⟩:=hR.ti.quiet h0
 have J6:=yL hs hF.fl.2
 refine (xd hs.fit hs.gK).2.2.2 _ ⟨yT hs.fit hs.gK J6,J6,fun u hu=>?_⟩
 have B5:u<nN s:=by have:=hs.nn;omega
 rw[CZ s _ hu]
 have Ee:=J6.get hu
 refine Qd u ?_ (fun i hi he=>?_) _ (a8 _)
 ·rw[AJ B5]at Ee ⊢
  refine (hs.wo (GS hs.fit hs.gK u) Ee).2 fun i hi=>?_
  rw[sG (fp s u),rq hi]
  exact fv u i B5 hi
 ·have hem:=bP hi
  have Ei:=hs.gK.ui _ hem
  have hn:=hs.nn
  have Aa:s.aO[i].1.toNat<nN s:=by omega
  have cU:=aeG hs hem
  rw[he,bC]at cU
  have qU:=J6.get (i:=s.aO[i].1.toNat) (by omega)
  have hov:=hs.WQ Aa qU
  refine (hs.wo hov Ee).2 fun j hj=>?_
  have air:=hC _ Aa
  have hle:SX.B0 (kU s l hs) (cu s l a.W a.ws D).cell s.aO[i].1.toNat u:=by
   rcases air with h | ⟨p,hp,h⟩ | ⟨p,hp,h⟩ | h
   ·rw[h3]at h;cases h
   ·rcases h2 p hp with ⟨d,a,rfl⟩ | rfl <;> exact h.elim
   ·rcases h2 p hp with ⟨d,a,rfl⟩ | rfl <;> exact h.elim
   ·rcases h u cU with h | ⟨p,hp,h⟩
    ·exact h
    ·rcases h2 p hp with ⟨d,a,rfl⟩ | rfl <;> exact h.elim
  have:=hle j hj
  have e1:SX.ml (kU s l hs) (cu s l a.W a.ws D).cell s.aO[i].1.toNat=(ny s l a.ws).getD s.aO[i].1.toNat []:=by
   rw[AJ Aa]
   exact wS fun k hk=>yJ Aa (gy.1 hk)
  rw[e1,yJ B5 hj]at this
  rw[AJ B5,rq hj]
  exact this
theorem WI.rest{a:WA}{us:Nat}(h:WI s l hs a us){x:WS}(hx:x∈a.W)(he:x.en=true):(a.ws.getD (nN s*nW l+nN s) 0).toNat=0:=by
 obtain⟨hF,⟨D,T,hR,hV,hC,Cl,hE,hJ⟩,fv⟩:=h
 refine Cl (dT.2 ⟨x,hx,?_⟩)
 unfold dP
 rw[ah he]
end
section
variable {s:Sy} {l:Lay} {hs:LS s l}
structure XI(s:Sy)(l:Lay)(hs:LS s l)(x:iF WA):Prop where
 wi:WI s l hs x.a x.us
 dn:x.dn=x.a.W.map (·.en)
 st:x.st.length=l.k.toNat
theorem ZR{s:Sy}{l:Lay}{who:Int}{x:WS}{d:Int}{ws:List Int}:(dw bJ s l who x d ws).2.2=(dw bJ s l who x d ws).1.en:=by
 cases he:x.en with
 |true=>unfold dw;rw[ah he];exact he.symm
 |false=>exact abe (s:=s) (l:=l) (who:=who) (d:=d) (ws:=ws) he
theorem XI.pick{x:iF WA}(h:XI s l hs x)(hu:x.us<100000000)(p:Int×Int×Unit):XI s l hs (jT (eZ s l) (fun a _=>a) l.k.toNat x p)∧nO s l x.a.ws (jT (eZ s l) (fun a _=>a) l.k.toNat x p).a.ws:=by
 have n0:=hs.k1
 have sL:=Dw (p:=p.1) (show 0<l.k.toNat by omega)
 have hlen:=h.wi.free.len
 unfold jT
 by_cases hd:x.dn.getD (jk p.1 l.k.toNat) true=true
 ·rw[ah hd]
  obtain⟨hw,h2,h3⟩:=h
  obtain⟨hF,⟨D,T,hR,hV,hC,Cl,hE,hJ⟩,fv⟩:=hw
  exact⟨⟨⟨hF,⟨D,T,⟨hR.len,hR.fl,hR.kA,hR.dl,hR.di,ox hR,fun y hy=>by have:=hR.ev y hy;show 0≤y.ev∧y.ev≤((x.us+1+1:Nat):Int)∧0≤y.jo∧y.jo≤((x.us+1+1:Nat):Int);omega,hR.jn,hR.pn,hR.ti⟩,hV,hC,Cl,hE,hJ⟩,fv⟩,h2,h3⟩,fun v i hv hi=>CK hs.vA (hF.fl.2.cells v i hv hi)⟩
 ·rw[ag hd]
  obtain⟨h1,h2⟩:=h.wi.step hu (jk p.1 l.k.toNat) p.2.1
  refine⟨⟨h1,?_,by show (x.st.set _ _).length=_;rw[cR];exact h.st⟩,h2⟩
  show x.dn.set _ _=(eZ s l x.a _ _).1.W.map (·.en)
  have hW:x.a.W[jk p.1 l.k.toNat]?=some x.a.W[jk p.1 l.k.toNat]:=bh (by omega)
  rw[Dh hW,h.dn,ZR]
  show _=(List.set _ _ _).map _
  rw[oc]
theorem XI.go:∀(aC:List (Int×Int×Unit)) {x:iF WA},XI s l hs x→x.us+aC.length<100000000→XI s l hs (sh s l aC x)∧nO s l x.a.ws (sh s l aC x).a.ws
 | [],x,h,_=>⟨h,nO.refl h.wi⟩
 |p::aC,x,h,hu=>by
  show XI s l hs (if x.dn.all id=true then x else sh s l aC (jT (eZ s l) (fun a _=>a) l.k.toNat x p))∧nO s l x.a.ws (if x.dn.all id=true then x else sh s l aC (jT (eZ s l) (fun a _=>a) l.k.toNat x p)).a.ws
  have hl:x.us+(aC.length+1)<100000000:=hu
  by_cases hd:x.dn.all id=true
  ·rw[ah hd];exact⟨h,nO.refl h.wi⟩
  ·rw[ag hd]
   obtain⟨h1,h2⟩:=h.pick (by omega) p
   have gu:(jT (eZ s l) (fun a _=>a) l.k.toNat x p).us=x.us+1:=by unfold jT;split <;> rfl
   obtain⟨h3,h4⟩:=XI.go aC h1 (by rw[gu];omega)
   exact⟨h3,nO.trans h.wi h1.wi h3.wi h2 h4⟩
theorem xi0(cb:kE s l):XI s l hs (x6 s l):=⟨wi0 cb,by show List.replicate _ _=(List.replicate _ _).map _;rw[List.map_replicate];rfl,gl⟩
end
set_option maxHeartbeats 4000000
section
variable {s:Sy} {l:Lay} {I:List (Nat×Nat)}
end
theorem Vj(s:Sy)(l:Lay):∀(aC:List (Int×Int×Unit)) (x:iF WA),(sh s l aC x).us≤x.us+aC.length
 | [],x=>Kp _ _
 |p::aC,x=>by
  show (if x.dn.all id=true then x else sh s l aC (jT (eZ s l) (fun a _=>a) l.k.toNat x p)).us≤x.us+(aC.length+1)
  split
  ·omega
  ·have h:=Vj s l aC (jT (eZ s l) (fun a _=>a) l.k.toNat x p)
   have gu:(jT (eZ s l) (fun a _=>a) l.k.toNat x p).us=x.us+1:=by unfold jT;split <;> rfl
   omega
theorem Vb{s:Sy}{l:Lay}{hs:LS s l}(cb:kE s l)(aC:List (Int×Int×Unit))(h:aC.length≤100000):XI s l hs (dL s l aC):=
 ((xi0 cb).go aC (by show 0+aC.length<_;omega)).1
set_option maxHeartbeats 4000000
theorem abN{s:Sy}{l:Lay}(n:Nat)(x:iF WA)(p:Int×Int×Unit):(jT (eZ s l) (fun a _=>a) n x p).dn.length=x.dn.length∧(jT (eZ s l) (fun a _=>a) n x p).a.W.length=x.a.W.length:=by
 unfold jT
 split
 ·exact⟨rfl,rfl⟩
 ·refine⟨cR ..,?_⟩
  show (eZ s l x.a _ _).1.W.length=_
  unfold eZ
  split
  ·exact cR ..
  ·rfl
theorem Vz{s:Sy}{l:Lay}(n:Nat):∀(aC:List (Int×Int×Unit)) (x:iF WA),(mD (eZ s l) (fun a _=>a) n aC x).dn.length=x.dn.length∧(mD (eZ s l) (fun a _=>a) n aC x).a.W.length=x.a.W.length
 | [],x=>⟨rfl,rfl⟩
 |p::aC,x=>by
  show (if x.dn.all id=true then x else mD (eZ s l) (fun a _=>a) n aC (jT (eZ s l) (fun a _=>a) n x p)).dn.length=_∧(if x.dn.all id=true then x else mD (eZ s l) (fun a _=>a) n aC (jT (eZ s l) (fun a _=>a) n x p)).a.W.length=_
  split
  ·exact⟨rfl,rfl⟩
  ·have h1:=Vz (s:=s) (l:=l) n aC (jT (eZ s l) (fun a _=>a) n x p)
   have h2:=abN (s:=s) (l:=l) n x p
   exact⟨h1.1.trans h2.1,h1.2.trans h2.2⟩
theorem Um(s:Sy)(l:Lay)(aC:List (Int×Int×Unit)):(dL s l aC).dn.length=l.k.toNat∧(dL s l aC).a.W.length=l.k.toNat:=by
 have h:=Vz (s:=s) (l:=l) l.k.toNat aC (x6 s l)
 exact⟨h.1.trans gl,h.2.trans gl⟩
def WW:List Int:=[1,1,1,1,2,0,0]
def vZ:iF WA:=⟨⟨[nP],WW⟩,[0],[false],0⟩
def rM(s:Sy)(l:Lay)(k:Nat)(x:iF WA):List AV:=vB (oJ l x.a.ws (nN s)) (lM l x.a.ws (nN s)) (wr (cc x.a.ws (cq l))) (qi x.a.W) (pY x.a.W) x.us (sA l x.a.ws k) (tV l x.a.ws k) x.dn
structure uR(s:Sy)(k:Nat)(l:Lay)(hs:LS s l)(x:iF WA):Prop where
 ok:kE s l
 lk:l.k=(k:Int)
 lay:iJ s k=l
 xi:XI s l hs x
 dl:x.dn.length=k
 wl:x.a.W.length=k
theorem ah5{s:Sy}{k:Int}(hf:Fit s)(he:du s k=0):∃n:Nat,k=(n:Int)∧1≤n∧n≤64:=by
 obtain⟨hs,_⟩:=Eb hf he
 have h1:=hs.k1
 have h2:=hs.k2
 rw[Mz he]at h1 h2
 exact⟨k.toNat,by omega,by omega,by omega⟩
theorem Ju(s:Sy)(k:Nat)(aC:List (Int×Int×Unit))(σ:Hp)(hf:Fit s)(he:du s k=0)(mT:aC.length≤100000):ACalls Tryz.prog 14 [.agg (aW s),.int .i64 k,.ae k9 aC] σ (fun r σ'=>∃(l:Lay) (hs:LS s l),uR s k l hs (dL s l aC)∧r=.tup [.agg (rM s l k (dL s l aC)),.int .i64 0]∧σ'=σ):=by
 obtain⟨hs,J7⟩:=Eb hf he
 obtain⟨l,hl⟩:∃l,iJ s k=l:=⟨_,rfl⟩
 have hk:l.k=k:=by rw[← hl];exact Mz he
 rw[hl]at hs
 have ei:=hs.k2
 have hnn:=hs.nn
 have hn:=hs.n
 obtain⟨wH,n9⟩:=Um s l aC
 have e:l.k.toNat=k:=by omega
 rw[e]at wH n9
 refine (ahI s k l hl aC σ hf he mT (by omega) (by omega) (by omega) (by omega) n9).mono ?_
 rintro _ _ ⟨rfl,rfl,cb⟩
 exact⟨l,hs,⟨cb,hk,hl,Vb cb aC mT,wH,n9⟩,rfl,rfl⟩
theorem aeZ(s:Sy)(va JA:List (List Int))(wv wv' dv dv':AV)(num ahS ev KR jo JG us JB:Int)(tv tv' bv bv':AV)(σ:Hp)(hf:Fit s)(qU:ki va)(ahZ:ki JA):ACalls Tryz.prog 76 [.agg (aW s),.agg [.ae (.slice (.int .u64)) va,wv,.int .i64 num,.int .i64 ev,.int .i64 jo,.int .i64 us,tv,bv,dv],.agg [.ae (.slice (.int .u64)) JA,wv',.int .i64 ahS,.int .i64 KR,.int .i64 JG,.int .i64 JB,tv',bv',dv']] σ (ay (.bool (tP s va JA&&decide (ev≤KR)&&decide (jo≤JG)&&decide (us≤JB))) σ):=by
 refine ar Tryz.func76 ?_
 intro aB
 intro dc
 intro qj
 refine aa 2 ?_
 refine aa 1 ?_
 refine aa 0 ?_
 refine dC [] (LL s va JA _ hf qU ahZ) (fun c0=>?_) (fun c0=>?_)
 ·refine aa 1 ?_
  refine aa 0 ?_
  refine ak (fun c1=>?_) (fun c1=>?_)
  ·have c1:ev≤KR:=c1
   refine aa 1 ?_
   refine aa 0 ?_
   refine ak (fun c2=>?_) (fun c2=>?_)
   ·have c2:jo≤JG:=c2
    refine aa 1 ?_
    refine aa 0 ?_
    refine ak (fun c3=>?_) (fun c3=>?_)
    ·have c3:us≤JB:=c3
     exact .drop 0 3 (.done ⟨by rw[c0,aT c1,aT c2,aT c3];rfl,rfl⟩)
    ·have c3:¬(us≤JB):=c3
     exact .drop 0 3 (.done ⟨by rw[c0,aT c1,aT c2,bS c3];rfl,rfl⟩)
   ·have c2:¬(jo≤JG):=c2
    exact .drop 0 3 (.done ⟨by rw[c0,aT c1,bS c2];rfl,rfl⟩)
  ·have c1:¬(ev≤KR):=c1
   exact .drop 0 3 (.done ⟨by rw[c0,bS c1];rfl,rfl⟩)
 ·exact .drop 0 3 (.done ⟨by rw[c0];rfl,rfl⟩)
theorem VN(s:Sy)(va:List (List Int))(wv dv:AV)(num ev jo us:Int)(gH oW:List Int)(σ:Hp)(hf:Fit s)(hg:Good s)(qU:ki va)(B8:ki (iV s).1)(hlen:gH.length≤100000)(hb:tP s va (iV s).1=true)(I7:0≤num∧num≤wr (s.n+(gH.length:Int)))(hl:gH.length=oW.length)(kv:ev≤zj s)(l6:jo≤zh s)(hd:∀i:Nat,i<gH.length→1≤gH.getD i 0∧¬oW.getD i 0<wr (gH.getD i 0-1)∧¬(gH.getD i 0≤oW.getD i 0∧s.n<wr (oW.getD i 0-gH.getD i 0))):ACalls Tryz.prog 75 [.agg (aW s),.agg [.ae (.slice (.int .u64)) va,wv,.int .i64 num,.int .i64 ev,.int .i64 jo,.int .i64 us,.ae (.int .i64) gH,.ae (.int .i64) oW,dv]] σ (ay (.bool true) σ):=by
 refine ar Tryz.func75 ?_
 intro aB
 intro dc
 refine aa 1 ?_
 refine aw [] (TS s _ hf hg) ?_
 refine aa 1 ?_
 refine aa 0 ?_
 refine aw [] (ot (LL s va _ _ hf qU B8) (by rw[hb])) ?_
 refine aa 0 ?_
 refine ak (fun c1=>?_) (fun c1=>?_)
 ·have c1:num<0:=c1
  exact absurd c1 (Cn.2 I7.1)
 ·have c1:¬(num<0):=c1
  refine aa 0 ?_
  refine aa 1 ?_
  refine aa 0 ?_
  refine ak (fun c2=>?_) (fun c2=>?_)
  ·have c2:IntKind.i64.wrap (s.n+(↑gH.length:Int))<num:=c2
   exact absurd c2 (Cn.2 I7.2)
  ·have c2:¬(IntKind.i64.wrap (s.n+(↑gH.length:Int))<num):=c2
   refine .quiet (by kernel_rfl) ?_
   refine aa 0 ?_
   refine aa 0 ?_
   refine cX (fun c3=>?_) (fun c3=>?_)
   ·have c3:(!decide ((↑gH.length:Int)=(↑oW.length:Int)))=true:=c3
    exact absurd hl (fun h=>by rw[h]at c3;simp at c3)
   ·have c3:(!decide ((↑gH.length:Int)=(↑oW.length:Int)))=false:=c3
    refine aa 0 ?_
    refine aa 1 ?_
    refine aI [] (ZI s _ hf) ?_
    refine ak (fun c1=>?_) (fun c1=>?_)
    ·have c1:zj s<ev:=c1
     exact absurd c1 (Cn.2 kv)
    ·have c1:¬(zj s<ev):=c1
     refine aa 0 ?_
     refine aa 1 ?_
     refine aI [] (ZH s _ hf) ?_
     refine ak (fun c1=>?_) (fun c1=>?_)
     ·have c1:zh s<jo:=c1
      exact absurd c1 (Cn.2 l6)
     ·have c1:¬(zh s<jo):=c1
      refine aa 0 ?_
      refine bQ (S:=Nat) (fun i=>[(2,.ptr aB 0),(3,.ptr dc 0),(65,.ae (.int .i64) gH),(66,.int .i64 gH.length),(67,.int .i64 i)]) (fun _=>(dc,[.ae (.slice (.int .u64)) va,wv,.int .i64 num,.int .i64 ev,.int .i64 jo,.int .i64 us,.ae (.int .i64) gH,.ae (.int .i64) oW,dv])::(aB,aW s)::σ) (fun i=>i≤gH.length) (fun i=>gH.length-i) 0 ⟨bA _,⟨rfl,rfl,rfl,rfl,rfl,trivial⟩,by rfl⟩ ?_
      intro i g dZ
      have Cc:i≤gH.length:=dZ
      clear dZ
      refine ak (p:=(i:Int)<(gH.length:Int)) (fun ab=>?_) (fun aq=>?_)
      ·have ab:i<gH.length:=by omega
       refine aG.mk rfl ?_
       obtain⟨t,htx⟩:∃t,gH[i]=t:=⟨_,rfl⟩
       obtain⟨b,hbx⟩:∃b,oW[i]'(by omega)=b:=⟨_,rfl⟩
       have Xf:i<oW.length:=by omega
       obtain⟨d1,d2,d3⟩:=hd i ab
       have e1:gH.getD i 0=t:=by rw[aZ,bh ab,htx];rfl
       have e2:oW.getD i 0=b:=by rw[aZ,bh Xf,hbx];rfl
       rw[e1]at d1 d2 d3
       rw[e2]at d2 d3
       refine bE.mk t (by omega) ((get_some ab).trans (congrArg some htx)) ?_
       refine aa 0 ?_
       refine aG.mk rfl ?_
       refine bE.mk b (by omega) ((get_some Xf).trans (congrArg some hbx)) ?_
       refine ak (fun c1=>?_) (fun c1=>?_)
       ·have c1:t<1:=c1
        exact absurd c1 (Cn.2 d1)
       ·have c1:¬(t<1):=c1
        refine ak (fun c2=>?_) (fun c2=>?_)
        ·have c2:b<IntKind.i64.wrap (t-1):=c2
         exact absurd c2 d2
        ·have c2:¬(b<IntKind.i64.wrap (t-1)):=c2
         refine ak (fun c3=>?_) (fun c3=>?_)
         ·have c3:t≤b:=c3
          refine aa 1 ?_
          refine ak (fun c4=>?_) (fun c4=>?_)
          ·have c4:s.n<IntKind.i64.wrap (b-t):=c4
           exact absurd ⟨c3,c4⟩ d3
          ·have c4:¬(s.n<IntKind.i64.wrap (b-t)):=c4
           exact aY (i+1) (by show gH.length-(i+1)<gH.length-i;omega) ab ⟨rfl,rfl,rfl,rfl,aS (by omega),trivial⟩ (.refl _)
         ·have c3:¬(t≤b):=c3
          exact aY (i+1) (by show gH.length-(i+1)<gH.length-i;omega) ab ⟨rfl,rfl,rfl,rfl,aS (by omega),trivial⟩ (.refl _)
      exact .drop 0 2 (.done ⟨rfl,rfl⟩)
theorem aeX(s:Sy)(va:List (List Int))(wv dv:AV)(num ev jo us:Int)(gH oW:List Int)(σ:Hp)(hf:Fit s)(hg:Good s)(qU:ki va)(B8:ki (iV s).1)(hb:tP s va (iV s).1=false):ACalls Tryz.prog 75 [.agg (aW s),.agg [.ae (.slice (.int .u64)) va,wv,.int .i64 num,.int .i64 ev,.int .i64 jo,.int .i64 us,.ae (.int .i64) gH,.ae (.int .i64) oW,dv]] σ (ay (.bool false) σ):=by
 refine ar Tryz.func75 ?_
 intro aB
 intro dc
 refine aa 1 ?_
 refine aw [] (TS s _ hf hg) ?_
 refine aa 1 ?_
 refine aa 0 ?_
 refine aw [] (ot (LL s va _ _ hf qU B8) (by rw[hb])) ?_
 exact .drop 0 2 (.done ⟨rfl,rfl⟩)
set_option maxHeartbeats 4000000
section
variable {s:Sy} {l:Lay} (hs:LS s l)
include hs
theorem G4(ws:List Int):oJ l ws (nN s)=ny s l ws:=by
 unfold oJ ny pT
 refine wS fun v hv=>wS fun i hi=>?_
 rw[hs.By (gy.1 hv) (gy.1 hi),lK]
end
structure IU(s:Sy)(l:Lay)(k:Nat)(x:iF WA):Prop where
 num:0≤wr (cc x.a.ws (cq l))∧wr (cc x.a.ws (cq l))≤wr (s.n+(k:Int))
 ev:qi x.a.W≤zj s
 jo:pY x.a.W≤zh s
 dq:∀i:Nat,i<k→1≤wr (cc x.a.ws (ec l i))∧¬wr (cc x.a.ws (eR (ec l i)))<wr (wr (cc x.a.ws (ec l i))-1)∧¬(wr (cc x.a.ws (ec l i))≤wr (cc x.a.ws (eR (ec l i)))∧s.n<wr (wr (cc x.a.ws (eR (ec l i)))-wr (cc x.a.ws (ec l i))))
def WL(s:Sy)(l:Lay)(x y:iF WA):Prop:=kN s (ny s l x.a.ws) (ny s l y.a.ws)∧qi x.a.W≤qi y.a.W∧pY x.a.W≤pY y.a.W∧x.us≤y.us
theorem VT(s:Sy)(k:Nat)(l:Lay)(hs:LS s l)(x:iF WA)(σ:Hp)(hX:uR s k l hs x)(h:IU s l k x):ACalls Tryz.prog 75 [.agg (aW s),.agg (rM s l k x)] σ (ay (.bool true) σ):=by
 have hg:=hs.gK
 have Wl:ic s (ny s l x.a.ws):=yL hs hX.xi.wi.free.fl.2
 have B8:ic s (iV s).1:=(xd hs.fit hg).1
 unfold rM vB
 rw[G4 hs]
 have ht:(sA l x.a.ws k).length=k:=by unfold sA;rw[cg,kS]
 have hb:(tV l x.a.ws k).length=k:=by unfold tV;rw[cg,kS]
 have hk:=hs.k2
 have hlk:=hX.lk
 refine VN s _ _ _ _ _ _ _ _ _ σ hs.fit hg (Wl.ok hg) (B8.ok hg) (by omega) ((Sr hg (Wl.ok hg) (B8.ok hg)).2 hX.xi.wi.Xm) (by rw[ht];exact h.num) (by omega) h.ev h.jo fun i hi=>?_
 rw[show (sA l x.a.ws k).getD i 0=_ from rq (by omega),show (tV l x.a.ws k).getD i 0=_ from rq (by omega)]
 exact h.dq i (by omega)
theorem VU(s:Sy)(k:Nat)(l:Lay)(hs:LS s l)(x y:iF WA)(σ:Hp)(hX:uR s k l hs x)(hY:uR s k l hs y)(h:WL s l x y):ACalls Tryz.prog 76 [.agg (aW s),.agg (rM s l k x),.agg (rM s l k y)] σ (ay (.bool true) σ):=by
 have hg:=hs.gK
 have hvx:ic s (ny s l x.a.ws):=yL hs hX.xi.wi.free.fl.2
 have hvy:ic s (ny s l y.a.ws):=yL hs hY.xi.wi.free.fl.2
 obtain⟨h1,h2,h3,h4⟩:=h
 unfold rM vB
 rw[G4 hs,G4 hs]
 refine ot (aeZ s _ _ _ _ _ _ _ _ _ _ _ _ _ _ _ _ _ _ σ hs.fit (hvx.ok hg) (hvy.ok hg)) ?_
 rw[(Sr hg (hvx.ok hg) (hvy.ok hg)).2 h1,aT h2,aT h3,aT (show ((x.us:Nat):Int)≤y.us by omega)];rfl
theorem Xv(s:Sy)(k:Nat)(l:Lay)(hs:LS s l)(hl:iJ s k=l)(aC:List (Int×Int×Unit))(σ:Hp)(hf:Fit s)(he:du s k=0)(mT:aC.length≤100000):ACalls Tryz.prog 14 [.agg (aW s),.int .i64 k,.ae k9 aC] σ (ay (.tup [.agg (rM s l k (dL s l aC)),.int .i64 0]) σ):=by
 refine (Ju s k aC σ hf he mT).mono ?_
 rintro _ _ ⟨l',dS,hX,rfl,rfl⟩
 obtain rfl:l'=l:=hX.lay.symm.trans hl
 exact⟨rfl,rfl⟩
theorem uR.run{s:Sy}{k:Nat}{l:Lay}{hs:LS s l}{x:iF WA}(h:uR s k l hs x)(aC:List (Int×Int×Unit))(mT:aC.length≤100000):uR s k l hs (dL s l aC):=by
 obtain⟨wH,n9⟩:=Um s l aC
 have e:l.k.toNat=k:=by have:=h.lk;omega
 rw[e]at wH n9
 exact⟨h.ok,h.lk,h.lay,Vb h.ok aC mT,wH,n9⟩
theorem af0(s:Sy)(k:Nat)(aC:List (Int×Int×Unit))(σ:Hp)(hf:Fit s)(he:du s k=0)(mT:aC.length≤100000)(zu:∀(l:Lay) (hs:LS s l) (i:Nat),i≤aC.length→uR s k l hs (dL s l (aC.take (i-1)))→uR s k l hs (dL s l (aC.take i))→WL s l (dL s l (aC.take (i-1))) (dL s l (aC.take i)))(Wo:∀(l:Lay) (hs:LS s l) (i:Nat),i≤aC.length→uR s k l hs (dL s l (aC.take i))→IU s l k (dL s l (aC.take i))):ACalls Tryz.prog 33 [.agg (aW s),.int .i64 k,.ae k9 aC] σ (ay (.tup [.int .i64 0,.bool false,.int .i64 0]) σ):=by
 refine ar Tryz.func33 ?_
 intro b3
 refine aa 0 ?_
 refine Mc (ys:=[.agg (aW s),.int .i64 k,.ae k9 []]) (cd (.refl _) (cd (.refl _) (cd (.nil k9) (.refl _)))) ?_
 refine .mk [] _ (Ju s k [] _ hf he (by decide)) ?_
 rintro _ _ ⟨l,hs,hX,rfl,rfl⟩
 intro b9
 refine aj 0 ?_
 refine bQ (S:=Nat) (fun i=>[(1,.int .i64 k),(2,.ae k9 aC),(3,.ptr b3 0),(9,.ptr b9 0),(25,.int .i64 ((aC.length+1:Nat):Int)),(26,.int .i64 i)]) (fun i=>(b9,rM s l k (dL s l (aC.take (i-1))))::(b3,aW s)::σ) (fun i=>i≤aC.length+1) (fun i=>aC.length+1-i) 0 ⟨bA _,⟨rfl,rfl,rfl,rfl,aS (yx mT (by decide)),rfl,trivial⟩,by rfl⟩ ?_
 intro i g dZ
 have Cc:i≤aC.length+1:=dZ
 clear dZ
 refine ak (p:=(i:Int)<((aC.length+1:Nat):Int)) (fun ab=>?_) (fun aq=>?_)
 ·have ab:i≤aC.length:=by omega
  have sZ:(aC.take i).length≤100000:=by rw[sk];omega
  refine .sched [5] (.one 0 false (.one 1 false (.one 2 false (.one 3 false (.one 4 false (.BQ 5 (.one 6 false (.one 7 false (.one 8 false (.one 9 false (.one 10 false (.one 11 false .stop)))))) (.one 9 false (.one 5 true (.one 6 false (.one 7 false (.one 8 false (.one 10 false (.one 11 false .stop))))))))))))) (by kernel_rfl) ?_
  refine aa 1 ?_
  refine aG.mk ⟨by decide,by omega,Int.ofNat_le.2 ab,rfl⟩ ?_
  refine And.intro ?_ ?_
  ·refine aI [] (Xv s k l hs hX.lay (aC.take i) _ hf he sZ) ?_
   intro aB
   refine aj 0 ?_
   refine aa 2 ?_
   refine aa 0 ?_
   have wL:=hX.run (aC.take i) sZ
   have FD:=hX.run (aC.take (i-1)) (by rw[sk];omega)
   refine aw [] (VT s k l hs _ _ wL (Wo l hs i ab wL)) ?_
   refine aa 2 ?_
   refine aa 1 ?_
   refine aa 0 ?_
   refine aw [] (VU s k l hs _ _ _ FD wL (zu l hs i ab FD wL)) ?_
   refine aa 0 ?_
   refine aj 1 ?_
   exact aY (i+1) (by show aC.length+1-(i+1)<aC.length+1-i;omega) (Nat.succ_le_succ ab) ⟨rfl,rfl,rfl,rfl,rfl,aS (by omega),trivial⟩ (.drop 0 1 (.refl _))
  ·intro aB
   refine aI [] (Xv s k l hs hX.lay (aC.take i) _ hf he sZ) ?_
   refine aj 0 ?_
   refine aa 2 ?_
   refine aa 0 ?_
   have wL:=hX.run (aC.take i) sZ
   have FD:=hX.run (aC.take (i-1)) (by rw[sk];omega)
   refine aw [] (VT s k l hs _ _ wL (Wo l hs i ab wL)) ?_
   refine aa 2 ?_
   refine aa 1 ?_
   refine aa 0 ?_
   refine aw [] (VU s k l hs _ _ _ FD wL (zu l hs i ab FD wL)) ?_
   refine aa 0 ?_
   refine aj 1 ?_
   exact aY (i+1) (by show aC.length+1-(i+1)<aC.length+1-i;omega) (Nat.succ_le_succ ab) ⟨rfl,rfl,rfl,rfl,rfl,aS (by omega),trivial⟩ (.drop 0 1 (.refl _))
 exact .drop 0 2 (.done ⟨rfl,rfl⟩)
def dK:Sy:=⟨1,2,1,[],[0],[1],[([0],[0],[],())]⟩
theorem Ih:du dK (1:Nat)=0:=by decide +kernel
theorem A7:Fit dK:=⟨IA (by unfold bG;omega),by decide,by decide,by decide,by decide,fun t ht=>by
 rw[bB.1 ht];exact⟨IA (by unfold bG;omega),IA (by unfold bG;omega),by decide,by decide,by decide⟩⟩
theorem UO:iJ dK (1:Nat)=kH:=by
 unfold iJ
 rw[Ih,show eN dK.what dK.w=1 by decide +kernel]
 rfl
theorem aeC(cb:kE dK kH):nE dK kH=[[0]]:=by
 have hA:=cb.all
 have hO:=cb.own 0 (by decide)
 have hl:(oX (nN dK) dK.aO dK.entry).length=1:=hA.len
 obtain⟨z,hz⟩:=List.length_eq_one_iff.1 hl
 have gU:=hA.rg z (by rw[hz];exact bB.2 rfl)
 have ya:z=0:=by have:(nN dK:Int)=1:=(by decide +kernel);omega
 unfold nE zE mO
 rw[hz,ya]
 have hk:kH.k.toNat=1:=rfl
 rw[hk]at hO ⊢
 have h0:(lT (nN dK) 1 dK.aO).getD 0 0=0:=by omega
 show [List.filter (fun x:Int=>decide ((lT (nN dK) 1 dK.aO).getD x.toNat 0=((0:Nat):Int))) [0]]=[[0]]
 rw[CA,ah (by show decide ((lT (nN dK) 1 dK.aO).getD 0 0=((0:Nat):Int))=true;rw[h0];rfl)]
 rfl
theorem acA(cb:kE dK kH):eP dK kH=WW:=by
 unfold eP zA
 rw[aeC cb]
 decide +kernel
theorem UN(cb:kE dK kH):dL dK kH []=vZ:=by
 unfold dL sh x6
 rw[acA cb];rfl
theorem acz:IU dK kH 1 vZ:=⟨by decide +kernel,by decide +kernel,by decide +kernel,fun i hi=>by
 obtain rfl:i=0:=by omega
 decide +kernel⟩
theorem acy(cb:kE dK kH):rM dK kH 1 (dL dK kH [])=vB [[1]] [true] 1 0 0 0 [1] [2] [false]:=by
 rw[UN cb]
 unfold rM
 rw[show oJ kH vZ.a.ws (nN dK)=[[1]] by decide +kernel,show lM kH vZ.a.ws (nN dK)=[true] by decide +kernel,show wr (cc vZ.a.ws (cq kH))=1 by decide +kernel,show qi vZ.a.W=0 by decide +kernel,show pY vZ.a.W=0 by decide +kernel,show sA kH vZ.a.ws 1=[1] by decide +kernel,show tV kH vZ.a.ws 1=[2] by decide +kernel];rfl
theorem aaB(σ:Hp):ACalls Tryz.prog 33 [.agg (aW dK),.int .i64 1,.ae k9 []] σ (ay (.tup [.int .i64 0,.bool false,.int .i64 0]) σ):=by
 refine af0 dK 1 [] σ A7 Ih (by decide) (fun l hs i hi h1 h2=>?_) (fun l hs i hi h1=>?_)
 ·obtain rfl:i=0:=Nat.le_zero.1 hi
  exact⟨abE h2.xi.wi h2.xi.wi (nO.refl h2.xi.wi),jL _,jL _,a8 _⟩
 ·obtain rfl:i=0:=Nat.le_zero.1 hi
  obtain rfl:l=kH:=h1.lay.symm.trans UO
  show IU dK kH 1 (dL dK kH [])
  rw[UN h1.ok];exact acz
theorem agf(σ:Hp):ACalls Tryz.prog 14 [.agg (aW dK),.int .i64 1,.ae k9 []] σ (ay (.tup [.agg (vB [[1]] [true] 1 0 0 0 [1] [2] [false]),.int .i64 0]) σ):=by
 refine (Ju dK 1 [] σ A7 Ih (by decide)).mono ?_
 rintro _ _ ⟨l,hs,hX,rfl,rfl⟩
 obtain rfl:l=kH:=hX.lay.symm.trans UO
 rw[acy hX.ok];exact⟨rfl,rfl⟩
theorem Hq:Good dK:=(Eb A7 Ih).1.gK
theorem UM:ki (iV dK).1:=(xd A7 Hq).1.ok Hq
theorem Vt(x:Int)(h:bG x):ki [[x]]:=⟨cI rfl,fun y hy=>by rw[bB.1 hy];exact⟨IA h,cI rfl⟩⟩
theorem aeB(σ:Hp):ACalls Tryz.prog 75 [.agg (aW dK),.agg (vB [[1]] [true] 1 0 0 0 [1] [2] [false])] σ (ay (.bool true) σ):=
 VN dK _ _ _ _ _ _ _ _ _ σ A7 Hq (Vt 1 (by unfold bG;omega)) UM (by decide) (by decide +kernel) (by decide +kernel) rfl (by decide +kernel) (by decide +kernel) fun i hi=>by
  obtain rfl:i=0:=Nat.le_zero.1 (Cu hi)
  decide +kernel
theorem age(σ:Hp):ACalls Tryz.prog 75 [.agg (aW dK),.agg (vB [[3]] [true] 1 0 0 0 [1] [2] [false])] σ (ay (.bool false) σ):=
 aeX dK _ _ _ _ _ _ _ _ _ σ A7 Hq (Vt 3 (by unfold bG;omega)) UM (by decide +kernel)
theorem adq(σ:Hp):ACalls Tryz.prog 32 [] σ (ay (.bool true) σ):=by
 refine ar Tryz.func32 ?_
 intro aB
 intro dc
 intro qj
 intro KV
 intro CE
 intro KU
 refine aj 0 ?_
 refine aa 0 ?_
 refine .kl 3 qj 0 1 1 _ (.int .u64) ([0]:List Int) rfl rfl ⟨rfl,rfl,by decide⟩ 1 0 CE _ rfl rfl ?_
 refine .kl 2 KV 0 1 1 _ (.int .u64) ([0]:List Int) rfl rfl ⟨rfl,rfl,by decide⟩ 1 1 CE _ rfl rfl ?_
 refine HV 1 2 CE _ jD rfl rfl ?_
 refine Mb (ys:=[.agg [.int .i64 1,.int .i64 2,.int .i64 1,.ai,.af aB 0 1 1,.af dc 0 1 1,.ae kY dK.T],.int .i64 1,.ai]) 1 CE 0 1 3 _ kY dK.T rfl rfl ⟨rfl,rfl,by decide⟩ 0 6 KU _ rfl rfl (cd (A6 (cd (.refl _) (cd (.refl _) (cd (.refl _) (cd (.refl _) (cd (.refl _) (cd (.refl _) (cd .here xC))))))) rfl) (.refl _)) ?_
 refine Mb (ys:=[.agg [.int .i64 1,.int .i64 2,.int .i64 1,.ai,.af aB 0 1 1,.ae (.int .u64) dK.init,.ae kY dK.T],.int .i64 1,.ai]) 1 dc 0 1 1 _ (.int .u64) dK.init rfl rfl ⟨rfl,rfl,by decide⟩ 0 5 KU _ rfl rfl (cd (A6 (cd (.refl _) (cd (.refl _) (cd (.refl _) (cd (.refl _) (cd (.refl _) (cd .here (.refl _))))))) rfl) (.refl _)) ?_
 refine Mb (ys:=[.agg [.int .i64 1,.int .i64 2,.int .i64 1,.ai,.ae (.int .i64) dK.entry,.ae (.int .u64) dK.init,.ae kY dK.T],.int .i64 1,.ai]) 1 aB 0 1 1 _ (.int .i64) dK.entry rfl rfl ⟨rfl,rfl,by decide⟩ 0 4 KU _ rfl rfl (cd (A6 (cd (.refl _) (cd (.refl _) (cd (.refl _) (cd (.refl _) (cd .here (.refl _)))))) rfl) (.refl _)) ?_
 refine HV 0 3 KU _ dB rfl rfl ?_
 refine Mc (ys:=[.agg (aW dK),.int .i64 1,.ae k9 []]) (cd (A6 (cd (.refl _) (cd (.refl _) (cd (.refl _) (cd (.nil dB) (.refl _))))) rfl) (cd (.refl _) (cd (.nil k9) (.refl _)))) ?_
 refine aw [] (aaB _) ?_
 refine aa 0 ?_
 refine Mc (ys:=[.agg (aW dK),.int .i64 1,.ae k9 []]) (cd (.refl _) (cd (.refl _) (cd (.nil k9) (.refl _)))) ?_
 refine aw [] (agf _) ?_
 intro aB
 refine aj 0 ?_
 refine aa 1 ?_
 refine aa 0 ?_
 refine aw [] (aeB _) ?_
 intro aB
 intro dc
 refine aj 2 ?_
 refine aa 3 ?_
 refine aa 2 ?_
 refine .kl 1 aB 0 1 1 _ (.int .u64) ([3]:List Int) rfl rfl ⟨rfl,rfl,by decide⟩ 0 0 dc _ rfl rfl ?_
 refine .cJ (args':=[.agg (aW dK),.agg (vB [[3]] [true] 1 0 0 0 [1] [2] [false])]) 0 dc 0 1 1 _ (.slice (.int .u64)) ([[3]]:List (List Int)) rfl rfl ⟨rfl,rfl,by decide⟩ (cd (.refl _) (cd (A6 (cd .here (.refl _)) rfl) (.refl _))) ?_
 refine aw [] (age _) ?_
 exact .drop 0 2 (.done ⟨rfl,rfl⟩)
theorem SZ{α:Type}{f:Nat→α}{n i:Nat}(h:i<n):((List.range n).map f)[i]?=some (f i):=by
 rw[fm,tf h];rfl
def rn(W:List WS):Prop:=∀x∈W,x.en=true→x.now=.none
theorem agl{s:Sy}{l:Lay}{x:WS}(he:x.en=false)(n:Nw)(h:(dV s l x n).en=true):(dV s l x n).now=.none:=by
 cases n <;> simp only[dV]at h ⊢ <;> (try split) <;> (try rfl) <;> simp_all
theorem adI{s:Sy}{l:Lay}{who d:Int}{x:WS}{ws:List Int}(h:x.en=true→x.now=.none)(h2:(dw bJ s l who x d ws).1.en=true):(dw bJ s l who x d ws).1.now=.none:=by
 unfold dw at h2 ⊢
 by_cases he:x.en=true
 ·rw[ah he]at h2 ⊢;exact h he
 ·rw[ag he]at h2 ⊢
  have he:x.en=false:=by simpa using he
  split
  ·next hd=>rw[ah hd]at h2;exact agl he _ h2
  ·next hd=>rw[ag hd]at h2;exact absurd (he.symm.trans h2) (by decide)
theorem rn.step{s:Sy}{l:Lay}{a:WA}(h:rn a.W)(i:Nat)(d:Int):rn (eZ s l a i d).1.W:=by
 cases hx:a.W[i]? with
 |none=>unfold eZ;rw[hx];exact h
 |some x=>
  rw[Dh hx]
  intro y hy Fx
  rcases qh hy with hy | rfl
  ·exact h y hy Fx
  ·exact adI (h x (cx hx)) Fx
theorem rn.go{s:Sy}{l:Lay}:∀(aC:List (Int×Int×Unit)) {x:iF WA},rn x.a.W→rn (sh s l aC x).a.W
 | [],x,h=>h
 |p::aC,x,h=>by
  show rn (if x.dn.all id=true then x else sh s l aC (jT (eZ s l) (fun a _=>a) l.k.toNat x p)).a.W
  split
  ·exact h
  ·refine rn.go aC ?_
   unfold jT
   split
   ·exact h
   ·exact h.step _ _
theorem rn.run(s:Sy)(l:Lay)(aC:List (Int×Int×Unit)):rn (dL s l aC).a.W:=rn.go aC fun x hx h=>by
 rw[show x=nP from Ar hx]at h
 exact absurd h (by decide)
section
variable {s:Sy} {l:Lay} {hs:LS s l}
theorem WI.count{a:WA}{us:Nat}(h:WI s l hs a us):cc a.ws (cq l)=a.ws.getD (nN s*nW l+nN s) 0∧0≤a.ws.getD (nN s*nW l+nN s) 0∧a.ws.getD (nN s*nW l+nN s) 0≤100000:=by
 obtain⟨hF,⟨D,T,hR,_⟩,_⟩:=h
 exact⟨by rw[hs.count];exact lK,hR.kA,hR.aH⟩
theorem WI.WT{a:WA}{us:Nat}(h:WI s l hs a us):wr (cc a.ws (cq l))=0↔(a.ws.getD (nN s*nW l+nN s) 0).toNat=0:=by
 obtain⟨h1,h2,h3⟩:=h.count
 rw[h1,iG h2 (by omega)];omega
theorem agi(hs:LS s l){i:Nat}(hi:i≤64):ec l i=(gm s l i:Int)∧eR (ec l i)=((gm s l i+1:Nat):Int):=by
 have h:=hs.vI hi
 have hb:=HS hs hi
 refine⟨h,?_⟩
 unfold eR
 rw[h]
 exact (pK (n:=gm s l i+1) (by omega))
theorem WI.ends{a:WA}{us:Nat}(h:WI s l hs a us)(h0:(a.ws.getD (nN s*nW l+nN s) 0).toNat=0){i:Nat}{x:WS}(hx:a.W[i]?=some x)(hn:x.now=.none):wr (cc a.ws (ec l i))=wr (cc a.ws (eR (ec l i))):=by
 obtain⟨hF,⟨D,T,hR,_⟩,_⟩:=h
 obtain⟨c,hc⟩:=hR.at_ hx
 obtain⟨h1,_,_⟩:=hR.ti.quiet h0
 have gW:c=[]:=h1 c (cx hc)
 have ei:=hs.k2
 have hl:=hR.len
 have hi:=(ck.1 hx).1
 obtain⟨e1,e2⟩:=agi hs (i:=i) (by omega)
 have hd:=(hR.di i c hc).db
 rw[e2,e1,lK,lK,hd.top,hd.bot,y5 hx,hn,gW]
 show wr ((T i:Nat):Int)=wr ((T i+0-0:Nat):Int)
 rfl
theorem WI.aho{a:WA}{us:Nat}(h:WI s l hs a us)(h0:(a.ws.getD (nN s*nW l+nN s) 0).toNat=0){v:Nat}(hv:v<nN s):¬cc a.ws (wr (cO l+(v:Nat)))=1:=by
 obtain⟨hF,⟨D,T,hR,_⟩,_⟩:=h
 obtain⟨_,_,h3⟩:=hR.ti.quiet h0
 have:=nj (h3 v)
 rw[hs.zy hv,lK]
 intro e
 exact this ⟨hv,by rw[e];decide⟩
end
theorem ad3(s:Sy)(σ:Hp)(hf:Fit s)(hg:Good s):ACalls Tryz.prog 23 [.agg (aW s)] σ (ay (.ae (.slice (.int .u64)) (iV s).1) σ):=by
 have he:=G7 hg
 have h0:0≤tH s:=he.2.1
 obtain⟨m,hm⟩:∃m:Nat,tH s=m:=⟨(tH s).toNat,by omega⟩
 have hE:=fun σ=>ot (ad7 s σ) (aQ (he.1.trans hm))
 have hS:=fun σ=>ab6 s m σ hf hg (by omega)
 have ai4:(iV s).1=(jl s m (fM s) 0).1:=by unfold iV;rw[hm,bC]
 rw[ai4]
 refine ar Tryz.func23 ?_
 intro aB
 refine .quiet (by kernel_rfl) ?_
 refine aa 0 ?_
 refine aa 0 ?_
 refine aI [] (hE _) ?_
 refine aI [] (hS _) ?_
 exact .drop 0 1 (.done ⟨rfl,rfl⟩)
theorem XA(s:Sy)(w:Int)(aC:List (Int×Int×Unit))(hi:aR s.init)(ht:∀t∈s.T,aR t.1∧aR t.2.1):ACalls Tryz.prog 9 [.agg (aW s),.int .i64 w,.ae k9 aC] [] (fun r _=>r=.bool true):=by
 refine ar Tryz.func9 ?_
 intro b3
 refine aw [] (adq _) ?_
 obtain⟨k',dQ⟩:∃x,x=(if 4<w then 4 else w):=⟨_,rfl⟩
 refine aa 0 ?_
 refine ahq [] (ad0 s _) (fun qV=>?_) ?_
 rotate_left
 ·exact .done rfl
 have hf:=agd qV hi ht
 refine ak (p:=500<(aC.length:Int)) (fun h1=>?_) (fun h1=>?_)
 ·exact .done rfl
 have mT:aC.length≤100000:=by omega
 refine aa 0 ?_
 by_cases he:du s k'=0
 rotate_left
 ·have hA:=fun σ=>agV s k' aC σ hf he
  rw[dQ]at hA he
  refine aw [] (hA _) ?_
  intro aB
  refine aj 0 ?_
  refine cX (fun c2=>?_) (fun c2=>?_)
  ·have c2:¬(du s (if 4<w then 4 else w)=0):=by simpa using c2
   refine aa 0 ?_
   exact .done rfl
  ·have c2:du s (if 4<w then 4 else w)=0:=by simpa using c2
   refine aa 0 ?_
   refine aa 0 ?_
   refine aa 0 ?_
   refine aa 0 ?_
   refine aa 0 ?_
   exact absurd c2 he
 obtain⟨n,hn,sb,o9⟩:=ah5 hf he
 have hA:=fun σ=>Ju s n aC σ hf (hn▸he) mT
 rw[← hn,dQ]at hA
 refine .mk [] _ (hA _) ?_
 rintro _ _ ⟨l,hs,hX,rfl,rfl⟩
 have Cm:rn (dL s l aC).a.W:=rn.run s l aC
 have gu:(dL s l aC).us<100000000:=by have:=Vj s l aC (x6 s l);show (sh s l aC (x6 s l)).us<_;have h0:(x6 s l).us=0:=rfl;omega
 generalize dL s l aC=x at hX Cm gu ⊢
 have sZ:(sA l x.a.ws n).length=x.dn.length:=by rw[hX.dl];unfold sA;rw[cg,kS]
 have nh:(tV l x.a.ws n).length=x.dn.length:=by rw[hX.dl];unfold tV;rw[cg,kS]
 intro aB
 refine aj 0 ?_
 refine aa 0 ?_
 refine aa 0 ?_
 refine cX (fun c2=>?_) (fun c2=>?_)
 ·have c2:(!decide ((↑(sA l x.a.ws n).length:Int)=(↑x.dn.length:Int)))=true:=c2
  rw[sZ]at c2;simp at c2
 ·have c2:(!decide ((↑(sA l x.a.ws n).length:Int)=(↑x.dn.length:Int)))=false:=c2
  refine aa 0 ?_
  refine aa 0 ?_
  refine cX (fun c3=>?_) (fun c3=>?_)
  ·have c3:(!decide ((↑(tV l x.a.ws n).length:Int)=(↑x.dn.length:Int)))=true:=c3
   rw[nh]at c3;simp at c3
  ·have c3:(!decide ((↑(tV l x.a.ws n).length:Int)=(↑x.dn.length:Int)))=false:=c3
   refine aa 0 ?_
   refine bQ (S:=Nat) (fun i=>[(3,.ptr b3 0),(7,.ptr aB 0),(55,.ae .bool x.dn),(56,.int .i64 x.dn.length),(57,.int .i64 i)]) (fun _=>(aB,rM s l n x)::(b3,aW s)::[]) (fun i=>i≤x.dn.length) (fun i=>x.dn.length-i) 0 ⟨bA _,⟨rfl,rfl,rfl,rfl,rfl,trivial⟩,by rfl⟩ ?_
   intro i g dZ
   have Cc:i≤x.dn.length:=dZ
   clear dZ
   have ey:=hX.dl
   refine ak (p:=(i:Int)<(x.dn.length:Int)) (fun ab=>?_) (fun aq=>?_)
   ·have ab:i<x.dn.length:=by omega
    obtain⟨d,hd⟩:∃d,x.dn[i]=d:=⟨_,rfl⟩
    refine aG.mk rfl ?_
    refine bE.mk d (by omega) ((get_some ab).trans (congrArg some hd)) ?_
    have ug:d=true→(x.a.ws.getD (nN s*nW l+nN s) 0).toNat=0∧wr (cc x.a.ws (ec l i))=wr (cc x.a.ws (eR (ec l i))):=fun hdt=>by
     have JX:i<x.a.W.length:=by rw[hX.wl,← ey];exact ab
     have Fx:x.a.W[i].en=true:=by
      have h1:x.dn[i]?=(x.a.W.map (·.en))[i]?:=by rw[hX.xi.dn]
      rw[bh ab,fm,bh JX,hd,hdt]at h1
      exact (Option.some.inj h1).symm
     have h0:=hX.xi.wi.rest (bP JX) Fx
     exact⟨h0,hX.xi.wi.ends h0 (bh JX) (Cm _ (bP JX) Fx)⟩
    refine .quiet (by kernel_rfl) ?_
    cases d with
    |true=>
     obtain⟨h0,ahg⟩:=ug rfl
     refine aa 0 ?_
     refine cX (fun c1=>?_) (fun c1=>?_)
     ·have c1:¬(wr (cc x.a.ws (cq l))=0):=by simpa using c1
      exact absurd (hX.xi.wi.WT.2 h0) c1
     ·have c1:wr (cc x.a.ws (cq l))=0:=by simpa using c1
      refine aa 0 ?_
      refine aa 1 ?_
      refine aI [] (ad3 s _ hf hs.gK) ?_
      have yj:oJ l x.a.ws (nN s)=(iV s).1:=(G4 hs _).trans (hX.xi.wi.solved h0)
      have cb:ki (oJ l x.a.ws (nN s)):=by rw[yj];exact (xd hf hs.gK).1.ok hs.gK
      refine aI [] (ot (TW _ (iV s).1 _ cb) (by rw[aT yj])) ?_
      refine .quiet (by kernel_rfl) ?_
      refine aa 0 ?_
      refine aG.mk rfl ?_
      refine bE.mk (wr (cc x.a.ws (eR (ec l i)))) (by omega) (SZ (by omega)) ?_
      refine aa 0 ?_
      refine aG.mk rfl ?_
      refine bE.mk (wr (cc x.a.ws (ec l i))) (by omega) (SZ (by omega)) ?_
      refine cX (fun c4=>absurd ahg.symm (by simpa using c4)) (fun _=>?_)
      exact aY (i+1) (by show x.dn.length-(i+1)<x.dn.length-i;omega) ab ⟨rfl,rfl,rfl,rfl,aS (by omega),trivial⟩ (.refl _)
    |false=>
     refine .quiet (by kernel_rfl) ?_
     exact aY (i+1) (by show x.dn.length-(i+1)<x.dn.length-i;omega) ab ⟨rfl,rfl,rfl,rfl,aS (by omega),trivial⟩ (.refl _)
   refine aa 0 ?_
   refine bQ (S:=Nat) (fun i=>[(7,.ptr aB 0),(92,.ae .bool (lM l x.a.ws (nN s))),(93,.int .i64 (lM l x.a.ws (nN s)).length),(94,.int .i64 i)]) (fun _=>(aB,rM s l n x)::(b3,aW s)::[]) (fun i=>i≤(lM l x.a.ws (nN s)).length) (fun i=>(lM l x.a.ws (nN s)).length-i) 0 ⟨bA _,⟨rfl,rfl,rfl,rfl,trivial⟩,.refl _⟩ ?_
   intro v g' o6
   have hv1:v≤(lM l x.a.ws (nN s)).length:=o6
   clear o6
   have hnn:=hs.nn
   have wz:(lM l x.a.ws (nN s)).length=nN s:=by unfold lM;rw[cg,kS]
   refine ak (p:=(v:Int)<((lM l x.a.ws (nN s)).length:Int)) (fun ab=>?_) (fun aq=>?_)
   ·have ab:v<(lM l x.a.ws (nN s)).length:=by omega
    obtain⟨d,hd⟩:∃d,(lM l x.a.ws (nN s))[v]=d:=⟨_,rfl⟩
    refine aG.mk rfl ?_
    refine bE.mk d (by omega) ((get_some ab).trans (congrArg some hd)) ?_
    have J0:d=decide (cc x.a.ws (wr (cO l+(v:Nat)))=1):=by
     have h:=Cr (f:=fun v:Nat=>decide (cc x.a.ws (wr (cO l+(v:Nat)))=1)) (l:=List.range (nN s)) (i:=v) (h:=ab)
     rw[F8]at h
     exact hd.symm.trans h
    cases d with
    |true=>
     have mU:cc x.a.ws (wr (cO l+(v:Nat)))=1:=fk J0.symm
     have I7:¬wr (cc x.a.ws (cq l))=0:=fun h=>hX.xi.wi.aho (hX.xi.wi.WT.1 h) (by omega) mU
     refine aa 0 ?_
     refine ak (fun c1=>?_) (fun c1=>?_)
     ·have c1:wr (cc x.a.ws (cq l))=0:=c1
      exact absurd c1 I7
     ·have c1:¬(wr (cc x.a.ws (cq l))=0):=c1
      exact aY (v+1) (by show (lM l x.a.ws (nN s)).length-(v+1)<(lM l x.a.ws (nN s)).length-v;omega) ab ⟨rfl,rfl,rfl,aS (by omega),trivial⟩ (.refl _)
    |false=>
     exact aY (v+1) (by show (lM l x.a.ws (nN s)).length-(v+1)<(lM l x.a.ws (nN s)).length-v;omega) ab ⟨rfl,rfl,rfl,aS (by omega),trivial⟩ (.refl _)
   exact .done rfl
end Go.Proofs.YtnikdflhefijbaaGreat
namespace Go.Proofs.YtnikdflhefijbaaGreat
open Go.ChangeShapes Go.WideShapes Go.ChangeAt Go.RowKit
theorem gL{a b:Bool}(ha:a=true)(hb:b=true):(a&&b)=true:=by rw[ha,hb];rfl
theorem KQ:laidOutB Tryz.prog=true:=by kernel_rfl
theorem fk3:mapsRowed Tryz.prog=true:=by kernel_rfl
theorem fk7:(Tryz.prog.stops == [])=true:=by kernel_rfl
theorem fk9:(Tryz.prog.stopKnobs == [])=true:=by kernel_rfl
theorem aiH:(Rows.solveRunsRow.plainKeys == Tryz.prog.plainKeys)=true:=by kernel_rfl
theorem aiG:Tryz.prog.stopsHeard=true:=by kernel_rfl
theorem aiF:Tryz.prog.mayEnter=true:=by kernel_rfl
theorem aiE:(Rows.solveRunsRow.lifted == Tryz.prog.liftsFinal)=true:=by kernel_rfl
theorem aiD:(Tryz.prog.make == some Rows.solveRunsRow.make)=true:=by kernel_rfl
theorem aiB:ownKnob Tryz.prog.godebug=none:=by kernel_rfl
theorem va{F:Nat→Prop}{w:World}{x:AV}{xs:List AV}{v:Value}{vs:List Value}(h:aA F w x v)(t:ji F w xs vs.toArray):ji F w (x::xs) (v::vs).toArray:=by
 refine⟨by have:=t.1;simp at this ⊢;exact this,fun i y hy=>?_⟩
 cases i with
 |zero=>simp at hy;subst hy;simpa [Array.getD]using h
 |succ i=>
  have:=t.2 i y (by simpa using hy)
  rw[im]at this ⊢
  simpa using this
theorem vn{F:Nat→Prop}{w:World}:ji F w [] ([]:List Value).toArray:=⟨rfl,fun i y hy=>by simp at hy⟩
theorem vi{F:Nat→Prop}{w:World}{k:IntKind}{n:Int}:aA F w (.int k n) (.int k n):=.int k n
theorem vl{w:World}{e:Sh}{a:Option Addr}{n c:Nat}{l:List e.T}(hp:(Sh.slice e).pos=true)(h:Reads w (.slice e) (Value.slice a n c).cells.toList l):aA (fun b=>b<w.heap.size) w (.ae e l) (.slice a n c):=
 .ae e l _ (Sb (.slice e) _ l hp h)
theorem vg{w:World}{s:Sh}{cs:Array Value}{d:s.T}(hp:s.pos=true)(h:Reads w s (Value.agg cs).cells.toList d):aA (fun b=>b<w.heap.size) w (.agg (s.cells d)) (.agg cs):=by
 obtain⟨h1,h2⟩:=lh.cells s _ d (Sb s _ d hp h)
 refine .agg _ _ (by rw[h1];rfl) (fun i x hx=>(h2 i x hx).1) (fun i x hx=>?_)
 have:=(h2 i x hx).2
 rw[aZ,Cz,← im]at this
 exact this
theorem Q1{w:World}{e:Sh}{cs:List Value}{l:List e.T}(h:Reads w (.slice e) cs l):∀x∈l,∃cs',Reads w e cs' x:=by
 obtain⟨a,c,_,_,_,_,h3⟩:=h
 intro x hx
 obtain⟨i,hi,rfl⟩:=uL.1 hx
 obtain⟨b,o,_,h4⟩:=h3 (List.ne_nil_of_mem hx)
 obtain⟨cs',_,_,h5⟩:=h4 i hi
 exact⟨cs',h5⟩
theorem Lw{w:World}{cs:List Value}{l:List Int}(h:Reads w (.slice (.int .u64)) cs l):∀z∈l,0≤z∧z<18446744073709551616:=fun z hz=>by
 obtain⟨cs',h1,h2⟩:=Q1 h z hz
 exact wf_u64 h2
theorem Yh{w:World}{e:Sh}{cs:List Value}{x:List Int×List Int×e.T×Unit}(h:Reads w (.field (.slice (.int .u64)) (.field (.slice (.int .u64)) (.field e .nil))) cs x):(∀z∈x.1,0≤z∧z<18446744073709551616)∧(∀z∈x.2.1,0≤z∧z<18446744073709551616):=by
 obtain⟨c1,c2,_,_,h1,d1,d2,_,_,h2,_⟩:=h
 exact⟨Lw h1,Lw h2⟩
theorem RM{w:World}{c1 e1:Sh}{cs:List Value}{x:Int×Int×Int×c1.slice.T×List Int×List Int×List (List Int×List Int×e1.T×Unit)×Unit}(h:Reads w (.field (.int .i64) (.field (.int .i64) (.field (.int .i64) (.field (.slice c1) (.field (.slice (.int .i64)) (.field (.slice (.int .u64)) (.field (.slice (.field (.slice (.int .u64)) (.field (.slice (.int .u64)) (.field e1 .nil)))) .nil))))))) cs x):(∀z∈x.2.2.2.2.2.1,0≤z∧z<18446744073709551616)∧∀t∈x.2.2.2.2.2.2.1,(∀z∈t.1,0≤z∧z<18446744073709551616)∧(∀z∈t.2.1,0≤z∧z<18446744073709551616):=by
 obtain⟨_,_,_,_,_,_,_,_,_,_,_,_,_,_,_,_,_,_,_,_,_,_,_,_,_,_,_,_,_,h6,_,_,_,_,h7,_⟩:=h
 refine⟨Lw h6,fun t ht=>?_⟩
 obtain⟨cs',h1⟩:=Q1 h7 t ht
 exact Yh h1
end Go.Proofs.YtnikdflhefijbaaGreat
