import Derived.Test.YtnikdflhefijbaaGreatBr20
import Derived.Test.YtnikdflhefijbaaGreatBr12
import Derived.Test.YtnikdflhefijbaaGreatBr6
import Derived.Test.YtnikdflhefijbaaGreatBr14
import Derived.Test.YtnikdflhefijbaaGreatBr10
import Derived.Test.YtnikdflhefijbaaGreatBr9
import Derived.Test.YtnikdflhefijbaaGreatBr16
import Derived.Test.YtnikdflhefijbaaGreatBr13
import Derived.Test.YtnikdflhefijbaaGreatBr7
import Derived.Below
import Derived.ChangeOld
import Derived.OpenShut
import Derived.ProofKit
import Derived.Test.YtnikdflhefijbaaGreatRows
import Derived.WalkKit
import Derived.Test.YtnikdflhefijbaaGreatBr5
namespace Go.Proofs.YtnikdflhefijbaaGreat
open Go.RowKit
set_option maxRecDepth 100000
set_option maxHeartbeats 4000000
theorem MK(s:Sy)(k:Int)(ay:List (Int×Int×Unit))(σ:Hp)(hf:Fit s)(he:¬cO s k=0):ACalls Tryz.prog 41 [.agg (a7 s),.int .i64 k,.af jO ay] σ (aD (.tup [.agg (cT .aG ⟨0,0,0,0⟩ .ak .ak .ak 0),.int .i64 (cO s k)]) σ):=by
 refine au Tryz.func41 ?_
 intro aB
 intro cE
 intro qg
 refine aa 2 ?_
 refine ar [] (Fb s k _ hf) ?_
 refine ag 0 ?_
 refine cQ (fun c4=>?_) (fun c4=>?_)
 ·have c4:¬(cO s k=0):=by simpa using c4
  refine ag 1 ?_
  refine aa 1 ?_
  exact .drop 0 3 (.done ⟨rfl,rfl⟩)
 ·have c4:cO s k=0:=by simpa using c4
  refine aa 0 ?_
  exact absurd c4 he
theorem EL{s:Sy}{k:Int}(he:cO s k=0):(gH s k).k=k:=by unfold gH pR;rw[he];rfl
theorem Eg{k:Nat}{v:AV}{acc:Hp}{cs:List AV}(h:Acc 1 k v acc cs)(hk:0<k):∃b,v=.ah b 0 k 1∧acc=[(b,cs)]:=by
 cases h with
 |nil=>omega
 |ah b k cs h=>exact⟨b,rfl,rfl⟩
def DG(s:Sy)(l:Lay)(bs bp p:Nat)(L:List Nat)(S:Hp):Prop:=S=(bs,a7 s)::(bp,cT (.ptr p 0) l .ak .ak .ak 0)::dg s l (bA L) (List.replicate L.length ji)
theorem Xy(s:Sy)(l:Lay)(k bs bp p:Nat)(hf:Fit s)(he:cO s l.k=0)(hL:gH s l.k=l)(hk:l.k=k)(L:List Nat)(S τ:Hp)(ab:L.length<k)(hS:DG s l bs bp p L S):ACalls Tryz.prog 99 (.int .i64 L.length::[.ptr bs 0,.ptr bp 0]) (S++τ) (fun r σ'=>∃w S',r=.ptr w 0∧σ'=S'++τ∧DG s l bs bp p (L++[w]) S'):=by
 unfold DG at hS
 subst hS
 refine (abU bs bp L.length s l (.ptr p 0) .ak .ak .ak 0 (dg s l (bA L) (List.replicate L.length ji)++τ) hf he hL (by omega)).JW (.refl _) ?_
 rintro _ _ ⟨w,rfl,rfl⟩
 refine⟨((bs,a7 s)::(bp,cT (.ptr p 0) l .ak .ak .ak 0)::dg s l (bA (L++[w])) (List.replicate (L++[w]).length ji))++τ,?_,w,_,rfl,rfl,rfl⟩
 rw[Xn]
 have h:=hG [[(bs,a7 s),(bp,cT (.ptr p 0) l .ak .ak .ak 0)],dg s l (bA L) (List.replicate L.length ji),WB s l L.length w 0 .ak [] kn] τ (a:=[0,1,2]) (b:=[2,0,1]) (by decide)
 have e:((bs,a7 s)::(bp,cT (.ptr p 0) l .ak .ak .ak 0)::(dg s l (bA L) (List.replicate L.length ji)++WB s l L.length w 0 .ak [] kn))++τ=[(bs,a7 s),(bp,cT (.ptr p 0) l .ak .ak .ak 0)]++(dg s l (bA L) (List.replicate L.length ji)++(WB s l L.length w 0 .ak [] kn++τ)):=by simp
 rw[e]
 exact h
theorem OU(l:Lay)(k bp lw:Nat)(mv:AV)(L:List Nat)(hL:L.length=k)(L':List Nat)(S τ:Hp)(ab:L'.length<k)(hS:S=[(bp,cT mv l (.ah lw 0 k 1) .ak .ak 0),(lw,L.map pW)]∧L'=L.take L'.length):ACalls Tryz.prog 103 (.int .i64 L'.length::[.ptr bp 0]) (S++τ) (fun r σ'=>∃w S',r=.iface 168 (.ptr w 0)∧σ'=S'++τ∧(S'=[(bp,cT mv l (.ah lw 0 k 1) .ak .ak 0),(lw,L.map pW)]∧L'++[w]=L.take (L'++[w]).length)):=by
 obtain⟨rfl,hL'⟩:=hS
 refine (abT bp lw L'.length k L l mv .ak .ak 0 τ hL ab).mono ?_
 rintro _ _ ⟨rfl,rfl⟩
 refine⟨L.getD L'.length 0,_,rfl,rfl,rfl,?_⟩
 rw[bG,yv,eT (by omega),← hL',bO,bN (by omega)]
 rfl
theorem PL(s:Sy)(l:Lay)(hs:LS s l)(cM:jP s l)(p q lb k:Nat)(L:List Nat)(ay:List (Int×Int×Unit))(σ:Hp)(hL:L.length=k)(hk:l.k=k)(cY:k≤64)(kN:ay.length≤100000):
  ACalls Tryz.prog 101 [kp p,.ah lb 0 k 1,.af jO ay] ((lb,L.map iW)::(bD p q (gJ s l) (dg s l (bA L) (List.replicate L.length ji))++σ)) (fun r σ'=>∃Z:List WZ,Z.map (·.x)=(a8 s l ay).a.W∧r=.agg [.af (.int .i64) (a8 s l ay).st,.af .bool (a8 s l ay).dn,.int .i64 (a8 s l ay).us]∧σ'=(lb,L.map iW)::(bD p q (a8 s l ay).a.ws (dg s l (bA L) Z)++σ)):=by
 have hI:((bA L).length:Int)=l.k:=by rw[sk];omega
 have C4:qX.abs ⟨gJ s l,List.replicate L.length ji⟩=⟨W0 l,gJ s l⟩:=by
  show WA.mk ((List.replicate L.length ji).map (·.x)) (gJ s l)=_
  rw[LN]
  unfold W0
  rw[show l.k.toNat=L.length by omega];rfl
 have hl:(Bx s l hs p q (bA L) (yL L) hI).L.length=k:=by
  show ((bA L).map _).length=_
  rw[cm,sk];exact hL
 have hLL:(Bx s l hs p q (bA L) (yL L) hI).L=L.map iW:=Ya L
 have hE:=ad7 (Bx s l hs p q (bA L) (yL L) hI) lb ay (⟨gJ s l,List.replicate L.length ji⟩:qX) σ (by omega) kN (by
  show sD s l (qX.abs ⟨gJ s l,List.replicate L.length ji⟩)
  rw[C4];exact Ro cM hs) (fun _ _=>rfl)
 have fq:(Bx s l hs p q (bA L) (yL L) hI).run ay (qX.abs ⟨gJ s l,List.replicate L.length ji⟩)=a8 s l ay:=by
  unfold AWorld.run AWorld.init
  rw[hl,hLL,C4]
  have e1:(L.map iW).map isNil=List.replicate k false:=by
   rw[← hL,List.map_map]
   exact List.map_eq_replicate_iff.2 fun _ _=>rfl
  rw[e1]
  unfold a8 rY zK
  rw[show l.k.toNat=k by omega];rfl
 have Dh:ACalls Tryz.prog 101 [kp p,.ah lb 0 k 1,.af jO ay] ((lb,L.map iW)::(bD p q (gJ s l) (dg s l (bA L) (List.replicate L.length ji))++σ)) (Iz (Bx s l hs p q (bA L) (yL L) hI) ay (qX.abs ⟨gJ s l,List.replicate L.length ji⟩) [(lb,L.map iW)] σ):=by
  rw[hl,hLL]at hE;exact hE
 refine Dh.mono ?_
 rintro _ _ ⟨t',h1,rfl,rfl⟩
 have h1:qX.abs t'=(a8 s l ay).a:=Eq.trans h1 (congrArg iQ.a fq)
 rw[fq]
 refine⟨t'.Z,congrArg WA.W h1,rfl,?_⟩
 have h2:t'.ws=(a8 s l ay).a.ws:=congrArg WA.ws h1
 rw[← h2];rfl
theorem H9(s:Sy)(k:Nat)(l:Lay)(hl:gH s k=l)(ay:List (Int×Int×Unit))(σ:Hp)(hf:Fit s)(he:cO s k=0)(kN:ay.length≤100000):
  ACalls Tryz.prog 41 [.agg (a7 s),.int .i64 k,.af jO ay] σ (fun r σ'=>∃(p q lw:Nat) (L:List Nat) (Z:List WZ),r=.tup [.agg (cT (.ptr p 0) l (.ah lw 0 k 1) (.af (.int .i64) (a8 s l ay).st) (.af .bool (a8 s l ay).dn) (a8 s l ay).us),.int .i64 0]∧L.length=k∧Z.map (·.x)=(a8 s l ay).a.W∧σ'=(lw,L.map pW)::bD p q (a8 s l ay).a.ws (dg s l (bA L) Z++σ)∧jP s l):=by
 obtain⟨hs,Dd⟩:=BL hf he
 obtain⟨CK,x5,x4⟩:=hs.size
 obtain⟨jE,cY⟩:=(Il he).2
 have Sj:=fun p q ws σ (eE:fL (gH s k)≤ws.length)=>aaX s k p q ws σ hf he eE
 have hk:l.k=k:=by rw[← hl];exact EL he
 have e1:AV.tup [.agg (cU (gH s k)),.int .i64 (cO s k)]=.tup [.agg (cU l),.int .i64 (cO s k)]:=by rw[hl]
 have Dh:cO s l.k=0:=by rw[hk];exact he
 have hL2:gH s l.k=l:=by rw[hk];exact hl
 rw[hl]at hs CK x5 x4 Sj
 refine au Tryz.func41 ?_
 generalize hE:cO s k=E at e1 he
 intro bs
 intro br
 intro bp
 refine aa 2 ?_
 refine ar [] (qj (Fb s k _ hf) (hE▸e1)) ?_
 refine ag 0 ?_
 refine cQ (fun c1=>?_) (fun c1=>?_)
 ·have c1:¬(cO s (↑k:Int)=0):=by simpa using c1
  refine ag 1 ?_
  refine aa 1 ?_
  exact absurd (hE.trans he) c1
 ·have c1:cO s (↑k:Int)=0:=by simpa using c1
  refine aa 0 ?_
  refine ar [] (RI l _) ?_
  (refine .mk [] _ (aex _ _) ?_;rintro _ _ ⟨p,q,rfl,rfl⟩)
  rw[x4]
  obtain⟨us,gb⟩:∃us,List.replicate (fL l) (0:Int)=us:=⟨_,rfl⟩
  have eu:us.length=fL l:=by rw[← gb];exact gY
  rw[gb,← eu]
  refine ag 2 ?_
  refine aa 2 ?_
  refine aa 4 ?_
  (refine .mk [] _ (Sj p q us _ (by omega)) ?_;rintro _ _ ⟨rfl,rfl,cM⟩)
  have zE:zq s l us=gJ s l:=by rw[← gb];rfl
  rw[zE]
  refine .perm (σ2:=[(bs,a7 s),(bp,cT (.ptr p 0) l .ak .ak .ak 0)]++bD p q (gJ s l) ((br,cT .aG ⟨0,0,0,0⟩ .ak .ak .ak 0)::σ)) _ (hG [[(bs,a7 s)],[(bp,cT (.ptr p 0) l .ak .ak .ak 0)],bD p q (gJ s l) [],[(br,cT .aG ⟨0,0,0,0⟩ .ak .ak .ak 0)]] σ (a:=[0,1,2,3]) (b:=[2,1,3,0]) (by decide)) (acg 99 [.ptr bs 0,.ptr bp 0] (DG s l bs bp p) _ _ rfl k (by omega) (fun L S τ h1 h2=>Xy s l k bs bp p hf Dh hL2 hk L S τ h1 h2)) ?_
  rintro v _ ⟨L,S',acc,hL,Af,bS,rfl⟩
  unfold DG at Af
  subst Af
  obtain⟨lw,rfl,rfl⟩:=Eg bS (by omega)
  refine⟨_,.refl _,?_⟩
  refine ag 2 ?_
  refine .sched [] (.one 0 false (.one 3 false (.one 4 false (.one 6 false (.alt 1 (.one 2 false (.one 5 false (.one 7 false (.one 8 false (.one 9 false .stop))))) (.one 5 false (.one 1 false (.one 2 false (.one 7 false (.one 8 false (.one 9 false .stop))))))))))) (by kernel_rfl) ?_
  refine And.intro ?_ ?_
  ·refine aa 2 ?_
   refine .perm (σ2:=[(bp,cT (.ptr p 0) l (.ah lw 0 k 1) .ak .ak 0),(lw,L.map pW)]++((bs,a7 s)::(dg s l (bA L) (List.replicate L.length ji)++bD p q (gJ s l) ((br,cT .aG ⟨0,0,0,0⟩ .ak .ak .ak 0)::σ)))) _ (hG [[(bp,cT (.ptr p 0) l (.ah lw 0 k 1) .ak .ak 0)],[(lw,L.map pW)],[(bs,a7 s)],dg s l (bA L) (List.replicate L.length ji),bD p q (gJ s l) [],[(br,cT .aG ⟨0,0,0,0⟩ .ak .ak .ak 0)]] σ (a:=[0,1,2,3,4,5]) (b:=[1,2,0,3,4,5]) (by decide)) (RM 103 [.ptr bp 0] (fun L' S=>S=[(bp,cT (.ptr p 0) l (.ah lw 0 k 1) .ak .ak 0),(lw,L.map pW)]∧L'=L.take L'.length) _ _ ⟨rfl,rfl⟩ k (by omega) (fun L' S τ h1 h2=>OU l k bp lw (.ptr p 0) L hL L' S τ h1 h2)) ?_
   rintro v2 _ ⟨L',S2,Ky,Km,⟨rfl,C8⟩,BS,rfl⟩
   rw[Km,← hL,dW]at C8
   rw[C8]at BS
   obtain⟨lb,rfl,rfl⟩:=Eg BS (by omega)
   refine⟨_,.refl _,?_⟩
   have hR:=PL s l hs cM p q lb k L ay ([(bp,cT (.ptr p 0) l (.ah lw 0 k 1) .ak .ak 0),(br,cT .aG ⟨0,0,0,0⟩ .ak .ak .ak 0),(bs,a7 s),(lw,L.map pW)]++σ) hL hk (by omega) kN
   refine .perm _ (hG [[(lb,L.map iW)],bD p q (gJ s l) [],dg s l (bA L) (List.replicate L.length ji),[(bp,cT (.ptr p 0) l (.ah lw 0 k 1) .ak .ak 0)],[(br,cT .aG ⟨0,0,0,0⟩ .ak .ak .ak 0)],[(bs,a7 s)],[(lw,L.map pW)]] σ (a:=[0,1,2,3,4,5,6]) (b:=[0,3,6,5,2,1,4]) (by decide)) hR ?_
   rintro _ _ ⟨Z,hZ,rfl,rfl⟩
   refine⟨_,hG [[(lb,L.map iW)],bD p q (a8 s l ay).a.ws [],dg s l (bA L) Z,[(bp,cT (.ptr p 0) l (.ah lw 0 k 1) .ak .ak 0)],[(br,cT .aG ⟨0,0,0,0⟩ .ak .ak .ak 0)],[(bs,a7 s)],[(lw,L.map pW)]] σ (a:=[0,3,4,5,6,1,2]) (b:=[0,1,2,3,4,5,6]) (by decide),?_⟩
   refine ag 1 ?_
   refine aa 1 ?_
   refine ag 2 ?_
   refine aa 2 ?_
   exact .drop 0 4 (.done ⟨p,q,lw,L,Z,rfl,hL,hZ,rfl,cM⟩)
  ·refine .perm (σ2:=[(bp,cT (.ptr p 0) l (.ah lw 0 k 1) .ak .ak 0),(lw,L.map pW)]++((bs,a7 s)::(dg s l (bA L) (List.replicate L.length ji)++bD p q (gJ s l) ((br,cT .aG ⟨0,0,0,0⟩ .ak .ak .ak 0)::σ)))) _ (hG [[(bp,cT (.ptr p 0) l (.ah lw 0 k 1) .ak .ak 0)],[(lw,L.map pW)],[(bs,a7 s)],dg s l (bA L) (List.replicate L.length ji),bD p q (gJ s l) [],[(br,cT .aG ⟨0,0,0,0⟩ .ak .ak .ak 0)]] σ (a:=[0,1,2,3,4,5]) (b:=[1,2,0,3,4,5]) (by decide)) (RM 103 [.ptr bp 0] (fun L' S=>S=[(bp,cT (.ptr p 0) l (.ah lw 0 k 1) .ak .ak 0),(lw,L.map pW)]∧L'=L.take L'.length) _ _ ⟨rfl,rfl⟩ k (by omega) (fun L' S τ h1 h2=>OU l k bp lw (.ptr p 0) L hL L' S τ h1 h2)) ?_
   rintro v2 _ ⟨L',S2,Ky,Km,⟨rfl,C8⟩,BS,rfl⟩
   rw[Km,← hL,dW]at C8
   rw[C8]at BS
   obtain⟨lb,rfl,rfl⟩:=Eg BS (by omega)
   refine⟨_,.refl _,?_⟩
   refine aa 1 ?_
   have hR:=PL s l hs cM p q lb k L ay ([(bp,cT (.ptr p 0) l (.ah lw 0 k 1) .ak .ak 0),(br,cT .aG ⟨0,0,0,0⟩ .ak .ak .ak 0),(bs,a7 s),(lw,L.map pW)]++σ) hL hk (by omega) kN
   refine .perm _ (hG [[(lb,L.map iW)],bD p q (gJ s l) [],dg s l (bA L) (List.replicate L.length ji),[(bp,cT (.ptr p 0) l (.ah lw 0 k 1) .ak .ak 0)],[(br,cT .aG ⟨0,0,0,0⟩ .ak .ak .ak 0)],[(bs,a7 s)],[(lw,L.map pW)]] σ (a:=[0,1,2,3,4,5,6]) (b:=[0,3,6,5,2,1,4]) (by decide)) hR ?_
   rintro _ _ ⟨Z,hZ,rfl,rfl⟩
   refine⟨_,hG [[(lb,L.map iW)],bD p q (a8 s l ay).a.ws [],dg s l (bA L) Z,[(bp,cT (.ptr p 0) l (.ah lw 0 k 1) .ak .ak 0)],[(br,cT .aG ⟨0,0,0,0⟩ .ak .ak .ak 0)],[(bs,a7 s)],[(lw,L.map pW)]] σ (a:=[0,3,4,5,6,1,2]) (b:=[0,1,2,3,4,5,6]) (by decide),?_⟩
   refine ag 1 ?_
   refine aa 1 ?_
   refine ag 2 ?_
   refine aa 2 ?_
   exact .drop 0 4 (.done ⟨p,q,lw,L,Z,rfl,hL,hZ,rfl,cM⟩)
set_option maxHeartbeats 4000000
theorem ad5(p q:Nat)(ws:List Int)(b c:Int)(σ:Hp):ACalls Tryz.prog 53 [.agg [.int .i64 b,.int .i64 c],kp p] (bD p q ws σ) (aD (.int .i64 (wr (bV ws b))) (bD p q ws σ)):=by
 refine au Tryz.func53 ?_
 intro aB
 refine .sched [1] (upto [1] 7 0) (by kernel_rfl) ?_
 refine aK [] (dF _ _ _) ?_
 refine aa 0 ?_
 refine InvAt.mk _ mLoad_ ?_
 refine ar [2,2] (aLoad p q _ _ _) ?_
 exact .drop 2 1 (.done ⟨rfl,rfl⟩)
theorem Zf(p q:Nat)(ws:List Int)(b c:Int)(σ:Hp):ACalls Tryz.prog 55 [.agg [.int .i64 b,.int .i64 c],kp p] (bD p q ws σ) (aD (.int .i64 (wr (bV ws (bY b)))) (bD p q ws σ)):=by
 refine au Tryz.func55 ?_
 intro aB
 refine .sched [1,3] (upto [1,3] 10 0) (by kernel_rfl) ?_
 refine aK [] (dF _ _ _) ?_
 refine aa 0 ?_
 refine aK [] (sn _ _ _) ?_
 refine eY.mk hLoad_ ?_
 refine InvAt.mk _ mLoad_ ?_
 refine ar [2,2] (aLoad p q _ _ _) ?_
 exact .drop 2 1 (.done ⟨rfl,rfl⟩)
set_option maxHeartbeats 4000000
theorem QO(s:Sy)(l:Lay)(p q lw n:Nat)(L:List Nat)(Z:List WZ)(W:List WS)(st:List Int)(dn:List Bool)(us:Int)(ws:List Int)(σ:Hp)(hW:Z.map (·.x)=W)(hL:L.length=n)(hZ:W.length=n)(hn:n≤64):
  ACalls Tryz.prog 44 [.agg (cT (.ptr p 0) l (.ah lw 0 n 1) (.af (.int .i64) st) (.af .bool dn) us)] ((lw,L.map pW)::bD p q ws (dg s l (bA L) Z++σ)) (aD (.tup [.int .i64 (lJ W),.int .i64 (lB W)]) ((lw,L.map pW)::bD p q ws (dg s l (bA L) Z++σ))):=by
 have hZl:Z.length=n:=by rw[← hZ,← hW,cm]
 refine au Tryz.func44 ?_
 intro b1
 refine aa 0 ?_
 refine bh (S:=Nat) (fun i=>[(4,.int .i64 (lJ (W.take i))),(5,.int .i64 (lB (W.take i))),(9,.ah lw 0 n 1),(10,.int .i64 n),(11,.int .i64 i)]) (fun _=>(b1,cT (.ptr p 0) l (.ah lw 0 n 1) (.af (.int .i64) st) (.af .bool dn) us)::(lw,L.map pW)::bD p q ws (dg s l (bA L) Z++σ)) (fun i=>i≤n) (fun i=>n-i) 0 ⟨aY _,⟨rfl,rfl,rfl,rfl,rfl,trivial⟩,rfl⟩ ?_
 intro i g dc
 have hi:i≤n:=dc
 clear dc
 refine aj (p:=(i:Int)<(n:Int)) (fun ab=>?_) (fun aq=>?_)
 rotate_left
 ·have aq:i=n:=by omega
  have e:W.take i=W:=dN (by omega)
  rw[e]
  exact .drop 0 1 (.done ⟨rfl,rfl⟩)
 have ab:i<n:=by omega
 have hg:(L.map pW)[0+((i:Int)).toNat*1]?=some (.ptr L[i] 0):=by
  rw[bR,dB,dU,fm,bN (by omega)];rfl
 refine aQ ?_
 refine aW 1 rfl (gy rfl hg) ?_
 have hw:=PX (s:=s) (l:=l) (I:=bA L) (Z:=Z) (i:=i) (by rw[sk];omega) (by omega)
 have hI:(bA L)[i]'(by rw[sk];omega)=(i,L[i]):=by simp[bA]
 have hx:Z[i].x=W[i]:=by
  have:(Z.map (·.x))[i]'(by rw[cm];omega)=Z[i].x:=GM ..
  rw[← this];congr 1
 rw[hI,hx]at hw
 have CZ:=PF (W:=W) (i:=i) (by omega)
 have CW:=Pv (W:=W) (i:=i) (by omega)
 generalize W[i]=x at hw CZ CW
 have hp:((b1,cT (.ptr p 0) l (.ah lw 0 n 1) (.af (.int .i64) st) (.af .bool dn) us)::(lw,L.map pW)::bD p q ws (dg s l (bA L) Z++σ)).Perm ((L[i],dP s l i x.ev x.jo x.en x.ae (Gj Z[i].r x.now) x.node x.has x.nx x.out)::(Gk l x.node Z[i].r Z[i].c Z[i].acc x.now++((b1,cT (.ptr p 0) l (.ah lw 0 n 1) (.af (.int .i64) st) (.af .bool dn) us)::(lw,L.map pW)::bD p q ws ((((bA L).zip Z).eraseIdx i).flatMap (vY s l)++σ)))):=by
  refine (List.Perm.append_left [_,_,_,_] (List.Perm.append_right σ hw)).trans ?_
  have h:=hG [[(b1,cT (.ptr p 0) l (.ah lw 0 n 1) (.af (.int .i64) st) (.af .bool dn) us),(lw,L.map pW)],bD p q ws [],[(L[i],dP s l i x.ev x.jo x.en x.ae (Gj Z[i].r x.now) x.node x.has x.nx x.out)],Gk l x.node Z[i].r Z[i].c Z[i].acc x.now,(((bA L).zip Z).eraseIdx i).flatMap (vY s l)] σ (a:=[0,1,2,3,4]) (b:=[2,3,0,1,4]) (by decide)
  unfold WB
  rw[go2,dh]
  exact h
 refine .dL (.perm hp.symm (.refl _)) ?_
 refine .quiet (by kernel_rfl) ?_
 refine aa 0 ?_
 refine aa 0 ?_
 exact aM (i+1) (by show n-(i+1)<n-i;omega) ab ⟨congrArg (AV.int .i64) CZ,congrArg (AV.int .i64) CW,rfl,rfl,aL (by omega),trivial⟩ (.perm hp (.refl _))
theorem UP(bp p q v:Nat)(l:Lay)(wv st dn:AV)(us:Int)(ws:List Int)(τ:Hp):ACalls Tryz.prog 48 [.int .i64 v,.ptr bp 0] ((bp,cT (.ptr p 0) l wv st dn us)::bD p q ws τ) (aD (.bool (decide (bV ws (wr (de l+(v:Nat)))=1))) ((bp,cT (.ptr p 0) l wv st dn us)::bD p q ws τ)):=by
 refine au Tryz.func48 ?_
 refine .quiet (by kernel_rfl) ?_
 refine aa 0 ?_
 refine aK [] (yZ l _) ?_
 refine aa 0 ?_
 refine aK [2,2] (qj (aag (de l) (da l) v p q ws _) (congrArg AV.bool (by rw[bj (show (0:Int)≤(v:Nat) by omega),yj]))) ?_
 exact .done ⟨rfl,rfl⟩
theorem UM(bp p q v:Nat)(l:Lay)(wv st dn:AV)(us:Int)(ws:List Int)(τ:Hp):ACalls Tryz.prog 51 [.int .i64 v,.ptr bp 0] ((bp,cT (.ptr p 0) l wv st dn us)::bD p q ws τ) (aD (.int .i64 (wr (bV ws (dY l v)))) ((bp,cT (.ptr p 0) l wv st dn us)::bD p q ws τ)):=by
 refine au Tryz.func51 ?_
 refine .quiet (by kernel_rfl) ?_
 refine aa 0 ?_
 refine aK [] (xr l v _) ?_
 refine aa 0 ?_
 refine aK [2,2] (ad5 p q ws _ _ _) ?_
 exact .done ⟨rfl,rfl⟩
theorem UO(bp p q v:Nat)(l:Lay)(wv st dn:AV)(us:Int)(ws:List Int)(τ:Hp):ACalls Tryz.prog 54 [.int .i64 v,.ptr bp 0] ((bp,cT (.ptr p 0) l wv st dn us)::bD p q ws τ) (aD (.int .i64 (wr (bV ws (bY (dY l v))))) ((bp,cT (.ptr p 0) l wv st dn us)::bD p q ws τ)):=by
 refine au Tryz.func54 ?_
 refine .quiet (by kernel_rfl) ?_
 refine aa 0 ?_
 refine aK [] (xr l v _) ?_
 refine aa 0 ?_
 refine aK [2,2] (Zf p q ws _ _ _) ?_
 exact .done ⟨rfl,rfl⟩
abbrev xx(di:List (List Int))(ev jo us:Int):List AV:=[.af (.slice (.int .u64)) di,.int .i64 ev,.int .i64 jo,.int .i64 us]
def nF:List AV:=[.ak,.int .i64 0,.int .i64 0,.int .i64 0]
theorem aav(s:Sy)(k:Int)(ay:List (Int×Int×Unit))(σ:Hp)(hf:Fit s)(he:¬cO s k=0):ACalls Tryz.prog 13 [.agg (a7 s),.int .i64 k,.af jO ay] σ (aD (.tup [.agg nF,.int .i64 (cO s k)]) σ):=by
 refine au Tryz.func13 ?_
 intro aB
 intro cE
 refine aa 1 ?_
 refine ar [] (MK s k ay _ hf he) ?_
 intro qg
 refine ag 0 ?_
 refine cQ (fun c4=>?_) (fun c4=>?_)
 ·have c4:¬(cO s k=0):=by simpa using c4
  refine ag 1 ?_
  refine aa 1 ?_
  exact .drop 0 3 (.done ⟨rfl,rfl⟩)
 ·have c4:cO s k=0:=by simpa using c4
  exact absurd c4 he
theorem Xe(s:Sy)(k:Nat)(l:Lay)(hl:gH s k=l)(ay:List (Int×Int×Unit))(σ:Hp)(hf:Fit s)(he:cO s k=0)(kN:ay.length≤100000)(cY:k≤64)(dI:(a8 s l ay).dn.length=k)(hd:(a8 s l ay).dn.all id=false):ACalls Tryz.prog 13 [.agg (a7 s),.int .i64 k,.af jO ay] σ (fun r σ'=>r=.tup [.agg nF,.int .i64 11]∧σ'=σ∧jP s l):=by
 have hF:=fun σ=>SC (.af (.int .i64) (a8 s l ay).st) (a8 s l ay).us (a8 s l ay).dn σ (by omega)
 rw[hd]at hF
 refine au Tryz.func13 ?_
 intro b3
 intro b6
 refine aa 1 ?_
 refine .perm _ (.refl _) (H9 s k l hl ay _ hf he kN) ?_
 rintro _ _ ⟨p,q,lw,L,Z,rfl,hL,hZ,rfl,cM⟩
 refine⟨_,hG [[(lw,L.map pW)],bD p q (a8 s l ay).a.ws [],dg s l (bA L) Z,[(b6,nF)],[(b3,a7 s)]] σ (a:=[0,3,4,1,2]) (b:=[0,1,2,3,4]) (by decide),?_⟩
 generalize (a8 s l ay)=x at hF hZ
 intro aB
 refine ag 0 ?_
 refine aa 0 ?_
 refine ar [] (hF _) ?_
 refine ag 2 ?_
 refine aa 2 ?_
 exact .drop 0 6 (H3 (dg s l (bA L) Z) (.done ⟨rfl,rfl,cM⟩))
theorem abV(s:Sy)(k:Nat)(l:Lay)(hl:gH s k=l)(ay:List (Int×Int×Unit))(σ:Hp)(hf:Fit s)(he:cO s k=0)(kN:ay.length≤100000)(cY:k≤64)(hn:l.n=(nN s:Int))(mG:nN s≤100000)(dI:(a8 s l ay).dn.length=k)(ns:(a8 s l ay).a.W.length=k)(hd:(a8 s l ay).dn.all id=true):ACalls Tryz.prog 13 [.agg (a7 s),.int .i64 k,.af jO ay] σ (fun r σ'=>r=.tup [.agg (xx (ic l (a8 s l ay).a.ws (nN s)) (lJ (a8 s l ay).a.W) (lB (a8 s l ay).a.W) (a8 s l ay).us),.int .i64 0]∧σ'=σ∧jP s l):=by
 have hF:=fun σ=>SC (.af (.int .i64) (a8 s l ay).st) (a8 s l ay).us (a8 s l ay).dn σ (by omega)
 rw[hd]at hF
 refine au Tryz.func13 ?_
 intro b3
 intro b6
 refine aa 1 ?_
 refine .perm _ (.refl _) (H9 s k l hl ay _ hf he kN) ?_
 rintro _ _ ⟨p,q,lw,L,Z,rfl,hL,hZ,rfl,cM⟩
 refine⟨_,hG [[(lw,L.map pW)],bD p q (a8 s l ay).a.ws [],dg s l (bA L) Z,[(b6,nF)],[(b3,a7 s)]] σ (a:=[0,3,4,1,2]) (b:=[0,1,2,3,4]) (by decide),?_⟩
 generalize (a8 s l ay)=x at hF hZ ns ⊢
 intro aB
 refine ag 0 ?_
 refine aa 0 ?_
 refine ar [] (hF _) ?_
 obtain⟨P,hP⟩:∃P,P=(aB,cT (.ptr p 0) l (.ah lw 0 k 1) (.af (.int .i64) x.st) (.af .bool x.dn) x.us):=⟨_,rfl⟩
 have q1:(bD p q x.a.ws (P::(lw,L.map pW)::(b6,nF)::(b3,a7 s)::(dg s l (bA L) Z++σ))).Perm (P::(lw,L.map pW)::(b6,nF)::(b3,a7 s)::bD p q x.a.ws (dg s l (bA L) Z++σ)):=hG [[P,(lw,L.map pW),(b6,nF),(b3,a7 s)],bD p q x.a.ws [],dg s l (bA L) Z] σ (a:=[1,0,2]) (b:=[0,1,2]) (by decide)
 have q2:∀Q,(bD p q x.a.ws (Q::P::(lw,L.map pW)::(b6,nF)::(b3,a7 s)::(dg s l (bA L) Z++σ))).Perm (Q::P::(lw,L.map pW)::(b6,nF)::(b3,a7 s)::bD p q x.a.ws (dg s l (bA L) Z++σ)):=fun Q=>hG [[Q,P,(lw,L.map pW),(b6,nF),(b3,a7 s)],bD p q x.a.ws [],dg s l (bA L) Z] σ (a:=[1,0,2]) (b:=[0,1,2]) (by decide)
 subst hP
 refine .meet (S:=Nat) (fun b=>[(6,.ptr b6 0),(8,.ptr aB 0),(10,.ptr b 0)]) (fun b=>(b,xx (ic l x.a.ws (nN s)) 0 0 x.us)::(aB,cT (.ptr p 0) l (.ah lw 0 k 1) (.af (.int .i64) x.st) (.af .bool x.dn) x.us)::(lw,L.map pW)::(b6,nF)::(b3,a7 s)::bD p q x.a.ws (dg s l (bA L) Z++σ)) (by kernel_rfl) ?_ ?_
 ·repeat' first
   |exact cX.mk _ ⟨rfl,rfl,rfl,trivial⟩ (aN rfl)
   |refine And.intro ?_ ?_
   |refine aa 0 ?_
   |refine aa 1 ?_
   |refine ag 0 ?_
   |(refine .perm _ q1 (AS p q l (nN s) _ _ hn mG) ?_;rintro _ _ ⟨rfl,rfl⟩;refine⟨_,q1.symm,?_⟩)
   |(refine .perm _ (q2 _) (AS p q l (nN s) _ _ hn mG) ?_;rintro _ _ ⟨rfl,rfl⟩;refine⟨_,(q2 _).symm,?_⟩)
   |intro b
 intro b g
 refine aa 1 ?_
 refine .perm _ (hG [[(lw,L.map pW)],bD p q x.a.ws [],dg s l (bA L) Z,[(b,xx (ic l x.a.ws (nN s)) 0 0 x.us)],[(aB,cT (.ptr p 0) l (.ah lw 0 k 1) (.af (.int .i64) x.st) (.af .bool x.dn) x.us)],[(b6,nF)],[(b3,a7 s)]] σ (a:=[0,1,2,3,4,5,6]) (b:=[3,4,0,5,6,1,2]) (by decide)) (QO s l p q lw k L Z _ _ _ _ _ _ hZ hL ns cY) ?_
 rintro _ _ ⟨rfl,rfl⟩
 refine⟨_,hG [[(lw,L.map pW)],bD p q x.a.ws [],dg s l (bA L) Z,[(b,xx (ic l x.a.ws (nN s)) 0 0 x.us)],[(aB,cT (.ptr p 0) l (.ah lw 0 k 1) (.af (.int .i64) x.st) (.af .bool x.dn) x.us)],[(b6,nF)],[(b3,a7 s)]] σ (a:=[3,4,0,5,6,1,2]) (b:=[0,1,2,3,4,5,6]) (by decide),?_⟩
 refine ag 0 ?_
 refine ag 0 ?_
 refine aa 0 ?_
 refine ag 3 ?_
 refine aa 3 ?_
 exact .drop 0 7 (H3 (dg s l (bA L) Z) (.done ⟨rfl,rfl,cM⟩))
set_option maxHeartbeats 4000000
def lQ(l:Lay)(ws:List Int)(n:Nat):List Bool:=(List.range n).map fun v:Nat=>decide (bV ws (wr (de l+(v:Nat)))=1)
def qw(l:Lay)(ws:List Int)(k:Nat):List Int:=(List.range k).map fun v:Nat=>wr (bV ws (dY l v))
def rp(l:Lay)(ws:List Int)(k:Nat):List Int:=(List.range k).map fun v:Nat=>wr (bV ws (bY (dY l v)))
def RU(di:List (List Int))(waits:List Bool)(num ev jo us:Int)(adp aer:List Int)(dn:List Bool):List AV:=[.af (.slice (.int .u64)) di,.af .bool waits,.int .i64 num,.int .i64 ev,.int .i64 jo,.int .i64 us,.af (.int .i64) adp,.af (.int .i64) aer,.af .bool dn]
def nH:List AV:=[.ak,.ak,.int .i64 0,.int .i64 0,.int .i64 0,.int .i64 0,.ak,.ak,.ak]
def xB(di:List (List Int))(wv:AV)(num ev jo us:Int)(tv bv:AV)(dn:List Bool):List AV:=[.af (.slice (.int .u64)) di,wv,.int .i64 num,.int .i64 ev,.int .i64 jo,.int .i64 us,tv,bv,.af .bool dn]
theorem aco(s:Sy)(k:Int)(ay:List (Int×Int×Unit))(σ:Hp)(hf:Fit s)(he:¬cO s k=0):ACalls Tryz.prog 14 [.agg (a7 s),.int .i64 k,.af jO ay] σ (aD (.tup [.agg nH,.int .i64 (cO s k)]) σ):=by
 refine au Tryz.func14 ?_
 intro aB
 intro cE
 refine aa 1 ?_
 refine ar [] (MK s k ay _ hf he) ?_
 intro qg
 refine ag 0 ?_
 refine cQ (fun c4=>?_) (fun c4=>?_)
 ·have c4:¬(cO s k=0):=by simpa using c4
  refine ag 1 ?_
  refine aa 1 ?_
  exact .drop 0 3 (.done ⟨rfl,rfl⟩)
 ·have c4:cO s k=0:=by simpa using c4
  exact absurd c4 he
theorem adk(s:Sy)(k:Nat)(l:Lay)(hl:gH s k=l)(ay:List (Int×Int×Unit))(σ:Hp)(hf:Fit s)(he:cO s k=0)(kN:ay.length≤100000)(cY:k≤64)(hn:l.n=(nN s:Int))(mG:nN s≤100000)(gd:s.n=(nN s:Int))(ns:(a8 s l ay).a.W.length=k):ACalls Tryz.prog 14 [.agg (a7 s),.int .i64 k,.af jO ay] σ (fun r σ'=>r=.tup [.agg (RU (ic l (a8 s l ay).a.ws (nN s)) (lQ l (a8 s l ay).a.ws (nN s)) (wr (bV (a8 s l ay).a.ws (da l))) (lJ (a8 s l ay).a.W) (lB (a8 s l ay).a.W) (a8 s l ay).us (qw l (a8 s l ay).a.ws k) (rp l (a8 s l ay).a.ws k) (a8 s l ay).dn),.int .i64 0]∧σ'=σ∧jP s l):=by
 refine au Tryz.func14 ?_
 intro b3
 intro b6
 refine aa 1 ?_
 refine .perm _ (.refl _) (H9 s k l hl ay _ hf he kN) ?_
 rintro _ _ ⟨p,q,lw,L,Z,rfl,hL,hZ,rfl,cM⟩
 refine⟨_,hG [[(lw,L.map pW)],bD p q (a8 s l ay).a.ws [],dg s l (bA L) Z,[(b6,nH)],[(b3,a7 s)]] σ (a:=[0,3,4,1,2]) (b:=[0,1,2,3,4]) (by decide),?_⟩
 generalize (a8 s l ay)=x at hZ ns ⊢
 intro aB
 refine ag 0 ?_
 obtain⟨P,hP⟩:∃P,P=(aB,cT (.ptr p 0) l (.ah lw 0 k 1) (.af (.int .i64) x.st) (.af .bool x.dn) x.us):=⟨_,rfl⟩
 have q1:(bD p q x.a.ws (P::(lw,L.map pW)::(b6,nH)::(b3,a7 s)::(dg s l (bA L) Z++σ))).Perm (P::(lw,L.map pW)::(b6,nH)::(b3,a7 s)::bD p q x.a.ws (dg s l (bA L) Z++σ)):=hG [[P,(lw,L.map pW),(b6,nH),(b3,a7 s)],bD p q x.a.ws [],dg s l (bA L) Z] σ (a:=[1,0,2]) (b:=[0,1,2]) (by decide)
 have q2:∀Q,(bD p q x.a.ws (Q::P::(lw,L.map pW)::(b6,nH)::(b3,a7 s)::(dg s l (bA L) Z++σ))).Perm (Q::P::(lw,L.map pW)::(b6,nH)::(b3,a7 s)::bD p q x.a.ws (dg s l (bA L) Z++σ)):=fun Q=>hG [[Q,P,(lw,L.map pW),(b6,nH),(b3,a7 s)],bD p q x.a.ws [],dg s l (bA L) Z] σ (a:=[1,0,2]) (b:=[0,1,2]) (by decide)
 subst hP
 refine fX.BK (S:=Nat) [5,8,12] (.one 0 false (.one 1 false (.one 2 false (.one 3 false (.one 4 false (.one 6 false (.one 7 false (.one 9 false (.one 10 false (.one 11 false (.one 13 false (.one 14 false (.one 15 false (.one 16 false (.one 17 false (.one 18 false (.Ct 5 (.Ct 8 (.Ct 12 (.one 19 false (.one 20 false (.one 21 false .stop))) (.one 20 false (.one 12 true (.one 19 false (.one 21 false .stop))))) (.one 20 false (.one 8 true (.one 12 true (.one 19 false (.one 21 false .stop)))))) (.one 20 false (.one 5 true (.one 8 true (.one 12 true (.one 19 false (.one 21 false .stop))))))))))))))))))))))) (fun b=>[(1,.int .i64 k),(3,.ptr b3 0),(6,.ptr b6 0),(8,.ptr aB 0),(10,.ptr b 0)]) (fun b=>(b,xB (ic l x.a.ws (nN s)) .ak (wr (bV x.a.ws (da l))) 0 0 x.us .ak .ak x.dn)::(aB,cT (.ptr p 0) l (.ah lw 0 k 1) (.af (.int .i64) x.st) (.af .bool x.dn) x.us)::(lw,L.map pW)::(b6,nH)::(b3,a7 s)::bD p q x.a.ws (dg s l (bA L) Z++σ)) (by kernel_rfl) ?_ ?_
 ·repeat' first
   |exact cX.mk _ ⟨rfl,rfl,rfl,rfl,rfl,trivial⟩ (aN rfl)
   |refine And.intro ?_ ?_
   |refine aa 0 ?_
   |refine aa 1 ?_
   |refine ag 0 ?_
   |refine aK [5,5] (AS p q l (nN s) _ _ hn mG) ?_
   |refine aK [6,6] (AS p q l (nN s) _ _ hn mG) ?_
   |refine aK [] (yZ l _) ?_
   |refine ar [] (yZ l _) ?_
   |(refine .perm _ q1 (AS p q l (nN s) _ _ hn mG) ?_;rintro _ _ ⟨rfl,rfl⟩;refine⟨_,q1.symm,?_⟩)
   |(refine .perm _ q1 (Ix _ _ p q _ _) ?_;rintro _ _ ⟨rfl,rfl⟩;refine⟨_,q1.symm,?_⟩)
   |refine aK [5,5] (Ix _ _ p q _ _) ?_
   |refine aK [6,6] (Ix _ _ p q _ _) ?_
   |intro b
 intro b g
 clear q1 q2
 refine aa 1 ?_
 refine .perm _ (hG [[(lw,L.map pW)],bD p q x.a.ws [],dg s l (bA L) Z,[(b,xB (ic l x.a.ws (nN s)) .ak (wr (bV x.a.ws (da l))) 0 0 x.us .ak .ak x.dn)],[(aB,cT (.ptr p 0) l (.ah lw 0 k 1) (.af (.int .i64) x.st) (.af .bool x.dn) x.us)],[(b6,nH)],[(b3,a7 s)]] σ (a:=[0,1,2,3,4,5,6]) (b:=[3,4,0,5,6,1,2]) (by decide)) (QO s l p q lw k L Z _ _ _ _ _ _ hZ hL ns cY) ?_
 rintro _ _ ⟨rfl,rfl⟩
 refine⟨(b,xB (ic l x.a.ws (nN s)) .ak (wr (bV x.a.ws (da l))) 0 0 x.us .ak .ak x.dn)::(aB,cT (.ptr p 0) l (.ah lw 0 k 1) (.af (.int .i64) x.st) (.af .bool x.dn) x.us)::(lw,L.map pW)::(b6,nH)::(b3,a7 s)::bD p q x.a.ws (dg s l (bA L) Z++σ),hG [[(lw,L.map pW)],bD p q x.a.ws [],dg s l (bA L) Z,[(b,xB (ic l x.a.ws (nN s)) .ak (wr (bV x.a.ws (da l))) 0 0 x.us .ak .ak x.dn)],[(aB,cT (.ptr p 0) l (.ah lw 0 k 1) (.af (.int .i64) x.st) (.af .bool x.dn) x.us)],[(b6,nH)],[(b3,a7 s)]] σ (a:=[3,4,0,5,6,1,2]) (b:=[0,1,2,3,4,5,6]) (by decide),?_⟩
 refine ag 0 ?_
 refine ag 0 ?_
 refine aa 4 ?_
 have hE1:=fun τ=>aci 48 [.ptr aB 0] ((aB,cT (.ptr p 0) l (.ah lw 0 k 1) (.af (.int .i64) x.st) (.af .bool x.dn) x.us)::bD p q x.a.ws []) τ (fun v:Nat=>decide (bV x.a.ws (wr (de l+(v:Nat)))=1)) (nN s) mG (fun i _ τ=>UP aB p q i l _ _ _ _ x.a.ws τ)
 have Dh:=fun τ=>RN 51 [.ptr aB 0] ((aB,cT (.ptr p 0) l (.ah lw 0 k 1) (.af (.int .i64) x.st) (.af .bool x.dn) x.us)::bD p q x.a.ws []) τ (fun v:Nat=>wr (bV x.a.ws (dY l v))) k (by omega) (fun i _ τ=>UM aB p q i l _ _ _ _ x.a.ws τ)
 have hE3:=fun τ=>RN 54 [.ptr aB 0] ((aB,cT (.ptr p 0) l (.ah lw 0 k 1) (.af (.int .i64) x.st) (.af .bool x.dn) x.us)::bD p q x.a.ws []) τ (fun v:Nat=>wr (bV x.a.ws (bY (dY l v)))) k (by omega) (fun i _ τ=>UO aB p q i l _ _ _ _ x.a.ws τ)
 rw[← gd]at hE1
 refine ar [3,6,6] (hE1 ((b,xB (ic l x.a.ws (nN s)) .ak (wr (bV x.a.ws (da l))) (lJ x.a.W) (lB x.a.W) x.us .ak .ak x.dn)::(lw,L.map pW)::(b6,nH)::(b3,a7 s)::(dg s l (bA L) Z++σ))) ?_
 refine ag 3 ?_
 refine ar [] (Dh ((b,xB (ic l x.a.ws (nN s)) (.af .bool (lQ l x.a.ws (nN s))) (wr (bV x.a.ws (da l))) (lJ x.a.W) (lB x.a.W) x.us .ak .ak x.dn)::(lw,L.map pW)::(b6,nH)::(b3,a7 s)::(dg s l (bA L) Z++σ))) ?_
 refine ag 3 ?_
 refine ar [] (hE3 ((b,xB (ic l x.a.ws (nN s)) (.af .bool (lQ l x.a.ws (nN s))) (wr (bV x.a.ws (da l))) (lJ x.a.W) (lB x.a.W) x.us (.af (.int .i64) (qw l x.a.ws k)) .ak x.dn)::(lw,L.map pW)::(b6,nH)::(b3,a7 s)::(dg s l (bA L) Z++σ))) ?_
 refine ag 3 ?_
 refine aa 3 ?_
 refine ag 5 ?_
 refine aa 5 ?_
 exact .drop 0 7 (H3 (dg s l (bA L) Z) (.done ⟨rfl,rfl,cM⟩))
set_option maxHeartbeats 4000000
theorem WC(l:Lay)(ws:List Int)(i:Nat):(ic l ws (i+1)).map (AV.af (.int .u64))=(ic l ws i).map (AV.af (.int .u64))++[.af (.int .u64) (ki (df l i) ws (cw l.words))]:=yH (fun v:Nat=>ki (df l v) ws (cw l.words)) (AV.af (.int .u64)) i
theorem aaK(m q n:Nat)(l:Lay)(ws:List Int)(σ:Hp)(hn:l.n=n)(mG:n≤100000):ACalls Tryz.prog 20 [.ptr m 0,.agg (cU l)] (bu m q ws σ) (aD (.af (.slice (.int .u64)) (ic l ws n)) (bu m q ws σ)):=by
 refine au Tryz.func20 ?_
 intro b1
 refine .wrap 5 .ak rfl rfl ?_
 refine bh (S:=Nat×AV×Hp) (fun t=>[(0,.ptr m 0),(3,.ptr b1 0),(5,.via t.2.1),(6,.int .i64 t.1)]) (fun t=>(b1,cU l)::bu m q ws (t.2.2++σ)) (fun t=>t.1≤n∧Acc 1 t.1 t.2.1 t.2.2 ((ic l ws t.1).map (AV.af (.int .u64)))) (fun t=>n-t.1) (0,.ak,[]) ⟨⟨aY _,.nil⟩,⟨rfl,rfl,rfl,rfl,trivial⟩,rfl⟩ ?_
 rintro⟨i,v,acc⟩ g ⟨dc,h0⟩
 have hi:i≤n:=dc
 have h:Acc 1 i v acc ((ic l ws i).map (AV.af (.int .u64))):=h0
 clear dc h0
 refine aa 0 ?_
 refine aj (p:=(i:Int)<l.n) (fun ab=>?_) (fun aq=>?_)
 rotate_left
 ·have aq:i=n:=by omega
  subst aq
  have hlen:(ic l ws i).length=i:=by unfold ic;rw[cm,kx]
  exact kZ [(b1,cU l),(m,[AV.ah q 0 ws.length 1]),(q,aP ws)] (s:=.slice (.int .u64)) h hlen.symm (As ..) Ai (.drop 0 1 (.done ⟨rfl,rfl⟩))
 have ab:i<n:=by omega
 refine aa 0 ?_
 refine aa 0 ?_
 refine ar [2,2] (aaL m q ws _ _ _) ?_
 intro aB
 refine eU [_,(m,[AV.ah q 0 ws.length 1]),(q,aP ws),(b1,cU l)] h (.ah 0 aB 0 1 _ rfl (cp rfl)) rfl (by omega) (by decide) (by decide) (fun v' aU h'=>?_)
 exact aM (i+1,v',aU) (by show n-(i+1)<n-i;omega) ⟨ab,zJ (WC l ws i) h'⟩ ⟨rfl,rfl,rfl,aL (by omega),trivial⟩ (.drop 0 1 (.pull [2] (.refl _)))
set_option maxHeartbeats 4000000
def BG(s:Sy)(l:Lay)(ws:List Int):List (List Int):=(List.range (nN s)).map fun v=>(List.range (nW l)).map fun i=>ws.getD (v*nW l+i) 0
theorem U7{f:Nat→Int}{n i:Nat}(h:i<n):((List.range n).map f).getD i 0=f i:=by
 rw[bO,fm,wR h];rfl
section
variable {s:Sy} {l:Lay} (hs:LS s l)
include hs
theorem LS.V5{f:Nat→Int}(h:∀i,i<nW l→ju s.ai s.w i (f i)):mO s.ai s.w ((List.range (nW l)).map f):=
 (hs.SD).2 ⟨by simp,fun i hi=>by rw[U7 hi];exact h i hi⟩
theorem UT{ws:List Int}(h:MV s l ws):KA s (BG s l ws):=by
 refine⟨by unfold BG;rw[cm,kx];exact hs.nn.1.symm,fun x hx=>?_⟩
 obtain⟨v,hv,rfl⟩:=fi.1 hx
 exact hs.V5 fun i hi=>h.cells v i (gq.1 hv) hi
end
section
variable {s:Sy} {l:Lay} {hs:LS s l}
end
theorem IS{A:Type}(step:A→Nat→Int→A×Bool)(tell:A→Nat→A)(n:Nat):∀(p q:List (Int×Int×Unit)) (x:iQ A),jl step tell n (p++q) x=jl step tell n q (jl step tell n p x)
 | [],q,x=>rfl
 |a::p,q,x=>by
  show (if x.dn.all id=true then x else jl step tell n (p++q) _)=jl step tell n q (if x.dn.all id=true then x else _)
  by_cases h:x.dn.all id=true
  ·rw[az h,az h]
   cases q with
   |nil=>rfl
   |cons b q=>show x=if x.dn.all id=true then x else _;rw[az h]
  ·rw[aA h,aA h,IS step tell n p q]
section
variable {s:Sy} {l:Lay} {hs:LS s l}
theorem VQ{s:Sy}{l:Lay}{who:Int}{x:WS}{d:Int}{ws:List Int}:(cW bF s l who x d ws).2.2=(cW bF s l who x d ws).1.en:=by
 cases he:x.en with
 |true=>unfold cW;rw[az he];exact he.symm
 |false=>exact OQ (s:=s) (l:=l) (who:=who) (d:=d) (ws:=ws) he
end
abbrev rw0(s:Sy)(l:Lay)(who:Nat):List AV:=
 [.int .i64 s.ai,.int .i64 s.w,.int .i64 s.n,.af cb s.cI,.af (.int .i64) s.entry,.af (.int .u64) s.init,.af jL s.T,.int .i64 l.ai,.int .i64 l.words,.int .i64 l.n,.int .i64 l.k,.int .i64 who,.int .i64 0,.int .i64 0,.bool false,.ak,.ak,.aG,.aG,.aG,.ak,.int .i64 0,.int .i64 0,.bool false]
def tY(s:Sy)(l:Lay):List Nat→Hp
 | []=>[]
 |w::L=>(w,rw0 s l L.length)::tY s l L
def CE(s:Sy)(l:Lay):List Nat→Hp
 | []=>[]
 |w::L=>(w,eg s l L.length 0 0 false [] [] .aG .aG .aG .ak 0 0 false)::CE s l L
def zB(L:List Nat):List AV:=L.map fun w=>.ptr w 0
theorem S8{α:Type}(fr σ:List α)(x:α):(fr++x::σ)[fr.length]?=some x:=by simp
theorem SF{α:Type}(fr σ:List α)(x y:α):(fr++x::σ).set fr.length y=fr++y::σ:=by simp
theorem R5{F:Nat→Prop}{w:World}(e:Sh):∀v,aF F w .ak v→aF F w (.af e []) v:=fun v hv=>by
 cases hv
 exact .af e [] _ ⟨none,0,rfl,bJ _,by unfold maxLen;omega,fun _=>rfl,fun bc=>absurd rfl bc⟩
theorem Rf{F:Nat→Prop}{w:World}(s:Sy)(l:Lay)(τ:Hp):∀(L:List Nat) (A:Hp),bC F w (A++(tY s l L++τ))→bC F w (A++(CE s l L++τ))
 | [],_,h=>h
 |b::L,A,h=>by
  have h:bC F w (A++(b,rw0 s l L.length)::(tY s l L++τ)):=h
  have h1:=EO h (c':=.af (.int .i64) []) rfl rfl (R5 _) (i:=A.length) (k:=15) (S8 _ _ _) rfl
  rw[SF]at h1
  have h2:=EO h1 (c':=.af (.int .u64) []) rfl rfl (R5 _) (i:=A.length) (k:=16) (S8 _ _ _) rfl
  rw[SF]at h2
  have h3:bC F w (A++(b,eg s l L.length 0 0 false [] [] .aG .aG .aG .ak 0 0 false)::(tY s l L++τ)):=h2
  rw[show A++(b,eg s l L.length 0 0 false [] [] .aG .aG .aG .ak 0 0 false)::(tY s l L++τ)=(A++[(b,eg s l L.length 0 0 false [] [] .aG .aG .aG .ak 0 0 false)])++(tY s l L++τ) by rw[dh];rfl]at h3
  have h4:=Rf s l τ L _ h3
  rw[dh]at h4
  exact h4
theorem RG(s:Sy)(l:Lay)(k:Nat)(σ:Hp)(hk:l.k=k)(cY:k≤64):ACalls Tryz.prog 58 [.agg (a7 s),.agg (cU l)] σ (fun v σ'=>∃L acc,L.length=k∧Acc 1 k v acc (zB L.reverse)∧σ'=tY s l L++(acc++σ)):=by
 refine au Tryz.func58 ?_
 intro bx
 intro by_
 refine .wrap 5 _ rfl rfl ?_
 refine bh (S:=List Nat×AV×Hp) (fun t=>[(2,.ptr bx 0),(3,.ptr by_ 0),(5,.via t.2.1),(6,.int .i64 t.1.length)]) (fun t=>(by_,cU l)::(bx,a7 s)::(tY s l t.1++(t.2.2++σ))) (fun t=>t.1.length≤k∧Acc 1 t.1.length t.2.1 t.2.2 (zB t.1.reverse)) (fun t=>k-t.1.length) ([],.ak,[]) ⟨⟨aY _,.nil⟩,⟨rfl,rfl,rfl,rfl,trivial⟩,rfl⟩ ?_
 rintro⟨L,v,acc⟩ g ⟨gD,h0⟩
 have hl:L.length≤k:=gD
 have h:Acc 1 L.length v acc (zB L.reverse):=h0
 clear gD h0
 refine aa 0 ?_
 refine aj (p:=(L.length:Int)<l.k) (fun ab=>?_) (fun aq=>?_)
 rotate_left
 ·have zZ:L.length=k:=by omega
  exact .drop 0 2 (.done ⟨L,acc,zZ,zZ▸h,rfl⟩)
 have ab:L.length<k:=by omega
 refine aa 1 ?_
 refine aa 0 ?_
 intro aB
 intro cE
 refine eU (_::_::_::_::tY s l L) h (.ah 0 cE 0 1 _ rfl (cp rfl)) rfl (by omega) (by decide) (by decide) (fun v' aU h'=>?_)
 refine aM (aB::L,v',aU) (by show k-(L.length+1)<k-L.length;omega) ⟨ab,?_⟩ ⟨rfl,rfl,rfl,aL (show L.length<1000000000 by omega),trivial⟩ (.drop 0 1 (.pull [2,2] (.refl _)))
 show Acc 1 (L.length+1) v' aU (zB (aB::L).reverse)
 rw[List.reverse_cons,zB,cC]
 exact h'
theorem aaO(s:Sy)(l:Lay)(k:Nat)(σ:Hp)(hk:l.k=k)(cY:k≤64):ACalls Tryz.prog 58 [.agg (a7 s),.agg (cU l)] σ (fun v σ'=>∃L acc,L.length=k∧Acc 1 k v acc (zB L.reverse)∧σ'=CE s l L++(acc++σ)):=
 ⟨(RG s l k σ hk cY).1,fun F w vs cg aJ=>((RG s l k σ hk cY).2 F w vs cg aJ).mono fun _ _ ⟨r,v,σ',F',h1,h2,h3,h4,L,acc,q1,q2,q3⟩=>by
  subst q3
  exact⟨r,v,_,F',h1,h2,Rf s l (acc++σ) L [] h3,h4,L,acc,q1,q2,rfl⟩⟩
set_option maxHeartbeats 4000000
def wg(s:Sy)(l:Lay)(y:(Nat×Nat)×(Nat×WS)):Hp:=RB s l y.1.1 y.1.2 y.2.1 y.2.2
def jd(s:Sy)(l:Lay)(I:List (Nat×Nat))(R:List (Nat×WS)):Hp:=(I.zip R).flatMap (wg s l)
section
variable {s:Sy} {l:Lay} {I:List (Nat×Nat)}
theorem P9{R:List (Nat×WS)}{i:Nat}(hi:i<I.length)(hz:i<R.length):(jd s l I R).Perm (RB s l I[i].1 I[i].2 R[i].1 R[i].2++((I.zip R).eraseIdx i).flatMap (wg s l)):=by
 have h:i<(I.zip R).length:=by simp;omega
 have h1:=HC (f:=wg s l) h
 have e:(I.zip R)[i]=(I[i],R[i]):=by simp
 rw[e]at h1
 exact h1
theorem XE{R:List (Nat×WS)}{i:Nat}(hi:i<I.length)(hz:i<R.length)(y:Nat×WS):(jd s l I (R.set i y)).Perm (RB s l I[i].1 I[i].2 y.1 y.2++((I.zip R).eraseIdx i).flatMap (wg s l)):=by
 have h:i<(I.zip R).length:=by simp;omega
 have h1:=Oy (f:=wg s l) h (I[i],y)
 rw[← PW _ _ _ _ hi]at h1
 exact h1
end
theorem XD(s:Sy)(l:Lay)(L:List Nat)(w:Nat):jd s l (bA (L++[w])) (List.replicate (L++[w]).length (0,kn))=jd s l (bA L) (List.replicate L.length (0,kn))++RB s l L.length w 0 kn:=by
 have e1:bA (L++[w])=bA L++[(L.length,w)]:=by
  unfold bA
  rw[List.length_append,List.length_singleton,List.range_succ,List.zip_append (by simp)];rfl
 have e2:List.replicate (L++[w]).length ((0,kn):Nat×WS)=List.replicate L.length (0,kn)++[(0,kn)]:=by
  rw[bG,yv,List.replicate_succ']
 unfold jd
 rw[e1,e2,gs9 (by rw[gY,sk]),wV]
 rfl
theorem Pj(s:Sy)(l:Lay):∀L:List Nat,(CE s l L).Perm (jd s l (bA L.reverse) (List.replicate L.reverse.length (0,kn)))
 | []=>.refl _
 |w::L=>by
  rw[List.reverse_cons,XD,qd]
  have h:=Pj s l L
  rw[qd]at h
  show ((w,eg s l L.length 0 0 false [] [] .aG .aG .aG .ak 0 0 false)::CE s l L).Perm (_++[(w,eg s l L.length 0 0 false [] [] .aG .aG .aG .ak 0 0 false)])
  exact (List.Perm.cons _ h).trans (List.perm_append_singleton _ _).symm
theorem Yc{A:Type}(step:A→Nat→Int→A×Bool)(tell:A→Nat→A)(n:Nat){x:iQ A}(h:x.dn.all id=true):∀ay:List (Int×Int×Unit),jl step tell n ay x=x
 | []=>rfl
 |p::ay=>by show (if x.dn.all id=true then x else _)=x;rw[az h]
theorem XF(s:Sy)(l:Lay){ay:List (Int×Int×Unit)}{i:Nat}(h:i<ay.length)(hd:(a8 s l (ay.take i)).dn.all id=false):a8 s l (ay.take (i+1))=j5 (fI s l) (fun a _=>a) l.k.toNat (a8 s l (ay.take i)) ay[i]:=by
 have e:a8 s l (ay.take (i+1))=rY s l [ay[i]] (a8 s l (ay.take i)):=by
  unfold a8 rY
  rw[eT h,IS]
 rw[e]
 show (if (a8 s l (ay.take i)).dn.all id=true then _ else _)=_
 rw[aA (by rw[hd];decide)];rfl
theorem XG(s:Sy)(l:Lay){ay:List (Int×Int×Unit)}{i:Nat}(hd:(a8 s l (ay.take i)).dn.all id=true):a8 s l ay=a8 s l (ay.take i):=by
 have e:a8 s l ay=rY s l (ay.drop i) (a8 s l (ay.take i)):=by
  unfold a8 rY
  rw[← IS,Ax]
 rw[e]
 exact Yc _ _ _ hd _
theorem Q2(s:Sy)(l:Lay):∀(ay:List (Int×Int×Unit)) (x:iQ WA),(rY s l ay x).us≤x.us+ay.length
 | [],x=>Nat.le_add_right _ _
 |p::ay,x=>by
  show (if x.dn.all id=true then x else rY s l ay (j5 (fI s l) (fun a _=>a) l.k.toNat x p)).us≤x.us+(ay.length+1)
  split
  ·omega
  ·have h:=Q2 s l ay (j5 (fI s l) (fun a _=>a) l.k.toNat x p)
   have gb:(j5 (fI s l) (fun a _=>a) l.k.toNat x p).us=x.us+1:=by unfold j5;split <;> rfl
   omega
structure XL(s:Sy)(l:Lay)(x:iQ WA):Prop where
 free:sD s l x.a
 dn:x.dn=x.a.W.map (·.en)
theorem XL.pick{s:Sy}{l:Lay}(hs:LS s l){x:iQ WA}(h:XL s l x)(p:Int×Int×Unit):XL s l (j5 (fI s l) (fun a _=>a) l.k.toNat x p):=by
 have jE:=hs.k1
 have sI:=xn (p:=p.1) (show 0<l.k.toNat by omega)
 have hlen:=h.free.len
 unfold j5
 by_cases hd:x.dn.getD (fD p.1 l.k.toNat) true=true
 ·rw[az hd];exact⟨h.free,h.dn⟩
 ·rw[aA hd]
  refine⟨h.free.step hs _ _,?_⟩
  show x.dn.set _ _=(fI s l x.a _ _).1.W.map (·.en)
  have hW:x.a.W[fD p.1 l.k.toNat]?=some x.a.W[fD p.1 l.k.toNat]:=bN (by omega)
  rw[A8 hW,h.dn,VQ]
  show _=(List.set _ _ _).map _
  rw[s8]
theorem XL.go{s:Sy}{l:Lay}(hs:LS s l):∀(ay:List (Int×Int×Unit)) {x:iQ WA},XL s l x→XL s l (rY s l ay x)
 | [],_,h=>h
 |p::ay,x,h=>by
  show XL s l (if x.dn.all id=true then x else rY s l ay (j5 (fI s l) (fun a _=>a) l.k.toNat x p))
  split
  ·exact h
  ·exact XL.go hs ay (h.pick hs p)
theorem QT{s:Sy}{l:Lay}(hs:LS s l)(cM:jP s l)(ay:List (Int×Int×Unit)):XL s l (a8 s l ay):=
 XL.go hs ay ⟨Ro cM hs,by show List.replicate _ _=(List.replicate _ _).map _;rw[LN];rfl⟩
theorem XO{s:Sy}{l:Lay}(hs:LS s l){x:iQ WA}(h:XL s l x)(p:Int×Int×Unit):(j5 (fI s l) (fun a _=>a) l.k.toNat x p).a=(fI s l x.a (fD p.1 l.k.toNat) p.2.1).1∧(j5 (fI s l) (fun a _=>a) l.k.toNat x p).dn=x.dn.set (fD p.1 l.k.toNat) (fI s l x.a (fD p.1 l.k.toNat) p.2.1).2∧(j5 (fI s l) (fun a _=>a) l.k.toNat x p).us=x.us+1:=by
 have jE:=hs.k1
 have hlen:=h.free.len
 have sI:=xn (p:=p.1) (show 0<l.k.toNat by omega)
 have hW:x.a.W[fD p.1 l.k.toNat]?=some x.a.W[fD p.1 l.k.toNat]:=bN (by omega)
 unfold j5
 by_cases hd:x.dn.getD (fD p.1 l.k.toNat) true=true
 ·rw[az hd]
  have mH:=h.dn
  have he:x.a.W[fD p.1 l.k.toNat].en=true:=by
   rw[mH,bO,fm,hW]at hd
   exact hd
  have e:cW bF s l (fD p.1 l.k.toNat) x.a.W[fD p.1 l.k.toNat] p.2.1 x.a.ws=(x.a.W[fD p.1 l.k.toNat],x.a.ws,true):=az he
  rw[A8 hW,e]
  dsimp only
  rw[NS hW]
  refine⟨rfl,?_,rfl⟩
  rw[NS]
  rw[mH,fm,hW]
  exact congrArg some he
 ·rw[aA hd]
  exact⟨rfl,rfl,rfl⟩
theorem ad6{s:Sy}{l:Lay}{I:List (Nat×Nat)}{R:List (Nat×WS)}{a:WA}{m q i:Nat}{d:Int}(σ:Hp)(hs:LS s l)(hi:i<I.length)(hI:I[i].1=i)(hk:(I.length:Int)=l.k)(hf:sD s l a)(hR:R.map (·.2)=a.W):ACalls Tryz.prog 60 [.ptr I[i].2 0,.ptr m 0,.int .i64 d] (bu m q a.ws (jd s l I R)++σ) (fun x σ'=>∃R':List (Nat×WS),R'.map (·.2)=(fI s l a i d).1.W∧x=.bool (fI s l a i d).2∧σ'=bu m q (fI s l a i d).1.ws (jd s l I R')++σ):=by
 have hz:i<R.length:=by
  have h1:=hf.len
  rw[← hR,cm]at h1;omega
 have hW:a.W[i]?=some R[i].2:=by
  rw[← hR,fm,bN hz];rfl
 have hB:=P9 (s:=s) (l:=l) hi hz
 have x9:=fun (y:Nat×WS)=>XE (s:=s) (l:=l) hi hz y
 have K3:=hf.wv i _ hW
 rw[hI]at hB x9
 have key:∀(ws:List Int) {X b Y:Hp},X.Perm (b++Y)→(bu m q ws X++σ).Perm (b++bu m q ws (Y++σ)):=fun ws X b Y h=>by
  have h1:(bu m q ws X++σ).Perm (bu m q ws (b++Y)++σ):=List.Perm.append_right σ (List.Perm.append_left [_,_] h)
  refine h1.trans ?_
  show ([(m,[AV.ah q 0 ws.length 1]),(q,aP ws)]++((b++Y)++σ)).Perm (b++([(m,[AV.ah q 0 ws.length 1]),(q,aP ws)]++(Y++σ)))
  rw[dh]
  exact hG [[(m,[AV.ah q 0 ws.length 1]),(q,aP ws)],b,Y] σ (a:=[0,1,2]) (b:=[1,0,2]) (by decide)
 rw[A8 hW]
 refine (YU I[i].2 R[i].1 m q d a.ws (((I.zip R).eraseIdx i).flatMap (wg s l)++σ) hs K3 hf.fl.2).JW (key a.ws hB).symm ?_
 rintro _ _ ⟨r',rfl,rfl⟩
 refine⟨_,key _ (x9 (r',(cW bF s l i R[i].2 d a.ws).1)),R.set i (r',(cW bF s l i R[i].2 d a.ws).1),?_,rfl,rfl⟩
 rw[s8,hR]
theorem aaB(s:Sy)(l:Lay)(k:Nat)(ay:List (Int×Int×Unit))(σ:Hp)(hs:LS s l)(cM:jP s l)(hk:l.k=k)(cY:k≤64)(kN:ay.length≤100000):
  ACalls Tryz.prog 16 [.agg (a7 s),.agg (cU l),.af jO ay] σ (fun r σ'=>∃(m q lb:Nat) (L:List Nat) (R:List (Nat×WS)),r=.tup [.ptr m 0,.ah lb 0 k 1,.af .bool (a8 s l ay).dn,.int .i64 (a8 s l ay).us]∧L.length=k∧R.map (·.2)=(a8 s l ay).a.W∧σ'=(lb,L.map pW)::bu m q (a8 s l ay).a.ws (jd s l (bA L) R++σ)):=by
 have jE:=hs.k1
 refine au Tryz.func16 ?_
 intro b3
 intro b4
 refine aa 1 ?_
 refine aa 0 ?_
 (refine .mk [] _ (aaM s l _ hs cM) ?_;rintro _ _ ⟨m,q,rfl,rfl,ik⟩)
 refine aa 3 ?_
 refine aa 2 ?_
 refine .perm _ (.refl _) (aaO s l k _ hk cY) ?_
 rintro v _ ⟨LR,acc,hLl,bS,rfl⟩
 obtain⟨lb,rfl,rfl⟩:=Eg bS (by omega)
 obtain⟨L,hL⟩:∃L,LR.reverse=L:=⟨_,rfl⟩
 have Kl:L.length=k:=by rw[← hL,qd];exact hLl
 have hP:=Pj s l LR
 rw[hL]at hP ⊢
 refine⟨(lb,L.map pW)::(b4,cU l)::(b3,a7 s)::bu m q (gJ s l) (jd s l (bA L) (List.replicate L.length (0,kn))++σ),?_,?_⟩
 ·refine List.Perm.trans ?_ (List.Perm.append_right _ hP.symm)
  exact hG [[(lb,L.map pW)],[(b4,cU l)],[(b3,a7 s)],bu m q (gJ s l) [],jd s l (bA L) (List.replicate L.length (0,kn))] σ (a:=[0,1,2,3,4]) (b:=[4,0,3,1,2]) (by decide)
 refine bg ?_
 intro aB
 obtain⟨R0,Ag⟩:∃R0:List (Nat×WS),List.replicate L.length (0,kn)=R0:=⟨_,rfl⟩
 rw[Ag]
 have Lf:l.k.toNat=k:=by omega
 have S6:R0.map (·.2)=(a8 s l (ay.take 0)).a.W:=by
  rw[← Ag,LN,Kl]
  show List.replicate k kn=W0 l
  unfold W0;rw[Lf]
 refine bh (S:=Nat×List (Nat×WS)) (fun t=>[(10,.ptr m 0),(11,.ah lb 0 k 1),(12,.ah aB 0 k 1),(13,.int .i64 (a8 s l (ay.take t.1)).us),(26,.af jO ay),(27,.int .i64 ay.length),(28,.int .i64 t.1)]) (fun t=>(aB,gh (a8 s l (ay.take t.1)).dn)::(lb,L.map pW)::(b4,cU l)::(b3,a7 s)::bu m q (a8 s l (ay.take t.1)).a.ws (jd s l (bA L) t.2++σ)) (fun t=>t.1≤ay.length∧t.2.map (·.2)=(a8 s l (ay.take t.1)).a.W) (fun t=>ay.length-t.1) (0,R0) ⟨⟨aY _,S6⟩,⟨rfl,rfl,rfl,rfl,rfl,rfl,rfl,trivial⟩,by
  show (aB,cN [.bool false] k)::_=(aB,gh (List.replicate l.k.toNat false))::_
  rw[Qc,Lf];rfl⟩ ?_
 clear S6 Ag
 rintro⟨i,R⟩ g ⟨dc,Ag⟩
 have hi:i≤ay.length:=dc
 have hR:R.map (·.2)=(a8 s l (ay.take i)).a.W:=Ag
 clear dc Ag
 have hX:=QT hs cM (ay.take i)
 have gb:=Q2 s l (ay.take i) (zK s l)
 have dI:(a8 s l (ay.take i)).dn.length=k:=by rw[hX.dn,cm];have:=hX.free.len;omega
 have ns:(a8 s l (ay.take i)).a.W.length=k:=by have:=hX.free.len;omega
 have zE:(a8 s l (ay.take i)).us≤i:=by
  refine ey gb ?_
  show 0+(ay.take i).length≤i
  rw[uT];omega
 refine aj (p:=(i:Int)<(ay.length:Int)) (fun ab=>?_) (fun aq=>?_)
 rotate_left
 ·have aq:i=ay.length:=by omega
  have e:a8 s l (ay.take i)=a8 s l ay:=by rw[aq,dW]
  rw[e]at hR dI
  rw[e]
  refine .cH 0 aB 0 k 1 _ .bool (a8 s l ay).dn rfl (sm dI) ⟨dI,rfl,by decide⟩ (cc (.refl _) (cc (.refl _) (cc .here (.refl _)))) ?_
  exact .drop 1 2 (.done ⟨m,q,lb,L,R,rfl,Kl,hR,rfl⟩)
 have ab:i<ay.length:=by omega
 obtain⟨d,hd⟩:∃d:Int×Int×Unit,ay[i]=d:=⟨_,rfl⟩
 have hA:=fun σ=>adl aB (a8 s l (ay.take i)).dn σ (by omega)
 rw[dI]at hA
 obtain⟨d1,d2,du⟩:=d
 refine aw.mk rfl (aX.mk (d1,d2,du) (by omega) ((get_some ab).trans (congrArg some hd)) ?_)
 intro bp
 refine ag 0 ?_
 refine ar [1] (hA _) ?_
 cases bQ:(a8 s l (ay.take i)).dn.all id with
 |true=>
  have e:=XG s l bQ
  rw[← e]at hR dI
  rw[← e]
  refine .cH 0 aB 0 k 1 _ .bool (a8 s l ay).dn rfl (sm dI) ⟨dI,rfl,by decide⟩ (cc (.refl _) (cc (.refl _) (cc .here (.refl _)))) ?_
  exact .drop 0 1 (.drop 1 2 (.done ⟨m,q,lb,L,R,rfl,Kl,hR,rfl⟩))
 |false=>
  refine aa 1 ?_
  refine ar [] (ad4 d1 d2 k _ (by omega)) ?_
  obtain⟨j,hj⟩:∃j,fD d1 k=j:=⟨_,rfl⟩
  have hjk:j<k:=by rw[← hj];exact xn (by omega)
  rw[hj]
  have hI:((bA L).length:Int)=l.k:=by rw[sk];omega
  have hjI:j<(bA L).length:=by rw[sk];omega
  have hSt:=fun σ=>ad6 (m:=m) (q:=q) (d:=d2) σ hs hjI (yL L j hjI) hI hX.free hR
  have hIj:((bA L)[j]'hjI).2=L[j]'(by omega):=by simp[bA]
  rw[hIj]at hSt
  obtain⟨p1,p2,p3⟩:=XO hs hX (d1,d2,du)
  have vL:=XF s l ab bQ
  rw[hd]at vL
  rw[← vL,Lf,hj]at p1 p2
  rw[← vL]at p3
  dsimp only at p1 p2
  have hgl:(L.map pW)[0+((j:Int)).toNat*1]?=some (.ptr (L[j]'(by omega)) 0):=by
   rw[bR,dB,dU,fm,bN (by omega)];rfl
  refine .sched [] (upto [] 12 0) (by kernel_rfl) ?_
  refine aQ ?_
  refine aW 2 rfl (gy rfl hgl) ?_
  refine aa 1 ?_
  refine .perm (σ2:=bu m q (a8 s l (ay.take i)).a.ws (jd s l (bA L) R)++([(aB,gh (a8 s l (ay.take i)).dn),(bp,[.int .i64 d1,.int .i64 d2]),(lb,L.map pW),(b4,cU l),(b3,a7 s)]++σ)) _ (hG [[(aB,gh (a8 s l (ay.take i)).dn),(bp,[.int .i64 d1,.int .i64 d2]),(lb,L.map pW),(b4,cU l),(b3,a7 s)],bu m q (a8 s l (ay.take i)).a.ws [],jd s l (bA L) R] σ (a:=[1,2,0]) (b:=[0,1,2]) (by decide)) (hSt _) ?_
  rintro _ _ ⟨R',hR',rfl,rfl⟩
  rw[← p1]at hR' ⊢
  refine⟨(aB,gh (a8 s l (ay.take i)).dn)::(bp,[.int .i64 d1,.int .i64 d2])::(lb,L.map pW)::(b4,cU l)::(b3,a7 s)::bu m q (a8 s l (ay.take (i+1))).a.ws (jd s l (bA L) R'++σ),hG [[(aB,gh (a8 s l (ay.take i)).dn),(bp,[.int .i64 d1,.int .i64 d2]),(lb,L.map pW),(b4,cU l),(b3,a7 s)],bu m q (a8 s l (ay.take (i+1))).a.ws [],jd s l (bA L) R'] σ (a:=[0,1,2]) (b:=[1,2,0]) (by decide),?_⟩
  refine aQ ?_
  refine cu 0 rfl (ra _ (by omega)) ?_
  rw[← p2]
  refine aM (i+1,R') (by show ay.length-(i+1)<ay.length-i;omega) ⟨ab,hR'⟩ ⟨rfl,rfl,rfl,?_,rfl,rfl,aL (by omega),trivial⟩ (.drop 1 1 (.refl _))
  rw[p3];exact aL (show (a8 s l (ay.take i)).us<1000000000 by omega)
set_option maxHeartbeats 4000000
theorem XP{s:Sy}{l:Lay}(n:Nat)(x:iQ WA)(p:Int×Int×Unit):(j5 (fI s l) (fun a _=>a) n x p).dn.length=x.dn.length∧(j5 (fI s l) (fun a _=>a) n x p).a.W.length=x.a.W.length:=by
 unfold j5
 split
 ·exact⟨rfl,rfl⟩
 ·refine⟨dV ..,?_⟩
  show (fI s l x.a _ _).1.W.length=_
  unfold fI
  split
  ·exact dV ..
  ·rfl
theorem Rl{s:Sy}{l:Lay}(n:Nat):∀(ay:List (Int×Int×Unit)) (x:iQ WA),(jl (fI s l) (fun a _=>a) n ay x).dn.length=x.dn.length∧(jl (fI s l) (fun a _=>a) n ay x).a.W.length=x.a.W.length
 | [],x=>⟨rfl,rfl⟩
 |p::ay,x=>by
  show (if x.dn.all id=true then x else jl (fI s l) (fun a _=>a) n ay (j5 (fI s l) (fun a _=>a) n x p)).dn.length=_∧(if x.dn.all id=true then x else jl (fI s l) (fun a _=>a) n ay (j5 (fI s l) (fun a _=>a) n x p)).a.W.length=_
  split
  ·exact⟨rfl,rfl⟩
  ·have h1:=Rl (s:=s) (l:=l) n ay (j5 (fI s l) (fun a _=>a) n x p)
   have h2:=XP (s:=s) (l:=l) n x p
   exact⟨h1.1.trans h2.1,h1.2.trans h2.2⟩
theorem Qa(s:Sy)(l:Lay)(ay:List (Int×Int×Unit)):(a8 s l ay).dn.length=l.k.toNat∧(a8 s l ay).a.W.length=l.k.toNat:=by
 have h:=Rl (s:=s) (l:=l) l.k.toNat ay (zK s l)
 exact⟨h.1.trans gY,h.2.trans gY⟩
def Jq(s:Sy)(l:Lay)(ay:List (Int×Int×Unit))(r:AV):Prop:=
 ((a8 s l ay).dn.all id=true∧r=.tup [.agg (xx (ic l (a8 s l ay).a.ws (nN s)) (lJ (a8 s l ay).a.W) (lB (a8 s l ay).a.W) (a8 s l ay).us),.int .i64 0])∨((a8 s l ay).dn.all id=false∧r=.tup [.agg nF,.int .i64 11])
theorem JO(s:Sy)(k:Nat)(l:Lay)(hl:gH s k=l)(ay:List (Int×Int×Unit))(σ:Hp)(hf:Fit s)(he:cO s k=0)(kN:ay.length≤100000):ACalls Tryz.prog 13 [.agg (a7 s),.int .i64 k,.af jO ay] σ (fun r σ'=>Jq s l ay r∧σ'=σ∧jP s l):=by
 obtain⟨hs,Dd⟩:=BL hf he
 have hk:l.k=k:=by rw[← hl];exact EL he
 rw[hl]at hs
 have cY:=hs.k2
 have CQ:=hs.nn
 have hn:=hs.n
 obtain⟨qS,o7⟩:=Qa s l ay
 have e:l.k.toNat=k:=by omega
 rw[e]at qS o7
 cases hd:(a8 s l ay).dn.all id with
 |true=>
  refine (abV s k l hl ay σ hf he kN (by omega) (by omega) (by omega) qS o7 hd).mono ?_
  rintro _ _ ⟨rfl,rfl,cM⟩
  exact⟨.inl ⟨hd,rfl⟩,rfl,cM⟩
 |false=>
  refine (Xe s k l hl ay σ hf he kN (by omega) qS hd).mono ?_
  rintro _ _ ⟨rfl,rfl,cM⟩
  exact⟨.inr ⟨hd,rfl⟩,rfl,cM⟩
def eQ:Sy:=⟨1,1,1,[],[0],[1],[([0],[0],[],())]⟩
theorem Ja:cO eQ (1:Nat)=0:=by decide +kernel
theorem Qy:Fit eQ:=⟨Jy (by unfold bP;omega),by decide,by decide,by decide,by decide,fun t ht=>by
 rw[bE.1 ht];exact⟨Jy (by unfold bP;omega),Jy (by unfold bP;omega),by decide,by decide,by decide⟩⟩
theorem Qx:gH eQ (1:Nat)=oT:=by
 unfold gH
 rw[Ja,show ej eQ.ai eQ.w=1 by decide +kernel]
 rfl
def SI:List Int:=[1,1,1,1,2,0,0]
theorem aa3(cM:jP eQ oT):mV eQ oT=[[0]]:=by
 have hA:=cM.all
 have hO:=cM.own 0 (by decide)
 have hl:(qI (nN eQ) eQ.cI eQ.entry).length=1:=hA.len
 obtain⟨z,hz⟩:=List.length_eq_one_iff.1 hl
 have l9:=hA.rg z (by rw[hz];exact bE.2 rfl)
 have CK:z=0:=by have:(nN eQ:Int)=1:=(by decide +kernel);omega
 unfold mV B3 j0
 rw[hz,CK]
 have hk:oT.k.toNat=1:=rfl
 rw[hk]at hO ⊢
 have h0:(jQ (nN eQ) 1 eQ.cI).getD 0 0=0:=by omega
 show [List.filter (fun x:Int=>decide ((jQ (nN eQ) 1 eQ.cI).getD x.toNat 0=((0:Nat):Int))) [0]]=[[0]]
 rw[G8,az (by show decide ((jQ (nN eQ) 1 eQ.cI).getD 0 0=((0:Nat):Int))=true;rw[h0];rfl)]
 rfl
theorem Yr(cM:jP eQ oT):gJ eQ oT=SI:=by
 unfold gJ zq
 rw[aa3 cM]
 decide +kernel
def x0Q:iQ WA:=⟨⟨[kn],SI⟩,[0],[false],0⟩
theorem abG(cM:jP eQ oT):zK eQ oT=x0Q:=by
 unfold zK
 rw[Yr cM];rfl
def F5(ay:List (Int×Int×Unit)):iQ WA:=jl (fI eQ oT) (fun a _=>a) 1 ay x0Q
theorem Qw(cM:jP eQ oT)(ay:List (Int×Int×Unit)):a8 eQ oT ay=F5 ay:=by
 unfold a8 rY
 rw[abG cM];rfl
def tT:List (Int×Int×Unit):=List.replicate 20 (0,0,())
theorem aa4:(F5 tT).dn.all id=true∧(F5 tT).us=14∧ic oT (F5 tT).a.ws 1=[[1]]:=by decide +kernel
theorem Sw(σ:Hp):ACalls Tryz.prog 13 [.agg (a7 eQ),.int .i64 1,.af jO tT] σ (fun r σ'=>(∃e j,r=.tup [.agg (xx [[1]] e j 14),.int .i64 0])∧σ'=σ):=by
 refine (JO eQ 1 oT Qx tT _ Qy Ja (by decide)).mono ?_
 rintro _ _ ⟨h,rfl,cM⟩
 unfold Jq at h
 rw[Qw cM]at h
 obtain⟨h1,h2,h3⟩:=aa4
 have hn:nN eQ=1:=by decide +kernel
 rw[h1,h2,hn,h3]at h
 rcases h with ⟨_,rfl⟩ | ⟨h,_⟩
 ·exact⟨⟨_,_,rfl⟩,rfl⟩
 ·cases h
theorem Zg(σ:Hp):ACalls Tryz.prog 11 [] σ (aD (.bool true) σ):=by
 refine au Tryz.func11 ?_
 intro aB
 intro cE
 intro qg
 intro Hf
 intro td
 intro DE
 refine ag 0 ?_
 refine aa 0 ?_
 refine .kj 3 qg 0 1 1 _ (.int .u64) ([0]:List Int) rfl rfl ⟨rfl,rfl,by decide⟩ 1 0 td _ rfl rfl ?_
 refine .kj 2 Hf 0 1 1 _ (.int .u64) ([0]:List Int) rfl rfl ⟨rfl,rfl,by decide⟩ 1 1 td _ rfl rfl ?_
 refine Bq 1 2 td _ iU rfl rfl ?_
 refine Iw (ys:=[.agg [.int .i64 1,.int .i64 1,.int .i64 1,.ak,.ah aB 0 1 1,.ah cE 0 1 1,.af jL eQ.T],.int .i64 1,.ak]) 1 td 0 1 3 _ jL eQ.T rfl rfl ⟨rfl,rfl,by decide⟩ 0 6 DE _ rfl rfl (cc (Bn (cc (.refl _) (cc (.refl _) (cc (.refl _) (cc (.refl _) (cc (.refl _) (cc (.refl _) (cc .here qp))))))) rfl) (.refl _)) ?_
 refine Iw (ys:=[.agg [.int .i64 1,.int .i64 1,.int .i64 1,.ak,.ah aB 0 1 1,.af (.int .u64) eQ.init,.af jL eQ.T],.int .i64 1,.ak]) 1 cE 0 1 1 _ (.int .u64) eQ.init rfl rfl ⟨rfl,rfl,by decide⟩ 0 5 DE _ rfl rfl (cc (Bn (cc (.refl _) (cc (.refl _) (cc (.refl _) (cc (.refl _) (cc (.refl _) (cc .here (.refl _))))))) rfl) (.refl _)) ?_
 refine Iw (ys:=[.agg [.int .i64 1,.int .i64 1,.int .i64 1,.ak,.af (.int .i64) eQ.entry,.af (.int .u64) eQ.init,.af jL eQ.T],.int .i64 1,.ak]) 1 aB 0 1 1 _ (.int .i64) eQ.entry rfl rfl ⟨rfl,rfl,by decide⟩ 0 4 DE _ rfl rfl (cc (Bn (cc (.refl _) (cc (.refl _) (cc (.refl _) (cc (.refl _) (cc .here (.refl _)))))) rfl) (.refl _)) ?_
 refine Bq 0 3 DE _ cb rfl rfl ?_
 refine YC (ys:=[.agg (a7 eQ),.int .i64 1,.af jO []]) (cc (Bn (cc (.refl _) (cc (.refl _) (cc (.refl _) (cc (.nil cb) (.refl _))))) rfl) (cc (.refl _) (cc (.nil jO) (.refl _)))) ?_
 refine .mk [] _ (JO eQ 1 oT Qx [] _ Qy Ja (by decide)) ?_
 rintro _ _ ⟨h,rfl,cM⟩
 unfold Jq at h
 rw[Qw cM]at h
 rcases h with ⟨h,_⟩ | ⟨_,rfl⟩
 ·exact absurd h (by decide)
 intro aB
 refine ag 0 ?_
 refine .meet (S:=Nat×Int×Int) (fun b=>[(3,.int .i64 11),(4,.ptr b.1 0),(5,.int .i64 0)]) (fun b=>(b.1,xx [[1]] b.2.1 b.2.2 14)::(aB,nF)::(DE,a7 eQ)::σ) (by kernel_rfl) ?_ ?_
 ·repeat' first
   |exact cX.mk (_,_,_) ⟨rfl,rfl,rfl,trivial⟩ (aN rfl)
   |refine And.intro ?_ ?_
   |refine aa 1 ?_
   |refine aa 2 ?_
   |refine aa 3 ?_
   |refine ag 0 ?_
   |refine aw.mk ⟨by decide,by decide,by decide,by decide⟩ ?_
   |(refine .cH (args':=[.agg (a7 eQ),.int .i64 1,.af jO tT]) 0 _ 0 20 2 _ jO tT rfl rfl ⟨rfl,rfl,by decide⟩ (cc (.refl _) (cc (.refl _) (cc .here qp))) ?_;refine .mk [] _ (Sw _) ?_;rintro _ _ ⟨⟨e,j,rfl⟩,rfl⟩)
   |(refine .cH (args':=[.agg (a7 eQ),.int .i64 1,.af jO tT]) 1 _ 0 20 2 _ jO tT rfl rfl ⟨rfl,rfl,by decide⟩ (cc (.refl _) (cc (.refl _) (cc .here qp))) ?_;refine .mk [] _ (Sw _) ?_;rintro _ _ ⟨⟨e,j,rfl⟩,rfl⟩)
   |intro b
 rintro⟨b,e,j⟩ g
 refine aa 0 ?_
 refine aa 0 ?_
 refine aa 0 ?_
 refine aw.mk rfl ?_
 refine aX.mk ([1]:List Int) (by decide) rfl ?_
 refine aw.mk rfl ?_
 refine aX.mk (1:Int) (by decide) rfl ?_
 exact .drop 0 3 (.done ⟨rfl,rfl⟩)
def xA(s:Sy)(l:Lay)(k:Nat)(x:iQ WA):List AV:=RU (ic l x.a.ws (nN s)) (lQ l x.a.ws (nN s)) (wr (bV x.a.ws (da l))) (lJ x.a.W) (lB x.a.W) x.us (qw l x.a.ws k) (rp l x.a.ws k) x.dn
theorem acB{s:Sy}{k:Int}(hf:Fit s)(he:cO s k=0):∃n:Nat,k=(n:Int)∧1≤n∧n≤64:=by
 obtain⟨hs,_⟩:=BL hf he
 have h1:=hs.k1
 have h2:=hs.k2
 rw[EL he]at h1 h2
 exact⟨k.toNat,by omega,by omega,by omega⟩
set_option maxHeartbeats 4000000
section
variable {s:Sy} {l:Lay} (hs:LS s l)
include hs
theorem Wz(ws:List Int):ic l ws (nN s)=BG s l ws:=by
 unfold ic BG ki
 refine Ar fun v hv=>Ar fun i hi=>?_
 rw[hs.Fv (gq.1 hv) (gq.1 hi),ov]
end
theorem XN{α:Type}{f:Nat→α}{n i:Nat}(h:i<n):((List.range n).map f)[i]?=some (f i):=by
 rw[fm,wR h];rfl
section
variable {s:Sy} {l:Lay} {hs:LS s l}
end
theorem acf(s:Sy)(ay:List (Int×Int×Unit))(σ:Hp):ACalls Tryz.prog 12 [.agg (a7 s),.af jO ay] σ (JU (Jp s∧ay.length≤400) σ):=by
 refine au Tryz.func12 ?_
 intro aB
 refine aa 0 ?_
 refine Sn [] (YP s _) (fun oc=>?_) ?_
 ·refine aj (fun c1=>?_) (fun c1=>?_)
  ·have c1:(↑ay.length:Int)≤400:=c1
   exact .drop 0 1 (.done ⟨true,rfl,rfl,fun _=>⟨oc,by omega⟩⟩)
  ·exact .drop 0 1 (.done ⟨false,rfl,rfl,fun h=>by cases h⟩)
 ·exact .drop 0 1 (.done ⟨false,rfl,rfl,fun h=>by cases h⟩)
set_option maxHeartbeats 4000000
theorem YT(s:Sy)(l:Lay)(m q lw n:Nat)(L:List Nat)(R:List (Nat×WS))(W:List WS)(ws:List Int)(σ:Hp)(hW:R.map (·.2)=W)(hL:L.length=n)(hZ:W.length=n)(hn:n≤64):
  ACalls Tryz.prog 17 [.ah lw 0 n 1] ((lw,L.map pW)::bu m q ws (jd s l (bA L) R++σ)) (aD (.tup [.int .i64 (lJ W),.int .i64 (lB W)]) ((lw,L.map pW)::bu m q ws (jd s l (bA L) R++σ))):=by
 have hZl:R.length=n:=by rw[← hZ,← hW,cm]
 refine au Tryz.func17 ?_
 refine bh (S:=Nat) (fun i=>[(4,.int .i64 (lJ (W.take i))),(5,.int .i64 (lB (W.take i))),(8,.ah lw 0 n 1),(9,.int .i64 n),(10,.int .i64 i)]) (fun _=>(lw,L.map pW)::bu m q ws (jd s l (bA L) R++σ)) (fun i=>i≤n) (fun i=>n-i) 0 ⟨aY _,⟨rfl,rfl,rfl,rfl,rfl,trivial⟩,by rfl⟩ ?_
 intro i g dc
 have hi:i≤n:=dc
 clear dc
 refine aj (p:=(i:Int)<(n:Int)) (fun ab=>?_) (fun aq=>?_)
 rotate_left
 ·have aq:i=n:=by omega
  have e:W.take i=W:=dN (by omega)
  rw[e]
  exact .done ⟨rfl,rfl⟩
 have ab:i<n:=by omega
 have hg:(L.map pW)[0+((i:Int)).toNat*1]?=some (.ptr L[i] 0):=by
  rw[bR,dB,dU,fm,bN (by omega)];rfl
 have hw:=P9 (s:=s) (l:=l) (I:=bA L) (R:=R) (i:=i) (by rw[sk];omega) (by omega)
 have hI:(bA L)[i]'(by rw[sk];omega)=(i,L[i]):=by simp[bA]
 have hx:R[i].2=W[i]:=by
  have:(R.map (·.2))[i]'(by rw[cm];omega)=R[i].2:=GM ..
  rw[← this];congr 1
 rw[hI,hx]at hw
 have CZ:=PF (W:=W) (i:=i) (by omega)
 have CW:=Pv (W:=W) (i:=i) (by omega)
 generalize W[i]=x at hw CZ CW
 have hp:((lw,L.map pW)::bu m q ws (jd s l (bA L) R++σ)).Perm ((lw,L.map pW)::(L[i],eg s l i x.ae x.node x.has x.nx x.out (KJ R[i].1 x.now) (KH R[i].1 x.now) (KI R[i].1 x.now) (CB x.now) x.ev x.jo x.en)::(KK R[i].1 x.now++(bu m q ws ((((bA L).zip R).eraseIdx i).flatMap (wg s l)++σ)))):=by
  refine (List.Perm.append_left [_,_,_] (List.Perm.append_right σ hw)).trans ?_
  have h:=hG [[(lw,L.map pW)],bu m q ws [],[(L[i],eg s l i x.ae x.node x.has x.nx x.out (KJ R[i].1 x.now) (KH R[i].1 x.now) (KI R[i].1 x.now) (CB x.now) x.ev x.jo x.en)],KK R[i].1 x.now,(((bA L).zip R).eraseIdx i).flatMap (wg s l)] σ (a:=[0,1,2,3,4]) (b:=[0,2,3,1,4]) (by decide)
  unfold RB
  rw[go2,dh]
  exact h
 obtain⟨j,hj⟩:=yn (hp.mem_iff.2 (dy _ (cF ..)))
 refine aQ ?_
 refine aW 0 rfl (gy rfl hg) ?_
 refine aW j hj rfl ?_
 refine aW j hj rfl ?_
 exact aM (i+1) (by show n-(i+1)<n-i;omega) ab ⟨congrArg (AV.int .i64) CZ,congrArg (AV.int .i64) CW,rfl,rfl,aL (by omega),trivial⟩ (.refl _)
theorem Ym{R:AV→Hp→Prop}(fr:Hp){acc σ:Hp}{s:Sh}{k:Nat}{v y:AV}{cs:List AV}{l:List s.T}(h:Acc s.size k v acc cs)(hl:k=l.length)(hc:cs=l.flatMap s.cells)(hp:0<s.size)(go:Fin R (.tup [y,.af s l]) (fr++σ)):Fin R (.tup [y,v]) (fr++(acc++σ)):=by
 subst hl
 have hlen:=h.length
 refine .perm (ez fr acc σ) ?_
 generalize hk:l.length=k at h
 cases h with
 |nil=>
  obtain rfl:=jm.1 hk
  exact .nil (cc (.refl _) (cc (.nil _) (.refl _))) go
 |ah b k cs h=>
  subst hk
  exact .cH 0 b 0 l.length s.size cs s l rfl (by rw[fG,dN (by omega)];exact hc) ⟨rfl,rfl,hp⟩ (cc (.refl _) (cc .here (.refl _))) go
theorem VU(l:Lay)(ws:List Int)(i:Nat):(qw l ws (i+1)).map (AV.int .i64)=(qw l ws i).map (AV.int .i64)++[.int .i64 (wr (bV ws (dY l i)))]:=yH (fun v:Nat=>wr (bV ws (dY l v))) (AV.int .i64) i
theorem WU(l:Lay)(ws:List Int)(i:Nat):(rp l ws (i+1)).map (AV.int .i64)=(rp l ws i).map (AV.int .i64)++[.int .i64 (wr (bV ws (bY (dY l i))))]:=yH (fun v:Nat=>wr (bV ws (bY (dY l v)))) (AV.int .i64) i
theorem YZ(l:Lay)(m q k:Nat)(ws:List Int)(σ:Hp)(hk:l.k=k)(cY:k≤64):
  ACalls Tryz.prog 18 [.ptr m 0,.agg (cU l)] (bu m q ws σ) (aD (.tup [.af (.int .i64) (qw l ws k),.af (.int .i64) (rp l ws k)]) (bu m q ws σ)):=by
 refine au Tryz.func18 ?_
 intro aB
 refine .wrap 6 .ak rfl rfl ?_
 refine .wrap 7 .ak rfl rfl ?_
 refine bh (S:=Nat×(AV×Hp)×(AV×Hp)) (fun t=>[(0,.ptr m 0),(3,.ptr aB 0),(6,.via t.2.1.1),(7,.via t.2.2.1),(8,.int .i64 t.1)]) (fun t=>(aB,cU l)::bu m q ws (t.2.1.2++(t.2.2.2++σ))) (fun t=>t.1≤k∧Acc 1 t.1 t.2.1.1 t.2.1.2 ((qw l ws t.1).map (AV.int .i64))∧Acc 1 t.1 t.2.2.1 t.2.2.2 ((rp l ws t.1).map (AV.int .i64))) (fun t=>k-t.1) (0,(.ak,[]),(.ak,[])) ⟨⟨aY _,.nil,.nil⟩,⟨rfl,rfl,rfl,rfl,rfl,trivial⟩,rfl⟩ ?_
 rintro⟨i,⟨v1,aes⟩,⟨v2,Ky⟩⟩ g ⟨dc,rX,rW⟩
 have hi:i≤k:=dc
 have h1:Acc 1 i v1 aes ((qw l ws i).map (AV.int .i64)):=rX
 have h2:Acc 1 i v2 Ky ((rp l ws i).map (AV.int .i64)):=rW
 clear dc rX rW
 refine aa 0 ?_
 refine aj (p:=(i:Int)<l.k) (fun ab=>?_) (fun aq=>?_)
 rotate_left
 ·have aq:i=k:=by omega
  subst aq
  have e1:(qw l ws i).length=i:=by unfold qw;rw[cm,kx]
  have e2:(rp l ws i).length=i:=by unfold rp;rw[cm,kx]
  exact Yn [(aB,cU l),(m,[AV.ah q 0 ws.length 1]),(q,aP ws)] (s:=.int .i64) h1 e1.symm (As ..) Ai (Ym [(aB,cU l),(m,[AV.ah q 0 ws.length 1]),(q,aP ws)] (s:=.int .i64) h2 e2.symm (As ..) Ai (.drop 0 1 (.done ⟨rfl,rfl⟩)))
 have ab:i<k:=by omega
 refine aa 0 ?_
 refine ar [] (Be l i _) ?_
 refine ar [2,2] (oK m q ws _ _) ?_
 intro aB
 refine eU [_,(m,[AV.ah q 0 ws.length 1]),(q,aP ws),_] h1 (.ah 0 aB 0 1 _ rfl (cp rfl)) rfl (by omega) (by decide) (by decide) (fun xU Ss Ah=>?_)
 refine aa 3 ?_
 refine ar [] (Be l i _) ?_
 refine ar [2,2] (oK m q ws _ _) ?_
 intro cE
 refine UH [_,(m,[AV.ah q 0 ws.length 1]),(q,aP ws),_,_] Ss h2 (.ah 0 cE 0 1 _ rfl (cp rfl)) rfl (by omega) (by decide) (by decide) (fun pN ad2 p9=>?_)
 exact aM (i+1,(xU,Ss),(pN,ad2)) (by show k-(i+1)<k-i;omega) ⟨ab,zJ (VU l ws i) Ah,zJ (WU l ws i) p9⟩ ⟨rfl,rfl,rfl,rfl,aL (by omega),trivial⟩ (.drop 0 1 (.drop 2 1 (.pull [2] (.refl _))))
structure AtF(s:Sy)(k:Nat)(l:Lay)(x:iQ WA):Prop where
 ok:jP s l
 lk:l.k=(k:Int)
 lay:gH s k=l
 free:sD s l x.a
 dl:x.dn.length=k
 wl:x.a.W.length=k
theorem aeD(s:Sy)(k:Nat)(ay:List (Int×Int×Unit))(σ:Hp)(hf:Fit s)(he:cO s k=0)(kN:ay.length≤100000):ACalls Tryz.prog 14 [.agg (a7 s),.int .i64 k,.af jO ay] σ (fun r σ'=>∃(l:Lay) (_:LS s l),AtF s k l (a8 s l ay)∧r=.tup [.agg (xA s l k (a8 s l ay)),.int .i64 0]∧σ'=σ):=by
 obtain⟨hs,Dd⟩:=BL hf he
 obtain⟨l,hl⟩:∃l,gH s k=l:=⟨_,rfl⟩
 have hk:l.k=k:=by rw[← hl];exact EL he
 rw[hl]at hs
 have cY:=hs.k2
 have CQ:=hs.nn
 have hn:=hs.n
 obtain⟨qS,o7⟩:=Qa s l ay
 have e:l.k.toNat=k:=by omega
 rw[e]at qS o7
 refine (adk s k l hl ay σ hf he kN (by omega) (by omega) (by omega) (by omega) o7).mono ?_
 rintro _ _ ⟨rfl,rfl,cM⟩
 exact⟨l,hs,⟨cM,hk,hl,(QT hs cM ay).free,qS,o7⟩,rfl,rfl⟩
theorem Pp{p:Prop}[Decidable p](hp:p)(c:(!decide p)=true):False:=by
 rw[bj hp]at c;cases c
theorem Ts(s:Sy)(w:Int)(ay:List (Int×Int×Unit))(hi:bX s.init)(ht:∀t∈s.T,bX t.1∧bX t.2.1):ACalls Tryz.prog 3 [.agg (a7 s),.int .i64 w,.af jO ay] [] (fun r _=>r=.bool true):=by
 refine au Tryz.func3 ?_
 intro b3
 refine ar [] (Zg _) ?_
 refine aa 0 ?_
 refine Sn [] (acf s ay _) (fun ae7=>?_) ?_
 rotate_left
 ·exact .done rfl
 obtain⟨oc,hlen⟩:=ae7
 have hf:=abF oc hi ht
 have kN:ay.length≤100000:=by omega
 obtain⟨k',eO⟩:∃x,x=(if 5<w then 5 else w):=⟨_,rfl⟩
 refine aa 0 ?_
 have hO:=fun σ=>ac4 s k' σ hf
 rw[eO]at hO
 by_cases he:cO s k'=0
 rotate_left
 ·have hA:=fun σ=>aav s k' ay σ hf he
  have hB:=fun σ=>aco s k' ay σ hf he
  rw[eO]at hA hB he
  refine ar [] (hA _) ?_
  intro aB
  refine ag 0 ?_
  refine aa 1 ?_
  refine ar [] (hB _) ?_
  intro aB
  refine ag 0 ?_
  refine aa 2 ?_
  refine ar [] (hO _) ?_
  intro aB
  refine ag 0 ?_
  refine cQ (fun c2=>?_) (fun c2=>?_)
  ·have c2:¬(cO s (if 5<w then 5 else w)=0):=by simpa using c2
   refine aj (fun c3=>?_) (fun c3=>?_)
   ·refine aj (fun c4=>?_) (fun c4=>?_)
    ·refine aa 2 ?_
     refine aa 2 ?_
     refine aa 2 ?_
     refine aa 1 ?_
     refine aa 1 ?_
     refine aa 1 ?_
     exact .done rfl
    ·have c4:¬(cO s (if 5<w then 5 else w)=cO s (if 5<w then 5 else w)):=c4
     exact absurd rfl c4
   ·have c3:¬(cO s (if 5<w then 5 else w)=cO s (if 5<w then 5 else w)):=c3
    exact absurd rfl c3
  ·have c2:cO s (if 5<w then 5 else w)=0:=by simpa using c2
   refine aa 3 ?_
   refine aa 0 ?_
   exact absurd c2 he
 obtain⟨n,hn,qP,mG⟩:=acB hf he
 obtain⟨l,hl⟩:∃l,gH s n=l:=⟨_,rfl⟩
 have Gz:cO s (if 5<w then 5 else w)=0:=by rw[← eO];exact he
 have hlc:vS s (if 5<w then 5 else w)=cU l:=by rw[← eO,hn,← hl];rfl
 have hO':∀σ,ACalls Tryz.prog 15 [.agg (a7 s),.int .i64 (if 5<w then 5 else w)] σ (aD (.tup [.agg (cU l),.int .i64 0]) σ):=fun σ=>qj (hO σ) (by rw[hlc,Gz])
 have hA:=fun σ=>JO s n l hl ay σ hf (hn▸he) kN
 have hB:=fun σ=>aeD s n ay σ hf (hn▸he) kN
 rw[← hn,eO]at hA hB
 refine .mk [] _ (hA _) ?_
 rintro r _ ⟨fq,rfl,cM⟩
 obtain⟨fv,fe,fj,fu,ee,rfl,hF⟩:∃(fv:AV) (fe fj fu ee:Int),r=.tup [.agg [fv,.int .i64 fe,.int .i64 fj,.int .i64 fu],.int .i64 ee]∧(((a8 s l ay).dn.all id=true∧fv=.af (.slice (.int .u64)) (ic l (a8 s l ay).a.ws (nN s))∧fe=lJ (a8 s l ay).a.W∧fj=lB (a8 s l ay).a.W∧fu=(a8 s l ay).us∧ee=0)∨((a8 s l ay).dn.all id=false∧fv=.ak∧fe=0∧fj=0∧fu=0∧ee=11)):=by
  rcases fq with ⟨bQ,rfl⟩ | ⟨bQ,rfl⟩
  ·exact⟨_,_,_,_,_,rfl,.inl ⟨bQ,rfl,rfl,rfl,rfl,rfl⟩⟩
  ·exact⟨_,_,_,_,_,rfl,.inr ⟨bQ,rfl,rfl,rfl,rfl,rfl⟩⟩
 intro bf
 refine ag 0 ?_
 refine aa 1 ?_
 refine .mk [] _ (hB _) ?_
 rintro _ _ ⟨l',hs,hX,rfl,rfl⟩
 obtain rfl:l'=l:=hX.lay.symm.trans hl
 intro bv
 refine ag 0 ?_
 refine aa 2 ?_
 refine ar [] (hO' _) ?_
 have cY:=hs.k2
 have zZ:=hX.lk
 intro bl
 refine ag 0 ?_
 refine aa 3 ?_
 refine aa 0 ?_
 obtain⟨V,hV⟩:∃V,V=xA s l' n (a8 s l' ay):=⟨_,rfl⟩
 refine .perm _ (.refl _) (aaB s l' n ay _ hs hX.ok zZ (by omega) kN) ?_
 rintro _ _ ⟨m,q,lb,L,R,rfl,hL,hR,rfl⟩
 have hXl:=hX.wl
 refine⟨(bl,cU l')::(bv,xA s l' n (a8 s l' ay))::(bf,[fv,.int .i64 fe,.int .i64 fj,.int .i64 fu])::(b3,a7 s)::(lb,L.map pW)::bu m q (a8 s l' ay).a.ws (jd s l' (bA L) R++[]),hG [[(lb,L.map pW)],bu m q (a8 s l' ay).a.ws [],jd s l' (bA L) R,[(bl,cU l')],[(bv,xA s l' n (a8 s l' ay))],[(bf,[fv,.int .i64 fe,.int .i64 fj,.int .i64 fu])],[(b3,a7 s)]] [] (a:=[3,4,5,6,0,1,2]) (b:=[0,1,2,3,4,5,6]) (by decide),?_⟩
 generalize a8 s l' ay=x at hX hR hXl hF ⊢
 have mI:=hG [[(lb,L.map pW)],bu m q x.a.ws [],jd s l' (bA L) R,[(bl,cU l')],[(bv,xA s l' n x)],[(bf,[fv,.int .i64 fe,.int .i64 fj,.int .i64 fu])],[(b3,a7 s)]] [] (a:=[0,1,2,3,4,5,6]) (b:=[3,4,5,6,0,1,2]) (by decide)
 refine .perm _ mI (YT s l' m q lb n L R x.a.W x.a.ws _ hR hL hXl mG) ?_
 rintro _ _ ⟨rfl,rfl⟩
 refine⟨_,mI.symm,?_⟩
 refine aa 0 ?_
 refine ar [6,6] (YZ l' m q n x.a.ws _ zZ mG) ?_
 have yc:ic l' x.a.ws (nN s)=BG s l' x.a.ws:=Wz hs _
 have SL:J4 (ic l' x.a.ws (nN s)):=by rw[yc];exact (UT hs hX.free.fl.2).ok hs.kO
 have CQ:=hs.nn
 have CS:=hs.n
 refine .quiet (by kernel_rfl) ?_
 refine aa 3 ?_
 refine aa 2 ?_
 refine aK [] (aaK m q (nN s) l' x.a.ws _ (by omega) (by omega)) ?_
 refine aK [] (qj (PQ _ _ _ SL) (by rw[bj rfl])) ?_
 refine aa 3 ?_
 refine aa 0 ?_
 refine aa 2 ?_
 refine aa 2 ?_
 refine aa 2 ?_
 have e1:l'.n=(nN s:Int):=CS.trans CQ.1
 have e2:l'.words=(nW l':Int):=hs.ww.1
 have zT:=hs.ww.2
 have hmul:nN s*nW l'≤256*1024:=qa CQ.2.2 zT
 have sK:nN s*nW l'+nN s<x.a.ws.length:=by rw[hX.free.fl.1];exact hs.low
 have Sc:IntKind.i64.wrap (l'.n*l'.words)=((nN s*nW l':Nat):Int):=by
  rw[e1,e2,← Dr];exact Jx (by omega)
 have l5:IntKind.i64.wrap (IntKind.i64.wrap (l'.n*l'.words)+l'.n)=((nN s*nW l'+nN s:Nat):Int):=by
  rw[Sc,e1,← r7];exact Jx (by omega)
 refine aQ ?_
 refine aW 1 rfl (zo sK l5) ?_
 have xN:wr (bV x.a.ws (da l'))=IntKind.i64.wrap (wd x.a.ws (nN s*nW l'+nN s)):=by
  rw[hs.count,ov,BT]
 have wo:(qw l' x.a.ws n).length=n:=by unfold qw;rw[cm,kx]
 have pZ:(rp l' x.a.ws n).length=n:=by unfold rp;rw[cm,kx]
 have qL:(lQ l' x.a.ws (nN s)).length=nN s:=by unfold lQ;rw[cm,kx]
 refine cQ (fun c=>absurd xN (by simpa using c)) (fun _=>?_)
 refine aa 3 ?_
 refine cQ (fun c=>by simp at c) (fun _=>?_)
 refine aa 3 ?_
 refine cQ (fun c=>by simp at c) (fun _=>?_)
 refine aa 3 ?_
 refine cQ (fun c=>by simp at c) (fun _=>?_)
 refine aa 3 ?_
 refine aK [] (qj (RJ _ _ _ (by omega)) (by rw[bj rfl])) ?_
 refine aa 3 ?_
 refine aK [] (qj (RJ _ _ _ (by omega)) (by rw[bj rfl])) ?_
 have mH:(x.dn.length:Int)=(if 5<w then 5 else w):=by rw[hX.dl,← eO,hn]
 have hwn:((lQ l' x.a.ws (nN s)).length:Int)=s.n:=by rw[qL];exact CQ.1.symm
 refine aa 3 ?_
 refine cQ (fun c=>(Pp mH c).elim) (fun _=>?_)
 refine aa 3 ?_
 refine aa 5 ?_
 refine cQ (fun c=>(Pp hwn c).elim) (fun _=>?_)
 obtain⟨HH,Dg⟩:∃HH:Hp,HH=(m,[AV.ah q 0 x.a.ws.length 1])::(q,aP x.a.ws)::(bl,cU l')::(bv,xA s l' n x)::(bf,[fv,.int .i64 fe,.int .i64 fj,.int .i64 fu])::(b3,a7 s)::(lb,L.map pW)::(jd s l' (bA L) R++[]):=⟨_,rfl⟩
 refine bh (S:=Nat) (fun i=>[(7,.ptr bf 0),(8,.int .i64 ee),(9,.ptr bv 0),(11,.ptr bl 0),(13,.ptr m 0),(15,.af .bool x.dn),(16,.int .i64 x.us),(17,.int .i64 (lJ x.a.W)),(18,.int .i64 (lB x.a.W)),(184,.int .i64 x.dn.length),(185,.int .i64 i)]) (fun _=>HH) (fun i=>i≤x.dn.length) (fun i=>x.dn.length-i) 0 ⟨aY _,⟨rfl,rfl,rfl,rfl,rfl,rfl,rfl,rfl,rfl,rfl,rfl,trivial⟩,Dg.symm⟩ ?_
 intro i g dc
 have Gx:i≤x.dn.length:=dc
 clear dc
 subst Dg
 have dI:=hX.dl
 refine aj (p:=(i:Int)<(x.dn.length:Int)) (fun ab=>?_) (fun aq=>?_)
 ·have ab:i<x.dn.length:=by omega
  obtain⟨d,hd⟩:∃d,x.dn[i]=d:=⟨_,rfl⟩
  refine .quiet (by kernel_rfl) ?_
  refine aa 3 ?_
  refine aw.mk rfl ?_
  refine aX.mk d (by omega) ((get_some ab).trans (congrArg some hd)) ?_
  refine aw.mk rfl ?_
  refine aX.mk d (by omega) ((get_some ab).trans (congrArg some hd)) ?_
  have sV:∀b:Bool,(b == b)=true:=fun b=>by cases b <;> rfl
  cases d with
  |true=>
   exact aM (i+1) (by show x.dn.length-(i+1)<x.dn.length-i;omega) ab ⟨rfl,rfl,rfl,rfl,rfl,rfl,rfl,rfl,rfl,rfl,aL (by omega),trivial⟩ (.refl _)
  |false=>
   exact aM (i+1) (by show x.dn.length-(i+1)<x.dn.length-i;omega) ab ⟨rfl,rfl,rfl,rfl,rfl,rfl,rfl,rfl,rfl,rfl,aL (by omega),trivial⟩ (.refl _)
 refine aa 3 ?_
 have hnn2:nN s≤100000:=by omega
 obtain⟨HH,Dg⟩:∃HH:Hp,HH=(m,[AV.ah q 0 x.a.ws.length 1])::(q,aP x.a.ws)::(bl,cU l')::(bv,xA s l' n x)::(bf,[fv,.int .i64 fe,.int .i64 fj,.int .i64 fu])::(b3,a7 s)::(lb,L.map pW)::(jd s l' (bA L) R++[]):=⟨_,rfl⟩
 refine bh (S:=Nat) (fun v=>[(7,.ptr bf 0),(8,.int .i64 ee),(9,.ptr bv 0),(11,.ptr bl 0),(13,.ptr m 0),(15,.af .bool x.dn),(16,.int .i64 x.us),(17,.int .i64 (lJ x.a.W)),(18,.int .i64 (lB x.a.W)),(200,.af .bool (lQ l' x.a.ws (nN s))),(201,.int .i64 (lQ l' x.a.ws (nN s)).length),(202,.int .i64 v)]) (fun _=>HH) (fun v=>v≤(lQ l' x.a.ws (nN s)).length) (fun v=>(lQ l' x.a.ws (nN s)).length-v) 0 ⟨aY _,⟨rfl,rfl,rfl,rfl,rfl,rfl,rfl,rfl,rfl,rfl,rfl,rfl,trivial⟩,Dg.symm⟩ ?_
 intro v g' ma
 have hv1:v≤(lQ l' x.a.ws (nN s)).length:=ma
 clear ma
 subst Dg
 refine aj (p:=(v:Int)<((lQ l' x.a.ws (nN s)).length:Int)) (fun ab=>?_) (fun aq=>?_)
 ·have ab:v<(lQ l' x.a.ws (nN s)).length:=by omega
  have db:v<nN s:=by omega
  refine aw.mk rfl ?_
  have hb:decide (bV x.a.ws (wr (de l'+(v:Nat)))=1)=decide (wd x.a.ws (nN s*nW l'+v)=1):=by rw[hs.BU db,ov,BT]
  obtain⟨d,hd⟩:∃d,d=decide (wd x.a.ws (nN s*nW l'+v)=1):=⟨_,rfl⟩
  have hvx:IntKind.i64.wrap (IntKind.i64.wrap (l'.n*l'.words)+(v:Nat))=((nN s*nW l'+v:Nat):Int):=by
   rw[Sc,← r7];exact Jx (by omega)
  have uA:nN s*nW l'+v<x.a.ws.length:=by omega
  refine aX.mk d (by omega) ((XN db).trans (congrArg some (hb.trans hd.symm))) ?_
  refine .quiet (by kernel_rfl) ?_
  refine aa 0 ?_
  refine aa 2 ?_
  refine aa 2 ?_
  refine aQ ?_
  refine aW 1 rfl (zo uA hvx) ?_
  cases d with
  |true=>
   refine aj (fun c1=>?_) (fun c1=>?_)
   ·have c1:wd x.a.ws (nN s*nW l'+v)=1:=c1
    exact aM (v+1) (by show (lQ l' x.a.ws (nN s)).length-(v+1)<(lQ l' x.a.ws (nN s)).length-v;omega) ab ⟨rfl,rfl,rfl,rfl,rfl,rfl,rfl,rfl,rfl,rfl,rfl,aL (by omega),trivial⟩ (.refl _)
   ·have c1:¬(wd x.a.ws (nN s*nW l'+v)=1):=c1
    exact absurd (fk hd.symm) c1
  |false=>
   refine aj (fun c1=>?_) (fun c1=>?_)
   ·have c1:wd x.a.ws (nN s*nW l'+v)=1:=c1
    exact absurd c1 (pc hd.symm)
   ·have c1:¬(wd x.a.ws (nN s*nW l'+v)=1):=c1
    exact aM (v+1) (by show (lQ l' x.a.ws (nN s)).length-(v+1)<(lQ l' x.a.ws (nN s)).length-v;omega) ab ⟨rfl,rfl,rfl,rfl,rfl,rfl,rfl,rfl,rfl,rfl,rfl,aL (by omega),trivial⟩ (.refl _)
 refine ar [] (adm x.dn _ (by omega)) ?_
 rcases hF with ⟨bQ,rfl,rfl,rfl,rfl,rfl⟩ | ⟨bQ,rfl,rfl,rfl,rfl,rfl⟩
 ·rw[bQ]
  refine aa 4 ?_
  refine aa 3 ?_
  refine ar [] (qj (PQ _ _ _ SL) (by rw[bj rfl])) ?_
  refine aa 4 ?_
  refine aj (fun c1=>?_) (fun c1=>?_)
  ·refine aa 4 ?_
   refine aj (fun c2=>?_) (fun c2=>?_)
   ·refine aa 4 ?_
    refine aj (fun c3=>?_) (fun c3=>?_)
    ·exact .done rfl
    ·have c3:¬((↑x.us:Int)=(↑x.us:Int)):=c3
     exact absurd rfl c3
   ·have c2:¬(lB x.a.W=lB x.a.W):=c2
    exact absurd rfl c2
  ·have c1:¬(lJ x.a.W=lJ x.a.W):=c1
   exact absurd rfl c1
 ·rw[bQ]
  refine aa 4 ?_
  refine aa 4 ?_
  refine aa 4 ?_
  refine aa 4 ?_
  exact .done rfl
end Go.Proofs.YtnikdflhefijbaaGreat
namespace Go.Proofs.YtnikdflhefijbaaGreat
open Go.ChangeShapes Go.WideShapes Go.ChangeAt Go.RowKit
theorem gA{a b:Bool}(ha:a=true)(hb:b=true):(a&&b)=true:=by rw[ha,hb];rfl
theorem Hc:laidOutB Tryz.prog=true:=by kernel_rfl
theorem fk3:mapsRowed Tryz.prog=true:=by kernel_rfl
theorem fk7:(Tryz.prog.stops == [])=true:=by kernel_rfl
theorem fk9:(Tryz.prog.stopKnobs == [])=true:=by kernel_rfl
theorem aep:(Rows.solveRunsRow.plainKeys == Tryz.prog.plainKeys)=true:=by kernel_rfl
theorem aeo:Tryz.prog.stopsHeard=true:=by kernel_rfl
theorem aen:Tryz.prog.mayEnter=true:=by kernel_rfl
theorem aem:(Rows.solveRunsRow.lifted == Tryz.prog.liftsFinal)=true:=by kernel_rfl
theorem ael:(Tryz.prog.make == some Rows.solveRunsRow.make)=true:=by kernel_rfl
theorem aej:ownKnob Tryz.prog.godebug=none:=by kernel_rfl
theorem va{F:Nat→Prop}{w:World}{x:AV}{xs:List AV}{v:Value}{vs:List Value}(h:aF F w x v)(t:ja F w xs vs.toArray):ja F w (x::xs) (v::vs).toArray:=by
 refine⟨by have:=t.1;simp at this ⊢;exact this,fun i y hy=>?_⟩
 cases i with
 |zero=>simp at hy;subst hy;simpa [Array.getD]using h
 |succ i=>
  have:=t.2 i y (by simpa using hy)
  rw[jG]at this ⊢
  simpa using this
theorem vn{F:Nat→Prop}{w:World}:ja F w [] ([]:List Value).toArray:=⟨rfl,fun i y hy=>by simp at hy⟩
theorem vi{F:Nat→Prop}{w:World}{k:IntKind}{n:Int}:aF F w (.int k n) (.int k n):=.int k n
theorem vl{w:World}{e:Sh}{a:Option Addr}{n c:Nat}{l:List e.T}(hp:(Sh.slice e).pos=true)(h:Reads w (.slice e) (Value.slice a n c).cells.toList l):aF (fun b=>b<w.heap.size) w (.af e l) (.slice a n c):=
 .af e l _ (Ow (.slice e) _ l hp h)
theorem vg{w:World}{s:Sh}{cs:Array Value}{d:s.T}(hp:s.pos=true)(h:Reads w s (Value.agg cs).cells.toList d):aF (fun b=>b<w.heap.size) w (.agg (s.cells d)) (.agg cs):=by
 obtain⟨h1,h2⟩:=kG.cells s _ d (Ow s _ d hp h)
 refine .agg _ _ (by rw[h1];rfl) (fun i x hx=>(h2 i x hx).1) (fun i x hx=>?_)
 have:=(h2 i x hx).2
 rw[bO,Av,← jG]at this
 exact this
theorem Nn{w:World}{e:Sh}{cs:List Value}{l:List e.T}(h:Reads w (.slice e) cs l):∀x∈l,∃cs',Reads w e cs' x:=by
 obtain⟨a,c,_,_,_,_,h3⟩:=h
 intro x hx
 obtain⟨i,hi,rfl⟩:=Au.1 hx
 obtain⟨b,o,_,h4⟩:=h3 (List.ne_nil_of_mem hx)
 obtain⟨cs',_,_,h5⟩:=h4 i hi
 exact⟨cs',h5⟩
theorem HQ{w:World}{cs:List Value}{l:List Int}(h:Reads w (.slice (.int .u64)) cs l):∀z∈l,0≤z∧z<18446744073709551616:=fun z hz=>by
 obtain⟨cs',h1,h2⟩:=Nn h z hz
 exact wf_u64 h2
theorem Uh{w:World}{e:Sh}{cs:List Value}{x:List Int×List Int×e.T×Unit}(h:Reads w (.field (.slice (.int .u64)) (.field (.slice (.int .u64)) (.field e .nil))) cs x):(∀z∈x.1,0≤z∧z<18446744073709551616)∧(∀z∈x.2.1,0≤z∧z<18446744073709551616):=by
 obtain⟨c1,c2,_,_,h1,d1,d2,_,_,h2,_⟩:=h
 exact⟨HQ h1,HQ h2⟩
theorem N1{w:World}{c1 e1:Sh}{cs:List Value}{x:Int×Int×Int×c1.slice.T×List Int×List Int×List (List Int×List Int×e1.T×Unit)×Unit}(h:Reads w (.field (.int .i64) (.field (.int .i64) (.field (.int .i64) (.field (.slice c1) (.field (.slice (.int .i64)) (.field (.slice (.int .u64)) (.field (.slice (.field (.slice (.int .u64)) (.field (.slice (.int .u64)) (.field e1 .nil)))) .nil))))))) cs x):(∀z∈x.2.2.2.2.2.1,0≤z∧z<18446744073709551616)∧∀t∈x.2.2.2.2.2.2.1,(∀z∈t.1,0≤z∧z<18446744073709551616)∧(∀z∈t.2.1,0≤z∧z<18446744073709551616):=by
 obtain⟨_,_,_,_,_,_,_,_,_,_,_,_,_,_,_,_,_,_,_,_,_,_,_,_,_,_,_,_,_,h6,_,_,_,_,h7,_⟩:=h
 refine⟨HQ h6,fun t ht=>?_⟩
 obtain⟨cs',h1⟩:=Nn h7 t ht
 exact Uh h1
end Go.Proofs.YtnikdflhefijbaaGreat
