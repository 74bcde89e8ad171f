import Derived.Test.YtnikdflhefijbaaGreatBn12
import Derived.Test.YtnikdflhefijbaaGreatBn26
import Derived.Test.YtnikdflhefijbaaGreatBn51
namespace Go.Proofs.YtnikdflhefijbaaGreat
open Go.RowKit
set_option maxRecDepth 100000
set_option maxHeartbeats 4000000
theorem afb(p q:Nat)(ws:List Int)(b c:Int)(σ:Hp):ACalls Tryz.prog 53 [.agg [.int .i64 b,.int .i64 c],ku p] (aZ p q ws σ) (aE (.int .i64 (wr (dx ws b))) (aZ p q ws σ)):=by
 refine ay Tryz.func53 ?_
 intro aD
 refine .sched [1] (upto [1] 7 0) (by kernel_rfl) ?_
 refine aH [] (du _ _ _) ?_
 refine aa 0 ?_
 refine⟨_,mLoad_,?_⟩
 refine az [2,2] (aLoad p q _ _ _) ?_
 exact .drop 2 1 (.done ⟨rfl,rfl⟩)
theorem abl(p q:Nat)(ws:List Int)(b c:Int)(σ:Hp):ACalls Tryz.prog 55 [.agg [.int .i64 b,.int .i64 c],ku p] (aZ p q ws σ) (aE (.int .i64 (wr (dx ws (fI b)))) (aZ p q ws σ)):=by
 refine ay Tryz.func55 ?_
 intro aD
 refine .sched [1,3] (upto [1,3] 10 0) (by kernel_rfl) ?_
 refine aH [] (du _ _ _) ?_
 refine aa 0 ?_
 refine aH [] (sW _ _ _) ?_
 refine eS.mk hLoad_ ?_
 refine⟨_,mLoad_,?_⟩
 refine az [2,2] (aLoad p q _ _ _) ?_
 exact .drop 2 1 (.done ⟨rfl,rfl⟩)
set_option maxHeartbeats 4000000
theorem Tu(s:Sy)(l:Lay)(p q lw n:Nat)(L:List Nat)(Z:List WZ)(W:List WS)(st:List Int)(dn:List Bool)(us:Int)(ws:List Int)(σ:Hp)(hW:Z.map (·.x)=W)(hL:L.length=n)(hZ:W.length=n)(hn:n≤64):
  ACalls Tryz.prog 44 [.agg (cP (.ptr p 0) l (.ae lw 0 n 1) (.af (.int .i64) st) (.af .bool dn) us)] ((lw,L.map pW)::aZ p q ws (cW s l (cc L) Z++σ)) (aE (.tup [.int .i64 (rH W),.int .i64 (ri W)]) ((lw,L.map pW)::aZ p q ws (cW s l (cc L) Z++σ))):=by
 have hZl:Z.length=n:=by rw[← hZ,← hW,cd]
 refine ay Tryz.func44 ?_
 intro b1
 refine aa 0 ?_
 refine bV (S:=Nat) (fun i=>[(4,.int .i64 (rH (W.take i))),(5,.int .i64 (ri (W.take i))),(9,.ae lw 0 n 1),(10,.int .i64 n),(11,.int .i64 i)]) (fun _=>(b1,cP (.ptr p 0) l (.ae lw 0 n 1) (.af (.int .i64) st) (.af .bool dn) us)::(lw,L.map pW)::aZ p q ws (cW s l (cc L) Z++σ)) (fun i=>i≤n) (fun i=>n-i) 0 ⟨bA _,⟨rfl,rfl,rfl,rfl,rfl,trivial⟩,rfl⟩ ?_
 intro i g fC
 have hi:i≤n:=fC
 clear fC
 refine an (p:=(i:Int)<(n:Int)) (fun ab=>?_) (fun ar=>?_)
 rotate_left
 ·have ar:i=n:=by omega
  have e:W.take i=W:=eI (by omega)
  rw[e]
  exact .drop 0 1 (.done ⟨rfl,rfl⟩)
 have ab:i<n:=by omega
 have hg:(L.map pW)[0+((i:Int)).toNat*1]?=some (.ptr L[i] 0):=by
  rw[bM,eH,eF,fo,bJ (by omega)];rfl
 refine ag.mk ⟨rfl,by omega,by omega⟩ ?_
 refine aT 1 rfl (je rfl hg) ?_
 have hw:=Ss (s:=s) (l:=l) (I:=cc L) (Z:=Z) (i:=i) (by rw[B9];omega) (by omega)
 have hI:(cc L)[i]'(by rw[B9];omega)=(i,L[i]):=by simp[cc]
 have hx:Z[i].x=W[i]:=by
  have:(Z.map (·.x))[i]'(by rw[cd];omega)=Z[i].x:=IZ ..
  rw[← this];congr 1
 rw[hI,hx]at hw
 have k9:=aaG (W:=W) (i:=i) (by omega)
 have mH:=aaq (W:=W) (i:=i) (by omega)
 generalize W[i]=x at hw k9 mH
 have hp:((b1,cP (.ptr p 0) l (.ae lw 0 n 1) (.af (.int .i64) st) (.af .bool dn) us)::(lw,L.map pW)::aZ p q ws (cW s l (cc L) Z++σ)).Perm ((L[i],dO s l i x.ev x.jo x.en x.does (Ih Z[i].r x.now) x.node x.has x.nx x.out)::(Ii l x.node Z[i].r Z[i].c Z[i].acc x.now++((b1,cP (.ptr p 0) l (.ae lw 0 n 1) (.af (.int .i64) st) (.af .bool dn) us)::(lw,L.map pW)::aZ p q ws ((((cc L).zip Z).eraseIdx i).flatMap (xc s l)++σ)))):=by
  refine (List.Perm.append_left [_,_,_,_] (List.Perm.append_right σ hw)).trans ?_
  have h:=ki [[(b1,cP (.ptr p 0) l (.ae lw 0 n 1) (.af (.int .i64) st) (.af .bool dn) us),(lw,L.map pW)],aZ p q ws [],[(L[i],dO s l i x.ev x.jo x.en x.does (Ih Z[i].r x.now) x.node x.has x.nx x.out)],Ii l x.node Z[i].r Z[i].c Z[i].acc x.now,(((cc L).zip Z).eraseIdx i).flatMap (xc s l)] σ (a:=[0,1,2,3,4]) (b:=[2,3,0,1,4]) (by decide)
  unfold WB
  rw[ED,dM]
  exact h
 refine .dJ (.perm hp.symm (.refl _)) ?_
 refine .quiet (by kernel_rfl) ?_
 refine aa 0 ?_
 refine aa 0 ?_
 exact a8 (i+1) (by show n-(i+1)<n-i;omega) ab ⟨congrArg (AV.int .i64) k9,congrArg (AV.int .i64) mH,rfl,rfl,aX (by omega),trivial⟩ (.perm hp (.refl _))
theorem Xg(bp p q v:Nat)(l:Lay)(wv st dn:AV)(us:Int)(ws:List Int)(τ:Hp):ACalls Tryz.prog 48 [.int .i64 v,.ptr bp 0] ((bp,cP (.ptr p 0) l wv st dn us)::aZ p q ws τ) (aE (.bool (decide (dx ws (wr (cO l+(v:Nat)))=1))) ((bp,cP (.ptr p 0) l wv st dn us)::aZ p q ws τ)):=by
 refine ay Tryz.func48 ?_
 refine .quiet (by kernel_rfl) ?_
 refine aa 0 ?_
 refine aH [] (zU l _) ?_
 refine aa 0 ?_
 refine aH [2,2] (oT (acO (cO l) (cF l) v p q ws _) (congrArg AV.bool (by rw[aV (show (0:Int)≤(v:Nat) by omega),tO]))) ?_
 exact .done ⟨rfl,rfl⟩
theorem Xd(bp p q v:Nat)(l:Lay)(wv st dn:AV)(us:Int)(ws:List Int)(τ:Hp):ACalls Tryz.prog 51 [.int .i64 v,.ptr bp 0] ((bp,cP (.ptr p 0) l wv st dn us)::aZ p q ws τ) (aE (.int .i64 (wr (dx ws (gh l v)))) ((bp,cP (.ptr p 0) l wv st dn us)::aZ p q ws τ)):=by
 refine ay Tryz.func51 ?_
 refine .quiet (by kernel_rfl) ?_
 refine aa 0 ?_
 refine aH [] (yc l v _) ?_
 refine aa 0 ?_
 refine aH [2,2] (afb p q ws _ _ _) ?_
 exact .done ⟨rfl,rfl⟩
theorem Xf(bp p q v:Nat)(l:Lay)(wv st dn:AV)(us:Int)(ws:List Int)(τ:Hp):ACalls Tryz.prog 54 [.int .i64 v,.ptr bp 0] ((bp,cP (.ptr p 0) l wv st dn us)::aZ p q ws τ) (aE (.int .i64 (wr (dx ws (fI (gh l v))))) ((bp,cP (.ptr p 0) l wv st dn us)::aZ p q ws τ)):=by
 refine ay Tryz.func54 ?_
 refine .quiet (by kernel_rfl) ?_
 refine aa 0 ?_
 refine aH [] (yc l v _) ?_
 refine aa 0 ?_
 refine aH [2,2] (abl p q ws _ _ _) ?_
 exact .done ⟨rfl,rfl⟩
abbrev yl(b9:List (List Int))(ev jo us:Int):List AV:=[.af (.slice (.int .u64)) b9,.int .i64 ev,.int .i64 jo,.int .i64 us]
def o8:List AV:=[.aj,.int .i64 0,.int .i64 0,.int .i64 0]
theorem Zv(s:Sy)(k:Nat)(l:Lay)(hl:gk s k=l)(aw:List (Int×Int×Unit))(σ:Hp)(hf:Fit s)(he:ck s k=0)(kU:aw.length≤100000)(dF:k≤64)(ee:(cb s l aw).dn.length=k)(hd:(cb s l aw).dn.all id=false):ACalls Tryz.prog 13 [.agg (bc s),.int .i64 k,.af kl aw] σ (fun r σ'=>r=.tup [.agg o8,.int .i64 11]∧σ'=σ∧iN s l):=by
 have hF:=fun σ=>Vc (.af (.int .i64) (cb s l aw).st) (cb s l aw).us (cb s l aw).dn σ (by omega)
 rw[hd]at hF
 refine ay Tryz.func13 ?_
 intro b3
 intro b6
 refine aa 1 ?_
 refine .perm _ (.refl _) (Kk s k l hl aw _ hf he kU) ?_
 rintro _ _ ⟨p,q,lw,L,Z,rfl,hL,hZ,rfl,bH⟩
 refine⟨_,ki [[(lw,L.map pW)],aZ p q (cb s l aw).a.ws [],cW s l (cc L) Z,[(b6,o8)],[(b3,bc s)]] σ (a:=[0,3,4,1,2]) (b:=[0,1,2,3,4]) (by decide),?_⟩
 generalize (cb s l aw)=x at hF hZ
 intro aD
 refine ak 0 ?_
 refine aa 0 ?_
 refine az [] (hF _) ?_
 refine ak 2 ?_
 refine aa 2 ?_
 exact .drop 0 6 (Ke (cW s l (cc L) Z) (.done ⟨rfl,rfl,bH⟩))
theorem aef(s:Sy)(k:Nat)(l:Lay)(hl:gk s k=l)(aw:List (Int×Int×Unit))(σ:Hp)(hf:Fit s)(he:ck s k=0)(kU:aw.length≤100000)(dF:k≤64)(hn:l.n=(nN s:Int))(oF:nN s≤100000)(ee:(cb s l aw).dn.length=k)(oJ:(cb s l aw).a.W.length=k)(hd:(cb s l aw).dn.all id=true):ACalls Tryz.prog 13 [.agg (bc s),.int .i64 k,.af kl aw] σ (fun r σ'=>r=.tup [.agg (yl (jg l (cb s l aw).a.ws (nN s)) (rH (cb s l aw).a.W) (ri (cb s l aw).a.W) (cb s l aw).us),.int .i64 0]∧σ'=σ∧iN s l):=by
 have hF:=fun σ=>Vc (.af (.int .i64) (cb s l aw).st) (cb s l aw).us (cb s l aw).dn σ (by omega)
 rw[hd]at hF
 refine ay Tryz.func13 ?_
 intro b3
 intro b6
 refine aa 1 ?_
 refine .perm _ (.refl _) (Kk s k l hl aw _ hf he kU) ?_
 rintro _ _ ⟨p,q,lw,L,Z,rfl,hL,hZ,rfl,bH⟩
 refine⟨_,ki [[(lw,L.map pW)],aZ p q (cb s l aw).a.ws [],cW s l (cc L) Z,[(b6,o8)],[(b3,bc s)]] σ (a:=[0,3,4,1,2]) (b:=[0,1,2,3,4]) (by decide),?_⟩
 generalize (cb s l aw)=x at hF hZ oJ ⊢
 intro aD
 refine ak 0 ?_
 refine aa 0 ?_
 refine az [] (hF _) ?_
 obtain⟨P,hP⟩:∃P,P=(aD,cP (.ptr p 0) l (.ae lw 0 k 1) (.af (.int .i64) x.st) (.af .bool x.dn) x.us):=⟨_,rfl⟩
 have q1:(aZ p q x.a.ws (P::(lw,L.map pW)::(b6,o8)::(b3,bc s)::(cW s l (cc L) Z++σ))).Perm (P::(lw,L.map pW)::(b6,o8)::(b3,bc s)::aZ p q x.a.ws (cW s l (cc L) Z++σ)):=ki [[P,(lw,L.map pW),(b6,o8),(b3,bc s)],aZ p q x.a.ws [],cW s l (cc L) Z] σ (a:=[1,0,2]) (b:=[0,1,2]) (by decide)
 have q2:∀Q,(aZ p q x.a.ws (Q::P::(lw,L.map pW)::(b6,o8)::(b3,bc s)::(cW s l (cc L) Z++σ))).Perm (Q::P::(lw,L.map pW)::(b6,o8)::(b3,bc s)::aZ p q x.a.ws (cW s l (cc L) Z++σ)):=fun Q=>ki [[Q,P,(lw,L.map pW),(b6,o8),(b3,bc s)],aZ p q x.a.ws [],cW s l (cc L) Z] σ (a:=[1,0,2]) (b:=[0,1,2]) (by decide)
 subst hP
 refine .meet (S:=Nat) (fun b=>[(6,.ptr b6 0),(8,.ptr aD 0),(10,.ptr b 0)]) (fun b=>(b,yl (jg l x.a.ws (nN s)) 0 0 x.us)::(aD,cP (.ptr p 0) l (.ae lw 0 k 1) (.af (.int .i64) x.st) (.af .bool x.dn) x.us)::(lw,L.map pW)::(b6,o8)::(b3,bc s)::aZ p q x.a.ws (cW s l (cc L) Z++σ)) (by kernel_rfl) ?_ ?_
 ·repeat' first
   |exact cR.mk _ ⟨rfl,rfl,rfl,trivial⟩ (aJ rfl)
   |refine And.intro ?_ ?_
   |refine aa 0 ?_
   |refine aa 1 ?_
   |refine ak 0 ?_
   |(refine .perm _ q1 (BJ p q l (nN s) _ _ hn oF) ?_;rintro _ _ ⟨rfl,rfl⟩;refine⟨_,q1.symm,?_⟩)
   |(refine .perm _ (q2 _) (BJ p q l (nN s) _ _ hn oF) ?_;rintro _ _ ⟨rfl,rfl⟩;refine⟨_,(q2 _).symm,?_⟩)
   |intro b
 intro b g
 refine aa 1 ?_
 refine .perm _ (ki [[(lw,L.map pW)],aZ p q x.a.ws [],cW s l (cc L) Z,[(b,yl (jg l x.a.ws (nN s)) 0 0 x.us)],[(aD,cP (.ptr p 0) l (.ae lw 0 k 1) (.af (.int .i64) x.st) (.af .bool x.dn) x.us)],[(b6,o8)],[(b3,bc s)]] σ (a:=[0,1,2,3,4,5,6]) (b:=[3,4,0,5,6,1,2]) (by decide)) (Tu s l p q lw k L Z _ _ _ _ _ _ hZ hL oJ dF) ?_
 rintro _ _ ⟨rfl,rfl⟩
 refine⟨_,ki [[(lw,L.map pW)],aZ p q x.a.ws [],cW s l (cc L) Z,[(b,yl (jg l x.a.ws (nN s)) 0 0 x.us)],[(aD,cP (.ptr p 0) l (.ae lw 0 k 1) (.af (.int .i64) x.st) (.af .bool x.dn) x.us)],[(b6,o8)],[(b3,bc s)]] σ (a:=[3,4,0,5,6,1,2]) (b:=[0,1,2,3,4,5,6]) (by decide),?_⟩
 refine ak 0 ?_
 refine ak 0 ?_
 refine aa 0 ?_
 refine ak 3 ?_
 refine aa 3 ?_
 exact .drop 0 7 (Ke (cW s l (cc L) Z) (.done ⟨rfl,rfl,bH⟩))
set_option maxHeartbeats 4000000
def GL(l:Lay)(ws:List Int)(n:Nat):List Bool:=(List.range n).map fun v:Nat=>decide (dx ws (wr (cO l+(v:Nat)))=1)
def LV(l:Lay)(ws:List Int)(k:Nat):List Int:=(List.range k).map fun v:Nat=>wr (dx ws (gh l v))
def U1(l:Lay)(ws:List Int)(k:Nat):List Int:=(List.range k).map fun v:Nat=>wr (dx ws (fI (gh l v)))
def UC(b9:List (List Int))(waits:List Bool)(num ev jo us:Int)(afm agh:List Int)(dn:List Bool):List AV:=[.af (.slice (.int .u64)) b9,.af .bool waits,.int .i64 num,.int .i64 ev,.int .i64 jo,.int .i64 us,.af (.int .i64) afm,.af (.int .i64) agh,.af .bool dn]
def nQ:List AV:=[.aj,.aj,.int .i64 0,.int .i64 0,.int .i64 0,.int .i64 0,.aj,.aj,.aj]
def ym(b9:List (List Int))(wv:AV)(num ev jo us:Int)(tv bv:AV)(dn:List Bool):List AV:=[.af (.slice (.int .u64)) b9,wv,.int .i64 num,.int .i64 ev,.int .i64 jo,.int .i64 us,tv,bv,.af .bool dn]
theorem Uw(s:Sy)(k:Int)(aw:List (Int×Int×Unit))(σ:Hp)(hf:Fit s)(he:¬ck s k=0):ACalls Tryz.prog 14 [.agg (bc s),.int .i64 k,.af kl aw] σ (aE (.tup [.agg nQ,.int .i64 (ck s k)]) σ):=by
 refine ay Tryz.func14 ?_
 intro aD
 intro dH
 refine aa 1 ?_
 refine az [] (Wh s k aw _ hf he) ?_
 intro sJ
 refine ak 0 ?_
 refine dB (fun c4=>?_) (fun c4=>?_)
 ·have c4:¬(ck s k=0):=by simpa using c4
  refine ak 1 ?_
  refine aa 1 ?_
  exact .drop 0 3 (.done ⟨rfl,rfl⟩)
 ·have c4:ck s k=0:=by simpa using c4
  exact absurd c4 he
theorem afk(s:Sy)(k:Nat)(l:Lay)(hl:gk s k=l)(aw:List (Int×Int×Unit))(σ:Hp)(hf:Fit s)(he:ck s k=0)(kU:aw.length≤100000)(dF:k≤64)(hn:l.n=(nN s:Int))(oF:nN s≤100000)(gB:s.n=(nN s:Int))(oJ:(cb s l aw).a.W.length=k):ACalls Tryz.prog 14 [.agg (bc s),.int .i64 k,.af kl aw] σ (fun r σ'=>r=.tup [.agg (UC (jg l (cb s l aw).a.ws (nN s)) (GL l (cb s l aw).a.ws (nN s)) (wr (dx (cb s l aw).a.ws (cF l))) (rH (cb s l aw).a.W) (ri (cb s l aw).a.W) (cb s l aw).us (LV l (cb s l aw).a.ws k) (U1 l (cb s l aw).a.ws k) (cb s l aw).dn),.int .i64 0]∧σ'=σ∧iN s l):=by
 refine ay Tryz.func14 ?_
 intro b3
 intro b6
 refine aa 1 ?_
 refine .perm _ (.refl _) (Kk s k l hl aw _ hf he kU) ?_
 rintro _ _ ⟨p,q,lw,L,Z,rfl,hL,hZ,rfl,bH⟩
 refine⟨_,ki [[(lw,L.map pW)],aZ p q (cb s l aw).a.ws [],cW s l (cc L) Z,[(b6,nQ)],[(b3,bc s)]] σ (a:=[0,3,4,1,2]) (b:=[0,1,2,3,4]) (by decide),?_⟩
 generalize (cb s l aw)=x at hZ oJ ⊢
 intro aD
 refine ak 0 ?_
 obtain⟨P,hP⟩:∃P,P=(aD,cP (.ptr p 0) l (.ae lw 0 k 1) (.af (.int .i64) x.st) (.af .bool x.dn) x.us):=⟨_,rfl⟩
 have q1:(aZ p q x.a.ws (P::(lw,L.map pW)::(b6,nQ)::(b3,bc s)::(cW s l (cc L) Z++σ))).Perm (P::(lw,L.map pW)::(b6,nQ)::(b3,bc s)::aZ p q x.a.ws (cW s l (cc L) Z++σ)):=ki [[P,(lw,L.map pW),(b6,nQ),(b3,bc s)],aZ p q x.a.ws [],cW s l (cc L) Z] σ (a:=[1,0,2]) (b:=[0,1,2]) (by decide)
 have q2:∀Q,(aZ p q x.a.ws (Q::P::(lw,L.map pW)::(b6,nQ)::(b3,bc s)::(cW s l (cc L) Z++σ))).Perm (Q::P::(lw,L.map pW)::(b6,nQ)::(b3,bc s)::aZ p q x.a.ws (cW s l (cc L) Z++σ)):=fun Q=>ki [[Q,P,(lw,L.map pW),(b6,nQ),(b3,bc s)],aZ p q x.a.ws [],cW s l (cc L) Z] σ (a:=[1,0,2]) (b:=[0,1,2]) (by decide)
 subst hP
 refine gn.Hg (S:=Nat) [5,8,12] (.one 0 false (.one 1 false (.one 2 false (.one 3 false (.one 4 false (.one 6 false (.one 7 false (.one 9 false (.one 10 false (.one 11 false (.one 13 false (.one 14 false (.one 15 false (.one 16 false (.one 17 false (.one 18 false (.AK 5 (.AK 8 (.AK 12 (.one 19 false (.one 20 false (.one 21 false .stop))) (.one 20 false (.one 12 true (.one 19 false (.one 21 false .stop))))) (.one 20 false (.one 8 true (.one 12 true (.one 19 false (.one 21 false .stop)))))) (.one 20 false (.one 5 true (.one 8 true (.one 12 true (.one 19 false (.one 21 false .stop))))))))))))))))))))))) (fun b=>[(1,.int .i64 k),(3,.ptr b3 0),(6,.ptr b6 0),(8,.ptr aD 0),(10,.ptr b 0)]) (fun b=>(b,ym (jg l x.a.ws (nN s)) .aj (wr (dx x.a.ws (cF l))) 0 0 x.us .aj .aj x.dn)::(aD,cP (.ptr p 0) l (.ae lw 0 k 1) (.af (.int .i64) x.st) (.af .bool x.dn) x.us)::(lw,L.map pW)::(b6,nQ)::(b3,bc s)::aZ p q x.a.ws (cW s l (cc L) Z++σ)) (by kernel_rfl) ?_ ?_
 ·repeat' first
   |exact cR.mk _ ⟨rfl,rfl,rfl,rfl,rfl,trivial⟩ (aJ rfl)
   |refine And.intro ?_ ?_
   |refine aa 0 ?_
   |refine aa 1 ?_
   |refine ak 0 ?_
   |refine aH [5,5] (BJ p q l (nN s) _ _ hn oF) ?_
   |refine aH [6,6] (BJ p q l (nN s) _ _ hn oF) ?_
   |refine aH [] (zU l _) ?_
   |refine az [] (zU l _) ?_
   |(refine .perm _ q1 (BJ p q l (nN s) _ _ hn oF) ?_;rintro _ _ ⟨rfl,rfl⟩;refine⟨_,q1.symm,?_⟩)
   |(refine .perm _ q1 (KJ _ _ p q _ _) ?_;rintro _ _ ⟨rfl,rfl⟩;refine⟨_,q1.symm,?_⟩)
   |refine aH [5,5] (KJ _ _ p q _ _) ?_
   |refine aH [6,6] (KJ _ _ p q _ _) ?_
   |intro b
 intro b g
 clear q1 q2
 refine aa 1 ?_
 refine .perm _ (ki [[(lw,L.map pW)],aZ p q x.a.ws [],cW s l (cc L) Z,[(b,ym (jg l x.a.ws (nN s)) .aj (wr (dx x.a.ws (cF l))) 0 0 x.us .aj .aj x.dn)],[(aD,cP (.ptr p 0) l (.ae lw 0 k 1) (.af (.int .i64) x.st) (.af .bool x.dn) x.us)],[(b6,nQ)],[(b3,bc s)]] σ (a:=[0,1,2,3,4,5,6]) (b:=[3,4,0,5,6,1,2]) (by decide)) (Tu s l p q lw k L Z _ _ _ _ _ _ hZ hL oJ dF) ?_
 rintro _ _ ⟨rfl,rfl⟩
 refine⟨(b,ym (jg l x.a.ws (nN s)) .aj (wr (dx x.a.ws (cF l))) 0 0 x.us .aj .aj x.dn)::(aD,cP (.ptr p 0) l (.ae lw 0 k 1) (.af (.int .i64) x.st) (.af .bool x.dn) x.us)::(lw,L.map pW)::(b6,nQ)::(b3,bc s)::aZ p q x.a.ws (cW s l (cc L) Z++σ),ki [[(lw,L.map pW)],aZ p q x.a.ws [],cW s l (cc L) Z,[(b,ym (jg l x.a.ws (nN s)) .aj (wr (dx x.a.ws (cF l))) 0 0 x.us .aj .aj x.dn)],[(aD,cP (.ptr p 0) l (.ae lw 0 k 1) (.af (.int .i64) x.st) (.af .bool x.dn) x.us)],[(b6,nQ)],[(b3,bc s)]] σ (a:=[3,4,0,5,6,1,2]) (b:=[0,1,2,3,4,5,6]) (by decide),?_⟩
 refine ak 0 ?_
 refine ak 0 ?_
 refine aa 4 ?_
 have hE1:=fun τ=>aew 48 [.ptr aD 0] ((aD,cP (.ptr p 0) l (.ae lw 0 k 1) (.af (.int .i64) x.st) (.af .bool x.dn) x.us)::aZ p q x.a.ws []) τ (fun v:Nat=>decide (dx x.a.ws (wr (cO l+(v:Nat)))=1)) (nN s) oF (fun i _ τ=>Xg aD p q i l _ _ _ _ x.a.ws τ)
 have zd:=fun τ=>Ur 51 [.ptr aD 0] ((aD,cP (.ptr p 0) l (.ae lw 0 k 1) (.af (.int .i64) x.st) (.af .bool x.dn) x.us)::aZ p q x.a.ws []) τ (fun v:Nat=>wr (dx x.a.ws (gh l v))) k (by omega) (fun i _ τ=>Xd aD p q i l _ _ _ _ x.a.ws τ)
 have hE3:=fun τ=>Ur 54 [.ptr aD 0] ((aD,cP (.ptr p 0) l (.ae lw 0 k 1) (.af (.int .i64) x.st) (.af .bool x.dn) x.us)::aZ p q x.a.ws []) τ (fun v:Nat=>wr (dx x.a.ws (fI (gh l v)))) k (by omega) (fun i _ τ=>Xf aD p q i l _ _ _ _ x.a.ws τ)
 rw[← gB]at hE1
 refine az [3,6,6] (hE1 ((b,ym (jg l x.a.ws (nN s)) .aj (wr (dx x.a.ws (cF l))) (rH x.a.W) (ri x.a.W) x.us .aj .aj x.dn)::(lw,L.map pW)::(b6,nQ)::(b3,bc s)::(cW s l (cc L) Z++σ))) ?_
 refine ak 3 ?_
 refine az [] (zd ((b,ym (jg l x.a.ws (nN s)) (.af .bool (GL l x.a.ws (nN s))) (wr (dx x.a.ws (cF l))) (rH x.a.W) (ri x.a.W) x.us .aj .aj x.dn)::(lw,L.map pW)::(b6,nQ)::(b3,bc s)::(cW s l (cc L) Z++σ))) ?_
 refine ak 3 ?_
 refine az [] (hE3 ((b,ym (jg l x.a.ws (nN s)) (.af .bool (GL l x.a.ws (nN s))) (wr (dx x.a.ws (cF l))) (rH x.a.W) (ri x.a.W) x.us (.af (.int .i64) (LV l x.a.ws k)) .aj x.dn)::(lw,L.map pW)::(b6,nQ)::(b3,bc s)::(cW s l (cc L) Z++σ))) ?_
 refine ak 3 ?_
 refine aa 3 ?_
 refine ak 5 ?_
 refine aa 5 ?_
 exact .drop 0 7 (Ke (cW s l (cc L) Z) (.done ⟨rfl,rfl,bH⟩))
end Go.Proofs.YtnikdflhefijbaaGreat
