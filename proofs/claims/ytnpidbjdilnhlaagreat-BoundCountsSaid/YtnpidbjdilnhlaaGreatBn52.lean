import Derived.Test.YtnpidbjdilnhlaaGreatBn11
import Derived.Test.YtnpidbjdilnhlaaGreatBn24
import Derived.Test.YtnpidbjdilnhlaaGreatBn12
import Derived.Test.YtnpidbjdilnhlaaGreatBn51
import Derived.Test.YtnpidbjdilnhlaaGreatBn30
namespace Go.Proofs.YtnpidbjdilnhlaaGreat
open Go.RowKit
set_option maxRecDepth 100000
set_option maxHeartbeats 4000000
theorem abr(p q:Nat)(ws:List Int)(b c:Int)(σ:Hp):ACalls Tryz.prog 75 [.agg [.int .i64 b,.int .i64 c],iY p] (aX p q ws σ) (az (.int .i64 (wr (cC ws b))) (aX p q ws σ)):=by
 refine okF Tryz.func75 (by kernel_rfl) ?_
 intro aC
 refine .sched [1] (upto [1] 7 0) (by kernel_rfl) ?_
 refine aD [] (cy _ _ _) ?_
 refine aa 0 ?_
 refine⟨_,mLoad_,?_⟩
 refine ax [2,2] (aLoad p q _ _ _) ?_
 exact .drop 2 1 (.done ⟨rfl,rfl⟩)
theorem XF(p q:Nat)(ws:List Int)(b c:Int)(σ:Hp):ACalls Tryz.prog 77 [.agg [.int .i64 b,.int .i64 c],iY p] (aX p q ws σ) (az (.int .i64 (wr (cC ws (eJ b)))) (aX p q ws σ)):=by
 refine okF Tryz.func77 (by kernel_rfl) ?_
 intro aC
 refine .sched [1,3] (upto [1,3] 10 0) (by kernel_rfl) ?_
 refine aD [] (cy _ _ _) ?_
 refine aa 0 ?_
 refine aD [] (qK _ _ _) ?_
 refine dS.mk hLoad_ ?_
 refine⟨_,mLoad_,?_⟩
 refine ax [2,2] (aLoad p q _ _ _) ?_
 exact .drop 2 1 (.done ⟨rfl,rfl⟩)
set_option maxRecDepth 100000
set_option maxHeartbeats 4000000
theorem Zw(s:Sy)(l:Lay)(p q lw n:Nat)(L:List Nat)(Z:List WZ)(W:List WS)(st:List Int)(dn:List Bool)(us:Int)(ws:List Int)(σ:Hp)(hW:Z.map (·.x)=W)(hL:L.length=n)(hZ:W.length=n)(hn:n≤64):
  ACalls Tryz.prog 68 [.agg (b9 (.ptr p 0) l (.ae lw 0 n 1) (.ah (.int .i64) st) (.ah .bool dn) us)] ((lw,L.map pW)::aX p q ws (dg s l (bS L) Z++σ)) (az (.tup [.int .i64 (kR W),.int .i64 (lH W)]) ((lw,L.map pW)::aX p q ws (dg s l (bS L) Z++σ))):=by
 have hZl:Z.length=n:=by rw[← hZ,← hW,List.length_map]
 refine okF Tryz.func68 (by kernel_rfl) ?_
 intro b1
 refine aa 0 ?_
 refine bO (S:=Nat) (fun i=>[(4,.int .i64 (kR (W.take i))),(5,.int .i64 (lH (W.take i))),(9,.ae lw 0 n 1),(10,.int .i64 n),(11,.int .i64 i)]) (fun _=>(b1,b9 (.ptr p 0) l (.ae lw 0 n 1) (.ah (.int .i64) st) (.ah .bool dn) us)::(lw,L.map pW)::aX p q ws (dg s l (bS L) Z++σ)) (fun i=>i≤n) (fun i=>n-i) 0 ⟨Nat.zero_le _,⟨rfl,rfl,rfl,rfl,rfl,trivial⟩,rfl⟩ ?_
 intro i g dY
 have hi:i≤n:=dY
 clear dY
 refine ao (p:=(i:Int)<(n:Int)) (fun ab =>?_) (fun au =>?_)
 rotate_left
 ·have au:i=n:=by omega
  have e:W.take i=W:=List.take_of_length_le (by omega)
  rw[e]
  exact .drop 0 1 (.done ⟨rfl,rfl⟩)
 have ab:i<n:=by omega
 have hg:(L.map pW)[0+((i:Int)).toNat*1]?=some (.ptr L[i] 0):=by
  rw[Int.toNat_natCast,Nat.mul_one,Nat.zero_add,List.getElem?_map,List.getElem?_eq_getElem (by omega)];rfl
 refine ag.mk ⟨rfl,by omega,by omega⟩ ?_
 refine aL 1 rfl (gN rfl hg) ?_
 have hw:=N4 (s:=s) (l:=l) (I:=bS L) (Z:=Z) (i:=i) (by rw[zE];omega) (by omega)
 have hI:(bS L)[i]'(by rw[zE];omega)=(i,L[i]):=by simp[bS]
 have hx:Z[i].x=W[i]:=by
  have:(Z.map (·.x))[i]'(by rw[List.length_map];omega)=Z[i].x:=List.getElem_map ..
  rw[← this];congr 1
 rw[hI,hx]at hw
 have jI:=W2 (W:=W) (i:=i) (by omega)
 have kP:=Wz (W:=W) (i:=i) (by omega)
 generalize W[i]=x at hw jI kP
 have hp:((b1,b9 (.ptr p 0) l (.ae lw 0 n 1) (.ah (.int .i64) st) (.ah .bool dn) us)::(lw,L.map pW)::aX p q ws (dg s l (bS L) Z++σ)).Perm ((L[i],cR s l i x.ev x.jo x.en x.does (E7 Z[i].r x.now) x.node x.has x.nx x.out)::(E8 l x.node Z[i].r Z[i].c Z[i].acc x.now++((b1,b9 (.ptr p 0) l (.ae lw 0 n 1) (.ah (.int .i64) st) (.ah .bool dn) us)::(lw,L.map pW)::aX p q ws ((((bS L).zip Z).eraseIdx i).flatMap (uu s l)++σ)))):=by
  refine (List.Perm.append_left [_,_,_,_] (List.Perm.append_right σ hw)).trans ?_
  have h:=lT [[(b1,b9 (.ptr p 0) l (.ae lw 0 n 1) (.ah (.int .i64) st) (.ah .bool dn) us),(lw,L.map pW)],aX p q ws [],[(L[i],cR s l i x.ev x.jo x.en x.does (E7 Z[i].r x.now) x.node x.has x.nx x.out)],E8 l x.node Z[i].r Z[i].c Z[i].acc x.now,(((bS L).zip Z).eraseIdx i).flatMap (uu s l)] σ (a:=[0,1,2,3,4]) (b:=[2,3,0,1,4]) (by decide)
  unfold WB
  rw[List.cons_append,List.append_assoc]
  exact h
 refine .cO (.perm hp.symm (.refl _)) ?_
 refine .quiet (by kernel_rfl) ?_
 refine aa 0 ?_
 refine aa 0 ?_
 exact bg (i+1) (by show n-(i+1)<n-i;omega) ab ⟨congrArg (AV.int .i64) jI,congrArg (AV.int .i64) kP,rfl,rfl,a8 (by omega),trivial⟩ (.perm hp (.refl _))
theorem SH(bp p q v:Nat)(l:Lay)(wv st dn:AV)(us:Int)(ws:List Int)(τ:Hp):ACalls Tryz.prog 71 [.int .i64 v,.ptr bp 0] ((bp,b9 (.ptr p 0) l wv st dn us)::aX p q ws τ) (az (.bool (decide (cC ws (wr (bR l+(v:Nat)))=1))) ((bp,b9 (.ptr p 0) l wv st dn us)::aX p q ws τ)):=by
 refine okF Tryz.func71 (by kernel_rfl) ?_
 refine .quiet (by kernel_rfl) ?_
 refine aa 0 ?_
 refine aD [] (xA l _) ?_
 refine aa 0 ?_
 refine aD [2,2] (xf (Y8 (bR l) (bN l) v p q ws _) (congrArg AV.bool (by rw[decide_eq_true (show (0:Int)≤(v:Nat) by omega),Bool.true_and]))) ?_
 exact .done ⟨rfl,rfl⟩
theorem SE(bp p q v:Nat)(l:Lay)(wv st dn:AV)(us:Int)(ws:List Int)(τ:Hp):ACalls Tryz.prog 74 [.int .i64 v,.ptr bp 0] ((bp,b9 (.ptr p 0) l wv st dn us)::aX p q ws τ) (az (.int .i64 (wr (cC ws (fe l v)))) ((bp,b9 (.ptr p 0) l wv st dn us)::aX p q ws τ)):=by
 refine okF Tryz.func74 (by kernel_rfl) ?_
 refine .quiet (by kernel_rfl) ?_
 refine aa 0 ?_
 refine aD [] (vB l v _) ?_
 refine aa 0 ?_
 refine aD [2,2] (abr p q ws _ _ _) ?_
 exact .done ⟨rfl,rfl⟩
theorem SG(bp p q v:Nat)(l:Lay)(wv st dn:AV)(us:Int)(ws:List Int)(τ:Hp):ACalls Tryz.prog 76 [.int .i64 v,.ptr bp 0] ((bp,b9 (.ptr p 0) l wv st dn us)::aX p q ws τ) (az (.int .i64 (wr (cC ws (eJ (fe l v))))) ((bp,b9 (.ptr p 0) l wv st dn us)::aX p q ws τ)):=by
 refine okF Tryz.func76 (by kernel_rfl) ?_
 refine .quiet (by kernel_rfl) ?_
 refine aa 0 ?_
 refine aD [] (vB l v _) ?_
 refine aa 0 ?_
 refine aD [2,2] (XF p q ws _ _ _) ?_
 exact .done ⟨rfl,rfl⟩
set_option maxRecDepth 100000
set_option maxHeartbeats 4000000
def Dx(l:Lay)(ws:List Int)(n:Nat):List Bool:=(List.range n).map fun v:Nat=>decide (cC ws (wr (bR l+(v:Nat)))=1)
def Ij(l:Lay)(ws:List Int)(k:Nat):List Int:=(List.range k).map fun v:Nat=>wr (cC ws (fe l v))
def Qu(l:Lay)(ws:List Int)(k:Nat):List Int:=(List.range k).map fun v:Nat=>wr (cC ws (eJ (fe l v)))
def P7(bG:List (List Int))(waits:List Bool)(num ev jo us:Int)(abE acA:List Int)(dn:List Bool):List AV:=[.ah (.slice (.int .u64)) bG,.ah .bool waits,.int .i64 num,.int .i64 ev,.int .i64 jo,.int .i64 us,.ah (.int .i64) abE,.ah (.int .i64) acA,.ah .bool dn]
def lY:List AV:=[.af,.af,.int .i64 0,.int .i64 0,.int .i64 0,.int .i64 0,.af,.af,.af]
def vJ(bG:List (List Int))(wv:AV)(num ev jo us:Int)(tv bv:AV)(dn:List Bool):List AV:=[.ah (.slice (.int .u64)) bG,wv,.int .i64 num,.int .i64 ev,.int .i64 jo,.int .i64 us,tv,bv,.ah .bool dn]
theorem aaJ(s:Sy)(k:Int)(aA:List (Int×Int×Unit))(σ:Hp)(hf:Fit s)(he:¬bF s k=0):ACalls Tryz.prog 27 [.agg (bD s),.int .i64 k,.ah se aA] σ (az (.tup [.agg lY,.int .i64 (bF s k)]) σ):=by
 refine okF Tryz.func27 (by kernel_rfl) ?_
 intro aC
 intro dI
 refine aa 1 ?_
 refine ax [] (RO s k aA _ hf he) ?_
 intro pB
 refine ai 0 ?_
 refine dx (fun c4 =>?_) (fun c4 =>?_)
 ·have c4:¬(bF s k=0):=by simpa using c4
  refine ai 1 ?_
  refine aa 1 ?_
  exact .drop 0 3 (.done ⟨rfl,rfl⟩)
 ·have c4:bF s k=0:=by simpa using c4
  exact absurd c4 he
theorem abB(s:Sy)(k:Nat)(l:Lay)(hl:gP s k=l)(aA:List (Int×Int×Unit))(σ:Hp)(hf:Fit s)(he:bF s k=0)(pU:aA.length≤100000)(dm:k≤64)(hn:l.n=(nN s:Int))(mr:nN s≤100000)(gg:s.n=(nN s:Int))(py:(eI s l aA).a.W.length=k):ACalls Tryz.prog 27 [.agg (bD s),.int .i64 k,.ah se aA] σ (fun r σ'=>r=.tup [.agg (P7 (qT l (eI s l aA).a.ws (nN s)) (Dx l (eI s l aA).a.ws (nN s)) (wr (cC (eI s l aA).a.ws (bN l))) (kR (eI s l aA).a.W) (lH (eI s l aA).a.W) (eI s l aA).us (Ij l (eI s l aA).a.ws k) (Qu l (eI s l aA).a.ws k) (eI s l aA).dn),.int .i64 0]∧σ'=σ∧kz s l):=by
 refine okF Tryz.func27 (by kernel_rfl) ?_
 intro b3
 intro b6
 refine aa 1 ?_
 refine .perm _ (.refl _) (Vv s k l hl aA _ hf he pU) ?_
 rintro _ _ ⟨p,q,lw,L,Z,rfl,hL,hZ,rfl,bL⟩
 refine⟨_,lT [[(lw,L.map pW)],aX p q (eI s l aA).a.ws [],dg s l (bS L) Z,[(b6,lY)],[(b3,bD s)]] σ (a:=[0,3,4,1,2]) (b:=[0,1,2,3,4]) (by decide),?_⟩
 generalize (eI s l aA)=x at hZ py ⊢
 intro aC
 refine ai 0 ?_
 obtain⟨P,hP⟩:∃P,P=(aC,b9 (.ptr p 0) l (.ae lw 0 k 1) (.ah (.int .i64) x.st) (.ah .bool x.dn) x.us):=⟨_,rfl⟩
 have q1:(aX p q x.a.ws (P::(lw,L.map pW)::(b6,lY)::(b3,bD s)::(dg s l (bS L) Z++σ))).Perm (P::(lw,L.map pW)::(b6,lY)::(b3,bD s)::aX p q x.a.ws (dg s l (bS L) Z++σ)):=lT [[P,(lw,L.map pW),(b6,lY),(b3,bD s)],aX p q x.a.ws [],dg s l (bS L) Z] σ (a:=[1,0,2]) (b:=[0,1,2]) (by decide)
 have q2:∀Q,(aX p q x.a.ws (Q::P::(lw,L.map pW)::(b6,lY)::(b3,bD s)::(dg s l (bS L) Z++σ))).Perm (Q::P::(lw,L.map pW)::(b6,lY)::(b3,bD s)::aX p q x.a.ws (dg s l (bS L) Z++σ)):=fun Q=>lT [[Q,P,(lw,L.map pW),(b6,lY),(b3,bD s)],aX p q x.a.ws [],dg s l (bS L) Z] σ (a:=[1,0,2]) (b:=[0,1,2]) (by decide)
 subst hP
 refine fy.D4 (S:=Nat) [5,8,12] (.one 0 false (.one 1 false (.one 2 false (.one 3 false (.one 4 false (.one 6 false (.one 7 false (.one 9 false (.one 10 false (.one 11 false (.one 13 false (.one 14 false (.one 15 false (.one 16 false (.one 17 false (.one 18 false (.Bk 5 (.Bk 8 (.Bk 12 (.one 19 false (.one 20 false (.one 21 false .stop))) (.one 20 false (.one 12 true (.one 19 false (.one 21 false .stop))))) (.one 20 false (.one 8 true (.one 12 true (.one 19 false (.one 21 false .stop)))))) (.one 20 false (.one 5 true (.one 8 true (.one 12 true (.one 19 false (.one 21 false .stop))))))))))))))))))))))) (fun b=>[(1,.int .i64 k),(3,.ptr b3 0),(6,.ptr b6 0),(8,.ptr aC 0),(10,.ptr b 0)]) (fun b=>(b,vJ (qT l x.a.ws (nN s)) .af (wr (cC x.a.ws (bN l))) 0 0 x.us .af .af x.dn)::(aC,b9 (.ptr p 0) l (.ae lw 0 k 1) (.ah (.int .i64) x.st) (.ah .bool x.dn) x.us)::(lw,L.map pW)::(b6,lY)::(b3,bD s)::aX p q x.a.ws (dg s l (bS L) Z++σ)) (by kernel_rfl) ?_ ?_
 ·repeat' first
   | exact ca.mk _ ⟨rfl,rfl,rfl,rfl,rfl,trivial⟩ (aF rfl)
   | refine And.intro ?_ ?_
   | refine aa 0 ?_
   | refine aa 1 ?_
   | refine ai 0 ?_
   | refine aD [5,5] (Gh p q l (nN s) _ _ hn mr) ?_
   | refine aD [6,6] (Gh p q l (nN s) _ _ hn mr) ?_
   | refine aD [] (xA l _) ?_
   | refine ax [] (xA l _) ?_
   | (refine .perm _ q1 (Gh p q l (nN s) _ _ hn mr) ?_;rintro _ _ ⟨rfl,rfl⟩;refine⟨_,q1.symm,?_⟩)
   | (refine .perm _ q1 (Hd _ _ p q _ _) ?_;rintro _ _ ⟨rfl,rfl⟩;refine⟨_,q1.symm,?_⟩)
   | refine aD [5,5] (Hd _ _ p q _ _) ?_
   | refine aD [6,6] (Hd _ _ p q _ _) ?_
   | intro b
 intro b g
 clear q1 q2
 refine aa 1 ?_
 refine .perm _ (lT [[(lw,L.map pW)],aX p q x.a.ws [],dg s l (bS L) Z,[(b,vJ (qT l x.a.ws (nN s)) .af (wr (cC x.a.ws (bN l))) 0 0 x.us .af .af x.dn)],[(aC,b9 (.ptr p 0) l (.ae lw 0 k 1) (.ah (.int .i64) x.st) (.ah .bool x.dn) x.us)],[(b6,lY)],[(b3,bD s)]] σ (a:=[0,1,2,3,4,5,6]) (b:=[3,4,0,5,6,1,2]) (by decide)) (Zw s l p q lw k L Z _ _ _ _ _ _ hZ hL py dm) ?_
 rintro _ _ ⟨rfl,rfl⟩
 refine⟨(b,vJ (qT l x.a.ws (nN s)) .af (wr (cC x.a.ws (bN l))) 0 0 x.us .af .af x.dn)::(aC,b9 (.ptr p 0) l (.ae lw 0 k 1) (.ah (.int .i64) x.st) (.ah .bool x.dn) x.us)::(lw,L.map pW)::(b6,lY)::(b3,bD s)::aX p q x.a.ws (dg s l (bS L) Z++σ),lT [[(lw,L.map pW)],aX p q x.a.ws [],dg s l (bS L) Z,[(b,vJ (qT l x.a.ws (nN s)) .af (wr (cC x.a.ws (bN l))) 0 0 x.us .af .af x.dn)],[(aC,b9 (.ptr p 0) l (.ae lw 0 k 1) (.ah (.int .i64) x.st) (.ah .bool x.dn) x.us)],[(b6,lY)],[(b3,bD s)]] σ (a:=[3,4,0,5,6,1,2]) (b:=[0,1,2,3,4,5,6]) (by decide),?_⟩
 refine ai 0 ?_
 refine ai 0 ?_
 refine aa 4 ?_
 have hE1:=fun τ=>aaD 71 [.ptr aC 0] ((aC,b9 (.ptr p 0) l (.ae lw 0 k 1) (.ah (.int .i64) x.st) (.ah .bool x.dn) x.us)::aX p q x.a.ws []) τ (fun v:Nat=>decide (cC x.a.ws (wr (bR l+(v:Nat)))=1)) (nN s) mr (fun i _ τ=>SH aC p q i l _ _ _ _ x.a.ws τ)
 have wR:=fun τ=>PW 74 [.ptr aC 0] ((aC,b9 (.ptr p 0) l (.ae lw 0 k 1) (.ah (.int .i64) x.st) (.ah .bool x.dn) x.us)::aX p q x.a.ws []) τ (fun v:Nat=>wr (cC x.a.ws (fe l v))) k (by omega) (fun i _ τ=>SE aC p q i l _ _ _ _ x.a.ws τ)
 have hE3:=fun τ=>PW 76 [.ptr aC 0] ((aC,b9 (.ptr p 0) l (.ae lw 0 k 1) (.ah (.int .i64) x.st) (.ah .bool x.dn) x.us)::aX p q x.a.ws []) τ (fun v:Nat=>wr (cC x.a.ws (eJ (fe l v)))) k (by omega) (fun i _ τ=>SG aC p q i l _ _ _ _ x.a.ws τ)
 rw[← gg]at hE1
 refine ax [3,6,6] (hE1 ((b,vJ (qT l x.a.ws (nN s)) .af (wr (cC x.a.ws (bN l))) (kR x.a.W) (lH x.a.W) x.us .af .af x.dn)::(lw,L.map pW)::(b6,lY)::(b3,bD s)::(dg s l (bS L) Z++σ))) ?_
 refine ai 3 ?_
 refine ax [] (wR ((b,vJ (qT l x.a.ws (nN s)) (.ah .bool (Dx l x.a.ws (nN s))) (wr (cC x.a.ws (bN l))) (kR x.a.W) (lH x.a.W) x.us .af .af x.dn)::(lw,L.map pW)::(b6,lY)::(b3,bD s)::(dg s l (bS L) Z++σ))) ?_
 refine ai 3 ?_
 refine ax [] (hE3 ((b,vJ (qT l x.a.ws (nN s)) (.ah .bool (Dx l x.a.ws (nN s))) (wr (cC x.a.ws (bN l))) (kR x.a.W) (lH x.a.W) x.us (.ah (.int .i64) (Ij l x.a.ws k)) .af x.dn)::(lw,L.map pW)::(b6,lY)::(b3,bD s)::(dg s l (bS L) Z++σ))) ?_
 refine ai 3 ?_
 refine aa 3 ?_
 refine ai 5 ?_
 refine aa 5 ?_
 exact .drop 0 7 (UW (dg s l (bS L) Z) (.done ⟨rfl,rfl,bL⟩))
set_option maxRecDepth 100000
set_option maxHeartbeats 4000000
def AL(s:Sy)(v i:Nat):Int:=((uc s).1.getD v []).getD i 0
theorem Wu{a:List Int}{n:Nat}(h:a.length=n):(List.range n).map (fun i=>a.getD i 0)=a:=by
 subst h
 refine List.ext_getElem (by simp) fun i h1 h2 =>?_
 rw[List.getElem_map,List.getElem_range,List.getD_eq_getElem?_getD,List.getElem?_eq_getElem h2];rfl
theorem y7{f:Nat→Int}{n i:Nat}(h:i<n):((List.range n).map f).getD i 0=f i:=by
 rw[List.getD_eq_getElem?_getD,List.getElem?_map,List.getElem?_range h];rfl
def pg(s:Sy):List Nat:=(List.range (nN s)).filter fun u=>s.aR.any fun e=>decide (e.2.1=(u:Int))
def E6(s:Sy)(l:Lay)(c:Nat→Int):Nat:=pL s.what s.w ((List.range (nW l)).map c)
section
variable {s:Sy} {l:Lay} (hs:LS s l)
include hs
theorem LS.Mc{f:Nat→Int}(h:∀i,i<nW l→eG s.what s.w i (f i)):dC s.what s.w ((List.range (nW l)).map f):=
 (hs.o6).2 ⟨by simp,fun i hi=>by rw[y7 hi];exact h i hi⟩
theorem Oi{v:Nat}(hv:v<nN s):dC s.what s.w ((uc s).1.getD v []):=(Gq hs.fit hs.iT).1.get (by have:=hs.nn;omega)
theorem Vj{v:Nat}(hv:v<nN s):SX.kE (j5 s l hs) (AL s) v=(uc s).1.getD v []:=Wu ((hs.o6).1 (Oi hs hv)).1
theorem OA{v u:Nat}(hu:u∈Jq s v):v<nN s∧u<nN s∧∃e∈s.aR,e.1=(v:Int)∧e.2.1=(u:Int):=by
 obtain⟨z,hz,rfl⟩:=List.mem_map.1 hu
 obtain⟨h1,h2,e,he,e1,e2⟩:=j8.1 hz
 have:=hs.nn
 exact⟨by omega,by omega,e,he,e1,by omega⟩
theorem Vk:SX.Re (j5 s l hs) (AL s):=by
 obtain⟨hv,Ba,_,_⟩:=Gq hs.fit hs.iT
 refine⟨fun v i cm hi=>((hs.o6).1 (Oi hs cm)).2 i hi,fun v cm u hu i hi =>?_⟩
 obtain⟨h1,h2,e,he,e1,e2⟩:=OA hs hu
 have D9:=(FX hs.fit hs.iT hv u s.aR.length (Nat.le_refl _)).2 e (by rw[List.take_length];exact he) e2
 rw[← CA s _ (show ((u:Nat):Int)<s.n by have:=hs.nn;omega),← Ba,show e.1.toNat=v by omega]at D9
 have:=(hs.Bv D9.1 D9.2.1).1 D9 i hi
 rw[Vj hs cm]
 exact this
theorem Yd:SX.Rc (j5 s l hs) (pg s) (E6 s l):=by
 refine⟨List.Pairwise.filter _ List.nodup_range,fun v hv u hu =>?_,fun c i x hi hc hx aI =>?_⟩
 ·obtain⟨h1,h2,e,he,e1,e2⟩:=OA hs hu
  exact List.mem_filter.2 ⟨List.mem_range.2 h2,List.any_eq_true.2 ⟨e,he,decide_eq_true e2⟩⟩
 ·have hi:i<nW l:=hi
  have hw:=hs.sh
  have jg:∀j,j<nW l→eG s.what s.w j (if j=i then cu s.what (c i) x else c j):=fun j hj=>by
   by_cases e:j=i
   ·subst e;rw[if_pos rfl];exact yZ hw (hc j hj) hx
   ·rw[if_neg e];exact hc j hj
  have v1:=hs.Mc (f:=c) hc
  have v2:=hs.Mc (f:=fun j=>if j=i then cu s.what (c i) x else c j) jg
  have hle:dc s.what s.w ((List.range (nW l)).map c) ((List.range (nW l)).map fun j=>if j=i then cu s.what (c i) x else c j):=(hs.Bv v1 v2).2 fun j hj=>by
   rw[y7 hj,y7 hj]
   by_cases e:j=i
   ·subst e;rw[if_pos rfl];exact SX.Hu (A:=j5 s l hs) (hc j hj) hx
   ·rw[if_neg e];exact yY hw (hc j hj)
  obtain⟨h1,h2⟩:=Ho hle
  rcases Nat.lt_or_eq_of_le h1 with h3 | h3
  ·exact h3
  ·have h4:=congrArg (fun a=>a.getD i 0) (h2 h3)
   rw[y7 hi,y7 hi,if_pos rfl]at h4
   exact absurd h4.symm aI
end
def nk(s:Sy)(l:Lay)(ws ws':List Int):Prop:=∀v i,v<nN s→i<nW l→cu s.what (ws.getD (v*nW l+i) 0) (ws'.getD (v*nW l+i) 0)=ws'.getD (v*nW l+i) 0
structure WI(s:Sy)(l:Lay)(hs:LS s l)(a:WA)(us:Nat):Prop where
 free:sr s l a
 ref:∃D T,RJ s l hs a.W a.ws D T (us+1)∧SX.VI (j5 s l hs) (AL s) (bC s l a.W a.ws D)∧(∀v,v<nN s→SX.uS (j5 s l hs) (bC s l a.W a.ws D) v)∧SX.Rest (bC s l a.W a.ws D)∧SX.EI (bC s l a.W a.ws D) (nN s)∧SX.JI (bC s l a.W a.ws D) (pg s) (E6 s l)
 low:∀v i,v<nN s→i<nW l→cu s.what (wd (gu s v) i) (a.ws.getD (v*nW l+i) 0)=a.ws.getD (v*nW l+i) 0
section
variable {s:Sy} {l:Lay} {hs:LS s l}
theorem Cl{W:List WS}{ws:List Int}{D:List (List Nat)}{v i:Nat}(hv:v<nN s)(hi:i<nW l):(bC s l W ws D).cell v i=ws.getD (v*nW l+i) 0:=if_pos ⟨hv,hi⟩
theorem WI.word{a:WA}{us:Nat}(h:WI s l hs a us){v i:Nat}(hv:v<nN s)(hi:i<nW l):eG s.what s.w i (a.ws.getD (v*nW l+i) 0):=h.free.fl.2.cells v i hv hi
theorem nk.refl{a:WA}{us:Nat}(h:WI s l hs a us):nk s l a.ws a.ws:=fun _ _ hv hi=>yY hs.sh (h.word hv hi)
theorem nk.trans{a b c:WA}{u1 u2 u3:Nat}(h1:WI s l hs a u1)(h2:WI s l hs b u2)(h3:WI s l hs c u3)(r1:nk s l a.ws b.ws)(r2:nk s l b.ws c.ws):nk s l a.ws c.ws:=fun v i hv hi =>
 SX.le_trans (A:=j5 s l hs) (h1.word hv hi) (h2.word hv hi) (h3.word hv hi) (r1 v i hv hi) (r2 v i hv hi)
theorem WI.step{a:WA}{us:Nat}(h:WI s l hs a us)(hu:us<100000000)(i:Nat)(d:Int):WI s l hs (dZ s l a i d).1 (us+1)∧nk s l a.ws (dZ s l a i d).1.ws:=by
 obtain⟨hF,⟨D,T,hR,hV,hC,FA,hE,hJ⟩,eo⟩:=h
 obtain⟨D',T',Kc,qh⟩:=hR.step (by omega) hF i d
 have hb:=Vk hs
 obtain⟨hV',D7⟩:=hV.step hb hR.ti qh
 have hF':=hF.step hs i d
 have hr:nk s l a.ws (dZ s l a i d).1.ws:=fun v j hv hj=>by
  have:=D7 v j hv hj
  rw[Cl hv hj,Cl hv hj]at this
  exact this
 refine⟨⟨hF',⟨D',T',Kc,hV',fun v hv =>?_,FA.step hR.ti qh,hE.step qh,hJ.step (Yd hs) hR.ti hV qh⟩,fun v j hv hj =>?_⟩,hr⟩
 ·exact SX.uS.step hR.ti hV qh hv (hC v hv)
 ·exact SX.le_trans (A:=j5 s l hs) (hs.Cn hj) (hF.fl.2.cells v j hv hj) (hF'.fl.2.cells v j hv hj) (eo v j hv hj) (hr v j hv hj)
theorem TY(hs:LS s l){v i:Nat}(hv:v<nN s)(hi:i<nW l):cu s.what (wd (gu s v) i) (AL s v i)=AL s v i:=by
 obtain⟨bz,Ba,_,_⟩:=Gq hs.fit hs.iT
 have h1:=(FX hs.fit hs.iT bz v s.aR.length (Nat.le_refl _)).1
 rw[← CA s _ (show ((v:Nat):Int)<s.n by have:=hs.nn;omega),← Ba]at h1
 have:=(hs.Bv h1.1 h1.2.1).1 h1 i hi
 rw[qU (gu s v)]at this
 exact this
theorem wi0(bL:kz s l):WI s l hs ⟨W0 l,dL s l⟩ 0:=by
 obtain⟨km,lO,BU⟩:=MA hs
 have kO:∀p∈(bC s l (W0 l) (dL s l) (D0 s l)).ph,p=.idle 0 0:=fun p hp=>by
  obtain⟨x,hx,rfl⟩:=List.mem_map.1 hp
  rw[show x=nr from List.eq_of_mem_replicate hx];rfl
 have jI:(bC s l (W0 l) (dL s l) (D0 s l)).ev=0:=Of (f:=fun x:WS=>x.ev.toNat) (x:=nr) rfl _
 have kP:(bC s l (W0 l) (dL s l) (D0 s l)).jo=0:=Of (f:=fun x:WS=>x.jo.toNat) (x:=nr) rfl _
 refine⟨Pz bL hs,⟨D0 s l,fun _=>1,rj0 bL,⟨fun v i hv hi =>?_,fun v i hv hi =>?_,fun p hp =>?_⟩,fun v hv=>.inl ?_,fun h =>?_,?_,?_⟩,fun v i hv hi =>?_⟩
 ·rw[Cl hv hi,km v i hv hi];exact hs.Cn hi
 ·rw[Cl hv hi,km v i hv hi];exact TY hs hv hi
 ·rw[kO p hp];trivial
 ·exact decide_eq_true ⟨hv,by rw[lO v hv];decide⟩
 ·exact absurd (kO _ h) (by intro h;cases h)
 ·show SX.AS.ev _+SX.aE List.length (D0 s l)+SX.aE SX.fL _≤nN s+SX.AS.jo _
  rw[jI,kP,P5 bL,SX.wZ fun p hp=>by rw[kO p hp];rfl];omega
 ·show SX.AS.jo _+SX.aE SX.eC _≤_
  rw[kP,SX.wZ fun p hp=>by rw[kO p hp];rfl];omega
 ·rw[km v i hv hi];exact yY hs.sh (hs.Cn hi)
end
section
variable {s:Sy} {l:Lay} {hs:LS s l}
structure XI(s:Sy)(l:Lay)(hs:LS s l)(x:jk WA):Prop where
 wi:WI s l hs x.a x.us
 dn:x.dn=x.a.W.map (·.en)
 st:x.st.length=l.k.toNat
theorem TR{s:Sy}{l:Lay}{who:Int}{x:WS}{d:Int}{ws:List Int}:(cz aT s l who x d ws).2.2=(cz aT s l who x d ws).1.en:=by
 cases he:x.en with
 | true=>unfold cz;rw[if_pos he];exact he.symm
 | false=>exact VC (s:=s) (l:=l) (who:=who) (d:=d) (ws:=ws) he
theorem XI.pick{x:jk WA}(h:XI s l hs x)(hu:x.us<100000000)(p:Int×Int×Unit):XI s l hs (iQ (dZ s l) (fun a _=>a) l.k.toNat x p)∧nk s l x.a.ws (iQ (dZ s l) (fun a _=>a) l.k.toNat x p).a.ws:=by
 have lN:=hs.k1
 have pT:=zN (p:=p.1) (show 0<l.k.toNat by omega)
 have hlen:=h.wi.free.len
 unfold iQ
 by_cases hd:x.dn.getD (gA p.1 l.k.toNat) true=true
 ·rw[if_pos hd]
  obtain⟨hw,h2,h3⟩:=h
  obtain⟨hF,⟨D,T,hR,hV,hC,FA,hE,hJ⟩,eo⟩:=hw
  exact⟨⟨⟨hF,⟨D,T,⟨hR.len,hR.fl,hR.ji,hR.dl,hR.di,lU hR,fun y hy=>by have:=hR.ev y hy;show 0≤y.ev∧y.ev≤((x.us+1+1:Nat):Int)∧0≤y.jo∧y.jo≤((x.us+1+1:Nat):Int);omega,hR.jn,hR.pn,hR.ti⟩,hV,hC,FA,hE,hJ⟩,eo⟩,h2,h3⟩,fun v i hv hi=>yY hs.sh (hF.fl.2.cells v i hv hi)⟩
 ·rw[if_neg hd]
  obtain⟨h1,h2⟩:=h.wi.step hu (gA p.1 l.k.toNat) p.2.1
  refine⟨⟨h1,?_,by show (x.st.set _ _).length=_;rw[List.length_set];exact h.st⟩,h2⟩
  show x.dn.set _ _=(dZ s l x.a _ _).1.W.map (·.en)
  have hW:x.a.W[gA p.1 l.k.toNat]?=some x.a.W[gA p.1 l.k.toNat]:=List.getElem?_eq_getElem (by omega)
  rw[CU hW,h.dn,TR]
  show _=(List.set _ _ _).map _
  rw[List.map_set]
theorem XI.go:∀(aA:List (Int×Int×Unit)) {x:jk WA},XI s l hs x→x.us+aA.length<100000000→XI s l hs (s6 s l aA x)∧nk s l x.a.ws (s6 s l aA x).a.ws
 | [],x,h,_=>⟨h,nk.refl h.wi⟩
 | p::aA,x,h,hu=>by
  show XI s l hs (if x.dn.all id=true then x else s6 s l aA (iQ (dZ s l) (fun a _=>a) l.k.toNat x p))∧nk s l x.a.ws (if x.dn.all id=true then x else s6 s l aA (iQ (dZ s l) (fun a _=>a) l.k.toNat x p)).a.ws
  have hl:x.us+(aA.length+1)<100000000:=hu
  by_cases hd:x.dn.all id=true
  ·rw[if_pos hd];exact⟨h,nk.refl h.wi⟩
  ·rw[if_neg hd]
   obtain⟨h1,h2⟩:=h.pick (by omega) p
   have fA:(iQ (dZ s l) (fun a _=>a) l.k.toNat x p).us=x.us+1:=by unfold iQ;split <;> rfl
   obtain⟨h3,h4⟩:=XI.go aA h1 (by rw[fA];omega)
   exact⟨h3,nk.trans h.wi h1.wi h3.wi h2 h4⟩
theorem xi0(bL:kz s l):XI s l hs (wz s l):=⟨wi0 bL,by show List.replicate _ _=(List.replicate _ _).map _;rw[List.map_replicate];rfl,List.length_replicate⟩
end
end Go.Proofs.YtnpidbjdilnhlaaGreat
