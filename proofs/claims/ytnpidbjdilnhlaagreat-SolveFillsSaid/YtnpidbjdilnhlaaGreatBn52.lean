import Derived.Test.YtnpidbjdilnhlaaGreatBn51
import Derived.Test.YtnpidbjdilnhlaaGreatBn33
import Derived.Test.YtnpidbjdilnhlaaGreatBn13
import Derived.Test.YtnpidbjdilnhlaaGreatBn25
import Derived.Test.YtnpidbjdilnhlaaGreatBn50
namespace Go.Proofs.YtnpidbjdilnhlaaGreat
open Go.RowKit
set_option maxRecDepth 100000
set_option maxHeartbeats 4000000
theorem UA(s:Sy)(l:Lay)(p q lw n:Nat)(L:List Nat)(Z:List WZ)(W:List WS)(st:List Int)(dn:List Bool)(us:Int)(ws:List Int)(σ:Hp)(hW:Z.map (·.x)=W)(hL:L.length=n)(hZ:W.length=n)(hn:n≤64):
  ACalls Tryz.prog 68 [.agg (cE (.ptr p 0) l (.ae lw 0 n 1) (.af (.int .i64) st) (.af .bool dn) us)] ((lw,L.map pW)::aY p q ws (db s l (bU L) Z++σ)) (aB (.tup [.int .i64 (uj W),.int .i64 (tS W)]) ((lw,L.map pW)::aY p q ws (db s l (bU L) Z++σ))):=by
 have hZl:Z.length=n:=by rw[← hZ,← hW,List.length_map]
 refine okF Tryz.func68 (by kernel_rfl) ?_
 intro b1
 refine aa.mk 0 _ _ rfl rfl ?_
 refine aU (S:=Nat) (fun i=>[(4,.int .i64 (uj (W.take i))),(5,.int .i64 (tS (W.take i))),(9,.ae lw 0 n 1),(10,.int .i64 n),(11,.int .i64 i)]) (fun _=>(b1,cE (.ptr p 0) l (.ae lw 0 n 1) (.af (.int .i64) st) (.af .bool dn) us)::(lw,L.map pW)::aY p q ws (db s l (bU L) Z++σ)) (fun i=>i≤n) (fun i=>n-i) 0 ⟨Nat.zero_le _,⟨rfl,rfl,rfl,rfl,rfl,trivial⟩,rfl⟩ ?_
 intro i g cY
 have hi:i≤n:=cY
 clear cY
 refine an (p:=(i:Int)<(n:Int)) (fun ab =>?_) (fun aq =>?_)
 rotate_left
 ·have aq:i=n:=by omega
  have e:W.take i=W:=List.take_of_length_le (by omega)
  rw[e]
  exact .drop 0 1 (.done ⟨rfl,rfl⟩)
 have ab:i<n:=by omega
 have hg:(L.map pW)[0+((i:Int)).toNat*1]?=some (.ptr L[i] 0):=by
  rw[Int.toNat_natCast,Nat.mul_one,Nat.zero_add,List.getElem?_map,List.getElem?_eq_getElem (by omega)];rfl
 refine ah.mk ⟨rfl,by omega,by omega⟩ ?_
 refine aa.mk 1 _ _ rfl (eO rfl hg) ?_
 have hw:=JV (s:=s) (l:=l) (I:=bU L) (Z:=Z) (i:=i) (by rw[wT];omega) (by omega)
 have hI:(bU L)[i]'(by rw[wT];omega)=(i,L[i]):=by simp[bU]
 have hx:Z[i].x=W[i]:=by
  have:(Z.map (·.x))[i]'(by rw[List.length_map];omega)=Z[i].x:=List.getElem_map ..
  rw[← this];congr 1
 rw[hI,hx]at hw
 have hev:=RP (W:=W) (i:=i) (by omega)
 have hjo:=Rw (W:=W) (i:=i) (by omega)
 generalize W[i]=x at hw hev hjo
 have hp:((b1,cE (.ptr p 0) l (.ae lw 0 n 1) (.af (.int .i64) st) (.af .bool dn) us)::(lw,L.map pW)::aY p q ws (db s l (bU L) Z++σ)).Perm ((L[i],cF s l i x.ev x.jo x.en x.ao (BP Z[i].r x.now) x.node x.has x.nx x.out)::(BQ l x.node Z[i].r Z[i].c Z[i].acc x.now++((b1,cE (.ptr p 0) l (.ae lw 0 n 1) (.af (.int .i64) st) (.af .bool dn) us)::(lw,L.map pW)::aY p q ws ((((bU L).zip Z).eraseIdx i).flatMap (si s l)++σ)))):=by
  refine (List.Perm.append_left [_,_,_,_] (List.Perm.append_right σ hw)).trans ?_
  have h:=kb [[(b1,cE (.ptr p 0) l (.ae lw 0 n 1) (.af (.int .i64) st) (.af .bool dn) us),(lw,L.map pW)],aY p q ws [],[(L[i],cF s l i x.ev x.jo x.en x.ao (BP Z[i].r x.now) x.node x.has x.nx x.out)],BQ l x.node Z[i].r Z[i].c Z[i].acc x.now,(((bU L).zip Z).eraseIdx i).flatMap (si s l)] σ (a:=[0,1,2,3,4]) (b:=[2,3,0,1,4]) (by decide)
  unfold WB
  rw[List.cons_append,List.append_assoc]
  exact h
 refine .cz (.perm hp.symm (.refl _)) ?_
 refine .quiet (by kernel_rfl) ?_
 refine aa.mk 0 _ _ rfl rfl ?_
 refine aa.mk 0 _ _ rfl rfl ?_
 exact aH (i+1) (by show n-(i+1)<n-i;omega) ab ⟨congrArg (AV.int .i64) hev,congrArg (AV.int .i64) hjo,rfl,rfl,aI (by omega),trivial⟩ (.perm hp (.refl _))
abbrev tf(cf:List (List Int))(ev jo us:Int):List AV:=[.af (.slice (.int .u64)) cf,.int .i64 ev,.int .i64 jo,.int .i64 us]
def lC:List AV:=[.aj,.int .i64 0,.int .i64 0,.int .i64 0]
theorem QH(s:Sy)(k:Nat)(l:Lay)(hl:eP s k=l)(aE:List (Int×Int×Unit))(σ:Hp)(hf:Fit s)(he:cb s k=0)(ob:aE.length≤100000)(cD:k≤64)(di:(cM s l aE).dn.length=k)(hd:(cM s l aE).dn.all id=false):ACalls Tryz.prog 26 [.agg (bg s),.int .i64 k,.af lz aE] σ (fun r σ'=>r=.tup [.agg lC,.int .i64 11]∧σ'=σ∧iz s l):=by
 have hF:=fun σ=>L7 (.af (.int .i64) (cM s l aE).st) (cM s l aE).us (cM s l aE).dn σ (by omega)
 rw[hd]at hF
 refine okF Tryz.func26 (by kernel_rfl) ?_
 intro b3
 intro b6
 refine aa.mk 1 _ _ rfl rfl ?_
 refine .perm _ (.refl _) (IK s k l hl aE _ hf he ob) ?_
 rintro _ _ ⟨p,q,lw,L,Z,rfl,hL,hZ,rfl,bR⟩
 refine⟨_,kb [[(lw,L.map pW)],aY p q (cM s l aE).a.ws [],db s l (bU L) Z,[(b6,lC)],[(b3,bg s)]] σ (a:=[0,3,4,1,2]) (b:=[0,1,2,3,4]) (by decide),?_⟩
 generalize (cM s l aE)=x at hF hZ
 intro aC
 refine ai.mk 0 _ _ rfl rfl ?_
 refine aa.mk 0 _ _ rfl rfl ?_
 refine az [] (hF _) ?_
 refine ai.mk 2 _ _ rfl rfl ?_
 refine aa.mk 2 _ _ rfl rfl ?_
 exact .drop 0 6 (IE (db s l (bU L) Z) (.done ⟨rfl,rfl,bR⟩))
theorem Vv(s:Sy)(k:Nat)(l:Lay)(hl:eP s k=l)(aE:List (Int×Int×Unit))(σ:Hp)(hf:Fit s)(he:cb s k=0)(ob:aE.length≤100000)(cD:k≤64)(hn:l.n=(nN s:Int))(pK:nN s≤100000)(di:(cM s l aE).dn.length=k)(nF:(cM s l aE).a.W.length=k)(hd:(cM s l aE).dn.all id=true):ACalls Tryz.prog 26 [.agg (bg s),.int .i64 k,.af lz aE] σ (fun r σ'=>r=.tup [.agg (tf (gW l (cM s l aE).a.ws (nN s)) (uj (cM s l aE).a.W) (tS (cM s l aE).a.W) (cM s l aE).us),.int .i64 0]∧σ'=σ∧iz s l):=by
 have hF:=fun σ=>L7 (.af (.int .i64) (cM s l aE).st) (cM s l aE).us (cM s l aE).dn σ (by omega)
 rw[hd]at hF
 refine okF Tryz.func26 (by kernel_rfl) ?_
 intro b3
 intro b6
 refine aa.mk 1 _ _ rfl rfl ?_
 refine .perm _ (.refl _) (IK s k l hl aE _ hf he ob) ?_
 rintro _ _ ⟨p,q,lw,L,Z,rfl,hL,hZ,rfl,bR⟩
 refine⟨_,kb [[(lw,L.map pW)],aY p q (cM s l aE).a.ws [],db s l (bU L) Z,[(b6,lC)],[(b3,bg s)]] σ (a:=[0,3,4,1,2]) (b:=[0,1,2,3,4]) (by decide),?_⟩
 generalize (cM s l aE)=x at hF hZ nF ⊢
 intro aC
 refine ai.mk 0 _ _ rfl rfl ?_
 refine aa.mk 0 _ _ rfl rfl ?_
 refine az [] (hF _) ?_
 obtain⟨P,hP⟩:∃P,P=(aC,cE (.ptr p 0) l (.ae lw 0 k 1) (.af (.int .i64) x.st) (.af .bool x.dn) x.us):=⟨_,rfl⟩
 have q1:(aY p q x.a.ws (P::(lw,L.map pW)::(b6,lC)::(b3,bg s)::(db s l (bU L) Z++σ))).Perm (P::(lw,L.map pW)::(b6,lC)::(b3,bg s)::aY p q x.a.ws (db s l (bU L) Z++σ)):=kb [[P,(lw,L.map pW),(b6,lC),(b3,bg s)],aY p q x.a.ws [],db s l (bU L) Z] σ (a:=[1,0,2]) (b:=[0,1,2]) (by decide)
 have q2:∀Q,(aY p q x.a.ws (Q::P::(lw,L.map pW)::(b6,lC)::(b3,bg s)::(db s l (bU L) Z++σ))).Perm (Q::P::(lw,L.map pW)::(b6,lC)::(b3,bg s)::aY p q x.a.ws (db s l (bU L) Z++σ)):=fun Q=>kb [[Q,P,(lw,L.map pW),(b6,lC),(b3,bg s)],aY p q x.a.ws [],db s l (bU L) Z] σ (a:=[1,0,2]) (b:=[0,1,2]) (by decide)
 subst hP
 refine .meet (S:=Nat) (fun b=>[(6,.ptr b6 0),(8,.ptr aC 0),(10,.ptr b 0)]) (fun b=>(b,tf (gW l x.a.ws (nN s)) 0 0 x.us)::(aC,cE (.ptr p 0) l (.ae lw 0 k 1) (.af (.int .i64) x.st) (.af .bool x.dn) x.us)::(lw,L.map pW)::(b6,lC)::(b3,bg s)::aY p q x.a.ws (db s l (bU L) Z++σ)) (by kernel_rfl) ?_ ?_
 ·repeat' first
   | exact bV.mk _ ⟨rfl,rfl,rfl,trivial⟩ (aF rfl)
   | refine And.intro ?_ ?_
   | refine aa.mk 0 _ _ rfl rfl ?_
   | refine aa.mk 1 _ _ rfl rfl ?_
   | refine ai.mk 0 _ _ rfl rfl ?_
   | (refine .perm _ q1 (CM p q l (nN s) _ _ hn pK) ?_;rintro _ _ ⟨rfl,rfl⟩;refine⟨_,q1.symm,?_⟩)
   | (refine .perm _ (q2 _) (CM p q l (nN s) _ _ hn pK) ?_;rintro _ _ ⟨rfl,rfl⟩;refine⟨_,(q2 _).symm,?_⟩)
   | intro b
 intro b g
 refine aa.mk 1 _ _ rfl rfl ?_
 refine .perm _ (kb [[(lw,L.map pW)],aY p q x.a.ws [],db s l (bU L) Z,[(b,tf (gW l x.a.ws (nN s)) 0 0 x.us)],[(aC,cE (.ptr p 0) l (.ae lw 0 k 1) (.af (.int .i64) x.st) (.af .bool x.dn) x.us)],[(b6,lC)],[(b3,bg s)]] σ (a:=[0,1,2,3,4,5,6]) (b:=[3,4,0,5,6,1,2]) (by decide)) (UA s l p q lw k L Z _ _ _ _ _ _ hZ hL nF cD) ?_
 rintro _ _ ⟨rfl,rfl⟩
 refine⟨_,kb [[(lw,L.map pW)],aY p q x.a.ws [],db s l (bU L) Z,[(b,tf (gW l x.a.ws (nN s)) 0 0 x.us)],[(aC,cE (.ptr p 0) l (.ae lw 0 k 1) (.af (.int .i64) x.st) (.af .bool x.dn) x.us)],[(b6,lC)],[(b3,bg s)]] σ (a:=[3,4,0,5,6,1,2]) (b:=[0,1,2,3,4,5,6]) (by decide),?_⟩
 refine ai.mk 0 _ _ rfl rfl ?_
 refine ai.mk 0 _ _ rfl rfl ?_
 refine aa.mk 0 _ _ rfl rfl ?_
 refine ai.mk 3 _ _ rfl rfl ?_
 refine aa.mk 3 _ _ rfl rfl ?_
 exact .drop 0 7 (IE (db s l (bU L) Z) (.done ⟨rfl,rfl,bR⟩))
end Go.Proofs.YtnpidbjdilnhlaaGreat
namespace Go.Proofs.YtnpidbjdilnhlaaGreat
open Go.RowKit
set_option maxRecDepth 100000
set_option maxHeartbeats 4000000
theorem Rb{s:Sy}{l:Lay}(n:Nat)(x:j8 WA)(p:Int×Int×Unit):(ph (iB s l) (fun a _=>a) n x p).dn.length=x.dn.length∧(ph (iB s l) (fun a _=>a) n x p).a.W.length=x.a.W.length:=by
 unfold ph
 split
 ·exact⟨rfl,rfl⟩
 ·refine⟨List.length_set ..,?_⟩
  show (iB s l x.a _ _).1.W.length=_
  unfold iB
  split
  ·exact List.length_set ..
  ·rfl
theorem K8{s:Sy}{l:Lay}(n:Nat):∀(aE:List (Int×Int×Unit)) (x:j8 WA),(jg (iB s l) (fun a _=>a) n aE x).dn.length=x.dn.length∧(jg (iB s l) (fun a _=>a) n aE x).a.W.length=x.a.W.length
 | [],x=>⟨rfl,rfl⟩
 | p::aE,x=>by
  show (if x.dn.all id=true then x else jg (iB s l) (fun a _=>a) n aE (ph (iB s l) (fun a _=>a) n x p)).dn.length=_∧(if x.dn.all id=true then x else jg (iB s l) (fun a _=>a) n aE (ph (iB s l) (fun a _=>a) n x p)).a.W.length=_
  split
  ·exact⟨rfl,rfl⟩
  ·have h1:=K8 (s:=s) (l:=l) n aE (ph (iB s l) (fun a _=>a) n x p)
   have h2:=Rb (s:=s) (l:=l) n x p
   exact⟨h1.1.trans h2.1,h1.2.trans h2.2⟩
theorem SY(s:Sy)(l:Lay)(aE:List (Int×Int×Unit)):(cM s l aE).dn.length=l.k.toNat∧(cM s l aE).a.W.length=l.k.toNat:=by
 have h:=K8 (s:=s) (l:=l) l.k.toNat aE (yi s l)
 exact⟨h.1.trans List.length_replicate,h.2.trans List.length_replicate⟩
def Ek(s:Sy)(l:Lay)(aE:List (Int×Int×Unit))(r:AV):Prop:=
 ((cM s l aE).dn.all id=true∧r=.tup [.agg (tf (gW l (cM s l aE).a.ws (nN s)) (uj (cM s l aE).a.W) (tS (cM s l aE).a.W) (cM s l aE).us),.int .i64 0])∨((cM s l aE).dn.all id=false∧r=.tup [.agg lC,.int .i64 11])
theorem L1(s:Sy)(k:Nat)(l:Lay)(hl:eP s k=l)(aE:List (Int×Int×Unit))(σ:Hp)(hf:Fit s)(he:cb s k=0)(ob:aE.length≤100000):ACalls Tryz.prog 26 [.agg (bg s),.int .i64 k,.af lz aE] σ (fun r σ'=>Ek s l aE r∧σ'=σ∧iz s l):=by
 obtain⟨hs,yY⟩:=A2 hf he
 have hk:l.k=k:=by rw[← hl];exact Kh he
 rw[hl]at hs
 have cD:=hs.k2
 have hnn:=hs.nn
 have hn:=hs.n
 obtain⟨q9,nD⟩:=SY s l aE
 have e:l.k.toNat=k:=by omega
 rw[e]at q9 nD
 cases hd:(cM s l aE).dn.all id with
 | true =>
  refine (Vv s k l hl aE σ hf he ob (by omega) (by omega) (by omega) q9 nD hd).mono ?_
  rintro _ _ ⟨rfl,rfl,bR⟩
  exact⟨.inl ⟨hd,rfl⟩,rfl,bR⟩
 | false =>
  refine (QH s k l hl aE σ hf he ob (by omega) q9 hd).mono ?_
  rintro _ _ ⟨rfl,rfl,bR⟩
  exact⟨.inr ⟨hd,rfl⟩,rfl,bR⟩
def dx:Sy:=⟨1,1,1,[],[0],[1],[([0],[0],[],())]⟩
theorem D7:cb dx (1:Nat)=0:=by decide +kernel
theorem Kq:Fit dx:=⟨Et (by unfold bh;omega),by decide,by decide,by decide,by decide,fun t ht=>by
 rw[List.mem_singleton.1 ht];exact⟨Et (by unfold bh;omega),Et (by unfold bh;omega),by decide,by decide,by decide⟩⟩
theorem Kp:eP dx (1:Nat)=lN:=by
 unfold eP
 rw[D7,show cT dx.ag dx.w=1 by decide +kernel]
 rfl
def Mf:List Int:=[1,1,1,1,2,0,0]
theorem TP(bR:iz dx lN):kg dx lN=[[0]]:=by
 have hA:=bR.all
 have hO:=bR.own 0 (by decide)
 have hl:(nq (nN dx) dx.bQ dx.entry).length=1:=hA.len
 obtain⟨z,hz⟩:=List.length_eq_one_iff.1 hl
 have ja:=hA.rg z (by rw[hz];exact List.mem_singleton.2 rfl)
 have yw:z=0:=by have:(nN dx:Int)=1:=(by decide +kernel);omega
 unfold kg xK gF
 rw[hz,yw]
 have hk:lN.k.toNat=1:=rfl
 rw[hk]at hO ⊢
 have h0:(gu (nN dx) 1 dx.bQ).getD 0 0=0:=by omega
 show [List.filter (fun x:Int=>decide ((gu (nN dx) 1 dx.bQ).getD x.toNat 0=((0:Nat):Int))) [0]]=[[0]]
 rw[List.filter_cons,if_pos (by show decide ((gu (nN dx) 1 dx.bQ).getD 0 0=((0:Nat):Int))=true;rw[h0];rfl)]
 rfl
theorem RO(bR:iz dx lN):cP dx lN=Mf:=by
 unfold cP jV
 rw[TP bR]
 decide +kernel
def x0Q:j8 WA:=⟨⟨[pG],Mf⟩,[0],[false],0⟩
theorem Vg(bR:iz dx lN):yi dx lN=x0Q:=by
 unfold yi
 rw[RO bR];rfl
def BE(aE:List (Int×Int×Unit)):j8 WA:=jg (iB dx lN) (fun a _=>a) 1 aE x0Q
theorem Ko(bR:iz dx lN)(aE:List (Int×Int×Unit)):cM dx lN aE=BE aE:=by
 unfold cM GA
 rw[Vg bR];rfl
def qz:List (Int×Int×Unit):=List.replicate 20 (0,0,())
theorem TQ:(BE qz).dn.all id=true∧(BE qz).us=14∧gW lN (BE qz).a.ws 1=[[1]]:=by decide +kernel
theorem L2(σ:Hp):ACalls Tryz.prog 26 [.agg (bg dx),.int .i64 1,.af lz qz] σ (fun r σ'=>(∃e j,r=.tup [.agg (tf [[1]] e j 14),.int .i64 0])∧σ'=σ):=by
 refine (L1 dx 1 lN Kp qz _ Kq D7 (by decide)).mono ?_
 rintro _ _ ⟨h,rfl,bR⟩
 unfold Ek at h
 rw[Ko bR]at h
 obtain⟨h1,h2,h3⟩:=TQ
 have hn:nN dx=1:=by decide +kernel
 rw[h1,h2,hn,h3]at h
 rcases h with ⟨_,rfl⟩ | ⟨h,_⟩
 ·exact⟨⟨_,_,rfl⟩,rfl⟩
 ·cases h
theorem SE(σ:Hp):ACalls Tryz.prog 9 [] σ (aB (.bool true) σ):=by
 refine okF Tryz.func9 (by kernel_rfl) ?_
 intro aC
 intro bM
 intro rq
 intro Cj
 intro pS
 intro zq
 refine ai.mk 0 _ _ rfl rfl ?_
 refine aa.mk 0 _ _ rfl rfl ?_
 refine .hY 3 rq 0 1 1 _ (.int .u64) ([0]:List Int) rfl rfl ⟨rfl,rfl,by decide⟩ 1 0 pS _ rfl rfl ?_
 refine .hY 2 Cj 0 1 1 _ (.int .u64) ([0]:List Int) rfl rfl ⟨rfl,rfl,by decide⟩ 1 1 pS _ rfl rfl ?_
 refine AB 1 2 pS _ ga rfl rfl ?_
 refine Dw (ys:=[.agg [.int .i64 1,.int .i64 1,.int .i64 1,.aj,.ae aC 0 1 1,.ae bM 0 1 1,.af gR dx.T],.int .i64 1,.aj]) 1 pS 0 1 3 _ gR dx.T rfl rfl ⟨rfl,rfl,by decide⟩ 0 6 zq _ rfl rfl (bL (xd (bL (.refl _) (bL (.refl _) (bL (.refl _) (bL (.refl _) (bL (.refl _) (bL (.refl _) (bL .here nP))))))) rfl) (.refl _)) ?_
 refine Dw (ys:=[.agg [.int .i64 1,.int .i64 1,.int .i64 1,.aj,.ae aC 0 1 1,.af (.int .u64) dx.init,.af gR dx.T],.int .i64 1,.aj]) 1 bM 0 1 1 _ (.int .u64) dx.init rfl rfl ⟨rfl,rfl,by decide⟩ 0 5 zq _ rfl rfl (bL (xd (bL (.refl _) (bL (.refl _) (bL (.refl _) (bL (.refl _) (bL (.refl _) (bL .here (.refl _))))))) rfl) (.refl _)) ?_
 refine Dw (ys:=[.agg [.int .i64 1,.int .i64 1,.int .i64 1,.aj,.af (.int .i64) dx.entry,.af (.int .u64) dx.init,.af gR dx.T],.int .i64 1,.aj]) 1 aC 0 1 1 _ (.int .i64) dx.entry rfl rfl ⟨rfl,rfl,by decide⟩ 0 4 zq _ rfl rfl (bL (xd (bL (.refl _) (bL (.refl _) (bL (.refl _) (bL (.refl _) (bL .here (.refl _)))))) rfl) (.refl _)) ?_
 refine AB 0 3 zq _ bA rfl rfl ?_
 refine R2 (ys:=[.agg (bg dx),.int .i64 1,.af lz []]) (bL (xd (bL (.refl _) (bL (.refl _) (bL (.refl _) (bL (.nil bA) (.refl _))))) rfl) (bL (.refl _) (bL (.nil lz) (.refl _)))) ?_
 refine .mk [] _ (L1 dx 1 lN Kp [] _ Kq D7 (by decide)) ?_
 rintro _ _ ⟨h,rfl,bR⟩
 unfold Ek at h
 rw[Ko bR]at h
 rcases h with ⟨h,_⟩ | ⟨_,rfl⟩
 ·exact absurd h (by decide)
 intro aC
 refine ai.mk 0 _ _ rfl rfl ?_
 refine .meet (S:=Nat×Int×Int) (fun b=>[(3,.int .i64 11),(4,.ptr b.1 0),(5,.int .i64 0)]) (fun b=>(b.1,tf [[1]] b.2.1 b.2.2 14)::(aC,lC)::(zq,bg dx)::σ) (by kernel_rfl) ?_ ?_
 ·repeat' first
   | exact bV.mk (_,_,_) ⟨rfl,rfl,rfl,trivial⟩ (aF rfl)
   | refine And.intro ?_ ?_
   | refine aa.mk 1 _ _ rfl rfl ?_
   | refine aa.mk 2 _ _ rfl rfl ?_
   | refine aa.mk 3 _ _ rfl rfl ?_
   | refine ai.mk 0 _ _ rfl rfl ?_
   | refine ah.mk ⟨by decide,by decide,by decide,by decide⟩ ?_
   | (refine .bO (args':=[.agg (bg dx),.int .i64 1,.af lz qz]) 0 _ 0 20 2 _ lz qz rfl rfl ⟨rfl,rfl,by decide⟩ (bL (.refl _) (bL (.refl _) (bL .here nP))) ?_;refine .mk [] _ (L2 _) ?_;rintro _ _ ⟨⟨e,j,rfl⟩,rfl⟩)
   | (refine .bO (args':=[.agg (bg dx),.int .i64 1,.af lz qz]) 1 _ 0 20 2 _ lz qz rfl rfl ⟨rfl,rfl,by decide⟩ (bL (.refl _) (bL (.refl _) (bL .here nP))) ?_;refine .mk [] _ (L2 _) ?_;rintro _ _ ⟨⟨e,j,rfl⟩,rfl⟩)
   | intro b
 rintro⟨b,e,j⟩ g
 refine aa.mk 0 _ _ rfl rfl ?_
 refine aa.mk 0 _ _ rfl rfl ?_
 refine aa.mk 0 _ _ rfl rfl ?_
 refine ah.mk rfl ?_
 refine aT.mk ([1]:List Int) (by decide) rfl ?_
 refine ah.mk rfl ?_
 refine aT.mk (1:Int) (by decide) rfl ?_
 exact .drop 0 3 (.done ⟨rfl,rfl⟩)
end Go.Proofs.YtnpidbjdilnhlaaGreat
namespace Go.Proofs.YtnpidbjdilnhlaaGreat
open Go.RowKit
set_option maxRecDepth 100000
set_option maxHeartbeats 4000000
theorem P9(l:Lay)(ws:List Int)(i:Nat):(gW l ws (i+1)).map (AV.af (.int .u64))=(gW l ws i).map (AV.af (.int .u64))++[.af (.int .u64) (gZ (cy l i) ws (cw l.words))]:=Io (fun v:Nat=>gZ (cy l v) ws (cw l.words)) (AV.af (.int .u64)) i
theorem Uq(m q n:Nat)(l:Lay)(ws:List Int)(σ:Hp)(hn:l.n=n)(pK:n≤100000):ACalls Tryz.prog 23 [.ptr m 0,.agg (de l)] (fF m q ws σ) (aB (.af (.slice (.int .u64)) (gW l ws n)) (fF m q ws σ)):=by
 refine okF Tryz.func23 (by kernel_rfl) ?_
 intro b1
 refine .wrap 5 .aj rfl rfl ?_
 refine aU (S:=Nat×AV×Hp) (fun t=>[(0,.ptr m 0),(3,.ptr b1 0),(5,.via t.2.1),(6,.int .i64 t.1)]) (fun t=>(b1,de l)::fF m q ws (t.2.2++σ)) (fun t=>t.1≤n∧Acc 1 t.1 t.2.1 t.2.2 ((gW l ws t.1).map (AV.af (.int .u64)))) (fun t=>n-t.1) (0,.aj,[]) ⟨⟨Nat.zero_le _,.nil⟩,⟨rfl,rfl,rfl,rfl,trivial⟩,rfl⟩ ?_
 rintro⟨i,v,acc⟩ g ⟨cY,h0⟩
 have hi:i≤n:=cY
 have h:Acc 1 i v acc ((gW l ws i).map (AV.af (.int .u64))):=h0
 clear cY h0
 refine aa.mk 0 _ _ rfl rfl ?_
 refine an (p:=(i:Int)<l.n) (fun ab =>?_) (fun aq =>?_)
 rotate_left
 ·have aq:i=n:=by omega
  subst aq
  have hlen:(gW l ws i).length=i:=by unfold gW;rw[List.length_map,List.length_range]
  exact jR [(b1,de l),(m,[AV.ae q 0 ws.length 1]),(q,aL ws)] (s:=.slice (.int .u64)) h hlen.symm (List.map_eq_flatMap ..) Nat.one_pos (.drop 0 1 (.done ⟨rfl,rfl⟩))
 have ab:i<n:=by omega
 refine aa.mk 0 _ _ rfl rfl ?_
 refine aa.mk 0 _ _ rfl rfl ?_
 refine az [2,2] (Ur m q ws _ _ _) ?_
 intro aC
 refine dX [_,(m,[AV.ae q 0 ws.length 1]),(q,aL ws),(b1,de l)] h (.ae 0 aC 0 1 _ rfl (Nat.le_of_ble_eq_true rfl)) rfl (by omega) (by decide) (by decide) (fun v' aP h' =>?_)
 exact aH (i+1,v',aP) (by show n-(i+1)<n-i;omega) ⟨ab,MN (P9 l ws i) h'⟩ ⟨rfl,rfl,rfl,aI (by omega),trivial⟩ (.drop 0 1 (.pull [2] (.refl _)))
end Go.Proofs.YtnpidbjdilnhlaaGreat
namespace Go.Proofs.YtnpidbjdilnhlaaGreat
open Go.RowKit
set_option maxRecDepth 100000
set_option maxHeartbeats 4000000
def A0(s:Sy)(l:Lay)(ws:List Int):List (List Int):=(List.range (nN s)).map fun v=>(List.range (nW l)).map fun i=>ws.getD (v*nW l+i) 0
theorem Oz{f:Nat→Int}{n i:Nat}(h:i<n):((List.range n).map f).getD i 0=f i:=by
 rw[List.getD_eq_getElem?_getD,List.getElem?_map,List.getElem?_range h];rfl
section
variable {s:Sy} {l:Lay} (hs:LS s l)
include hs
theorem LS.PB{f:Nat→Int}(h:∀i,i<nW l→gr s.ag s.w i (f i)):mN s.ag s.w ((List.range (nW l)).map f):=
 (hs.Mb).2 ⟨by simp,fun i hi=>by rw[Oz hi];exact h i hi⟩
theorem Oh{ws:List Int}(h:MV s l ws):Fm s (A0 s l ws):=by
 refine⟨by unfold A0;rw[List.length_map,List.length_range];exact hs.nn.1.symm,fun x hx =>?_⟩
 obtain⟨v,hv,rfl⟩:=List.mem_map.1 hx
 exact hs.PB fun i hi=>h.cells v i (List.mem_range.1 hv) hi
end
section
variable {s:Sy} {l:Lay} {hs:LS s l}
end
section
variable {s:Sy} {l:Lay} {hs:LS s l}
end
end Go.Proofs.YtnpidbjdilnhlaaGreat
