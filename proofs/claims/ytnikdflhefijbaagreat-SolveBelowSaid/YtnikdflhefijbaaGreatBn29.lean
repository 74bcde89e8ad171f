import Derived.Test.YtnikdflhefijbaaGreatBn28
namespace Go.Proofs.YtnikdflhefijbaaGreat
open Go.RowKit
set_option maxRecDepth 100000
set_option maxHeartbeats 4000000
def pf(M:AMem)(s:Sy)(l:Lay)(who:Int)(w:Nat)(res:WS×M.O.A×Bool)(σ:Hp):AV→Hp→Prop:=fun z σ'=>∃m' r c acc,yH c acc res.1.now∧M.abs m'=res.2.1∧z=.bool res.2.2∧σ'=WB s l who w r c acc res.1++(M.B m'++σ)
theorem ZH{M:AMem}{s:Sy}{l:Lay}{who:Int}{w:Nat}{σ:Hp}{x:WS}{a:M.O.A}{d:Int}(h:x.en=true){m:M.S}(hm:M.abs m=a){r:Nat}{c:AV}{acc:Hp}(rd:yH c acc x.now):pf M s l who w (dw M.O s l who x d a) σ (.bool true) (WB s l who w r c acc x++(M.B m++σ)):=by
 unfold dw
 rw[ai h]
 exact⟨m,r,c,acc,rd,hm,rfl,rfl⟩
theorem gy{M:AMem}{s:Sy}{l:Lay}{who:Int}{w:Nat}{σ:Hp}{x:WS}{a a':M.O.A}{d:Int}{n n':Nw}{b:Bool}{m':M.S}{y:WS}(he:x.en=false)(dR:kh l who x d=n)(hn:fT M.O l x.node n a=(n',a',b))(hb:b=true)(hm:M.abs m'=a')(hy:eg s l x n'=y)(h0:y.now=.none)(r:Nat):pf M s l who w (dw M.O s l who x d a) σ (.bool y.en) (WB s l who w r .aj [] y++(M.B m'++σ)):=by
 unfold dw
 rw[ah (by rw[he];decide),dR,hn]
 dsimp only
 rw[ai hb,hy]
 exact⟨m',r,.aj,[],by rw[h0];trivial,hm,rfl,rfl⟩
theorem gW{M:AMem}{s:Sy}{l:Lay}{who:Int}{w:Nat}{σ:Hp}{x:WS}{a a':M.O.A}{d:Int}{n n':Nw}{b:Bool}{m':M.S}(he:x.en=false)(dR:kh l who x d=n)(hn:fT M.O l x.node n a=(n',a',b))(hb:b=false)(hm:M.abs m'=a')(r:Nat)(c:AV)(acc:Hp)(rd:yH c acc n'):pf M s l who w (dw M.O s l who x d a) σ (.bool false) (WB s l who w r c acc ⟨x.ev,x.jo,x.en,x.does,n',x.node,x.has,x.nx,x.out⟩++(M.B m'++σ)):=by
 unfold dw
 rw[ah (by rw[he];decide),dR,hn]
 dsimp only
 rw[ah (by rw[hb];decide)]
 exact⟨m',r,c,acc,rd,hm,rfl,rfl⟩
theorem iA{M:AMem}{f:FuncId}{xs:List AV}{X:Type}{B:X→List AV}{r:Nat}{cs:List AV}{res:X×M.O.A×Bool}{x':X}{a':M.O.A}{b':Bool}{m:M.S}(fr:Hp){σ:Hp}{K:AV→Hp→Prop}(aq:res=(x',a',b'))(h:∀σ,ACalls Tryz.prog f xs ((r,cs)::(M.B m++σ)) (qa M σ B r res))
  (k1:∀m',M.abs m'=a'→b'=true→K (.bool true) (fr++((r,B x')::(M.B m'++σ)))) (k2:∀m',M.abs m'=a'→b'=false→K (.bool false) (fr++((r,B x')::(M.B m'++σ)))):CallAt Tryz.prog f K xs (fr++((r,cs)::(M.B m++σ))):=by
 subst aq
 exact af5 fr h k1 k2
theorem uB{O:j6}{l:Lay}{node:Int}{q q':DQ}{a a':O.A}{b:Bool}(h:e9 O q a=(q',a',b)):fT O l node (.pop q) a=(.pop q',a',b):=by show (Nw.pop (e9 O q a).1,(e9 O q a).2)=_;rw[h]
theorem uf{O:j6}{l:Lay}{node:Int}{q q':DQ}{a a':O.A}{b:Bool}(h:gx O q a=(q',a',b)):fT O l node (.cu q) a=(.cu q',a',b):=by show (Nw.cu (gx O q a).1,(gx O q a).2)=_;rw[h]
theorem wj{O:j6}{l:Lay}{node:Int}{q q':Qk}{a a':O.A}{b:Bool}(h:rO O q a=(q',a',b)):fT O l node (.quiet q) a=(.quiet q',a',b):=by show (Nw.quiet (rO O q a).1,(rO O q a).2)=_;rw[h]
theorem FY{O:j6}{l:Lay}{node:Int}{q q':Ck}{a a':O.A}{b:Bool}(h:rP O q a=(q',a',b)):fT O l node (.clear q) a=(.clear q',a',b):=by show (Nw.clear (rP O q a).1,(rP O q a).2)=_;rw[h]
theorem um{O:j6}{l:Lay}{node:Int}{q q':Tk}{a a':O.A}{b:Bool}(h:kM O q a=(q',a',b)):fT O l node (.take q) a=(.take q',a',b):=by show (Nw.take (kM O q a).1,(kM O q a).2)=_;rw[h]
theorem Cr{O:j6}{l:Lay}{node:Int}{q q':DQ}{a a':O.A}{b:Bool}(h:gj O q a=(q',a',b)):fT O l node (.push q) a=(.push q',a',b):=by show (Nw.push (gj O q a).1,(gj O q a).2)=_;rw[h]
theorem FB{O:j6}{l:Lay}{node:Int}{q q':Rk}{a a':O.A}{b:Bool}(h:sY O q a=(q',a',b)):fT O l node (.dT q) a=(.dT q',a',b):=by show (Nw.dT (sY O q a).1,(sY O q a).2)=_;rw[h]
theorem uo{O:j6}{l:Lay}{node:Int}{q q':Jn}{a a':O.A}{b:Bool}(h:ij O q a=(q',a',b)):fT O l node (.join q) a=(.join q',a',b):=by show (Nw.join (ij O q a).1,(ij O q a).2)=_;rw[h]
theorem x9{O:j6}{l:Lay}{node:Int}{q q':List Int}{a a':O.A}{b:Bool}(h:mm O l (aS l node) q a=(q',a',b)):fT O l node (.read q) a=(.read q',a',b):=by show (Nw.read (mm O l (aS l node) q a).1,(mm O l (aS l node) q a).2)=_;rw[h]
theorem aaT(l:Lay)(who does node:Int)(nx out:List Int)(d:Int):iF l who does node nx out d≠.none:=by
 unfold iF;repeat' (first | split | (intro h;cases h))
theorem aca{l:Lay}{who does node:Int}{nx out:List Int}{d:Int}(h:does=5∨does=6∨does=7→0<nx.length):vr l nx (iF l who does node nx out d):=by
 unfold iF
 repeat' split
 ·exact⟨bA _,ke _⟩
 ·exact⟨bA _,ke _⟩
 ·trivial
 ·trivial
 ·refine⟨?_,fun _ h=>by cases h⟩
  rcases tT (cw l.words) with h | h
  ·exact .inr ⟨h,rfl⟩
  ·exact .inl h
 ·exact⟨bA _,h (by omega)⟩
 ·exact h (by omega)
 ·exact⟨⟨bA _,ke _⟩,h (by omega)⟩
 ·trivial
theorem Ug{M:AMem}{r w:Nat}{wc:List AV}{m:M.S}{base what words x d:Int}{l:List Int}{c:AV}{acc σ:Hp}{K:AV→Hp→Prop}(hf:M.O.free (M.abs m))(dR:l.length<cw words)(hv:kG c acc l)
  (k1:∀m' b,M.abs m'=(M.O.ld (M.abs m) (wr (base+(l.length:Nat)))).2→l.length+1=cw words→K (.bool true) ((w,wc)::(r,j9 (.ae b 0 (l++[(M.O.ld (M.abs m) (wr (base+(l.length:Nat)))).1]).length 1) base what words true (l++[(M.O.ld (M.abs m) (wr (base+(l.length:Nat)))).1]).length false x)::(b,aM (l++[(M.O.ld (M.abs m) (wr (base+(l.length:Nat)))).1]))::(M.B m'++σ)))
  (k2:∀m' b,M.abs m'=(M.O.ld (M.abs m) (wr (base+(l.length:Nat)))).2→¬l.length+1=cw words→K (.bool false) ((w,wc)::(r,j9 (.ae b 0 (l++[(M.O.ld (M.abs m) (wr (base+(l.length:Nat)))).1]).length 1) base what words false (l++[(M.O.ld (M.abs m) (wr (base+(l.length:Nat)))).1]).length false x)::(b,aM (l++[(M.O.ld (M.abs m) (wr (base+(l.length:Nat)))).1]))::(M.B m'++σ))):CallAt Tryz.prog 406 K [.ptr r 0,M.v,.int .i64 d] ((w,wc)::(r,j9 c base what words false l.length false x)::(acc++(M.B m++σ))):=by
 have IE:=Ar words
 have hp:∀(cs:List AV) (a b:Hp),((r,cs)::(a++(b++((w,wc)::σ)))).Perm ((w,wc)::(r,cs)::(a++(b++σ))):=fun cs a b=>by
  have:=eO [(w,wc)] ((r,cs)::(a++b)) σ
  simpa using this
 refine .perm _ (hp _ acc (M.B m)) (ad1 M r m base what words x l.length false l c acc d ((w,wc)::σ) hf dR hv (by omega)) ?_
 rintro z σ' ⟨m',c',bu,h1,h2,rfl,rfl⟩
 refine⟨_,(hp _ bu (M.B m')).symm,?_⟩
 have hlen:(l++[(M.O.ld (M.abs m) (wr (base+(l.length:Nat)))).1]).length=l.length+1:=by simp
 generalize hg:l++[(M.O.ld (M.abs m) (wr (base+(l.length:Nat)))).1]=g at h1 k1 k2 hlen
 rw[← hlen]
 rw[← hlen]at k1 k2
 cases h1 with
 |nil=>simp at hlen
 |ae b g=>
  by_cases he:g.length=cw words
  ·rw[aV he];exact k1 m' b h2 he
  ·rw[bR he];exact k2 m' b h2 he
theorem acP(M:AMem)(w r:Nat)(c:AV)(acc:Hp)(s:Sy)(l:Lay)(who:Int)(ev jo:Int)(does:Int)(q:DQ)(node:Int)(has:Bool)(nx out:List Int)(d:Int)(m:M.S)(σ:Hp)(hm:M.O.free (M.abs m))(o3:vr l nx (.pop q)):
  ACalls Tryz.prog 390 [.ptr w 0,M.v,.int .i64 d] (WB s l who w r c acc ⟨ev,jo,false,does,.pop q,node,has,nx,out⟩++(M.B m++σ)) (pf M s l who w (dw M.O s l who ⟨ev,jo,false,does,.pop q,node,has,nx,out⟩ d (M.abs m)) σ):=by
 refine ay Tryz.func390 ?_
 refine aa 0 ?_
 refine aa 0 ?_
 refine aa 0 ?_
 obtain⟨q',a',b',aq⟩:∃q' a' b',e9 M.O q (M.abs m)=(q',a',b'):=⟨_,_,_,rfl⟩
 obtain⟨u1,u2,u3,u4,u5,u6,u7,u8,u9⟩:=q'
 cases u4 with
 |true=>
  refine .fwd 1 ?_
  refine .sched [5] (upto [5] 11 0) (by kernel_rfl) ?_
  refine aa 0 ?_
  refine aH [] (du _ _ _) ?_
  refine⟨_,wPop_,?_⟩
  refine iA [_] aq (fun σ=>H4 M r q m d σ hm (by have:=o3.1;omega) o3.2) (fun m' aO hb=>?_) (fun m' aO hb=>?_)
  ·refine az [] (Sq w r s l who ev jo false does node has nx out _ _ _ _ _ _ _ _ _) ?_
   refine ak 0 ?_
   refine ak 0 ?_
   refine aa 0 ?_
   exact .drop 1 1 (.done (gy (x:=⟨ev,jo,false,does,.pop q,node,has,nx,out⟩) (n:=.pop q) rfl rfl (uB aq) hb aO rfl rfl r))
  ·exact .done (gW (x:=⟨ev,jo,false,does,.pop q,node,has,nx,out⟩) (n:=.pop q) rfl rfl (uB aq) hb aO r .aj [] trivial)
 |false=>
  refine .fwd 1 ?_
  refine .sched [5] (upto [5] 11 0) (by kernel_rfl) ?_
  refine aa 0 ?_
  refine aH [] (du _ _ _) ?_
  refine⟨_,wPop_,?_⟩
  refine iA [_] aq (fun σ=>H4 M r q m d σ hm (by have:=o3.1;omega) o3.2) (fun m' aO hb=>?_) (fun m' aO hb=>?_)
  ·refine az [] (Sr w r s l who ev jo false does node has nx out _ _ _ _ _ _ _ _ _) ?_
   refine ak 0 ?_
   refine ak 0 ?_
   refine aa 0 ?_
   exact .drop 1 1 (.done (gy (x:=⟨ev,jo,false,does,.pop q,node,has,nx,out⟩) (n:=.pop q) rfl rfl (uB aq) hb aO rfl rfl r))
  ·exact .done (gW (x:=⟨ev,jo,false,does,.pop q,node,has,nx,out⟩) (n:=.pop q) rfl rfl (uB aq) hb aO r .aj [] trivial)
theorem Zp(M:AMem)(w r:Nat)(c:AV)(acc:Hp)(s:Sy)(l:Lay)(who:Int)(ev jo:Int)(does:Int)(q:DQ)(node:Int)(has:Bool)(nx out:List Int)(d:Int)(m:M.S)(σ:Hp)(hm:M.O.free (M.abs m))(o3:vr l nx (.cu q)):
  ACalls Tryz.prog 390 [.ptr w 0,M.v,.int .i64 d] (WB s l who w r c acc ⟨ev,jo,false,does,.cu q,node,has,nx,out⟩++(M.B m++σ)) (pf M s l who w (dw M.O s l who ⟨ev,jo,false,does,.cu q,node,has,nx,out⟩ d (M.abs m)) σ):=by
 refine ay Tryz.func390 ?_
 refine aa 0 ?_
 refine aa 0 ?_
 refine aa 0 ?_
 obtain⟨q',a',b',aq⟩:∃q' a' b',gx M.O q (M.abs m)=(q',a',b'):=⟨_,_,_,rfl⟩
 obtain⟨u1,u2,u3,u4,u5,u6,u7,u8,u9⟩:=q'
 cases u4 with
 |true=>
  refine .fwd 1 ?_
  refine .sched [5] (upto [5] 11 0) (by kernel_rfl) ?_
  refine aa 0 ?_
  refine aH [] (du _ _ _) ?_
  refine⟨_,wSteal_,?_⟩
  refine iA [_] aq (fun σ=>G4 M r q m d σ hm (by have:=o3.1;omega) o3.2) (fun m' aO hb=>?_) (fun m' aO hb=>?_)
  ·refine az [] (Qa w r s l who ev jo false does node has nx out _ _ _ _ _ _ _ _ _) ?_
   refine ak 0 ?_
   refine ak 0 ?_
   refine aa 0 ?_
   exact .drop 1 1 (.done (gy (x:=⟨ev,jo,false,does,.cu q,node,has,nx,out⟩) (n:=.cu q) rfl rfl (uf aq) hb aO rfl rfl r))
  ·exact .done (gW (x:=⟨ev,jo,false,does,.cu q,node,has,nx,out⟩) (n:=.cu q) rfl rfl (uf aq) hb aO r .aj [] trivial)
 |false=>
  refine .fwd 1 ?_
  refine .sched [5] (upto [5] 11 0) (by kernel_rfl) ?_
  refine aa 0 ?_
  refine aH [] (du _ _ _) ?_
  refine⟨_,wSteal_,?_⟩
  refine iA [_] aq (fun σ=>G4 M r q m d σ hm (by have:=o3.1;omega) o3.2) (fun m' aO hb=>?_) (fun m' aO hb=>?_)
  ·refine az [] (Qb w r s l who ev jo false does node has nx out _ _ _ _ _ _ _ _ _) ?_
   refine ak 0 ?_
   refine ak 0 ?_
   refine aa 0 ?_
   exact .drop 1 1 (.done (gy (x:=⟨ev,jo,false,does,.cu q,node,has,nx,out⟩) (n:=.cu q) rfl rfl (uf aq) hb aO rfl rfl r))
  ·exact .done (gW (x:=⟨ev,jo,false,does,.cu q,node,has,nx,out⟩) (n:=.cu q) rfl rfl (uf aq) hb aO r .aj [] trivial)
theorem Zq(M:AMem)(w r:Nat)(c:AV)(acc:Hp)(s:Sy)(l:Lay)(who:Int)(ev jo:Int)(does:Int)(q:Qk)(node:Int)(has:Bool)(nx out:List Int)(d:Int)(m:M.S)(σ:Hp)(hm:M.O.free (M.abs m)):
  ACalls Tryz.prog 390 [.ptr w 0,M.v,.int .i64 d] (WB s l who w r c acc ⟨ev,jo,false,does,.quiet q,node,has,nx,out⟩++(M.B m++σ)) (pf M s l who w (dw M.O s l who ⟨ev,jo,false,does,.quiet q,node,has,nx,out⟩ d (M.abs m)) σ):=by
 refine ay Tryz.func390 ?_
 refine aa 0 ?_
 refine aa 0 ?_
 refine aa 0 ?_
 obtain⟨q',a',b',aq⟩:∃q' a' b',rO M.O q (M.abs m)=(q',a',b'):=⟨_,_,_,rfl⟩
 obtain⟨u1,u2,u3,u4⟩:=q'
 cases u3 with
 |true=>
  refine .fwd 1 ?_
  refine .sched [5] (upto [5] 11 0) (by kernel_rfl) ?_
  refine aa 0 ?_
  refine aH [] (du _ _ _) ?_
  refine⟨_,wQuiet_,?_⟩
  refine iA [_] aq (fun σ=>G5 M r q m d σ hm) (fun m' aO hb=>?_) (fun m' aO hb=>?_)
  ·refine az [] (FP w r s l who ev jo false does node has nx out _ _ _ _ _) ?_
   refine ak 0 ?_
   refine ak 0 ?_
   refine aa 0 ?_
   exact .drop 1 1 (.done (gy (x:=⟨ev,jo,false,does,.quiet q,node,has,nx,out⟩) (n:=.quiet q) rfl rfl (wj aq) hb aO rfl rfl r))
  ·exact .done (gW (x:=⟨ev,jo,false,does,.quiet q,node,has,nx,out⟩) (n:=.quiet q) rfl rfl (wj aq) hb aO r .aj [] trivial)
 |false=>
  refine .fwd 1 ?_
  refine .sched [5] (upto [5] 11 0) (by kernel_rfl) ?_
  refine aa 0 ?_
  refine aH [] (du _ _ _) ?_
  refine⟨_,wQuiet_,?_⟩
  refine iA [_] aq (fun σ=>G5 M r q m d σ hm) (fun m' aO hb=>?_) (fun m' aO hb=>?_)
  ·refine az [] (FP w r s l who ev jo false does node has nx out _ _ _ _ _) ?_
   refine ak 0 ?_
   refine ak 0 ?_
   refine aa 0 ?_
   exact .drop 1 1 (.done (gy (x:=⟨ev,jo,false,does,.quiet q,node,has,nx,out⟩) (n:=.quiet q) rfl rfl (wj aq) hb aO rfl rfl r))
  ·exact .done (gW (x:=⟨ev,jo,false,does,.quiet q,node,has,nx,out⟩) (n:=.quiet q) rfl rfl (wj aq) hb aO r .aj [] trivial)
theorem Zr(M:AMem)(w r:Nat)(c:AV)(acc:Hp)(s:Sy)(l:Lay)(who:Int)(ev jo:Int)(does:Int)(q:Ck)(node:Int)(has:Bool)(nx out:List Int)(d:Int)(m:M.S)(σ:Hp)(hm:M.O.free (M.abs m)):
  ACalls Tryz.prog 390 [.ptr w 0,M.v,.int .i64 d] (WB s l who w r c acc ⟨ev,jo,false,does,.clear q,node,has,nx,out⟩++(M.B m++σ)) (pf M s l who w (dw M.O s l who ⟨ev,jo,false,does,.clear q,node,has,nx,out⟩ d (M.abs m)) σ):=by
 refine ay Tryz.func390 ?_
 refine aa 0 ?_
 refine aa 0 ?_
 refine aa 0 ?_
 obtain⟨q',a',b',aq⟩:∃q' a' b',rP M.O q (M.abs m)=(q',a',b'):=⟨_,_,_,rfl⟩
 obtain⟨u1,u2,u3,u4⟩:=q'
 refine .fwd 1 ?_
 refine .sched [5] (upto [5] 11 0) (by kernel_rfl) ?_
 refine aa 0 ?_
 refine aH [] (du _ _ _) ?_
 refine⟨_,wClear_,?_⟩
 refine iA [_] aq (fun σ=>Uu M r q m d σ hm) (fun m' aO hb=>?_) (fun m' aO hb=>?_)
 ·refine az [] (Re w r s l who ev jo false does node has nx out _ _ _ _ _) ?_
  refine ak 0 ?_
  refine ak 0 ?_
  refine aa 0 ?_
  exact .drop 1 1 (.done (gy (x:=⟨ev,jo,false,does,.clear q,node,has,nx,out⟩) (n:=.clear q) rfl rfl (FY aq) hb aO rfl rfl r))
 ·exact .done (gW (x:=⟨ev,jo,false,does,.clear q,node,has,nx,out⟩) (n:=.clear q) rfl rfl (FY aq) hb aO r .aj [] trivial)
theorem aaX(M:AMem)(w r:Nat)(c:AV)(acc:Hp)(s:Sy)(l:Lay)(who:Int)(ev jo:Int)(does:Int)(q:Tk)(node:Int)(has:Bool)(nx out:List Int)(d:Int)(m:M.S)(σ:Hp)(hm:M.O.free (M.abs m))(o3:vr l nx (.take q)):
  ACalls Tryz.prog 390 [.ptr w 0,M.v,.int .i64 d] (WB s l who w r c acc ⟨ev,jo,false,does,.take q,node,has,nx,out⟩++(M.B m++σ)) (pf M s l who w (dw M.O s l who ⟨ev,jo,false,does,.take q,node,has,nx,out⟩ d (M.abs m)) σ):=by
 refine ay Tryz.func390 ?_
 refine aa 0 ?_
 refine aa 0 ?_
 refine aa 0 ?_
 obtain⟨q',a',b',aq⟩:∃q' a' b',kM M.O q (M.abs m)=(q',a',b'):=⟨_,_,_,rfl⟩
 obtain⟨u1,u2,u3,u4,u5,u6⟩:=q'
 cases u4 with
 |true=>
  refine .fwd 1 ?_
  refine .sched [5] (upto [5] 11 0) (by kernel_rfl) ?_
  refine aa 0 ?_
  refine aH [] (du _ _ _) ?_
  refine⟨_,wTake_,?_⟩
  refine iA [_] aq (fun σ=>Ht M r q m d σ hm) (fun m' aO hb=>?_) (fun m' aO hb=>?_)
  ·refine az [] (Q9 w r s l who ev jo false does node has nx out _ _ _ _ _ _) ?_
   refine ak 0 ?_
   refine ak 0 ?_
   refine aa 0 ?_
   exact .drop 1 1 (.done (gy (x:=⟨ev,jo,false,does,.take q,node,has,nx,out⟩) (n:=.take q) rfl rfl (um aq) hb aO rfl rfl r))
  ·exact .done (gW (x:=⟨ev,jo,false,does,.take q,node,has,nx,out⟩) (n:=.take q) rfl rfl (um aq) hb aO r .aj [] trivial)
 |false=>
  refine .fwd 1 ?_
  refine .sched [5] (upto [5] 11 0) (by kernel_rfl) ?_
  refine aa 0 ?_
  refine aH [] (du _ _ _) ?_
  refine⟨_,wTake_,?_⟩
  refine iA [_] aq (fun σ=>Ht M r q m d σ hm) (fun m' aO hb=>?_) (fun m' aO hb=>?_)
  ·refine az [] (Ra w r s l who ev jo false does node has nx out _ _ _ _ _ _ o3) ?_
   refine ak 0 ?_
   refine ak 0 ?_
   refine aa 0 ?_
   exact .drop 1 1 (.done (gy (x:=⟨ev,jo,false,does,.take q,node,has,nx,out⟩) (n:=.take q) rfl rfl (um aq) hb aO rfl rfl r))
  ·exact .done (gW (x:=⟨ev,jo,false,does,.take q,node,has,nx,out⟩) (n:=.take q) rfl rfl (um aq) hb aO r .aj [] trivial)
theorem aaZ(M:AMem)(w r:Nat)(c:AV)(acc:Hp)(s:Sy)(l:Lay)(who:Int)(ev jo:Int)(does:Int)(q:DQ)(node:Int)(has:Bool)(nx out:List Int)(d:Int)(m:M.S)(σ:Hp)(hm:M.O.free (M.abs m))(o3:vr l nx (.push q)):
  ACalls Tryz.prog 390 [.ptr w 0,M.v,.int .i64 d] (WB s l who w r c acc ⟨ev,jo,false,does,.push q,node,has,nx,out⟩++(M.B m++σ)) (pf M s l who w (dw M.O s l who ⟨ev,jo,false,does,.push q,node,has,nx,out⟩ d (M.abs m)) σ):=by
 refine ay Tryz.func390 ?_
 refine aa 0 ?_
 refine aa 0 ?_
 refine aa 0 ?_
 obtain⟨q',a',b',aq⟩:∃q' a' b',gj M.O q (M.abs m)=(q',a',b'):=⟨_,_,_,rfl⟩
 refine .fwd 1 ?_
 refine .sched [5] (upto [5] 11 0) (by kernel_rfl) ?_
 refine aa 0 ?_
 refine aH [] (du _ _ _) ?_
 refine⟨_,wPush_,?_⟩
 refine iA [_] aq (fun σ=>U9 M r q m d σ hm (by have:=o3.1.1;omega) o3.1.2) (fun m' aO hb=>?_) (fun m' aO hb=>?_)
 ·refine az [] (Sp w r s l who ev jo false does node has nx out _ _ o3.2) ?_
  refine ak 0 ?_
  refine ak 0 ?_
  refine aa 0 ?_
  exact .drop 1 1 (.done (gy (x:=⟨ev,jo,false,does,.push q,node,has,nx,out⟩) (n:=.push q) rfl rfl (Cr aq) hb aO rfl rfl r))
 ·exact .done (gW (x:=⟨ev,jo,false,does,.push q,node,has,nx,out⟩) (n:=.push q) rfl rfl (Cr aq) hb aO r .aj [] trivial)
theorem X2(M:AMem)(w r:Nat)(c:AV)(acc:Hp)(s:Sy)(l:Lay)(who:Int)(ev jo:Int)(does:Int)(q:Rk)(node:Int)(has:Bool)(nx out:List Int)(d:Int)(m:M.S)(σ:Hp)(hm:M.O.free (M.abs m)):
  ACalls Tryz.prog 390 [.ptr w 0,M.v,.int .i64 d] (WB s l who w r c acc ⟨ev,jo,false,does,.dT q,node,has,nx,out⟩++(M.B m++σ)) (pf M s l who w (dw M.O s l who ⟨ev,jo,false,does,.dT q,node,has,nx,out⟩ d (M.abs m)) σ):=by
 refine ay Tryz.func390 ?_
 refine aa 0 ?_
 refine aa 0 ?_
 refine aa 0 ?_
 obtain⟨q',a',b',aq⟩:∃q' a' b',sY M.O q (M.abs m)=(q',a',b'):=⟨_,_,_,rfl⟩
 refine .fwd 1 ?_
 refine .sched [5] (upto [5] 11 0) (by kernel_rfl) ?_
 refine aa 0 ?_
 refine aH [] (du _ _ _) ?_
 refine⟨_,wRetire_,?_⟩
 refine iA [_] aq (fun σ=>To M r q m d σ hm) (fun m' aO hb=>?_) (fun m' aO hb=>?_)
 ·refine az [] (Qc w r s l who ev jo false does node has nx out _ _) ?_
  refine ak 0 ?_
  refine ak 0 ?_
  refine aa 0 ?_
  exact .drop 1 1 (.done (gy (x:=⟨ev,jo,false,does,.dT q,node,has,nx,out⟩) (n:=.dT q) rfl rfl (FB aq) hb aO rfl rfl r))
 ·exact .done (gW (x:=⟨ev,jo,false,does,.dT q,node,has,nx,out⟩) (n:=.dT q) rfl rfl (FB aq) hb aO r .aj [] trivial)
theorem ab1(M:AMem)(w r:Nat)(c:AV)(acc:Hp)(s:Sy)(l:Lay)(who:Int)(ev jo:Int)(does:Int)(q:Jn)(node:Int)(has:Bool)(nx out:List Int)(d:Int)(m:M.S)(σ:Hp)(hm:M.O.free (M.abs m))(o3:vr l nx (.join q)):
  ACalls Tryz.prog 390 [.ptr w 0,M.v,.int .i64 d] (WB s l who w r c acc ⟨ev,jo,false,does,.join q,node,has,nx,out⟩++(M.B m++σ)) (pf M s l who w (dw M.O s l who ⟨ev,jo,false,does,.join q,node,has,nx,out⟩ d (M.abs m)) σ):=by
 refine ay Tryz.func390 ?_
 refine aa 0 ?_
 refine aa 0 ?_
 refine aa 0 ?_
 obtain⟨q',a',b',aq⟩:∃q' a' b',ij M.O q (M.abs m)=(q',a',b'):=⟨_,_,_,rfl⟩
 obtain⟨u1,u2,u3,u4,u5,u6,u7,u8,u9,u10⟩:=q'
 cases u5 with
 |true=>
  refine .fwd 1 ?_
  refine .sched [5] (upto [5] 11 0) (by kernel_rfl) ?_
  refine aa 0 ?_
  refine aH [] (du _ _ _) ?_
  refine⟨_,wJoin_,?_⟩
  refine iA [_] aq (fun σ=>Hv M r q m d σ hm (by have:=o3.1;omega)) (fun m' aO hb=>?_) (fun m' aO hb=>?_)
  ·refine az [] (Rb w r s l who ev jo false does node has nx out _ _ _ _ _ _ _ _ _ _) ?_
   refine ak 0 ?_
   refine ak 0 ?_
   refine aa 0 ?_
   exact .drop 1 1 (.done (gy (x:=⟨ev,jo,false,does,.join q,node,has,nx,out⟩) (n:=.join q) rfl rfl (uo aq) hb aO rfl rfl r))
  ·exact .done (gW (x:=⟨ev,jo,false,does,.join q,node,has,nx,out⟩) (n:=.join q) rfl rfl (uo aq) hb aO r .aj [] trivial)
 |false=>
  refine .fwd 1 ?_
  refine .sched [5] (upto [5] 11 0) (by kernel_rfl) ?_
  refine aa 0 ?_
  refine aH [] (du _ _ _) ?_
  refine⟨_,wJoin_,?_⟩
  refine iA [_] aq (fun σ=>Hv M r q m d σ hm (by have:=o3.1;omega)) (fun m' aO hb=>?_) (fun m' aO hb=>?_)
  ·refine az [] (Rc w r s l who ev jo false does node has nx out _ _ _ _ _ _ _ _ _ _ o3.2) ?_
   refine ak 0 ?_
   refine ak 0 ?_
   refine aa 0 ?_
   exact .drop 1 1 (.done (gy (x:=⟨ev,jo,false,does,.join q,node,has,nx,out⟩) (n:=.join q) rfl rfl (uo aq) hb aO rfl rfl r))
  ·exact .done (gW (x:=⟨ev,jo,false,does,.join q,node,has,nx,out⟩) (n:=.join q) rfl rfl (uo aq) hb aO r .aj [] trivial)
theorem aaY(M:AMem)(w r:Nat)(c:AV)(acc:Hp)(s:Sy)(l:Lay)(who:Int)(ev jo:Int)(does:Int)(x:List Int)(node:Int)(has:Bool)(nx out:List Int)(d:Int)(m:M.S)(σ:Hp)(hm:M.O.free (M.abs m))(hf:Fit s)(hv:∀a,bD (M.O.ld (M.abs m) a).1)(o3:vr l nx (.read x))(Mx:kG c acc x∧(x=[]→c=.aj)):
  ACalls Tryz.prog 390 [.ptr w 0,M.v,.int .i64 d] (WB s l who w r c acc ⟨ev,jo,false,does,.read x,node,has,nx,out⟩++(M.B m++σ)) (pf M s l who w (dw M.O s l who ⟨ev,jo,false,does,.read x,node,has,nx,out⟩ d (M.abs m)) σ):=by
 refine ay Tryz.func390 ?_
 refine aa 0 ?_
 refine aa 0 ?_
 refine aa 0 ?_
 obtain⟨o4,o5⟩:=o3
 obtain⟨nu,Vq⟩:=Mx
 by_cases ab:x.length<cw l.words
 ·have IE:=Ar l.words
  have aq:mm M.O l (aS l node) x (M.abs m)=(x++[(M.O.ld (M.abs m) (wr (aS l node+(x.length:Nat)))).1],(M.O.ld (M.abs m) (wr (aS l node+(x.length:Nat)))).2,decide (x.length+1=cw l.words)):=ai ab
  have ia:aR (x++[(M.O.ld (M.abs m) (wr (aS l node+(x.length:Nat)))).1]):=fun z hz=>by rcases bO.1 hz with h | h;exact o5 z h;rw[bh.1 h];exact hv _
  have hx3:(x++[(M.O.ld (M.abs m) (wr (aS l node+(x.length:Nat)))).1]).length=x.length+1:=by simp
  refine .fwd 1 ?_
  refine .sched [5] (upto [5] 11 0) (by kernel_rfl) ?_
  refine aa 0 ?_
  refine aH [] (du _ _ _) ?_
  refine⟨_,wRead_,?_⟩
  refine Ug hm ab nu (fun m' b aO he=>?_) (fun m' b aO he=>?_)
  ·refine .kp 2 b 0 (x++[(M.O.ld (M.abs m) (wr (aS l node+(x.length:Nat)))).1]).length 1 _ (.int .u64) (x++[(M.O.ld (M.abs m) (wr (aS l node+(x.length:Nat)))).1]) rfl ?_ ⟨rfl,rfl,by decide⟩ 1 3 r _ rfl rfl ?_
   ·rw[List.drop_zero,← kH];exact List.take_of_length_le (by simp[aM])
   refine az [] (Gd w r s l who ev jo false does node has nx out (x++[(M.O.ld (M.abs m) (wr (aS l node+(x.length:Nat)))).1]) _ _ _ _ _ _ _ _ hf ia (by omega)) ?_
   refine ak 0 ?_
   refine ak 0 ?_
   refine aa 0 ?_
   exact .drop 1 1 (.done (gy (x:=⟨ev,jo,false,does,.read x,node,has,nx,out⟩) (n:=.read x) rfl rfl (x9 aq) (aV he) aO rfl rfl r))
  ·exact .done (gW (x:=⟨ev,jo,false,does,.read x,node,has,nx,out⟩) (n:=.read x) rfl rfl (x9 aq) (decide_eq_false he) aO r (.ae b 0 (x++[(M.O.ld (M.abs m) (wr (aS l node+(x.length:Nat)))).1]).length 1) [(b,aM (x++[(M.O.ld (M.abs m) (wr (aS l node+(x.length:Nat)))).1]))] ⟨.ae b (x++[(M.O.ld (M.abs m) (wr (aS l node+(x.length:Nat)))).1]),fun h=>absurd h (by simp)⟩)
 ·obtain⟨h0,rfl⟩:=o4.resolve_left ab
  generalize hz:([]:List Int)=z0 at nu
  cases nu with
  |ae b z=>exact absurd (Vq rfl) (by simp)
  |nil=>
  have aq:mm M.O l (aS l node) [] (M.abs m)=([],M.abs m,true):=ah ab
  refine .fwd 1 ?_
  refine .sched [5] (upto [5] 11 0) (by kernel_rfl) ?_
  refine aa 0 ?_
  refine aH [] (du _ _ _) ?_
  refine⟨_,wRead_,?_⟩
  refine az [1] (Tp M r _ _ _ _ _ _ d _ h0) ?_
  refine GC 0 3 r _ (.int .u64) rfl rfl ?_
  refine az [1] (Gd w r s l who ev jo false does node has nx out [] _ _ _ _ _ _ _ _ hf o5 (bA _)) ?_
  refine ak 0 ?_
  refine ak 0 ?_
  refine aa 0 ?_
  exact .drop 1 1 (.done (gy (x:=⟨ev,jo,false,does,.read [],node,has,nx,out⟩) (n:=.read []) rfl rfl (x9 aq) rfl rfl rfl rfl r))
set_option maxHeartbeats 4000000
theorem aaU{l:Lay}{who does node:Int}{nx out:List Int}{d:Int}{x:List Int}(h:iF l who does node nx out d=.read x):x=[]:=by
 unfold iF at h
 repeat' (first | (cases h;rfl) | cases h | split at h)
theorem ab0(M:AMem)(w r0:Nat)(c:AV)(acc:Hp)(s:Sy)(l:Lay)(who:Int)(ev jo:Int)(does:Int)(node:Int)(has:Bool)(nx out:List Int)(d:Int)(m:M.S)(σ:Hp)(hm:M.O.free (M.abs m))(hf:Fit s)(hv:∀a,bD (M.O.ld (M.abs m) a).1)(o1:does=5∨does=6∨does=7→0<nx.length)(o2:does=1→nK l≠0∧l.k≠0):
  ACalls Tryz.prog 390 [.ptr w 0,M.v,.int .i64 d] (WB s l who w r0 c acc ⟨ev,jo,false,does,.none,node,has,nx,out⟩++(M.B m++σ)) (pf M s l who w (dw M.O s l who ⟨ev,jo,false,does,.none,node,has,nx,out⟩ d (M.abs m)) σ):=by
 refine ay Tryz.func390 ?_
 refine aa 0 ?_
 refine aa 0 ?_
 refine aa 0 ?_
 refine .mk [] _ (aeA w s l who ev jo false does .nilif node has nx out d _ o1 o2) ?_
 rintro _ _ ⟨r,rfl,rfl⟩
 have o3:vr l nx (iF l who does node nx out d):=aca o1
 have h0:=aaT l who does node nx out d
 generalize gC:iF l who does node nx out d=n at o3 h0
 cases n with
 |none=>exact absurd rfl h0
 |pop q=>
  obtain⟨q',a',b',aq⟩:∃q' a' b',e9 M.O q (M.abs m)=(q',a',b'):=⟨_,_,_,rfl⟩
  obtain⟨u1,u2,u3,u4,u5,u6,u7,u8,u9⟩:=q'
  cases u4 with
  |true=>
   refine ak 1 ?_
   refine gn.dJ (.pull [1] (.refl _)) ?_
   refine .sched [5] (upto [5] 11 0) (by kernel_rfl) ?_
   refine aa 0 ?_
   refine aH [] (du _ _ _) ?_
   refine⟨_,wPop_,?_⟩
   refine iA [_] aq (fun σ=>H4 M r q m d σ hm (by have:=o3.1;omega) o3.2) (fun m' aO hb=>?_) (fun m' aO hb=>?_)
   ·refine az [] (Sq w r s l who ev jo false does node has nx out _ _ _ _ _ _ _ _ _) ?_
    refine ak 0 ?_
    refine ak 0 ?_
    refine aa 0 ?_
    exact .drop 1 1 (.done (gy (x:=⟨ev,jo,false,does,.none,node,has,nx,out⟩) (n:=.pop q) rfl gC (uB aq) hb aO rfl rfl r))
   ·exact .done (gW (x:=⟨ev,jo,false,does,.none,node,has,nx,out⟩) (n:=.pop q) rfl gC (uB aq) hb aO r .aj [] trivial)
  |false=>
   refine ak 1 ?_
   refine gn.dJ (.pull [1] (.refl _)) ?_
   refine .sched [5] (upto [5] 11 0) (by kernel_rfl) ?_
   refine aa 0 ?_
   refine aH [] (du _ _ _) ?_
   refine⟨_,wPop_,?_⟩
   refine iA [_] aq (fun σ=>H4 M r q m d σ hm (by have:=o3.1;omega) o3.2) (fun m' aO hb=>?_) (fun m' aO hb=>?_)
   ·refine az [] (Sr w r s l who ev jo false does node has nx out _ _ _ _ _ _ _ _ _) ?_
    refine ak 0 ?_
    refine ak 0 ?_
    refine aa 0 ?_
    exact .drop 1 1 (.done (gy (x:=⟨ev,jo,false,does,.none,node,has,nx,out⟩) (n:=.pop q) rfl gC (uB aq) hb aO rfl rfl r))
   ·exact .done (gW (x:=⟨ev,jo,false,does,.none,node,has,nx,out⟩) (n:=.pop q) rfl gC (uB aq) hb aO r .aj [] trivial)
 |cu q=>
  obtain⟨q',a',b',aq⟩:∃q' a' b',gx M.O q (M.abs m)=(q',a',b'):=⟨_,_,_,rfl⟩
  obtain⟨u1,u2,u3,u4,u5,u6,u7,u8,u9⟩:=q'
  cases u4 with
  |true=>
   refine ak 1 ?_
   refine gn.dJ (.pull [1] (.refl _)) ?_
   refine .sched [5] (upto [5] 11 0) (by kernel_rfl) ?_
   refine aa 0 ?_
   refine aH [] (du _ _ _) ?_
   refine⟨_,wSteal_,?_⟩
   refine iA [_] aq (fun σ=>G4 M r q m d σ hm (by have:=o3.1;omega) o3.2) (fun m' aO hb=>?_) (fun m' aO hb=>?_)
   ·refine az [] (Qa w r s l who ev jo false does node has nx out _ _ _ _ _ _ _ _ _) ?_
    refine ak 0 ?_
    refine ak 0 ?_
    refine aa 0 ?_
    exact .drop 1 1 (.done (gy (x:=⟨ev,jo,false,does,.none,node,has,nx,out⟩) (n:=.cu q) rfl gC (uf aq) hb aO rfl rfl r))
   ·exact .done (gW (x:=⟨ev,jo,false,does,.none,node,has,nx,out⟩) (n:=.cu q) rfl gC (uf aq) hb aO r .aj [] trivial)
  |false=>
   refine ak 1 ?_
   refine gn.dJ (.pull [1] (.refl _)) ?_
   refine .sched [5] (upto [5] 11 0) (by kernel_rfl) ?_
   refine aa 0 ?_
   refine aH [] (du _ _ _) ?_
   refine⟨_,wSteal_,?_⟩
   refine iA [_] aq (fun σ=>G4 M r q m d σ hm (by have:=o3.1;omega) o3.2) (fun m' aO hb=>?_) (fun m' aO hb=>?_)
   ·refine az [] (Qb w r s l who ev jo false does node has nx out _ _ _ _ _ _ _ _ _) ?_
    refine ak 0 ?_
    refine ak 0 ?_
    refine aa 0 ?_
    exact .drop 1 1 (.done (gy (x:=⟨ev,jo,false,does,.none,node,has,nx,out⟩) (n:=.cu q) rfl gC (uf aq) hb aO rfl rfl r))
   ·exact .done (gW (x:=⟨ev,jo,false,does,.none,node,has,nx,out⟩) (n:=.cu q) rfl gC (uf aq) hb aO r .aj [] trivial)
 |quiet q=>
  obtain⟨q',a',b',aq⟩:∃q' a' b',rO M.O q (M.abs m)=(q',a',b'):=⟨_,_,_,rfl⟩
  obtain⟨u1,u2,u3,u4⟩:=q'
  cases u3 with
  |true=>
   refine ak 1 ?_
   refine gn.dJ (.pull [1] (.refl _)) ?_
   refine .sched [5] (upto [5] 11 0) (by kernel_rfl) ?_
   refine aa 0 ?_
   refine aH [] (du _ _ _) ?_
   refine⟨_,wQuiet_,?_⟩
   refine iA [_] aq (fun σ=>G5 M r q m d σ hm) (fun m' aO hb=>?_) (fun m' aO hb=>?_)
   ·refine az [] (FP w r s l who ev jo false does node has nx out _ _ _ _ _) ?_
    refine ak 0 ?_
    refine ak 0 ?_
    refine aa 0 ?_
    exact .drop 1 1 (.done (gy (x:=⟨ev,jo,false,does,.none,node,has,nx,out⟩) (n:=.quiet q) rfl gC (wj aq) hb aO rfl rfl r))
   ·exact .done (gW (x:=⟨ev,jo,false,does,.none,node,has,nx,out⟩) (n:=.quiet q) rfl gC (wj aq) hb aO r .aj [] trivial)
  |false=>
   refine ak 1 ?_
   refine gn.dJ (.pull [1] (.refl _)) ?_
   refine .sched [5] (upto [5] 11 0) (by kernel_rfl) ?_
   refine aa 0 ?_
   refine aH [] (du _ _ _) ?_
   refine⟨_,wQuiet_,?_⟩
   refine iA [_] aq (fun σ=>G5 M r q m d σ hm) (fun m' aO hb=>?_) (fun m' aO hb=>?_)
   ·refine az [] (FP w r s l who ev jo false does node has nx out _ _ _ _ _) ?_
    refine ak 0 ?_
    refine ak 0 ?_
    refine aa 0 ?_
    exact .drop 1 1 (.done (gy (x:=⟨ev,jo,false,does,.none,node,has,nx,out⟩) (n:=.quiet q) rfl gC (wj aq) hb aO rfl rfl r))
   ·exact .done (gW (x:=⟨ev,jo,false,does,.none,node,has,nx,out⟩) (n:=.quiet q) rfl gC (wj aq) hb aO r .aj [] trivial)
 |clear q=>
  obtain⟨q',a',b',aq⟩:∃q' a' b',rP M.O q (M.abs m)=(q',a',b'):=⟨_,_,_,rfl⟩
  obtain⟨u1,u2,u3,u4⟩:=q'
  refine ak 1 ?_
  refine gn.dJ (.pull [1] (.refl _)) ?_
  refine .sched [5] (upto [5] 11 0) (by kernel_rfl) ?_
  refine aa 0 ?_
  refine aH [] (du _ _ _) ?_
  refine⟨_,wClear_,?_⟩
  refine iA [_] aq (fun σ=>Uu M r q m d σ hm) (fun m' aO hb=>?_) (fun m' aO hb=>?_)
  ·refine az [] (Re w r s l who ev jo false does node has nx out _ _ _ _ _) ?_
   refine ak 0 ?_
   refine ak 0 ?_
   refine aa 0 ?_
   exact .drop 1 1 (.done (gy (x:=⟨ev,jo,false,does,.none,node,has,nx,out⟩) (n:=.clear q) rfl gC (FY aq) hb aO rfl rfl r))
  ·exact .done (gW (x:=⟨ev,jo,false,does,.none,node,has,nx,out⟩) (n:=.clear q) rfl gC (FY aq) hb aO r .aj [] trivial)
 |read x=>
  obtain rfl:x=[]:=aaU gC
  have Mx:kG .aj [] []∧(([]:List Int)=[]→AV.aj=.aj):=⟨.nil,fun _=>rfl⟩
  obtain⟨o4,o5⟩:=o3
  obtain⟨nu,Vq⟩:=Mx
  by_cases ab:([]:List Int).length<cw l.words
  ·have IE:=Ar l.words
   have aq:mm M.O l (aS l node) ([]:List Int) (M.abs m)=(([]:List Int)++[(M.O.ld (M.abs m) (wr (aS l node+(([]:List Int).length:Nat)))).1],(M.O.ld (M.abs m) (wr (aS l node+(([]:List Int).length:Nat)))).2,decide (([]:List Int).length+1=cw l.words)):=ai ab
   have ia:aR (([]:List Int)++[(M.O.ld (M.abs m) (wr (aS l node+(([]:List Int).length:Nat)))).1]):=fun z hz=>by rcases bO.1 hz with h | h;exact o5 z h;rw[bh.1 h];exact hv _
   have hx3:(([]:List Int)++[(M.O.ld (M.abs m) (wr (aS l node+(([]:List Int).length:Nat)))).1]).length=([]:List Int).length+1:=by simp
   refine ak 1 ?_
   refine gn.dJ (.pull [1] (.refl _)) ?_
   refine .sched [5] (upto [5] 11 0) (by kernel_rfl) ?_
   refine aa 0 ?_
   refine aH [] (du _ _ _) ?_
   refine⟨_,wRead_,?_⟩
   refine Ug hm ab nu (fun m' b aO he=>?_) (fun m' b aO he=>?_)
   ·refine .kp 2 b 0 (([]:List Int)++[(M.O.ld (M.abs m) (wr (aS l node+(([]:List Int).length:Nat)))).1]).length 1 _ (.int .u64) (([]:List Int)++[(M.O.ld (M.abs m) (wr (aS l node+(([]:List Int).length:Nat)))).1]) rfl ?_ ⟨rfl,rfl,by decide⟩ 1 3 r _ rfl rfl ?_
    ·rw[List.drop_zero,← kH];exact List.take_of_length_le (by simp[aM])
    refine az [] (Gd w r s l who ev jo false does node has nx out (([]:List Int)++[(M.O.ld (M.abs m) (wr (aS l node+(([]:List Int).length:Nat)))).1]) _ _ _ _ _ _ _ _ hf ia (by omega)) ?_
    refine ak 0 ?_
    refine ak 0 ?_
    refine aa 0 ?_
    exact .drop 1 1 (.done (gy (x:=⟨ev,jo,false,does,.none,node,has,nx,out⟩) (n:=.read ([]:List Int)) rfl gC (x9 aq) (aV he) aO rfl rfl r))
   ·exact .done (gW (x:=⟨ev,jo,false,does,.none,node,has,nx,out⟩) (n:=.read ([]:List Int)) rfl gC (x9 aq) (decide_eq_false he) aO r (.ae b 0 (([]:List Int)++[(M.O.ld (M.abs m) (wr (aS l node+(([]:List Int).length:Nat)))).1]).length 1) [(b,aM (([]:List Int)++[(M.O.ld (M.abs m) (wr (aS l node+(([]:List Int).length:Nat)))).1]))] ⟨.ae b (([]:List Int)++[(M.O.ld (M.abs m) (wr (aS l node+(([]:List Int).length:Nat)))).1]),fun h=>absurd h (by simp)⟩)
  ·obtain⟨h0,-⟩:=o4.resolve_left ab
   generalize hz:([]:List Int)=z0 at nu
   cases nu with
   |nil=>
   have aq:mm M.O l (aS l node) [] (M.abs m)=([],M.abs m,true):=ah ab
   refine ak 1 ?_
   refine gn.dJ (.pull [1] (.refl _)) ?_
   refine .sched [5] (upto [5] 11 0) (by kernel_rfl) ?_
   refine aa 0 ?_
   refine aH [] (du _ _ _) ?_
   refine⟨_,wRead_,?_⟩
   refine az [1] (Tp M r _ _ _ _ _ _ d _ h0) ?_
   refine GC 0 3 r _ (.int .u64) rfl rfl ?_
   refine az [1] (Gd w r s l who ev jo false does node has nx out [] _ _ _ _ _ _ _ _ hf o5 (bA _)) ?_
   refine ak 0 ?_
   refine ak 0 ?_
   refine aa 0 ?_
   exact .drop 1 1 (.done (gy (x:=⟨ev,jo,false,does,.none,node,has,nx,out⟩) (n:=.read []) rfl gC (x9 aq) rfl rfl rfl rfl r))
 |join q=>
  obtain⟨q',a',b',aq⟩:∃q' a' b',ij M.O q (M.abs m)=(q',a',b'):=⟨_,_,_,rfl⟩
  obtain⟨u1,u2,u3,u4,u5,u6,u7,u8,u9,u10⟩:=q'
  cases u5 with
  |true=>
   refine ak 1 ?_
   refine gn.dJ (.pull [1] (.refl _)) ?_
   refine .sched [5] (upto [5] 11 0) (by kernel_rfl) ?_
   refine aa 0 ?_
   refine aH [] (du _ _ _) ?_
   refine⟨_,wJoin_,?_⟩
   refine iA [_] aq (fun σ=>Hv M r q m d σ hm (by have:=o3.1;omega)) (fun m' aO hb=>?_) (fun m' aO hb=>?_)
   ·refine az [] (Rb w r s l who ev jo false does node has nx out _ _ _ _ _ _ _ _ _ _) ?_
    refine ak 0 ?_
    refine ak 0 ?_
    refine aa 0 ?_
    exact .drop 1 1 (.done (gy (x:=⟨ev,jo,false,does,.none,node,has,nx,out⟩) (n:=.join q) rfl gC (uo aq) hb aO rfl rfl r))
   ·exact .done (gW (x:=⟨ev,jo,false,does,.none,node,has,nx,out⟩) (n:=.join q) rfl gC (uo aq) hb aO r .aj [] trivial)
  |false=>
   refine ak 1 ?_
   refine gn.dJ (.pull [1] (.refl _)) ?_
   refine .sched [5] (upto [5] 11 0) (by kernel_rfl) ?_
   refine aa 0 ?_
   refine aH [] (du _ _ _) ?_
   refine⟨_,wJoin_,?_⟩
   refine iA [_] aq (fun σ=>Hv M r q m d σ hm (by have:=o3.1;omega)) (fun m' aO hb=>?_) (fun m' aO hb=>?_)
   ·refine az [] (Rc w r s l who ev jo false does node has nx out _ _ _ _ _ _ _ _ _ _ o3.2) ?_
    refine ak 0 ?_
    refine ak 0 ?_
    refine aa 0 ?_
    exact .drop 1 1 (.done (gy (x:=⟨ev,jo,false,does,.none,node,has,nx,out⟩) (n:=.join q) rfl gC (uo aq) hb aO rfl rfl r))
   ·exact .done (gW (x:=⟨ev,jo,false,does,.none,node,has,nx,out⟩) (n:=.join q) rfl gC (uo aq) hb aO r .aj [] trivial)
 |take q=>
  obtain⟨q',a',b',aq⟩:∃q' a' b',kM M.O q (M.abs m)=(q',a',b'):=⟨_,_,_,rfl⟩
  obtain⟨u1,u2,u3,u4,u5,u6⟩:=q'
  cases u4 with
  |true=>
   refine ak 1 ?_
   refine gn.dJ (.pull [1] (.refl _)) ?_
   refine .sched [5] (upto [5] 11 0) (by kernel_rfl) ?_
   refine aa 0 ?_
   refine aH [] (du _ _ _) ?_
   refine⟨_,wTake_,?_⟩
   refine iA [_] aq (fun σ=>Ht M r q m d σ hm) (fun m' aO hb=>?_) (fun m' aO hb=>?_)
   ·refine az [] (Q9 w r s l who ev jo false does node has nx out _ _ _ _ _ _) ?_
    refine ak 0 ?_
    refine ak 0 ?_
    refine aa 0 ?_
    exact .drop 1 1 (.done (gy (x:=⟨ev,jo,false,does,.none,node,has,nx,out⟩) (n:=.take q) rfl gC (um aq) hb aO rfl rfl r))
   ·exact .done (gW (x:=⟨ev,jo,false,does,.none,node,has,nx,out⟩) (n:=.take q) rfl gC (um aq) hb aO r .aj [] trivial)
  |false=>
   refine ak 1 ?_
   refine gn.dJ (.pull [1] (.refl _)) ?_
   refine .sched [5] (upto [5] 11 0) (by kernel_rfl) ?_
   refine aa 0 ?_
   refine aH [] (du _ _ _) ?_
   refine⟨_,wTake_,?_⟩
   refine iA [_] aq (fun σ=>Ht M r q m d σ hm) (fun m' aO hb=>?_) (fun m' aO hb=>?_)
   ·refine az [] (Ra w r s l who ev jo false does node has nx out _ _ _ _ _ _ o3) ?_
    refine ak 0 ?_
    refine ak 0 ?_
    refine aa 0 ?_
    exact .drop 1 1 (.done (gy (x:=⟨ev,jo,false,does,.none,node,has,nx,out⟩) (n:=.take q) rfl gC (um aq) hb aO rfl rfl r))
   ·exact .done (gW (x:=⟨ev,jo,false,does,.none,node,has,nx,out⟩) (n:=.take q) rfl gC (um aq) hb aO r .aj [] trivial)
 |push q=>
  obtain⟨q',a',b',aq⟩:∃q' a' b',gj M.O q (M.abs m)=(q',a',b'):=⟨_,_,_,rfl⟩
  refine ak 1 ?_
  refine gn.dJ (.pull [1] (.refl _)) ?_
  refine .sched [5] (upto [5] 11 0) (by kernel_rfl) ?_
  refine aa 0 ?_
  refine aH [] (du _ _ _) ?_
  refine⟨_,wPush_,?_⟩
  refine iA [_] aq (fun σ=>U9 M r q m d σ hm (by have:=o3.1.1;omega) o3.1.2) (fun m' aO hb=>?_) (fun m' aO hb=>?_)
  ·refine az [] (Sp w r s l who ev jo false does node has nx out _ _ o3.2) ?_
   refine ak 0 ?_
   refine ak 0 ?_
   refine aa 0 ?_
   exact .drop 1 1 (.done (gy (x:=⟨ev,jo,false,does,.none,node,has,nx,out⟩) (n:=.push q) rfl gC (Cr aq) hb aO rfl rfl r))
  ·exact .done (gW (x:=⟨ev,jo,false,does,.none,node,has,nx,out⟩) (n:=.push q) rfl gC (Cr aq) hb aO r .aj [] trivial)
 |dT q=>
  obtain⟨q',a',b',aq⟩:∃q' a' b',sY M.O q (M.abs m)=(q',a',b'):=⟨_,_,_,rfl⟩
  refine ak 1 ?_
  refine gn.dJ (.pull [1] (.refl _)) ?_
  refine .sched [5] (upto [5] 11 0) (by kernel_rfl) ?_
  refine aa 0 ?_
  refine aH [] (du _ _ _) ?_
  refine⟨_,wRetire_,?_⟩
  refine iA [_] aq (fun σ=>To M r q m d σ hm) (fun m' aO hb=>?_) (fun m' aO hb=>?_)
  ·refine az [] (Qc w r s l who ev jo false does node has nx out _ _) ?_
   refine ak 0 ?_
   refine ak 0 ?_
   refine aa 0 ?_
   exact .drop 1 1 (.done (gy (x:=⟨ev,jo,false,does,.none,node,has,nx,out⟩) (n:=.dT q) rfl gC (FB aq) hb aO rfl rfl r))
  ·exact .done (gW (x:=⟨ev,jo,false,does,.none,node,has,nx,out⟩) (n:=.dT q) rfl gC (FB aq) hb aO r .aj [] trivial)
theorem ae7(M:AMem)(w r:Nat)(c:AV)(acc:Hp)(s:Sy)(l:Lay)(who:Int)(x:WS)(d:Int)(m:M.S)(σ:Hp)(hf:Fit s)(hm:M.O.free (M.abs m))(hv:∀a,bD (M.O.ld (M.abs m) a).1)(ok:Mu l x)(rd:yH c acc x.now):
  ACalls Tryz.prog 390 [.ptr w 0,M.v,.int .i64 d] (WB s l who w r c acc x++(M.B m++σ)) (pf M s l who w (dw M.O s l who x d (M.abs m)) σ):=by
 obtain⟨ev,jo,en,does,n,node,has,nx,out⟩:=x
 obtain⟨o1,o2,o3⟩:=ok
 cases en with
 |true=>
  refine ay Tryz.func390 ?_
  refine aa 0 ?_
  refine aa 0 ?_
  exact .done (ZH rfl rfl rd)
 |false=>
  cases n with
  |none=>exact ab0 M w r c acc s l who ev jo does node has nx out d m σ hm hf hv o1 o2
  |pop q=>exact acP M w r c acc s l who ev jo does q node has nx out d m σ hm o3
  |cu q=>exact Zp M w r c acc s l who ev jo does q node has nx out d m σ hm o3
  |quiet q=>exact Zq M w r c acc s l who ev jo does q node has nx out d m σ hm
  |clear q=>exact Zr M w r c acc s l who ev jo does q node has nx out d m σ hm
  |read q=>exact aaY M w r c acc s l who ev jo does q node has nx out d m σ hm hf hv o3 rd
  |join q=>exact ab1 M w r c acc s l who ev jo does q node has nx out d m σ hm o3
  |take q=>exact aaX M w r c acc s l who ev jo does q node has nx out d m σ hm o3
  |push q=>exact aaZ M w r c acc s l who ev jo does q node has nx out d m σ hm o3
  |dT q=>exact X2 M w r c acc s l who ev jo does q node has nx out d m σ hm
end Go.Proofs.YtnikdflhefijbaaGreat
