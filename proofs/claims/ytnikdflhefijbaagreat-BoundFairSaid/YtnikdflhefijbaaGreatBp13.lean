import Derived.Test.YtnikdflhefijbaaGreatBp12
namespace Go.Proofs.YtnikdflhefijbaaGreat
open Go.RowKit
set_option maxRecDepth 100000
set_option maxHeartbeats 4000000
def pC(M:AMem)(s:Sy)(l:Lay)(who:Int)(w:Nat)(res:WS×M.O.A×Bool)(σ:Hp):AV→Hp→Prop:=fun z σ'=>∃m' r c acc,zw c acc res.1.now∧M.abs m'=res.2.1∧z=.bool res.2.2∧σ'=WB s l who w r c acc res.1++(M.B m'++σ)
theorem ab0{M:AMem}{s:Sy}{l:Lay}{who:Int}{w:Nat}{σ:Hp}{x:WS}{a:M.O.A}{d:Int}(h:x.en=true){m:M.S}(hm:M.abs m=a){r:Nat}{c:AV}{acc:Hp}(rd:zw c acc x.now):pC M s l who w (dv M.O s l who x d a) σ (.bool true) (WB s l who w r c acc x++(M.B m++σ)):=by
 unfold dv
 rw[ag h]
 exact⟨m,r,c,acc,rd,hm,rfl,rfl⟩
theorem gB{M:AMem}{s:Sy}{l:Lay}{who:Int}{w:Nat}{σ:Hp}{x:WS}{a a':M.O.A}{d:Int}{n n':Nw}{b:Bool}{m':M.S}{y:WS}(he:x.en=false)(dX:km l who x d=n)(hn:ga M.O l x.node n a=(n',a',b))(hb:b=true)(hm:M.abs m'=a')(hy:ew s l x n'=y)(h0:y.now=.none)(r:Nat):pC M s l who w (dv M.O s l who x d a) σ (.bool y.en) (WB s l who w r .aj [] y++(M.B m'++σ)):=by
 unfold dv
 rw[ah (by rw[he];decide),dX,hn]
 dsimp only
 rw[ag hb,hy]
 exact⟨m',r,.aj,[],by rw[h0];trivial,hm,rfl,rfl⟩
theorem gY{M:AMem}{s:Sy}{l:Lay}{who:Int}{w:Nat}{σ:Hp}{x:WS}{a a':M.O.A}{d:Int}{n n':Nw}{b:Bool}{m':M.S}(he:x.en=false)(dX:km l who x d=n)(hn:ga M.O l x.node n a=(n',a',b))(hb:b=false)(hm:M.abs m'=a')(r:Nat)(c:AV)(acc:Hp)(rd:zw c acc n'):pC M s l who w (dv M.O s l who x d a) σ (.bool false) (WB s l who w r c acc ⟨x.ev,x.jo,x.en,x.does,n',x.node,x.has,x.nx,x.out⟩++(M.B m'++σ)):=by
 unfold dv
 rw[ah (by rw[he];decide),dX,hn]
 dsimp only
 rw[ah (by rw[hb];decide)]
 exact⟨m',r,c,acc,rd,hm,rfl,rfl⟩
theorem iD{M:AMem}{f:FuncId}{xs:List AV}{X:Type}{B:X→List AV}{r:Nat}{cs:List AV}{res:X×M.O.A×Bool}{x':X}{a':M.O.A}{b':Bool}{m:M.S}(fr:Hp){σ:Hp}{K:AV→Hp→Prop}(ao:res=(x',a',b'))(h:∀σ,ACalls Tryz.prog f xs ((r,cs)::(M.B m++σ)) (qs M σ B r res))
  (k1:∀m',M.abs m'=a'→b'=true→K (.bool true) (fr++((r,B x')::(M.B m'++σ)))) (k2:∀m',M.abs m'=a'→b'=false→K (.bool false) (fr++((r,B x')::(M.B m'++σ)))):CallAt Tryz.prog f K xs (fr++((r,cs)::(M.B m++σ))):=by
 subst ao
 exact ah3 fr h k1 k2
theorem vF{O:j9}{l:Lay}{node:Int}{q q':DQ}{a a':O.A}{b:Bool}(h:fq O q a=(q',a',b)):ga O l node (.pop q) a=(.pop q',a',b):=by show (Nw.pop (fq O q a).1,(fq O q a).2)=_;rw[h]
theorem vm{O:j9}{l:Lay}{node:Int}{q q':DQ}{a a':O.A}{b:Bool}(h:gA O q a=(q',a',b)):ga O l node (.cc q) a=(.cc q',a',b):=by show (Nw.cc (gA O q a).1,(gA O q a).2)=_;rw[h]
theorem xk{O:j9}{l:Lay}{node:Int}{q q':Qk}{a a':O.A}{b:Bool}(h:so O q a=(q',a',b)):ga O l node (.quiet q) a=(.quiet q',a',b):=by show (Nw.quiet (so O q a).1,(so O q a).2)=_;rw[h]
theorem G4{O:j9}{l:Lay}{node:Int}{q q':Ck}{a a':O.A}{b:Bool}(h:sq O q a=(q',a',b)):ga O l node (.clear q) a=(.clear q',a',b):=by show (Nw.clear (sq O q a).1,(sq O q a).2)=_;rw[h]
theorem vw{O:j9}{l:Lay}{node:Int}{q q':Tk}{a a':O.A}{b:Bool}(h:kN O q a=(q',a',b)):ga O l node (.take q) a=(.take q',a',b):=by show (Nw.take (kN O q a).1,(kN O q a).2)=_;rw[h]
theorem Dn{O:j9}{l:Lay}{node:Int}{q q':DQ}{a a':O.A}{b:Bool}(h:gn O q a=(q',a',b)):ga O l node (.push q) a=(.push q',a',b):=by show (Nw.push (gn O q a).1,(gn O q a).2)=_;rw[h]
theorem GI{O:j9}{l:Lay}{node:Int}{q q':Rk}{a a':O.A}{b:Bool}(h:tI O q a=(q',a',b)):ga O l node (.dA q) a=(.dA q',a',b):=by show (Nw.dA (tI O q a).1,(tI O q a).2)=_;rw[h]
theorem vA{O:j9}{l:Lay}{node:Int}{q q':Jn}{a a':O.A}{b:Bool}(h:iq O q a=(q',a',b)):ga O l node (.join q) a=(.join q',a',b):=by show (Nw.join (iq O q a).1,(iq O q a).2)=_;rw[h]
theorem y6{O:j9}{l:Lay}{node:Int}{q q':List Int}{a a':O.A}{b:Bool}(h:mB O l (aS l node) q a=(q',a',b)):ga O l node (.read q) a=(.read q',a',b):=by show (Nw.read (mB O l (aS l node) q a).1,(mB O l (aS l node) q a).2)=_;rw[h]
theorem acK(l:Lay)(who does node:Int)(nx out:List Int)(d:Int):iN l who does node nx out d≠.none:=by
 unfold iN;repeat' (first | split | (intro h;cases h))
theorem adX{l:Lay}{who does node:Int}{nx out:List Int}{d:Int}(h:does=5∨does=6∨does=7→0<nx.length):wz l nx (iN l who does node nx out d):=by
 unfold iN
 repeat' split
 ·exact⟨bK _,lf _⟩
 ·exact⟨bK _,lf _⟩
 ·trivial
 ·trivial
 ·refine⟨?_,fun _ h=>by cases h⟩
  rcases uQ (cw l.words) with h | h
  ·exact .inr ⟨h,rfl⟩
  ·exact .inl h
 ·exact⟨bK _,h (by omega)⟩
 ·exact h (by omega)
 ·exact⟨⟨bK _,lf _⟩,h (by omega)⟩
 ·trivial
theorem Vv{M:AMem}{r w:Nat}{wc:List AV}{m:M.S}{base what words x d:Int}{l:List Int}{c:AV}{acc σ:Hp}{K:AV→Hp→Prop}(hf:M.O.free (M.abs m))(dX:l.length<cw words)(hv:kL c acc l)
  (k1:∀m' b,M.abs m'=(M.O.ld (M.abs m) (wr (base+(l.length:Nat)))).2→l.length+1=cw words→K (.bool true) ((w,wc)::(r,kc (.ae b 0 (l++[(M.O.ld (M.abs m) (wr (base+(l.length:Nat)))).1]).length 1) base what words true (l++[(M.O.ld (M.abs m) (wr (base+(l.length:Nat)))).1]).length false x)::(b,bB (l++[(M.O.ld (M.abs m) (wr (base+(l.length:Nat)))).1]))::(M.B m'++σ)))
  (k2:∀m' b,M.abs m'=(M.O.ld (M.abs m) (wr (base+(l.length:Nat)))).2→¬l.length+1=cw words→K (.bool false) ((w,wc)::(r,kc (.ae b 0 (l++[(M.O.ld (M.abs m) (wr (base+(l.length:Nat)))).1]).length 1) base what words false (l++[(M.O.ld (M.abs m) (wr (base+(l.length:Nat)))).1]).length false x)::(b,bB (l++[(M.O.ld (M.abs m) (wr (base+(l.length:Nat)))).1]))::(M.B m'++σ))):CallAt Tryz.prog 406 K [.ptr r 0,M.v,.int .i64 d] ((w,wc)::(r,kc c base what words false l.length false x)::(acc++(M.B m++σ))):=by
 have OG:=Bj words
 have hp:∀(cs:List AV) (a b:Hp),((r,cs)::(a++(b++((w,wc)::σ)))).Perm ((w,wc)::(r,cs)::(a++(b++σ))):=fun cs a b=>by
  have:=fB [(w,wc)] ((r,cs)::(a++b)) σ
  simpa using this
 refine .perm _ (hp _ acc (M.B m)) (aeQ M r m base what words x l.length false l c acc d ((w,wc)::σ) hf dX hv (by omega)) ?_
 rintro z σ' ⟨m',c',bN,h1,h2,rfl,rfl⟩
 refine⟨_,(hp _ bN (M.B m')).symm,?_⟩
 have hlen:(l++[(M.O.ld (M.abs m) (wr (base+(l.length:Nat)))).1]).length=l.length+1:=by simp
 generalize hg:l++[(M.O.ld (M.abs m) (wr (base+(l.length:Nat)))).1]=g at h1 k1 k2 hlen
 rw[← hlen]
 rw[← hlen]at k1 k2
 cases h1 with
 |nil=>simp at hlen
 |ae b g=>
  by_cases he:g.length=cw words
  ·rw[aY he];exact k1 m' b h2 he
  ·rw[b9 he];exact k2 m' b h2 he
theorem aeD(M:AMem)(w r:Nat)(c:AV)(acc:Hp)(s:Sy)(l:Lay)(who:Int)(ev jo:Int)(does:Int)(q:DQ)(node:Int)(has:Bool)(nx out:List Int)(d:Int)(m:M.S)(σ:Hp)(hm:M.O.free (M.abs m))(o3:wz l nx (.pop q)):
  ACalls Tryz.prog 390 [.ptr w 0,M.v,.int .i64 d] (WB s l who w r c acc ⟨ev,jo,false,does,.pop q,node,has,nx,out⟩++(M.B m++σ)) (pC M s l who w (dv M.O s l who ⟨ev,jo,false,does,.pop q,node,has,nx,out⟩ d (M.abs m)) σ):=by
 refine aA Tryz.func390 ?_
 refine aa 0 ?_
 refine aa 0 ?_
 refine aa 0 ?_
 obtain⟨q',a',b',ao⟩:∃q' a' b',fq M.O q (M.abs m)=(q',a',b'):=⟨_,_,_,rfl⟩
 obtain⟨u1,u2,u3,u4,u5,u6,u7,u8,u9⟩:=q'
 cases u4 with
 |true=>
  refine .fwd 1 ?_
  refine .sched [5] (upto [5] 11 0) (by kernel_rfl) ?_
  refine aa 0 ?_
  refine aI [] (dO _ _ _) ?_
  refine⟨_,wPop_,?_⟩
  refine iD [_] ao (fun σ=>IX M r q m d σ hm (by have:=o3.1;omega) o3.2) (fun m' aP hb=>?_) (fun m' aP hb=>?_)
  ·refine aB [] (TE w r s l who ev jo false does node has nx out _ _ _ _ _ _ _ _ _) ?_
   refine an 0 ?_
   refine an 0 ?_
   refine aa 0 ?_
   exact .drop 1 1 (.done (gB (x:=⟨ev,jo,false,does,.pop q,node,has,nx,out⟩) (n:=.pop q) rfl rfl (vF ao) hb aP rfl rfl r))
  ·exact .done (gY (x:=⟨ev,jo,false,does,.pop q,node,has,nx,out⟩) (n:=.pop q) rfl rfl (vF ao) hb aP r .aj [] trivial)
 |false=>
  refine .fwd 1 ?_
  refine .sched [5] (upto [5] 11 0) (by kernel_rfl) ?_
  refine aa 0 ?_
  refine aI [] (dO _ _ _) ?_
  refine⟨_,wPop_,?_⟩
  refine iD [_] ao (fun σ=>IX M r q m d σ hm (by have:=o3.1;omega) o3.2) (fun m' aP hb=>?_) (fun m' aP hb=>?_)
  ·refine aB [] (TF w r s l who ev jo false does node has nx out _ _ _ _ _ _ _ _ _) ?_
   refine an 0 ?_
   refine an 0 ?_
   refine aa 0 ?_
   exact .drop 1 1 (.done (gB (x:=⟨ev,jo,false,does,.pop q,node,has,nx,out⟩) (n:=.pop q) rfl rfl (vF ao) hb aP rfl rfl r))
  ·exact .done (gY (x:=⟨ev,jo,false,does,.pop q,node,has,nx,out⟩) (n:=.pop q) rfl rfl (vF ao) hb aP r .aj [] trivial)
theorem aaN(M:AMem)(w r:Nat)(c:AV)(acc:Hp)(s:Sy)(l:Lay)(who:Int)(ev jo:Int)(does:Int)(q:DQ)(node:Int)(has:Bool)(nx out:List Int)(d:Int)(m:M.S)(σ:Hp)(hm:M.O.free (M.abs m))(o3:wz l nx (.cc q)):
  ACalls Tryz.prog 390 [.ptr w 0,M.v,.int .i64 d] (WB s l who w r c acc ⟨ev,jo,false,does,.cc q,node,has,nx,out⟩++(M.B m++σ)) (pC M s l who w (dv M.O s l who ⟨ev,jo,false,does,.cc q,node,has,nx,out⟩ d (M.abs m)) σ):=by
 refine aA Tryz.func390 ?_
 refine aa 0 ?_
 refine aa 0 ?_
 refine aa 0 ?_
 obtain⟨q',a',b',ao⟩:∃q' a' b',gA M.O q (M.abs m)=(q',a',b'):=⟨_,_,_,rfl⟩
 obtain⟨u1,u2,u3,u4,u5,u6,u7,u8,u9⟩:=q'
 cases u4 with
 |true=>
  refine .fwd 1 ?_
  refine .sched [5] (upto [5] 11 0) (by kernel_rfl) ?_
  refine aa 0 ?_
  refine aI [] (dO _ _ _) ?_
  refine⟨_,wSteal_,?_⟩
  refine iD [_] ao (fun σ=>HX M r q m d σ hm (by have:=o3.1;omega) o3.2) (fun m' aP hb=>?_) (fun m' aP hb=>?_)
  ·refine aB [] (Q8 w r s l who ev jo false does node has nx out _ _ _ _ _ _ _ _ _) ?_
   refine an 0 ?_
   refine an 0 ?_
   refine aa 0 ?_
   exact .drop 1 1 (.done (gB (x:=⟨ev,jo,false,does,.cc q,node,has,nx,out⟩) (n:=.cc q) rfl rfl (vm ao) hb aP rfl rfl r))
  ·exact .done (gY (x:=⟨ev,jo,false,does,.cc q,node,has,nx,out⟩) (n:=.cc q) rfl rfl (vm ao) hb aP r .aj [] trivial)
 |false=>
  refine .fwd 1 ?_
  refine .sched [5] (upto [5] 11 0) (by kernel_rfl) ?_
  refine aa 0 ?_
  refine aI [] (dO _ _ _) ?_
  refine⟨_,wSteal_,?_⟩
  refine iD [_] ao (fun σ=>HX M r q m d σ hm (by have:=o3.1;omega) o3.2) (fun m' aP hb=>?_) (fun m' aP hb=>?_)
  ·refine aB [] (Q9 w r s l who ev jo false does node has nx out _ _ _ _ _ _ _ _ _) ?_
   refine an 0 ?_
   refine an 0 ?_
   refine aa 0 ?_
   exact .drop 1 1 (.done (gB (x:=⟨ev,jo,false,does,.cc q,node,has,nx,out⟩) (n:=.cc q) rfl rfl (vm ao) hb aP rfl rfl r))
  ·exact .done (gY (x:=⟨ev,jo,false,does,.cc q,node,has,nx,out⟩) (n:=.cc q) rfl rfl (vm ao) hb aP r .aj [] trivial)
theorem aaO(M:AMem)(w r:Nat)(c:AV)(acc:Hp)(s:Sy)(l:Lay)(who:Int)(ev jo:Int)(does:Int)(q:Qk)(node:Int)(has:Bool)(nx out:List Int)(d:Int)(m:M.S)(σ:Hp)(hm:M.O.free (M.abs m)):
  ACalls Tryz.prog 390 [.ptr w 0,M.v,.int .i64 d] (WB s l who w r c acc ⟨ev,jo,false,does,.quiet q,node,has,nx,out⟩++(M.B m++σ)) (pC M s l who w (dv M.O s l who ⟨ev,jo,false,does,.quiet q,node,has,nx,out⟩ d (M.abs m)) σ):=by
 refine aA Tryz.func390 ?_
 refine aa 0 ?_
 refine aa 0 ?_
 refine aa 0 ?_
 obtain⟨q',a',b',ao⟩:∃q' a' b',so M.O q (M.abs m)=(q',a',b'):=⟨_,_,_,rfl⟩
 obtain⟨u1,u2,u3,u4⟩:=q'
 cases u3 with
 |true=>
  refine .fwd 1 ?_
  refine .sched [5] (upto [5] 11 0) (by kernel_rfl) ?_
  refine aa 0 ?_
  refine aI [] (dO _ _ _) ?_
  refine⟨_,wQuiet_,?_⟩
  refine iD [_] ao (fun σ=>HY M r q m d σ hm) (fun m' aP hb=>?_) (fun m' aP hb=>?_)
  ·refine aB [] (GY w r s l who ev jo false does node has nx out _ _ _ _ _) ?_
   refine an 0 ?_
   refine an 0 ?_
   refine aa 0 ?_
   exact .drop 1 1 (.done (gB (x:=⟨ev,jo,false,does,.quiet q,node,has,nx,out⟩) (n:=.quiet q) rfl rfl (xk ao) hb aP rfl rfl r))
  ·exact .done (gY (x:=⟨ev,jo,false,does,.quiet q,node,has,nx,out⟩) (n:=.quiet q) rfl rfl (xk ao) hb aP r .aj [] trivial)
 |false=>
  refine .fwd 1 ?_
  refine .sched [5] (upto [5] 11 0) (by kernel_rfl) ?_
  refine aa 0 ?_
  refine aI [] (dO _ _ _) ?_
  refine⟨_,wQuiet_,?_⟩
  refine iD [_] ao (fun σ=>HY M r q m d σ hm) (fun m' aP hb=>?_) (fun m' aP hb=>?_)
  ·refine aB [] (GY w r s l who ev jo false does node has nx out _ _ _ _ _) ?_
   refine an 0 ?_
   refine an 0 ?_
   refine aa 0 ?_
   exact .drop 1 1 (.done (gB (x:=⟨ev,jo,false,does,.quiet q,node,has,nx,out⟩) (n:=.quiet q) rfl rfl (xk ao) hb aP rfl rfl r))
  ·exact .done (gY (x:=⟨ev,jo,false,does,.quiet q,node,has,nx,out⟩) (n:=.quiet q) rfl rfl (xk ao) hb aP r .aj [] trivial)
theorem aaP(M:AMem)(w r:Nat)(c:AV)(acc:Hp)(s:Sy)(l:Lay)(who:Int)(ev jo:Int)(does:Int)(q:Ck)(node:Int)(has:Bool)(nx out:List Int)(d:Int)(m:M.S)(σ:Hp)(hm:M.O.free (M.abs m)):
  ACalls Tryz.prog 390 [.ptr w 0,M.v,.int .i64 d] (WB s l who w r c acc ⟨ev,jo,false,does,.clear q,node,has,nx,out⟩++(M.B m++σ)) (pC M s l who w (dv M.O s l who ⟨ev,jo,false,does,.clear q,node,has,nx,out⟩ d (M.abs m)) σ):=by
 refine aA Tryz.func390 ?_
 refine aa 0 ?_
 refine aa 0 ?_
 refine aa 0 ?_
 obtain⟨q',a',b',ao⟩:∃q' a' b',sq M.O q (M.abs m)=(q',a',b'):=⟨_,_,_,rfl⟩
 obtain⟨u1,u2,u3,u4⟩:=q'
 refine .fwd 1 ?_
 refine .sched [5] (upto [5] 11 0) (by kernel_rfl) ?_
 refine aa 0 ?_
 refine aI [] (dO _ _ _) ?_
 refine⟨_,wClear_,?_⟩
 refine iD [_] ao (fun σ=>VK M r q m d σ hm) (fun m' aP hb=>?_) (fun m' aP hb=>?_)
 ·refine aB [] (Sf w r s l who ev jo false does node has nx out _ _ _ _ _) ?_
  refine an 0 ?_
  refine an 0 ?_
  refine aa 0 ?_
  exact .drop 1 1 (.done (gB (x:=⟨ev,jo,false,does,.clear q,node,has,nx,out⟩) (n:=.clear q) rfl rfl (G4 ao) hb aP rfl rfl r))
 ·exact .done (gY (x:=⟨ev,jo,false,does,.clear q,node,has,nx,out⟩) (n:=.clear q) rfl rfl (G4 ao) hb aP r .aj [] trivial)
theorem acO(M:AMem)(w r:Nat)(c:AV)(acc:Hp)(s:Sy)(l:Lay)(who:Int)(ev jo:Int)(does:Int)(q:Tk)(node:Int)(has:Bool)(nx out:List Int)(d:Int)(m:M.S)(σ:Hp)(hm:M.O.free (M.abs m))(o3:wz l nx (.take q)):
  ACalls Tryz.prog 390 [.ptr w 0,M.v,.int .i64 d] (WB s l who w r c acc ⟨ev,jo,false,does,.take q,node,has,nx,out⟩++(M.B m++σ)) (pC M s l who w (dv M.O s l who ⟨ev,jo,false,does,.take q,node,has,nx,out⟩ d (M.abs m)) σ):=by
 refine aA Tryz.func390 ?_
 refine aa 0 ?_
 refine aa 0 ?_
 refine aa 0 ?_
 obtain⟨q',a',b',ao⟩:∃q' a' b',kN M.O q (M.abs m)=(q',a',b'):=⟨_,_,_,rfl⟩
 obtain⟨u1,u2,u3,u4,u5,u6⟩:=q'
 cases u4 with
 |true=>
  refine .fwd 1 ?_
  refine .sched [5] (upto [5] 11 0) (by kernel_rfl) ?_
  refine aa 0 ?_
  refine aI [] (dO _ _ _) ?_
  refine⟨_,wTake_,?_⟩
  refine iD [_] ao (fun σ=>Ik M r q m d σ hm) (fun m' aP hb=>?_) (fun m' aP hb=>?_)
  ·refine aB [] (Sb w r s l who ev jo false does node has nx out _ _ _ _ _ _) ?_
   refine an 0 ?_
   refine an 0 ?_
   refine aa 0 ?_
   exact .drop 1 1 (.done (gB (x:=⟨ev,jo,false,does,.take q,node,has,nx,out⟩) (n:=.take q) rfl rfl (vw ao) hb aP rfl rfl r))
  ·exact .done (gY (x:=⟨ev,jo,false,does,.take q,node,has,nx,out⟩) (n:=.take q) rfl rfl (vw ao) hb aP r .aj [] trivial)
 |false=>
  refine .fwd 1 ?_
  refine .sched [5] (upto [5] 11 0) (by kernel_rfl) ?_
  refine aa 0 ?_
  refine aI [] (dO _ _ _) ?_
  refine⟨_,wTake_,?_⟩
  refine iD [_] ao (fun σ=>Ik M r q m d σ hm) (fun m' aP hb=>?_) (fun m' aP hb=>?_)
  ·refine aB [] (Sc w r s l who ev jo false does node has nx out _ _ _ _ _ _ o3) ?_
   refine an 0 ?_
   refine an 0 ?_
   refine aa 0 ?_
   exact .drop 1 1 (.done (gB (x:=⟨ev,jo,false,does,.take q,node,has,nx,out⟩) (n:=.take q) rfl rfl (vw ao) hb aP rfl rfl r))
  ·exact .done (gY (x:=⟨ev,jo,false,does,.take q,node,has,nx,out⟩) (n:=.take q) rfl rfl (vw ao) hb aP r .aj [] trivial)
theorem acQ(M:AMem)(w r:Nat)(c:AV)(acc:Hp)(s:Sy)(l:Lay)(who:Int)(ev jo:Int)(does:Int)(q:DQ)(node:Int)(has:Bool)(nx out:List Int)(d:Int)(m:M.S)(σ:Hp)(hm:M.O.free (M.abs m))(o3:wz l nx (.push q)):
  ACalls Tryz.prog 390 [.ptr w 0,M.v,.int .i64 d] (WB s l who w r c acc ⟨ev,jo,false,does,.push q,node,has,nx,out⟩++(M.B m++σ)) (pC M s l who w (dv M.O s l who ⟨ev,jo,false,does,.push q,node,has,nx,out⟩ d (M.abs m)) σ):=by
 refine aA Tryz.func390 ?_
 refine aa 0 ?_
 refine aa 0 ?_
 refine aa 0 ?_
 obtain⟨q',a',b',ao⟩:∃q' a' b',gn M.O q (M.abs m)=(q',a',b'):=⟨_,_,_,rfl⟩
 refine .fwd 1 ?_
 refine .sched [5] (upto [5] 11 0) (by kernel_rfl) ?_
 refine aa 0 ?_
 refine aI [] (dO _ _ _) ?_
 refine⟨_,wPush_,?_⟩
 refine iD [_] ao (fun σ=>Wj M r q m d σ hm (by have:=o3.1.1;omega) o3.1.2) (fun m' aP hb=>?_) (fun m' aP hb=>?_)
 ·refine aB [] (TD w r s l who ev jo false does node has nx out _ _ o3.2) ?_
  refine an 0 ?_
  refine an 0 ?_
  refine aa 0 ?_
  exact .drop 1 1 (.done (gB (x:=⟨ev,jo,false,does,.push q,node,has,nx,out⟩) (n:=.push q) rfl rfl (Dn ao) hb aP rfl rfl r))
 ·exact .done (gY (x:=⟨ev,jo,false,does,.push q,node,has,nx,out⟩) (n:=.push q) rfl rfl (Dn ao) hb aP r .aj [] trivial)
theorem Zj(M:AMem)(w r:Nat)(c:AV)(acc:Hp)(s:Sy)(l:Lay)(who:Int)(ev jo:Int)(does:Int)(q:Rk)(node:Int)(has:Bool)(nx out:List Int)(d:Int)(m:M.S)(σ:Hp)(hm:M.O.free (M.abs m)):
  ACalls Tryz.prog 390 [.ptr w 0,M.v,.int .i64 d] (WB s l who w r c acc ⟨ev,jo,false,does,.dA q,node,has,nx,out⟩++(M.B m++σ)) (pC M s l who w (dv M.O s l who ⟨ev,jo,false,does,.dA q,node,has,nx,out⟩ d (M.abs m)) σ):=by
 refine aA Tryz.func390 ?_
 refine aa 0 ?_
 refine aa 0 ?_
 refine aa 0 ?_
 obtain⟨q',a',b',ao⟩:∃q' a' b',tI M.O q (M.abs m)=(q',a',b'):=⟨_,_,_,rfl⟩
 refine .fwd 1 ?_
 refine .sched [5] (upto [5] 11 0) (by kernel_rfl) ?_
 refine aa 0 ?_
 refine aI [] (dO _ _ _) ?_
 refine⟨_,wRetire_,?_⟩
 refine iD [_] ao (fun σ=>UO M r q m d σ hm) (fun m' aP hb=>?_) (fun m' aP hb=>?_)
 ·refine aB [] (Ra w r s l who ev jo false does node has nx out _ _) ?_
  refine an 0 ?_
  refine an 0 ?_
  refine aa 0 ?_
  exact .drop 1 1 (.done (gB (x:=⟨ev,jo,false,does,.dA q,node,has,nx,out⟩) (n:=.dA q) rfl rfl (GI ao) hb aP rfl rfl r))
 ·exact .done (gY (x:=⟨ev,jo,false,does,.dA q,node,has,nx,out⟩) (n:=.dA q) rfl rfl (GI ao) hb aP r .aj [] trivial)
theorem acS(M:AMem)(w r:Nat)(c:AV)(acc:Hp)(s:Sy)(l:Lay)(who:Int)(ev jo:Int)(does:Int)(q:Jn)(node:Int)(has:Bool)(nx out:List Int)(d:Int)(m:M.S)(σ:Hp)(hm:M.O.free (M.abs m))(o3:wz l nx (.join q)):
  ACalls Tryz.prog 390 [.ptr w 0,M.v,.int .i64 d] (WB s l who w r c acc ⟨ev,jo,false,does,.join q,node,has,nx,out⟩++(M.B m++σ)) (pC M s l who w (dv M.O s l who ⟨ev,jo,false,does,.join q,node,has,nx,out⟩ d (M.abs m)) σ):=by
 refine aA Tryz.func390 ?_
 refine aa 0 ?_
 refine aa 0 ?_
 refine aa 0 ?_
 obtain⟨q',a',b',ao⟩:∃q' a' b',iq M.O q (M.abs m)=(q',a',b'):=⟨_,_,_,rfl⟩
 obtain⟨u1,u2,u3,u4,u5,u6,u7,u8,u9,u10⟩:=q'
 cases u5 with
 |true=>
  refine .fwd 1 ?_
  refine .sched [5] (upto [5] 11 0) (by kernel_rfl) ?_
  refine aa 0 ?_
  refine aI [] (dO _ _ _) ?_
  refine⟨_,wJoin_,?_⟩
  refine iD [_] ao (fun σ=>Im M r q m d σ hm (by have:=o3.1;omega)) (fun m' aP hb=>?_) (fun m' aP hb=>?_)
  ·refine aB [] (Sd w r s l who ev jo false does node has nx out _ _ _ _ _ _ _ _ _ _) ?_
   refine an 0 ?_
   refine an 0 ?_
   refine aa 0 ?_
   exact .drop 1 1 (.done (gB (x:=⟨ev,jo,false,does,.join q,node,has,nx,out⟩) (n:=.join q) rfl rfl (vA ao) hb aP rfl rfl r))
  ·exact .done (gY (x:=⟨ev,jo,false,does,.join q,node,has,nx,out⟩) (n:=.join q) rfl rfl (vA ao) hb aP r .aj [] trivial)
 |false=>
  refine .fwd 1 ?_
  refine .sched [5] (upto [5] 11 0) (by kernel_rfl) ?_
  refine aa 0 ?_
  refine aI [] (dO _ _ _) ?_
  refine⟨_,wJoin_,?_⟩
  refine iD [_] ao (fun σ=>Im M r q m d σ hm (by have:=o3.1;omega)) (fun m' aP hb=>?_) (fun m' aP hb=>?_)
  ·refine aB [] (Se w r s l who ev jo false does node has nx out _ _ _ _ _ _ _ _ _ _ o3.2) ?_
   refine an 0 ?_
   refine an 0 ?_
   refine aa 0 ?_
   exact .drop 1 1 (.done (gB (x:=⟨ev,jo,false,does,.join q,node,has,nx,out⟩) (n:=.join q) rfl rfl (vA ao) hb aP rfl rfl r))
  ·exact .done (gY (x:=⟨ev,jo,false,does,.join q,node,has,nx,out⟩) (n:=.join q) rfl rfl (vA ao) hb aP r .aj [] trivial)
theorem acP(M:AMem)(w r:Nat)(c:AV)(acc:Hp)(s:Sy)(l:Lay)(who:Int)(ev jo:Int)(does:Int)(x:List Int)(node:Int)(has:Bool)(nx out:List Int)(d:Int)(m:M.S)(σ:Hp)(hm:M.O.free (M.abs m))(hf:Fit s)(hv:∀a,bM (M.O.ld (M.abs m) a).1)(o3:wz l nx (.read x))(NH:kL c acc x∧(x=[]→c=.aj)):
  ACalls Tryz.prog 390 [.ptr w 0,M.v,.int .i64 d] (WB s l who w r c acc ⟨ev,jo,false,does,.read x,node,has,nx,out⟩++(M.B m++σ)) (pC M s l who w (dv M.O s l who ⟨ev,jo,false,does,.read x,node,has,nx,out⟩ d (M.abs m)) σ):=by
 refine aA Tryz.func390 ?_
 refine aa 0 ?_
 refine aa 0 ?_
 refine aa 0 ?_
 obtain⟨o4,o5⟩:=o3
 obtain⟨nM,WE⟩:=NH
 by_cases ab:x.length<cw l.words
 ·have OG:=Bj l.words
  have ao:mB M.O l (aS l node) x (M.abs m)=(x++[(M.O.ld (M.abs m) (wr (aS l node+(x.length:Nat)))).1],(M.O.ld (M.abs m) (wr (aS l node+(x.length:Nat)))).2,decide (x.length+1=cw l.words)):=ag ab
  have ic:bA (x++[(M.O.ld (M.abs m) (wr (aS l node+(x.length:Nat)))).1]):=fun z hz=>by rcases bP.1 hz with h | h;exact o5 z h;rw[a8.1 h];exact hv _
  have hx3:(x++[(M.O.ld (M.abs m) (wr (aS l node+(x.length:Nat)))).1]).length=x.length+1:=by simp
  refine .fwd 1 ?_
  refine .sched [5] (upto [5] 11 0) (by kernel_rfl) ?_
  refine aa 0 ?_
  refine aI [] (dO _ _ _) ?_
  refine⟨_,wRead_,?_⟩
  refine Vv hm ab nM (fun m' b aP he=>?_) (fun m' b aP he=>?_)
  ·refine .ku 2 b 0 (x++[(M.O.ld (M.abs m) (wr (aS l node+(x.length:Nat)))).1]).length 1 _ (.int .u64) (x++[(M.O.ld (M.abs m) (wr (aS l node+(x.length:Nat)))).1]) rfl ?_ ⟨rfl,rfl,by decide⟩ 1 3 r _ rfl rfl ?_
   ·rw[List.drop_zero,← rb];exact List.take_of_length_le (by simp[bB])
   refine aB [] (Hc w r s l who ev jo false does node has nx out (x++[(M.O.ld (M.abs m) (wr (aS l node+(x.length:Nat)))).1]) _ _ _ _ _ _ _ _ hf ic (by omega)) ?_
   refine an 0 ?_
   refine an 0 ?_
   refine aa 0 ?_
   exact .drop 1 1 (.done (gB (x:=⟨ev,jo,false,does,.read x,node,has,nx,out⟩) (n:=.read x) rfl rfl (y6 ao) (aY he) aP rfl rfl r))
  ·exact .done (gY (x:=⟨ev,jo,false,does,.read x,node,has,nx,out⟩) (n:=.read x) rfl rfl (y6 ao) (decide_eq_false he) aP r (.ae b 0 (x++[(M.O.ld (M.abs m) (wr (aS l node+(x.length:Nat)))).1]).length 1) [(b,bB (x++[(M.O.ld (M.abs m) (wr (aS l node+(x.length:Nat)))).1]))] ⟨.ae b (x++[(M.O.ld (M.abs m) (wr (aS l node+(x.length:Nat)))).1]),fun h=>absurd h (by simp)⟩)
 ·obtain⟨h0,rfl⟩:=o4.resolve_left ab
  generalize hz:([]:List Int)=z0 at nM
  cases nM with
  |ae b z=>exact absurd (WE rfl) (by simp)
  |nil=>
  have ao:mB M.O l (aS l node) [] (M.abs m)=([],M.abs m,true):=ah ab
  refine .fwd 1 ?_
  refine .sched [5] (upto [5] 11 0) (by kernel_rfl) ?_
  refine aa 0 ?_
  refine aI [] (dO _ _ _) ?_
  refine⟨_,wRead_,?_⟩
  refine aB [1] (UP M r _ _ _ _ _ _ d _ h0) ?_
  refine Mo 0 3 r _ (.int .u64) rfl rfl ?_
  refine aB [1] (Hc w r s l who ev jo false does node has nx out [] _ _ _ _ _ _ _ _ hf o5 (bK _)) ?_
  refine an 0 ?_
  refine an 0 ?_
  refine aa 0 ?_
  exact .drop 1 1 (.done (gB (x:=⟨ev,jo,false,does,.read [],node,has,nx,out⟩) (n:=.read []) rfl rfl (y6 ao) rfl rfl rfl rfl r))
set_option maxHeartbeats 4000000
theorem acL{l:Lay}{who does node:Int}{nx out:List Int}{d:Int}{x:List Int}(h:iN l who does node nx out d=.read x):x=[]:=by
 unfold iN at h
 repeat' (first | (cases h;rfl) | cases h | split at h)
theorem acR(M:AMem)(w r0:Nat)(c:AV)(acc:Hp)(s:Sy)(l:Lay)(who:Int)(ev jo:Int)(does:Int)(node:Int)(has:Bool)(nx out:List Int)(d:Int)(m:M.S)(σ:Hp)(hm:M.O.free (M.abs m))(hf:Fit s)(hv:∀a,bM (M.O.ld (M.abs m) a).1)(o1:does=5∨does=6∨does=7→0<nx.length)(o2:does=1→nK l≠0∧l.k≠0):
  ACalls Tryz.prog 390 [.ptr w 0,M.v,.int .i64 d] (WB s l who w r0 c acc ⟨ev,jo,false,does,.none,node,has,nx,out⟩++(M.B m++σ)) (pC M s l who w (dv M.O s l who ⟨ev,jo,false,does,.none,node,has,nx,out⟩ d (M.abs m)) σ):=by
 refine aA Tryz.func390 ?_
 refine aa 0 ?_
 refine aa 0 ?_
 refine aa 0 ?_
 refine .mk [] _ (ago w s l who ev jo false does .nilif node has nx out d _ o1 o2) ?_
 rintro _ _ ⟨r,rfl,rfl⟩
 have o3:wz l nx (iN l who does node nx out d):=adX o1
 have h0:=acK l who does node nx out d
 generalize gH:iN l who does node nx out d=n at o3 h0
 cases n with
 |none=>exact absurd rfl h0
 |pop q=>
  obtain⟨q',a',b',ao⟩:∃q' a' b',fq M.O q (M.abs m)=(q',a',b'):=⟨_,_,_,rfl⟩
  obtain⟨u1,u2,u3,u4,u5,u6,u7,u8,u9⟩:=q'
  cases u4 with
  |true=>
   refine an 1 ?_
   refine gN.dM (.pull [1] (.refl _)) ?_
   refine .sched [5] (upto [5] 11 0) (by kernel_rfl) ?_
   refine aa 0 ?_
   refine aI [] (dO _ _ _) ?_
   refine⟨_,wPop_,?_⟩
   refine iD [_] ao (fun σ=>IX M r q m d σ hm (by have:=o3.1;omega) o3.2) (fun m' aP hb=>?_) (fun m' aP hb=>?_)
   ·refine aB [] (TE w r s l who ev jo false does node has nx out _ _ _ _ _ _ _ _ _) ?_
    refine an 0 ?_
    refine an 0 ?_
    refine aa 0 ?_
    exact .drop 1 1 (.done (gB (x:=⟨ev,jo,false,does,.none,node,has,nx,out⟩) (n:=.pop q) rfl gH (vF ao) hb aP rfl rfl r))
   ·exact .done (gY (x:=⟨ev,jo,false,does,.none,node,has,nx,out⟩) (n:=.pop q) rfl gH (vF ao) hb aP r .aj [] trivial)
  |false=>
   refine an 1 ?_
   refine gN.dM (.pull [1] (.refl _)) ?_
   refine .sched [5] (upto [5] 11 0) (by kernel_rfl) ?_
   refine aa 0 ?_
   refine aI [] (dO _ _ _) ?_
   refine⟨_,wPop_,?_⟩
   refine iD [_] ao (fun σ=>IX M r q m d σ hm (by have:=o3.1;omega) o3.2) (fun m' aP hb=>?_) (fun m' aP hb=>?_)
   ·refine aB [] (TF w r s l who ev jo false does node has nx out _ _ _ _ _ _ _ _ _) ?_
    refine an 0 ?_
    refine an 0 ?_
    refine aa 0 ?_
    exact .drop 1 1 (.done (gB (x:=⟨ev,jo,false,does,.none,node,has,nx,out⟩) (n:=.pop q) rfl gH (vF ao) hb aP rfl rfl r))
   ·exact .done (gY (x:=⟨ev,jo,false,does,.none,node,has,nx,out⟩) (n:=.pop q) rfl gH (vF ao) hb aP r .aj [] trivial)
 |cc q=>
  obtain⟨q',a',b',ao⟩:∃q' a' b',gA M.O q (M.abs m)=(q',a',b'):=⟨_,_,_,rfl⟩
  obtain⟨u1,u2,u3,u4,u5,u6,u7,u8,u9⟩:=q'
  cases u4 with
  |true=>
   refine an 1 ?_
   refine gN.dM (.pull [1] (.refl _)) ?_
   refine .sched [5] (upto [5] 11 0) (by kernel_rfl) ?_
   refine aa 0 ?_
   refine aI [] (dO _ _ _) ?_
   refine⟨_,wSteal_,?_⟩
   refine iD [_] ao (fun σ=>HX M r q m d σ hm (by have:=o3.1;omega) o3.2) (fun m' aP hb=>?_) (fun m' aP hb=>?_)
   ·refine aB [] (Q8 w r s l who ev jo false does node has nx out _ _ _ _ _ _ _ _ _) ?_
    refine an 0 ?_
    refine an 0 ?_
    refine aa 0 ?_
    exact .drop 1 1 (.done (gB (x:=⟨ev,jo,false,does,.none,node,has,nx,out⟩) (n:=.cc q) rfl gH (vm ao) hb aP rfl rfl r))
   ·exact .done (gY (x:=⟨ev,jo,false,does,.none,node,has,nx,out⟩) (n:=.cc q) rfl gH (vm ao) hb aP r .aj [] trivial)
  |false=>
   refine an 1 ?_
   refine gN.dM (.pull [1] (.refl _)) ?_
   refine .sched [5] (upto [5] 11 0) (by kernel_rfl) ?_
   refine aa 0 ?_
   refine aI [] (dO _ _ _) ?_
   refine⟨_,wSteal_,?_⟩
   refine iD [_] ao (fun σ=>HX M r q m d σ hm (by have:=o3.1;omega) o3.2) (fun m' aP hb=>?_) (fun m' aP hb=>?_)
   ·refine aB [] (Q9 w r s l who ev jo false does node has nx out _ _ _ _ _ _ _ _ _) ?_
    refine an 0 ?_
    refine an 0 ?_
    refine aa 0 ?_
    exact .drop 1 1 (.done (gB (x:=⟨ev,jo,false,does,.none,node,has,nx,out⟩) (n:=.cc q) rfl gH (vm ao) hb aP rfl rfl r))
   ·exact .done (gY (x:=⟨ev,jo,false,does,.none,node,has,nx,out⟩) (n:=.cc q) rfl gH (vm ao) hb aP r .aj [] trivial)
 |quiet q=>
  obtain⟨q',a',b',ao⟩:∃q' a' b',so M.O q (M.abs m)=(q',a',b'):=⟨_,_,_,rfl⟩
  obtain⟨u1,u2,u3,u4⟩:=q'
  cases u3 with
  |true=>
   refine an 1 ?_
   refine gN.dM (.pull [1] (.refl _)) ?_
   refine .sched [5] (upto [5] 11 0) (by kernel_rfl) ?_
   refine aa 0 ?_
   refine aI [] (dO _ _ _) ?_
   refine⟨_,wQuiet_,?_⟩
   refine iD [_] ao (fun σ=>HY M r q m d σ hm) (fun m' aP hb=>?_) (fun m' aP hb=>?_)
   ·refine aB [] (GY w r s l who ev jo false does node has nx out _ _ _ _ _) ?_
    refine an 0 ?_
    refine an 0 ?_
    refine aa 0 ?_
    exact .drop 1 1 (.done (gB (x:=⟨ev,jo,false,does,.none,node,has,nx,out⟩) (n:=.quiet q) rfl gH (xk ao) hb aP rfl rfl r))
   ·exact .done (gY (x:=⟨ev,jo,false,does,.none,node,has,nx,out⟩) (n:=.quiet q) rfl gH (xk ao) hb aP r .aj [] trivial)
  |false=>
   refine an 1 ?_
   refine gN.dM (.pull [1] (.refl _)) ?_
   refine .sched [5] (upto [5] 11 0) (by kernel_rfl) ?_
   refine aa 0 ?_
   refine aI [] (dO _ _ _) ?_
   refine⟨_,wQuiet_,?_⟩
   refine iD [_] ao (fun σ=>HY M r q m d σ hm) (fun m' aP hb=>?_) (fun m' aP hb=>?_)
   ·refine aB [] (GY w r s l who ev jo false does node has nx out _ _ _ _ _) ?_
    refine an 0 ?_
    refine an 0 ?_
    refine aa 0 ?_
    exact .drop 1 1 (.done (gB (x:=⟨ev,jo,false,does,.none,node,has,nx,out⟩) (n:=.quiet q) rfl gH (xk ao) hb aP rfl rfl r))
   ·exact .done (gY (x:=⟨ev,jo,false,does,.none,node,has,nx,out⟩) (n:=.quiet q) rfl gH (xk ao) hb aP r .aj [] trivial)
 |clear q=>
  obtain⟨q',a',b',ao⟩:∃q' a' b',sq M.O q (M.abs m)=(q',a',b'):=⟨_,_,_,rfl⟩
  obtain⟨u1,u2,u3,u4⟩:=q'
  refine an 1 ?_
  refine gN.dM (.pull [1] (.refl _)) ?_
  refine .sched [5] (upto [5] 11 0) (by kernel_rfl) ?_
  refine aa 0 ?_
  refine aI [] (dO _ _ _) ?_
  refine⟨_,wClear_,?_⟩
  refine iD [_] ao (fun σ=>VK M r q m d σ hm) (fun m' aP hb=>?_) (fun m' aP hb=>?_)
  ·refine aB [] (Sf w r s l who ev jo false does node has nx out _ _ _ _ _) ?_
   refine an 0 ?_
   refine an 0 ?_
   refine aa 0 ?_
   exact .drop 1 1 (.done (gB (x:=⟨ev,jo,false,does,.none,node,has,nx,out⟩) (n:=.clear q) rfl gH (G4 ao) hb aP rfl rfl r))
  ·exact .done (gY (x:=⟨ev,jo,false,does,.none,node,has,nx,out⟩) (n:=.clear q) rfl gH (G4 ao) hb aP r .aj [] trivial)
 |read x=>
  obtain rfl:x=[]:=acL gH
  have NH:kL .aj [] []∧(([]:List Int)=[]→AV.aj=.aj):=⟨.nil,fun _=>rfl⟩
  obtain⟨o4,o5⟩:=o3
  obtain⟨nM,WE⟩:=NH
  by_cases ab:([]:List Int).length<cw l.words
  ·have OG:=Bj l.words
   have ao:mB M.O l (aS l node) ([]:List Int) (M.abs m)=(([]:List Int)++[(M.O.ld (M.abs m) (wr (aS l node+(([]:List Int).length:Nat)))).1],(M.O.ld (M.abs m) (wr (aS l node+(([]:List Int).length:Nat)))).2,decide (([]:List Int).length+1=cw l.words)):=ag ab
   have ic:bA (([]:List Int)++[(M.O.ld (M.abs m) (wr (aS l node+(([]:List Int).length:Nat)))).1]):=fun z hz=>by rcases bP.1 hz with h | h;exact o5 z h;rw[a8.1 h];exact hv _
   have hx3:(([]:List Int)++[(M.O.ld (M.abs m) (wr (aS l node+(([]:List Int).length:Nat)))).1]).length=([]:List Int).length+1:=by simp
   refine an 1 ?_
   refine gN.dM (.pull [1] (.refl _)) ?_
   refine .sched [5] (upto [5] 11 0) (by kernel_rfl) ?_
   refine aa 0 ?_
   refine aI [] (dO _ _ _) ?_
   refine⟨_,wRead_,?_⟩
   refine Vv hm ab nM (fun m' b aP he=>?_) (fun m' b aP he=>?_)
   ·refine .ku 2 b 0 (([]:List Int)++[(M.O.ld (M.abs m) (wr (aS l node+(([]:List Int).length:Nat)))).1]).length 1 _ (.int .u64) (([]:List Int)++[(M.O.ld (M.abs m) (wr (aS l node+(([]:List Int).length:Nat)))).1]) rfl ?_ ⟨rfl,rfl,by decide⟩ 1 3 r _ rfl rfl ?_
    ·rw[List.drop_zero,← rb];exact List.take_of_length_le (by simp[bB])
    refine aB [] (Hc w r s l who ev jo false does node has nx out (([]:List Int)++[(M.O.ld (M.abs m) (wr (aS l node+(([]:List Int).length:Nat)))).1]) _ _ _ _ _ _ _ _ hf ic (by omega)) ?_
    refine an 0 ?_
    refine an 0 ?_
    refine aa 0 ?_
    exact .drop 1 1 (.done (gB (x:=⟨ev,jo,false,does,.none,node,has,nx,out⟩) (n:=.read ([]:List Int)) rfl gH (y6 ao) (aY he) aP rfl rfl r))
   ·exact .done (gY (x:=⟨ev,jo,false,does,.none,node,has,nx,out⟩) (n:=.read ([]:List Int)) rfl gH (y6 ao) (decide_eq_false he) aP r (.ae b 0 (([]:List Int)++[(M.O.ld (M.abs m) (wr (aS l node+(([]:List Int).length:Nat)))).1]).length 1) [(b,bB (([]:List Int)++[(M.O.ld (M.abs m) (wr (aS l node+(([]:List Int).length:Nat)))).1]))] ⟨.ae b (([]:List Int)++[(M.O.ld (M.abs m) (wr (aS l node+(([]:List Int).length:Nat)))).1]),fun h=>absurd h (by simp)⟩)
  ·obtain⟨h0,-⟩:=o4.resolve_left ab
   generalize hz:([]:List Int)=z0 at nM
   cases nM with
   |nil=>
   have ao:mB M.O l (aS l node) [] (M.abs m)=([],M.abs m,true):=ah ab
   refine an 1 ?_
   refine gN.dM (.pull [1] (.refl _)) ?_
   refine .sched [5] (upto [5] 11 0) (by kernel_rfl) ?_
   refine aa 0 ?_
   refine aI [] (dO _ _ _) ?_
   refine⟨_,wRead_,?_⟩
   refine aB [1] (UP M r _ _ _ _ _ _ d _ h0) ?_
   refine Mo 0 3 r _ (.int .u64) rfl rfl ?_
   refine aB [1] (Hc w r s l who ev jo false does node has nx out [] _ _ _ _ _ _ _ _ hf o5 (bK _)) ?_
   refine an 0 ?_
   refine an 0 ?_
   refine aa 0 ?_
   exact .drop 1 1 (.done (gB (x:=⟨ev,jo,false,does,.none,node,has,nx,out⟩) (n:=.read []) rfl gH (y6 ao) rfl rfl rfl rfl r))
 |join q=>
  obtain⟨q',a',b',ao⟩:∃q' a' b',iq M.O q (M.abs m)=(q',a',b'):=⟨_,_,_,rfl⟩
  obtain⟨u1,u2,u3,u4,u5,u6,u7,u8,u9,u10⟩:=q'
  cases u5 with
  |true=>
   refine an 1 ?_
   refine gN.dM (.pull [1] (.refl _)) ?_
   refine .sched [5] (upto [5] 11 0) (by kernel_rfl) ?_
   refine aa 0 ?_
   refine aI [] (dO _ _ _) ?_
   refine⟨_,wJoin_,?_⟩
   refine iD [_] ao (fun σ=>Im M r q m d σ hm (by have:=o3.1;omega)) (fun m' aP hb=>?_) (fun m' aP hb=>?_)
   ·refine aB [] (Sd w r s l who ev jo false does node has nx out _ _ _ _ _ _ _ _ _ _) ?_
    refine an 0 ?_
    refine an 0 ?_
    refine aa 0 ?_
    exact .drop 1 1 (.done (gB (x:=⟨ev,jo,false,does,.none,node,has,nx,out⟩) (n:=.join q) rfl gH (vA ao) hb aP rfl rfl r))
   ·exact .done (gY (x:=⟨ev,jo,false,does,.none,node,has,nx,out⟩) (n:=.join q) rfl gH (vA ao) hb aP r .aj [] trivial)
  |false=>
   refine an 1 ?_
   refine gN.dM (.pull [1] (.refl _)) ?_
   refine .sched [5] (upto [5] 11 0) (by kernel_rfl) ?_
   refine aa 0 ?_
   refine aI [] (dO _ _ _) ?_
   refine⟨_,wJoin_,?_⟩
   refine iD [_] ao (fun σ=>Im M r q m d σ hm (by have:=o3.1;omega)) (fun m' aP hb=>?_) (fun m' aP hb=>?_)
   ·refine aB [] (Se w r s l who ev jo false does node has nx out _ _ _ _ _ _ _ _ _ _ o3.2) ?_
    refine an 0 ?_
    refine an 0 ?_
    refine aa 0 ?_
    exact .drop 1 1 (.done (gB (x:=⟨ev,jo,false,does,.none,node,has,nx,out⟩) (n:=.join q) rfl gH (vA ao) hb aP rfl rfl r))
   ·exact .done (gY (x:=⟨ev,jo,false,does,.none,node,has,nx,out⟩) (n:=.join q) rfl gH (vA ao) hb aP r .aj [] trivial)
 |take q=>
  obtain⟨q',a',b',ao⟩:∃q' a' b',kN M.O q (M.abs m)=(q',a',b'):=⟨_,_,_,rfl⟩
  obtain⟨u1,u2,u3,u4,u5,u6⟩:=q'
  cases u4 with
  |true=>
   refine an 1 ?_
   refine gN.dM (.pull [1] (.refl _)) ?_
   refine .sched [5] (upto [5] 11 0) (by kernel_rfl) ?_
   refine aa 0 ?_
   refine aI [] (dO _ _ _) ?_
   refine⟨_,wTake_,?_⟩
   refine iD [_] ao (fun σ=>Ik M r q m d σ hm) (fun m' aP hb=>?_) (fun m' aP hb=>?_)
   ·refine aB [] (Sb w r s l who ev jo false does node has nx out _ _ _ _ _ _) ?_
    refine an 0 ?_
    refine an 0 ?_
    refine aa 0 ?_
    exact .drop 1 1 (.done (gB (x:=⟨ev,jo,false,does,.none,node,has,nx,out⟩) (n:=.take q) rfl gH (vw ao) hb aP rfl rfl r))
   ·exact .done (gY (x:=⟨ev,jo,false,does,.none,node,has,nx,out⟩) (n:=.take q) rfl gH (vw ao) hb aP r .aj [] trivial)
  |false=>
   refine an 1 ?_
   refine gN.dM (.pull [1] (.refl _)) ?_
   refine .sched [5] (upto [5] 11 0) (by kernel_rfl) ?_
   refine aa 0 ?_
   refine aI [] (dO _ _ _) ?_
   refine⟨_,wTake_,?_⟩
   refine iD [_] ao (fun σ=>Ik M r q m d σ hm) (fun m' aP hb=>?_) (fun m' aP hb=>?_)
   ·refine aB [] (Sc w r s l who ev jo false does node has nx out _ _ _ _ _ _ o3) ?_
    refine an 0 ?_
    refine an 0 ?_
    refine aa 0 ?_
    exact .drop 1 1 (.done (gB (x:=⟨ev,jo,false,does,.none,node,has,nx,out⟩) (n:=.take q) rfl gH (vw ao) hb aP rfl rfl r))
   ·exact .done (gY (x:=⟨ev,jo,false,does,.none,node,has,nx,out⟩) (n:=.take q) rfl gH (vw ao) hb aP r .aj [] trivial)
 |push q=>
  obtain⟨q',a',b',ao⟩:∃q' a' b',gn M.O q (M.abs m)=(q',a',b'):=⟨_,_,_,rfl⟩
  refine an 1 ?_
  refine gN.dM (.pull [1] (.refl _)) ?_
  refine .sched [5] (upto [5] 11 0) (by kernel_rfl) ?_
  refine aa 0 ?_
  refine aI [] (dO _ _ _) ?_
  refine⟨_,wPush_,?_⟩
  refine iD [_] ao (fun σ=>Wj M r q m d σ hm (by have:=o3.1.1;omega) o3.1.2) (fun m' aP hb=>?_) (fun m' aP hb=>?_)
  ·refine aB [] (TD w r s l who ev jo false does node has nx out _ _ o3.2) ?_
   refine an 0 ?_
   refine an 0 ?_
   refine aa 0 ?_
   exact .drop 1 1 (.done (gB (x:=⟨ev,jo,false,does,.none,node,has,nx,out⟩) (n:=.push q) rfl gH (Dn ao) hb aP rfl rfl r))
  ·exact .done (gY (x:=⟨ev,jo,false,does,.none,node,has,nx,out⟩) (n:=.push q) rfl gH (Dn ao) hb aP r .aj [] trivial)
 |dA q=>
  obtain⟨q',a',b',ao⟩:∃q' a' b',tI M.O q (M.abs m)=(q',a',b'):=⟨_,_,_,rfl⟩
  refine an 1 ?_
  refine gN.dM (.pull [1] (.refl _)) ?_
  refine .sched [5] (upto [5] 11 0) (by kernel_rfl) ?_
  refine aa 0 ?_
  refine aI [] (dO _ _ _) ?_
  refine⟨_,wRetire_,?_⟩
  refine iD [_] ao (fun σ=>UO M r q m d σ hm) (fun m' aP hb=>?_) (fun m' aP hb=>?_)
  ·refine aB [] (Ra w r s l who ev jo false does node has nx out _ _) ?_
   refine an 0 ?_
   refine an 0 ?_
   refine aa 0 ?_
   exact .drop 1 1 (.done (gB (x:=⟨ev,jo,false,does,.none,node,has,nx,out⟩) (n:=.dA q) rfl gH (GI ao) hb aP rfl rfl r))
  ·exact .done (gY (x:=⟨ev,jo,false,does,.none,node,has,nx,out⟩) (n:=.dA q) rfl gH (GI ao) hb aP r .aj [] trivial)
theorem afZ(M:AMem)(w r:Nat)(c:AV)(acc:Hp)(s:Sy)(l:Lay)(who:Int)(x:WS)(d:Int)(m:M.S)(σ:Hp)(hf:Fit s)(hm:M.O.free (M.abs m))(hv:∀a,bM (M.O.ld (M.abs m) a).1)(ok:ND l x)(rd:zw c acc x.now):
  ACalls Tryz.prog 390 [.ptr w 0,M.v,.int .i64 d] (WB s l who w r c acc x++(M.B m++σ)) (pC M s l who w (dv M.O s l who x d (M.abs m)) σ):=by
 obtain⟨ev,jo,en,does,n,node,has,nx,out⟩:=x
 obtain⟨o1,o2,o3⟩:=ok
 cases en with
 |true=>
  refine aA Tryz.func390 ?_
  refine aa 0 ?_
  refine aa 0 ?_
  exact .done (ab0 rfl rfl rd)
 |false=>
  cases n with
  |none=>exact acR M w r c acc s l who ev jo does node has nx out d m σ hm hf hv o1 o2
  |pop q=>exact aeD M w r c acc s l who ev jo does q node has nx out d m σ hm o3
  |cc q=>exact aaN M w r c acc s l who ev jo does q node has nx out d m σ hm o3
  |quiet q=>exact aaO M w r c acc s l who ev jo does q node has nx out d m σ hm
  |clear q=>exact aaP M w r c acc s l who ev jo does q node has nx out d m σ hm
  |read q=>exact acP M w r c acc s l who ev jo does q node has nx out d m σ hm hf hv o3 rd
  |join q=>exact acS M w r c acc s l who ev jo does q node has nx out d m σ hm o3
  |take q=>exact acO M w r c acc s l who ev jo does q node has nx out d m σ hm o3
  |push q=>exact acQ M w r c acc s l who ev jo does q node has nx out d m σ hm o3
  |dA q=>exact Zj M w r c acc s l who ev jo does q node has nx out d m σ hm
end Go.Proofs.YtnikdflhefijbaaGreat
