import Derived.Test.YtnikdflhefijbaaGreatBn12
namespace Go.Proofs.YtnikdflhefijbaaGreat
open Go.RowKit
set_option maxRecDepth 100000
set_option maxHeartbeats 4000000
def po(M:AMem)(s:Sy)(l:Lay)(who:Int)(w:Nat)(res:WS×M.O.A×Bool)(σ:Hp):AV→Hp→Prop:=fun z σ'=>∃m' r c acc,yN c acc res.1.now∧M.abs m'=res.2.1∧z=.bool res.2.2∧σ'=WB s l who w r c acc res.1++(M.B m'++σ)
theorem ZL{M:AMem}{s:Sy}{l:Lay}{who:Int}{w:Nat}{σ:Hp}{x:WS}{a:M.O.A}{d:Int}(h:x.en=true){m:M.S}(hm:M.abs m=a){r:Nat}{c:AV}{acc:Hp}(rd:yN c acc x.now):po M s l who w (dC M.O s l who x d a) σ (.bool true) (WB s l who w r c acc x++(M.B m++σ)):=by
 unfold dC
 rw[ah h]
 exact⟨m,r,c,acc,rd,hm,rfl,rfl⟩
theorem gG{M:AMem}{s:Sy}{l:Lay}{who:Int}{w:Nat}{σ:Hp}{x:WS}{a a':M.O.A}{d:Int}{n n':Nw}{b:Bool}{m':M.S}{y:WS}(he:x.en=false)(cx:ku l who x d=n)(hn:gb M.O l x.node n a=(n',a',b))(hb:b=true)(hm:M.abs m'=a')(hy:ek s l x n'=y)(h0:y.now=.none)(r:Nat):po M s l who w (dC M.O s l who x d a) σ (.bool y.en) (WB s l who w r .aj [] y++(M.B m'++σ)):=by
 unfold dC
 rw[ag (by rw[he];decide),cx,hn]
 dsimp only
 rw[ah hb,hy]
 exact⟨m',r,.aj,[],by rw[h0];trivial,hm,rfl,rfl⟩
theorem ie{M:AMem}{s:Sy}{l:Lay}{who:Int}{w:Nat}{σ:Hp}{x:WS}{a a':M.O.A}{d:Int}{n n':Nw}{b:Bool}{m':M.S}(he:x.en=false)(cx:ku l who x d=n)(hn:gb M.O l x.node n a=(n',a',b))(hb:b=false)(hm:M.abs m'=a')(r:Nat)(c:AV)(acc:Hp)(rd:yN c acc n'):po M s l who w (dC M.O s l who x d a) σ (.bool false) (WB s l who w r c acc ⟨x.ev,x.jo,x.en,x.does,n',x.node,x.has,x.nx,x.out⟩++(M.B m'++σ)):=by
 unfold dC
 rw[ag (by rw[he];decide),cx,hn]
 dsimp only
 rw[ag (by rw[hb];decide)]
 exact⟨m',r,c,acc,rd,hm,rfl,rfl⟩
theorem iN{M:AMem}{f:FuncId}{xs:List AV}{X:Type}{B:X→List AV}{r:Nat}{cs:List AV}{res:X×M.O.A×Bool}{x':X}{a':M.O.A}{b':Bool}{m:M.S}(fr:Hp){σ:Hp}{K:AV→Hp→Prop}(ao:res=(x',a',b'))(h:∀σ,ACalls Tryz.prog f xs ((r,cs)::(M.B m++σ)) (qf M σ B r res))
  (k1:∀m',M.abs m'=a'→b'=true→K (.bool true) (fr++((r,B x')::(M.B m'++σ)))) (k2:∀m',M.abs m'=a'→b'=false→K (.bool false) (fr++((r,B x')::(M.B m'++σ)))):CallAt Tryz.prog f K xs (fr++((r,cs)::(M.B m++σ))):=by
 subst ao
 exact afh fr h k1 k2
theorem uE{O:kg}{l:Lay}{node:Int}{q q':DQ}{a a':O.A}{b:Bool}(h:fp O q a=(q',a',b)):gb O l node (.pop q) a=(.pop q',a',b):=by show (Nw.pop (fp O q a).1,(fp O q a).2)=_;rw[h]
theorem uh{O:kg}{l:Lay}{node:Int}{q q':DQ}{a a':O.A}{b:Bool}(h:gF O q a=(q',a',b)):gb O l node (.cu q) a=(.cu q',a',b):=by show (Nw.cu (gF O q a).1,(gF O q a).2)=_;rw[h]
theorem wD{O:kg}{l:Lay}{node:Int}{q q':Qk}{a a':O.A}{b:Bool}(h:rQ O q a=(q',a',b)):gb O l node (.quiet q) a=(.quiet q',a',b):=by show (Nw.quiet (rQ O q a).1,(rQ O q a).2)=_;rw[h]
theorem Gk{O:kg}{l:Lay}{node:Int}{q q':Ck}{a a':O.A}{b:Bool}(h:rR O q a=(q',a',b)):gb O l node (.clear q) a=(.clear q',a',b):=by show (Nw.clear (rR O q a).1,(rR O q a).2)=_;rw[h]
theorem uq{O:kg}{l:Lay}{node:Int}{q q':Tk}{a a':O.A}{b:Bool}(h:kT O q a=(q',a',b)):gb O l node (.take q) a=(.take q',a',b):=by show (Nw.take (kT O q a).1,(kT O q a).2)=_;rw[h]
theorem CH{O:kg}{l:Lay}{node:Int}{q q':DQ}{a a':O.A}{b:Bool}(h:gu O q a=(q',a',b)):gb O l node (.push q) a=(.push q',a',b):=by show (Nw.push (gu O q a).1,(gu O q a).2)=_;rw[h]
theorem FY{O:kg}{l:Lay}{node:Int}{q q':Rk}{a a':O.A}{b:Bool}(h:s5 O q a=(q',a',b)):gb O l node (.dU q) a=(.dU q',a',b):=by show (Nw.dU (s5 O q a).1,(s5 O q a).2)=_;rw[h]
theorem ur{O:kg}{l:Lay}{node:Int}{q q':Jn}{a a':O.A}{b:Bool}(h:iA O q a=(q',a',b)):gb O l node (.join q) a=(.join q',a',b):=by show (Nw.join (iA O q a).1,(iA O q a).2)=_;rw[h]
theorem yf{O:kg}{l:Lay}{node:Int}{q q':List Int}{a a':O.A}{b:Bool}(h:mB O l (aX l node) q a=(q',a',b)):gb O l node (.read q) a=(.read q',a',b):=by show (Nw.read (mB O l (aX l node) q a).1,(mB O l (aX l node) q a).2)=_;rw[h]
theorem ab1(l:Lay)(who does node:Int)(nx out:List Int)(d:Int):iT l who does node nx out d≠.none:=by
 unfold iT;repeat' (first | split | (intro h;cases h))
theorem acm{l:Lay}{who does node:Int}{nx out:List Int}{d:Int}(h:does=5∨does=6∨does=7→0<nx.length):vv l nx (iT l who does node nx out d):=by
 unfold iT
 repeat' split
 ·exact⟨bD _,kq _⟩
 ·exact⟨bD _,kq _⟩
 ·trivial
 ·trivial
 ·refine⟨?_,fun _ h=>by cases h⟩
  rcases tW (cw l.words) with h | h
  ·exact .inr ⟨h,rfl⟩
  ·exact .inl h
 ·exact⟨bD _,h (by omega)⟩
 ·exact h (by omega)
 ·exact⟨⟨bD _,kq _⟩,h (by omega)⟩
 ·trivial
theorem Um{M:AMem}{r w:Nat}{wc:List AV}{m:M.S}{base what words x d:Int}{l:List Int}{c:AV}{acc σ:Hp}{K:AV→Hp→Prop}(hf:M.O.free (M.abs m))(cx:l.length<cw words)(hv:kN c acc l)
  (k1:∀m' b,M.abs m'=(M.O.ld (M.abs m) (wr (base+(l.length:Nat)))).2→l.length+1=cw words→K (.bool true) ((w,wc)::(r,kj (.ae b 0 (l++[(M.O.ld (M.abs m) (wr (base+(l.length:Nat)))).1]).length 1) base what words true (l++[(M.O.ld (M.abs m) (wr (base+(l.length:Nat)))).1]).length false x)::(b,aO (l++[(M.O.ld (M.abs m) (wr (base+(l.length:Nat)))).1]))::(M.B m'++σ)))
  (k2:∀m' b,M.abs m'=(M.O.ld (M.abs m) (wr (base+(l.length:Nat)))).2→¬l.length+1=cw words→K (.bool false) ((w,wc)::(r,kj (.ae b 0 (l++[(M.O.ld (M.abs m) (wr (base+(l.length:Nat)))).1]).length 1) base what words false (l++[(M.O.ld (M.abs m) (wr (base+(l.length:Nat)))).1]).length false x)::(b,aO (l++[(M.O.ld (M.abs m) (wr (base+(l.length:Nat)))).1]))::(M.B m'++σ))):CallAt Tryz.prog 406 K [.ptr r 0,M.v,.int .i64 d] ((w,wc)::(r,kj c base what words false l.length false x)::(acc++(M.B m++σ))):=by
 have NL:=AH words
 have hp:∀(cs:List AV) (a b:Hp),((r,cs)::(a++(b++((w,wc)::σ)))).Perm ((w,wc)::(r,cs)::(a++(b++σ))):=fun cs a b=>by
  have:=fC [(w,wc)] ((r,cs)::(a++b)) σ
  simpa using this
 refine .perm _ (hp _ acc (M.B m)) (adf M r m base what words x l.length false l c acc d ((w,wc)::σ) hf cx hv (by omega)) ?_
 rintro z σ' ⟨m',c',aU,h1,h2,rfl,rfl⟩
 refine⟨_,(hp _ aU (M.B m')).symm,?_⟩
 have hlen:(l++[(M.O.ld (M.abs m) (wr (base+(l.length:Nat)))).1]).length=l.length+1:=by simp
 generalize hg:l++[(M.O.ld (M.abs m) (wr (base+(l.length:Nat)))).1]=g at h1 k1 k2 hlen
 rw[← hlen]
 rw[← hlen]at k1 k2
 cases h1 with
 |nil=>simp at hlen
 |ae b g=>
  by_cases he:g.length=cw words
  ·rw[bu he];exact k1 m' b h2 he
  ·rw[bZ he];exact k2 m' b h2 he
theorem ad0(M:AMem)(w r:Nat)(c:AV)(acc:Hp)(s:Sy)(l:Lay)(who:Int)(ev jo:Int)(does:Int)(q:DQ)(node:Int)(has:Bool)(nx out:List Int)(d:Int)(m:M.S)(σ:Hp)(hm:M.O.free (M.abs m))(o3:vv l nx (.pop q)):
  ACalls Tryz.prog 390 [.ptr w 0,M.v,.int .i64 d] (WB s l who w r c acc ⟨ev,jo,false,does,.pop q,node,has,nx,out⟩++(M.B m++σ)) (po M s l who w (dC M.O s l who ⟨ev,jo,false,does,.pop q,node,has,nx,out⟩ d (M.abs m)) σ):=by
 refine az Tryz.func390 ?_
 refine aa 0 ?_
 refine aa 0 ?_
 refine aa 0 ?_
 obtain⟨q',a',b',ao⟩:∃q' a' b',fp M.O q (M.abs m)=(q',a',b'):=⟨_,_,_,rfl⟩
 obtain⟨u1,u2,u3,u4,u5,u6,u7,u8,u9⟩:=q'
 cases u4 with
 |true=>
  refine .fwd 1 ?_
  refine .sched [5] (upto [5] 11 0) (by kernel_rfl) ?_
  refine aa 0 ?_
  refine aL [] (dK _ _ _) ?_
  refine⟨_,wPop_,?_⟩
  refine iN [_] ao (fun σ=>Ip M r q m d σ hm (by have:=o3.1;omega) o3.2) (fun m' aR hb=>?_) (fun m' aR hb=>?_)
  ·refine ay [] (Sw w r s l who ev jo false does node has nx out _ _ _ _ _ _ _ _ _) ?_
   refine ai 0 ?_
   refine ai 0 ?_
   refine aa 0 ?_
   exact .drop 1 1 (.done (gG (x:=⟨ev,jo,false,does,.pop q,node,has,nx,out⟩) (n:=.pop q) rfl rfl (uE ao) hb aR rfl rfl r))
  ·exact .done (ie (x:=⟨ev,jo,false,does,.pop q,node,has,nx,out⟩) (n:=.pop q) rfl rfl (uE ao) hb aR r .aj [] trivial)
 |false=>
  refine .fwd 1 ?_
  refine .sched [5] (upto [5] 11 0) (by kernel_rfl) ?_
  refine aa 0 ?_
  refine aL [] (dK _ _ _) ?_
  refine⟨_,wPop_,?_⟩
  refine iN [_] ao (fun σ=>Ip M r q m d σ hm (by have:=o3.1;omega) o3.2) (fun m' aR hb=>?_) (fun m' aR hb=>?_)
  ·refine ay [] (Sx w r s l who ev jo false does node has nx out _ _ _ _ _ _ _ _ _) ?_
   refine ai 0 ?_
   refine ai 0 ?_
   refine aa 0 ?_
   exact .drop 1 1 (.done (gG (x:=⟨ev,jo,false,does,.pop q,node,has,nx,out⟩) (n:=.pop q) rfl rfl (uE ao) hb aR rfl rfl r))
  ·exact .done (ie (x:=⟨ev,jo,false,does,.pop q,node,has,nx,out⟩) (n:=.pop q) rfl rfl (uE ao) hb aR r .aj [] trivial)
theorem Zs(M:AMem)(w r:Nat)(c:AV)(acc:Hp)(s:Sy)(l:Lay)(who:Int)(ev jo:Int)(does:Int)(q:DQ)(node:Int)(has:Bool)(nx out:List Int)(d:Int)(m:M.S)(σ:Hp)(hm:M.O.free (M.abs m))(o3:vv l nx (.cu q)):
  ACalls Tryz.prog 390 [.ptr w 0,M.v,.int .i64 d] (WB s l who w r c acc ⟨ev,jo,false,does,.cu q,node,has,nx,out⟩++(M.B m++σ)) (po M s l who w (dC M.O s l who ⟨ev,jo,false,does,.cu q,node,has,nx,out⟩ d (M.abs m)) σ):=by
 refine az Tryz.func390 ?_
 refine aa 0 ?_
 refine aa 0 ?_
 refine aa 0 ?_
 obtain⟨q',a',b',ao⟩:∃q' a' b',gF M.O q (M.abs m)=(q',a',b'):=⟨_,_,_,rfl⟩
 obtain⟨u1,u2,u3,u4,u5,u6,u7,u8,u9⟩:=q'
 cases u4 with
 |true=>
  refine .fwd 1 ?_
  refine .sched [5] (upto [5] 11 0) (by kernel_rfl) ?_
  refine aa 0 ?_
  refine aL [] (dK _ _ _) ?_
  refine⟨_,wSteal_,?_⟩
  refine iN [_] ao (fun σ=>Hl M r q m d σ hm (by have:=o3.1;omega) o3.2) (fun m' aR hb=>?_) (fun m' aR hb=>?_)
  ·refine ay [] (Qd w r s l who ev jo false does node has nx out _ _ _ _ _ _ _ _ _) ?_
   refine ai 0 ?_
   refine ai 0 ?_
   refine aa 0 ?_
   exact .drop 1 1 (.done (gG (x:=⟨ev,jo,false,does,.cu q,node,has,nx,out⟩) (n:=.cu q) rfl rfl (uh ao) hb aR rfl rfl r))
  ·exact .done (ie (x:=⟨ev,jo,false,does,.cu q,node,has,nx,out⟩) (n:=.cu q) rfl rfl (uh ao) hb aR r .aj [] trivial)
 |false=>
  refine .fwd 1 ?_
  refine .sched [5] (upto [5] 11 0) (by kernel_rfl) ?_
  refine aa 0 ?_
  refine aL [] (dK _ _ _) ?_
  refine⟨_,wSteal_,?_⟩
  refine iN [_] ao (fun σ=>Hl M r q m d σ hm (by have:=o3.1;omega) o3.2) (fun m' aR hb=>?_) (fun m' aR hb=>?_)
  ·refine ay [] (Qe w r s l who ev jo false does node has nx out _ _ _ _ _ _ _ _ _) ?_
   refine ai 0 ?_
   refine ai 0 ?_
   refine aa 0 ?_
   exact .drop 1 1 (.done (gG (x:=⟨ev,jo,false,does,.cu q,node,has,nx,out⟩) (n:=.cu q) rfl rfl (uh ao) hb aR rfl rfl r))
  ·exact .done (ie (x:=⟨ev,jo,false,does,.cu q,node,has,nx,out⟩) (n:=.cu q) rfl rfl (uh ao) hb aR r .aj [] trivial)
theorem Zt(M:AMem)(w r:Nat)(c:AV)(acc:Hp)(s:Sy)(l:Lay)(who:Int)(ev jo:Int)(does:Int)(q:Qk)(node:Int)(has:Bool)(nx out:List Int)(d:Int)(m:M.S)(σ:Hp)(hm:M.O.free (M.abs m)):
  ACalls Tryz.prog 390 [.ptr w 0,M.v,.int .i64 d] (WB s l who w r c acc ⟨ev,jo,false,does,.quiet q,node,has,nx,out⟩++(M.B m++σ)) (po M s l who w (dC M.O s l who ⟨ev,jo,false,does,.quiet q,node,has,nx,out⟩ d (M.abs m)) σ):=by
 refine az Tryz.func390 ?_
 refine aa 0 ?_
 refine aa 0 ?_
 refine aa 0 ?_
 obtain⟨q',a',b',ao⟩:∃q' a' b',rQ M.O q (M.abs m)=(q',a',b'):=⟨_,_,_,rfl⟩
 obtain⟨u1,u2,u3,u4⟩:=q'
 cases u3 with
 |true=>
  refine .fwd 1 ?_
  refine .sched [5] (upto [5] 11 0) (by kernel_rfl) ?_
  refine aa 0 ?_
  refine aL [] (dK _ _ _) ?_
  refine⟨_,wQuiet_,?_⟩
  refine iN [_] ao (fun σ=>Hn M r q m d σ hm) (fun m' aR hb=>?_) (fun m' aR hb=>?_)
  ·refine ay [] (Gd w r s l who ev jo false does node has nx out _ _ _ _ _) ?_
   refine ai 0 ?_
   refine ai 0 ?_
   refine aa 0 ?_
   exact .drop 1 1 (.done (gG (x:=⟨ev,jo,false,does,.quiet q,node,has,nx,out⟩) (n:=.quiet q) rfl rfl (wD ao) hb aR rfl rfl r))
  ·exact .done (ie (x:=⟨ev,jo,false,does,.quiet q,node,has,nx,out⟩) (n:=.quiet q) rfl rfl (wD ao) hb aR r .aj [] trivial)
 |false=>
  refine .fwd 1 ?_
  refine .sched [5] (upto [5] 11 0) (by kernel_rfl) ?_
  refine aa 0 ?_
  refine aL [] (dK _ _ _) ?_
  refine⟨_,wQuiet_,?_⟩
  refine iN [_] ao (fun σ=>Hn M r q m d σ hm) (fun m' aR hb=>?_) (fun m' aR hb=>?_)
  ·refine ay [] (Gd w r s l who ev jo false does node has nx out _ _ _ _ _) ?_
   refine ai 0 ?_
   refine ai 0 ?_
   refine aa 0 ?_
   exact .drop 1 1 (.done (gG (x:=⟨ev,jo,false,does,.quiet q,node,has,nx,out⟩) (n:=.quiet q) rfl rfl (wD ao) hb aR rfl rfl r))
  ·exact .done (ie (x:=⟨ev,jo,false,does,.quiet q,node,has,nx,out⟩) (n:=.quiet q) rfl rfl (wD ao) hb aR r .aj [] trivial)
theorem Zu(M:AMem)(w r:Nat)(c:AV)(acc:Hp)(s:Sy)(l:Lay)(who:Int)(ev jo:Int)(does:Int)(q:Ck)(node:Int)(has:Bool)(nx out:List Int)(d:Int)(m:M.S)(σ:Hp)(hm:M.O.free (M.abs m)):
  ACalls Tryz.prog 390 [.ptr w 0,M.v,.int .i64 d] (WB s l who w r c acc ⟨ev,jo,false,does,.clear q,node,has,nx,out⟩++(M.B m++σ)) (po M s l who w (dC M.O s l who ⟨ev,jo,false,does,.clear q,node,has,nx,out⟩ d (M.abs m)) σ):=by
 refine az Tryz.func390 ?_
 refine aa 0 ?_
 refine aa 0 ?_
 refine aa 0 ?_
 obtain⟨q',a',b',ao⟩:∃q' a' b',rR M.O q (M.abs m)=(q',a',b'):=⟨_,_,_,rfl⟩
 obtain⟨u1,u2,u3,u4⟩:=q'
 refine .fwd 1 ?_
 refine .sched [5] (upto [5] 11 0) (by kernel_rfl) ?_
 refine aa 0 ?_
 refine aL [] (dK _ _ _) ?_
 refine⟨_,wClear_,?_⟩
 refine iN [_] ao (fun σ=>UB M r q m d σ hm) (fun m' aR hb=>?_) (fun m' aR hb=>?_)
 ·refine ay [] (Rm w r s l who ev jo false does node has nx out _ _ _ _ _) ?_
  refine ai 0 ?_
  refine ai 0 ?_
  refine aa 0 ?_
  exact .drop 1 1 (.done (gG (x:=⟨ev,jo,false,does,.clear q,node,has,nx,out⟩) (n:=.clear q) rfl rfl (Gk ao) hb aR rfl rfl r))
 ·exact .done (ie (x:=⟨ev,jo,false,does,.clear q,node,has,nx,out⟩) (n:=.clear q) rfl rfl (Gk ao) hb aR r .aj [] trivial)
theorem ab6(M:AMem)(w r:Nat)(c:AV)(acc:Hp)(s:Sy)(l:Lay)(who:Int)(ev jo:Int)(does:Int)(q:Tk)(node:Int)(has:Bool)(nx out:List Int)(d:Int)(m:M.S)(σ:Hp)(hm:M.O.free (M.abs m))(o3:vv l nx (.take q)):
  ACalls Tryz.prog 390 [.ptr w 0,M.v,.int .i64 d] (WB s l who w r c acc ⟨ev,jo,false,does,.take q,node,has,nx,out⟩++(M.B m++σ)) (po M s l who w (dC M.O s l who ⟨ev,jo,false,does,.take q,node,has,nx,out⟩ d (M.abs m)) σ):=by
 refine az Tryz.func390 ?_
 refine aa 0 ?_
 refine aa 0 ?_
 refine aa 0 ?_
 obtain⟨q',a',b',ao⟩:∃q' a' b',kT M.O q (M.abs m)=(q',a',b'):=⟨_,_,_,rfl⟩
 obtain⟨u1,u2,u3,u4,u5,u6⟩:=q'
 cases u4 with
 |true=>
  refine .fwd 1 ?_
  refine .sched [5] (upto [5] 11 0) (by kernel_rfl) ?_
  refine aa 0 ?_
  refine aL [] (dK _ _ _) ?_
  refine⟨_,wTake_,?_⟩
  refine iN [_] ao (fun σ=>HK M r q m d σ hm) (fun m' aR hb=>?_) (fun m' aR hb=>?_)
  ·refine ay [] (Rh w r s l who ev jo false does node has nx out _ _ _ _ _ _) ?_
   refine ai 0 ?_
   refine ai 0 ?_
   refine aa 0 ?_
   exact .drop 1 1 (.done (gG (x:=⟨ev,jo,false,does,.take q,node,has,nx,out⟩) (n:=.take q) rfl rfl (uq ao) hb aR rfl rfl r))
  ·exact .done (ie (x:=⟨ev,jo,false,does,.take q,node,has,nx,out⟩) (n:=.take q) rfl rfl (uq ao) hb aR r .aj [] trivial)
 |false=>
  refine .fwd 1 ?_
  refine .sched [5] (upto [5] 11 0) (by kernel_rfl) ?_
  refine aa 0 ?_
  refine aL [] (dK _ _ _) ?_
  refine⟨_,wTake_,?_⟩
  refine iN [_] ao (fun σ=>HK M r q m d σ hm) (fun m' aR hb=>?_) (fun m' aR hb=>?_)
  ·refine ay [] (Ri w r s l who ev jo false does node has nx out _ _ _ _ _ _ o3) ?_
   refine ai 0 ?_
   refine ai 0 ?_
   refine aa 0 ?_
   exact .drop 1 1 (.done (gG (x:=⟨ev,jo,false,does,.take q,node,has,nx,out⟩) (n:=.take q) rfl rfl (uq ao) hb aR rfl rfl r))
  ·exact .done (ie (x:=⟨ev,jo,false,does,.take q,node,has,nx,out⟩) (n:=.take q) rfl rfl (uq ao) hb aR r .aj [] trivial)
theorem ab8(M:AMem)(w r:Nat)(c:AV)(acc:Hp)(s:Sy)(l:Lay)(who:Int)(ev jo:Int)(does:Int)(q:DQ)(node:Int)(has:Bool)(nx out:List Int)(d:Int)(m:M.S)(σ:Hp)(hm:M.O.free (M.abs m))(o3:vv l nx (.push q)):
  ACalls Tryz.prog 390 [.ptr w 0,M.v,.int .i64 d] (WB s l who w r c acc ⟨ev,jo,false,does,.push q,node,has,nx,out⟩++(M.B m++σ)) (po M s l who w (dC M.O s l who ⟨ev,jo,false,does,.push q,node,has,nx,out⟩ d (M.abs m)) σ):=by
 refine az Tryz.func390 ?_
 refine aa 0 ?_
 refine aa 0 ?_
 refine aa 0 ?_
 obtain⟨q',a',b',ao⟩:∃q' a' b',gu M.O q (M.abs m)=(q',a',b'):=⟨_,_,_,rfl⟩
 refine .fwd 1 ?_
 refine .sched [5] (upto [5] 11 0) (by kernel_rfl) ?_
 refine aa 0 ?_
 refine aL [] (dK _ _ _) ?_
 refine⟨_,wPush_,?_⟩
 refine iN [_] ao (fun σ=>U9 M r q m d σ hm (by have:=o3.1.1;omega) o3.1.2) (fun m' aR hb=>?_) (fun m' aR hb=>?_)
 ·refine ay [] (Sv w r s l who ev jo false does node has nx out _ _ o3.2) ?_
  refine ai 0 ?_
  refine ai 0 ?_
  refine aa 0 ?_
  exact .drop 1 1 (.done (gG (x:=⟨ev,jo,false,does,.push q,node,has,nx,out⟩) (n:=.push q) rfl rfl (CH ao) hb aR rfl rfl r))
 ·exact .done (ie (x:=⟨ev,jo,false,does,.push q,node,has,nx,out⟩) (n:=.push q) rfl rfl (CH ao) hb aR r .aj [] trivial)
theorem X3(M:AMem)(w r:Nat)(c:AV)(acc:Hp)(s:Sy)(l:Lay)(who:Int)(ev jo:Int)(does:Int)(q:Rk)(node:Int)(has:Bool)(nx out:List Int)(d:Int)(m:M.S)(σ:Hp)(hm:M.O.free (M.abs m)):
  ACalls Tryz.prog 390 [.ptr w 0,M.v,.int .i64 d] (WB s l who w r c acc ⟨ev,jo,false,does,.dU q,node,has,nx,out⟩++(M.B m++σ)) (po M s l who w (dC M.O s l who ⟨ev,jo,false,does,.dU q,node,has,nx,out⟩ d (M.abs m)) σ):=by
 refine az Tryz.func390 ?_
 refine aa 0 ?_
 refine aa 0 ?_
 refine aa 0 ?_
 obtain⟨q',a',b',ao⟩:∃q' a' b',s5 M.O q (M.abs m)=(q',a',b'):=⟨_,_,_,rfl⟩
 refine .fwd 1 ?_
 refine .sched [5] (upto [5] 11 0) (by kernel_rfl) ?_
 refine aa 0 ?_
 refine aL [] (dK _ _ _) ?_
 refine⟨_,wRetire_,?_⟩
 refine iN [_] ao (fun σ=>Ty M r q m d σ hm) (fun m' aR hb=>?_) (fun m' aR hb=>?_)
 ·refine ay [] (Qf w r s l who ev jo false does node has nx out _ _) ?_
  refine ai 0 ?_
  refine ai 0 ?_
  refine aa 0 ?_
  exact .drop 1 1 (.done (gG (x:=⟨ev,jo,false,does,.dU q,node,has,nx,out⟩) (n:=.dU q) rfl rfl (FY ao) hb aR rfl rfl r))
 ·exact .done (ie (x:=⟨ev,jo,false,does,.dU q,node,has,nx,out⟩) (n:=.dU q) rfl rfl (FY ao) hb aR r .aj [] trivial)
theorem aba(M:AMem)(w r:Nat)(c:AV)(acc:Hp)(s:Sy)(l:Lay)(who:Int)(ev jo:Int)(does:Int)(q:Jn)(node:Int)(has:Bool)(nx out:List Int)(d:Int)(m:M.S)(σ:Hp)(hm:M.O.free (M.abs m))(o3:vv l nx (.join q)):
  ACalls Tryz.prog 390 [.ptr w 0,M.v,.int .i64 d] (WB s l who w r c acc ⟨ev,jo,false,does,.join q,node,has,nx,out⟩++(M.B m++σ)) (po M s l who w (dC M.O s l who ⟨ev,jo,false,does,.join q,node,has,nx,out⟩ d (M.abs m)) σ):=by
 refine az Tryz.func390 ?_
 refine aa 0 ?_
 refine aa 0 ?_
 refine aa 0 ?_
 obtain⟨q',a',b',ao⟩:∃q' a' b',iA M.O q (M.abs m)=(q',a',b'):=⟨_,_,_,rfl⟩
 obtain⟨u1,u2,u3,u4,u5,u6,u7,u8,u9,u10⟩:=q'
 cases u5 with
 |true=>
  refine .fwd 1 ?_
  refine .sched [5] (upto [5] 11 0) (by kernel_rfl) ?_
  refine aa 0 ?_
  refine aL [] (dK _ _ _) ?_
  refine⟨_,wJoin_,?_⟩
  refine iN [_] ao (fun σ=>HM M r q m d σ hm (by have:=o3.1;omega)) (fun m' aR hb=>?_) (fun m' aR hb=>?_)
  ·refine ay [] (Rj w r s l who ev jo false does node has nx out _ _ _ _ _ _ _ _ _ _) ?_
   refine ai 0 ?_
   refine ai 0 ?_
   refine aa 0 ?_
   exact .drop 1 1 (.done (gG (x:=⟨ev,jo,false,does,.join q,node,has,nx,out⟩) (n:=.join q) rfl rfl (ur ao) hb aR rfl rfl r))
  ·exact .done (ie (x:=⟨ev,jo,false,does,.join q,node,has,nx,out⟩) (n:=.join q) rfl rfl (ur ao) hb aR r .aj [] trivial)
 |false=>
  refine .fwd 1 ?_
  refine .sched [5] (upto [5] 11 0) (by kernel_rfl) ?_
  refine aa 0 ?_
  refine aL [] (dK _ _ _) ?_
  refine⟨_,wJoin_,?_⟩
  refine iN [_] ao (fun σ=>HM M r q m d σ hm (by have:=o3.1;omega)) (fun m' aR hb=>?_) (fun m' aR hb=>?_)
  ·refine ay [] (Rl w r s l who ev jo false does node has nx out _ _ _ _ _ _ _ _ _ _ o3.2) ?_
   refine ai 0 ?_
   refine ai 0 ?_
   refine aa 0 ?_
   exact .drop 1 1 (.done (gG (x:=⟨ev,jo,false,does,.join q,node,has,nx,out⟩) (n:=.join q) rfl rfl (ur ao) hb aR rfl rfl r))
  ·exact .done (ie (x:=⟨ev,jo,false,does,.join q,node,has,nx,out⟩) (n:=.join q) rfl rfl (ur ao) hb aR r .aj [] trivial)
theorem ab7(M:AMem)(w r:Nat)(c:AV)(acc:Hp)(s:Sy)(l:Lay)(who:Int)(ev jo:Int)(does:Int)(x:List Int)(node:Int)(has:Bool)(nx out:List Int)(d:Int)(m:M.S)(σ:Hp)(hm:M.O.free (M.abs m))(hf:Fit s)(hv:∀a,bH (M.O.ld (M.abs m) a).1)(o3:vv l nx (.read x))(ME:kN c acc x∧(x=[]→c=.aj)):
  ACalls Tryz.prog 390 [.ptr w 0,M.v,.int .i64 d] (WB s l who w r c acc ⟨ev,jo,false,does,.read x,node,has,nx,out⟩++(M.B m++σ)) (po M s l who w (dC M.O s l who ⟨ev,jo,false,does,.read x,node,has,nx,out⟩ d (M.abs m)) σ):=by
 refine az Tryz.func390 ?_
 refine aa 0 ?_
 refine aa 0 ?_
 refine aa 0 ?_
 obtain⟨o4,o5⟩:=o3
 obtain⟨nL,Vr⟩:=ME
 by_cases ab:x.length<cw l.words
 ·have NL:=AH l.words
  have ao:mB M.O l (aX l node) x (M.abs m)=(x++[(M.O.ld (M.abs m) (wr (aX l node+(x.length:Nat)))).1],(M.O.ld (M.abs m) (wr (aX l node+(x.length:Nat)))).2,decide (x.length+1=cw l.words)):=ah ab
  have ir:bc (x++[(M.O.ld (M.abs m) (wr (aX l node+(x.length:Nat)))).1]):=fun z hz=>by rcases bV.1 hz with h | h;exact o5 z h;rw[bB.1 h];exact hv _
  have hx3:(x++[(M.O.ld (M.abs m) (wr (aX l node+(x.length:Nat)))).1]).length=x.length+1:=by simp
  refine .fwd 1 ?_
  refine .sched [5] (upto [5] 11 0) (by kernel_rfl) ?_
  refine aa 0 ?_
  refine aL [] (dK _ _ _) ?_
  refine⟨_,wRead_,?_⟩
  refine Um hm ab nL (fun m' b aR he=>?_) (fun m' b aR he=>?_)
  ·refine .kz 2 b 0 (x++[(M.O.ld (M.abs m) (wr (aX l node+(x.length:Nat)))).1]).length 1 _ (.int .u64) (x++[(M.O.ld (M.abs m) (wr (aX l node+(x.length:Nat)))).1]) rfl ?_ ⟨rfl,rfl,by decide⟩ 1 3 r _ rfl rfl ?_
   ·rw[List.drop_zero,← kO];exact List.take_of_length_le (by simp[aO])
   refine ay [] (Gw w r s l who ev jo false does node has nx out (x++[(M.O.ld (M.abs m) (wr (aX l node+(x.length:Nat)))).1]) _ _ _ _ _ _ _ _ hf ir (by omega)) ?_
   refine ai 0 ?_
   refine ai 0 ?_
   refine aa 0 ?_
   exact .drop 1 1 (.done (gG (x:=⟨ev,jo,false,does,.read x,node,has,nx,out⟩) (n:=.read x) rfl rfl (yf ao) (bu he) aR rfl rfl r))
  ·exact .done (ie (x:=⟨ev,jo,false,does,.read x,node,has,nx,out⟩) (n:=.read x) rfl rfl (yf ao) (decide_eq_false he) aR r (.ae b 0 (x++[(M.O.ld (M.abs m) (wr (aX l node+(x.length:Nat)))).1]).length 1) [(b,aO (x++[(M.O.ld (M.abs m) (wr (aX l node+(x.length:Nat)))).1]))] ⟨.ae b (x++[(M.O.ld (M.abs m) (wr (aX l node+(x.length:Nat)))).1]),fun h=>absurd h (by simp)⟩)
 ·obtain⟨h0,rfl⟩:=o4.resolve_left ab
  generalize hz:([]:List Int)=z0 at nL
  cases nL with
  |ae b z=>exact absurd (Vr rfl) (by simp)
  |nil=>
  have ao:mB M.O l (aX l node) [] (M.abs m)=([],M.abs m,true):=ag ab
  refine .fwd 1 ?_
  refine .sched [5] (upto [5] 11 0) (by kernel_rfl) ?_
  refine aa 0 ?_
  refine aL [] (dK _ _ _) ?_
  refine⟨_,wRead_,?_⟩
  refine ay [1] (Tz M r _ _ _ _ _ _ d _ h0) ?_
  refine GW 0 3 r _ (.int .u64) rfl rfl ?_
  refine ay [1] (Gw w r s l who ev jo false does node has nx out [] _ _ _ _ _ _ _ _ hf o5 (bD _)) ?_
  refine ai 0 ?_
  refine ai 0 ?_
  refine aa 0 ?_
  exact .drop 1 1 (.done (gG (x:=⟨ev,jo,false,does,.read [],node,has,nx,out⟩) (n:=.read []) rfl rfl (yf ao) rfl rfl rfl rfl r))
set_option maxHeartbeats 4000000
theorem ab2{l:Lay}{who does node:Int}{nx out:List Int}{d:Int}{x:List Int}(h:iT l who does node nx out d=.read x):x=[]:=by
 unfold iT at h
 repeat' (first | (cases h;rfl) | cases h | split at h)
theorem ab9(M:AMem)(w r0:Nat)(c:AV)(acc:Hp)(s:Sy)(l:Lay)(who:Int)(ev jo:Int)(does:Int)(node:Int)(has:Bool)(nx out:List Int)(d:Int)(m:M.S)(σ:Hp)(hm:M.O.free (M.abs m))(hf:Fit s)(hv:∀a,bH (M.O.ld (M.abs m) a).1)(o1:does=5∨does=6∨does=7→0<nx.length)(o2:does=1→nK l≠0∧l.k≠0):
  ACalls Tryz.prog 390 [.ptr w 0,M.v,.int .i64 d] (WB s l who w r0 c acc ⟨ev,jo,false,does,.none,node,has,nx,out⟩++(M.B m++σ)) (po M s l who w (dC M.O s l who ⟨ev,jo,false,does,.none,node,has,nx,out⟩ d (M.abs m)) σ):=by
 refine az Tryz.func390 ?_
 refine aa 0 ?_
 refine aa 0 ?_
 refine aa 0 ?_
 refine .mk [] _ (aeN w s l who ev jo false does .nilif node has nx out d _ o1 o2) ?_
 rintro _ _ ⟨r,rfl,rfl⟩
 have o3:vv l nx (iT l who does node nx out d):=acm o1
 have h0:=ab1 l who does node nx out d
 generalize gL:iT l who does node nx out d=n at o3 h0
 cases n with
 |none=>exact absurd rfl h0
 |pop q=>
  obtain⟨q',a',b',ao⟩:∃q' a' b',fp M.O q (M.abs m)=(q',a',b'):=⟨_,_,_,rfl⟩
  obtain⟨u1,u2,u3,u4,u5,u6,u7,u8,u9⟩:=q'
  cases u4 with
  |true=>
   refine ai 1 ?_
   refine gz.dI (.pull [1] (.refl _)) ?_
   refine .sched [5] (upto [5] 11 0) (by kernel_rfl) ?_
   refine aa 0 ?_
   refine aL [] (dK _ _ _) ?_
   refine⟨_,wPop_,?_⟩
   refine iN [_] ao (fun σ=>Ip M r q m d σ hm (by have:=o3.1;omega) o3.2) (fun m' aR hb=>?_) (fun m' aR hb=>?_)
   ·refine ay [] (Sw w r s l who ev jo false does node has nx out _ _ _ _ _ _ _ _ _) ?_
    refine ai 0 ?_
    refine ai 0 ?_
    refine aa 0 ?_
    exact .drop 1 1 (.done (gG (x:=⟨ev,jo,false,does,.none,node,has,nx,out⟩) (n:=.pop q) rfl gL (uE ao) hb aR rfl rfl r))
   ·exact .done (ie (x:=⟨ev,jo,false,does,.none,node,has,nx,out⟩) (n:=.pop q) rfl gL (uE ao) hb aR r .aj [] trivial)
  |false=>
   refine ai 1 ?_
   refine gz.dI (.pull [1] (.refl _)) ?_
   refine .sched [5] (upto [5] 11 0) (by kernel_rfl) ?_
   refine aa 0 ?_
   refine aL [] (dK _ _ _) ?_
   refine⟨_,wPop_,?_⟩
   refine iN [_] ao (fun σ=>Ip M r q m d σ hm (by have:=o3.1;omega) o3.2) (fun m' aR hb=>?_) (fun m' aR hb=>?_)
   ·refine ay [] (Sx w r s l who ev jo false does node has nx out _ _ _ _ _ _ _ _ _) ?_
    refine ai 0 ?_
    refine ai 0 ?_
    refine aa 0 ?_
    exact .drop 1 1 (.done (gG (x:=⟨ev,jo,false,does,.none,node,has,nx,out⟩) (n:=.pop q) rfl gL (uE ao) hb aR rfl rfl r))
   ·exact .done (ie (x:=⟨ev,jo,false,does,.none,node,has,nx,out⟩) (n:=.pop q) rfl gL (uE ao) hb aR r .aj [] trivial)
 |cu q=>
  obtain⟨q',a',b',ao⟩:∃q' a' b',gF M.O q (M.abs m)=(q',a',b'):=⟨_,_,_,rfl⟩
  obtain⟨u1,u2,u3,u4,u5,u6,u7,u8,u9⟩:=q'
  cases u4 with
  |true=>
   refine ai 1 ?_
   refine gz.dI (.pull [1] (.refl _)) ?_
   refine .sched [5] (upto [5] 11 0) (by kernel_rfl) ?_
   refine aa 0 ?_
   refine aL [] (dK _ _ _) ?_
   refine⟨_,wSteal_,?_⟩
   refine iN [_] ao (fun σ=>Hl M r q m d σ hm (by have:=o3.1;omega) o3.2) (fun m' aR hb=>?_) (fun m' aR hb=>?_)
   ·refine ay [] (Qd w r s l who ev jo false does node has nx out _ _ _ _ _ _ _ _ _) ?_
    refine ai 0 ?_
    refine ai 0 ?_
    refine aa 0 ?_
    exact .drop 1 1 (.done (gG (x:=⟨ev,jo,false,does,.none,node,has,nx,out⟩) (n:=.cu q) rfl gL (uh ao) hb aR rfl rfl r))
   ·exact .done (ie (x:=⟨ev,jo,false,does,.none,node,has,nx,out⟩) (n:=.cu q) rfl gL (uh ao) hb aR r .aj [] trivial)
  |false=>
   refine ai 1 ?_
   refine gz.dI (.pull [1] (.refl _)) ?_
   refine .sched [5] (upto [5] 11 0) (by kernel_rfl) ?_
   refine aa 0 ?_
   refine aL [] (dK _ _ _) ?_
   refine⟨_,wSteal_,?_⟩
   refine iN [_] ao (fun σ=>Hl M r q m d σ hm (by have:=o3.1;omega) o3.2) (fun m' aR hb=>?_) (fun m' aR hb=>?_)
   ·refine ay [] (Qe w r s l who ev jo false does node has nx out _ _ _ _ _ _ _ _ _) ?_
    refine ai 0 ?_
    refine ai 0 ?_
    refine aa 0 ?_
    exact .drop 1 1 (.done (gG (x:=⟨ev,jo,false,does,.none,node,has,nx,out⟩) (n:=.cu q) rfl gL (uh ao) hb aR rfl rfl r))
   ·exact .done (ie (x:=⟨ev,jo,false,does,.none,node,has,nx,out⟩) (n:=.cu q) rfl gL (uh ao) hb aR r .aj [] trivial)
 |quiet q=>
  obtain⟨q',a',b',ao⟩:∃q' a' b',rQ M.O q (M.abs m)=(q',a',b'):=⟨_,_,_,rfl⟩
  obtain⟨u1,u2,u3,u4⟩:=q'
  cases u3 with
  |true=>
   refine ai 1 ?_
   refine gz.dI (.pull [1] (.refl _)) ?_
   refine .sched [5] (upto [5] 11 0) (by kernel_rfl) ?_
   refine aa 0 ?_
   refine aL [] (dK _ _ _) ?_
   refine⟨_,wQuiet_,?_⟩
   refine iN [_] ao (fun σ=>Hn M r q m d σ hm) (fun m' aR hb=>?_) (fun m' aR hb=>?_)
   ·refine ay [] (Gd w r s l who ev jo false does node has nx out _ _ _ _ _) ?_
    refine ai 0 ?_
    refine ai 0 ?_
    refine aa 0 ?_
    exact .drop 1 1 (.done (gG (x:=⟨ev,jo,false,does,.none,node,has,nx,out⟩) (n:=.quiet q) rfl gL (wD ao) hb aR rfl rfl r))
   ·exact .done (ie (x:=⟨ev,jo,false,does,.none,node,has,nx,out⟩) (n:=.quiet q) rfl gL (wD ao) hb aR r .aj [] trivial)
  |false=>
   refine ai 1 ?_
   refine gz.dI (.pull [1] (.refl _)) ?_
   refine .sched [5] (upto [5] 11 0) (by kernel_rfl) ?_
   refine aa 0 ?_
   refine aL [] (dK _ _ _) ?_
   refine⟨_,wQuiet_,?_⟩
   refine iN [_] ao (fun σ=>Hn M r q m d σ hm) (fun m' aR hb=>?_) (fun m' aR hb=>?_)
   ·refine ay [] (Gd w r s l who ev jo false does node has nx out _ _ _ _ _) ?_
    refine ai 0 ?_
    refine ai 0 ?_
    refine aa 0 ?_
    exact .drop 1 1 (.done (gG (x:=⟨ev,jo,false,does,.none,node,has,nx,out⟩) (n:=.quiet q) rfl gL (wD ao) hb aR rfl rfl r))
   ·exact .done (ie (x:=⟨ev,jo,false,does,.none,node,has,nx,out⟩) (n:=.quiet q) rfl gL (wD ao) hb aR r .aj [] trivial)
 |clear q=>
  obtain⟨q',a',b',ao⟩:∃q' a' b',rR M.O q (M.abs m)=(q',a',b'):=⟨_,_,_,rfl⟩
  obtain⟨u1,u2,u3,u4⟩:=q'
  refine ai 1 ?_
  refine gz.dI (.pull [1] (.refl _)) ?_
  refine .sched [5] (upto [5] 11 0) (by kernel_rfl) ?_
  refine aa 0 ?_
  refine aL [] (dK _ _ _) ?_
  refine⟨_,wClear_,?_⟩
  refine iN [_] ao (fun σ=>UB M r q m d σ hm) (fun m' aR hb=>?_) (fun m' aR hb=>?_)
  ·refine ay [] (Rm w r s l who ev jo false does node has nx out _ _ _ _ _) ?_
   refine ai 0 ?_
   refine ai 0 ?_
   refine aa 0 ?_
   exact .drop 1 1 (.done (gG (x:=⟨ev,jo,false,does,.none,node,has,nx,out⟩) (n:=.clear q) rfl gL (Gk ao) hb aR rfl rfl r))
  ·exact .done (ie (x:=⟨ev,jo,false,does,.none,node,has,nx,out⟩) (n:=.clear q) rfl gL (Gk ao) hb aR r .aj [] trivial)
 |read x=>
  obtain rfl:x=[]:=ab2 gL
  have ME:kN .aj [] []∧(([]:List Int)=[]→AV.aj=.aj):=⟨.nil,fun _=>rfl⟩
  obtain⟨o4,o5⟩:=o3
  obtain⟨nL,Vr⟩:=ME
  by_cases ab:([]:List Int).length<cw l.words
  ·have NL:=AH l.words
   have ao:mB M.O l (aX l node) ([]:List Int) (M.abs m)=(([]:List Int)++[(M.O.ld (M.abs m) (wr (aX l node+(([]:List Int).length:Nat)))).1],(M.O.ld (M.abs m) (wr (aX l node+(([]:List Int).length:Nat)))).2,decide (([]:List Int).length+1=cw l.words)):=ah ab
   have ir:bc (([]:List Int)++[(M.O.ld (M.abs m) (wr (aX l node+(([]:List Int).length:Nat)))).1]):=fun z hz=>by rcases bV.1 hz with h | h;exact o5 z h;rw[bB.1 h];exact hv _
   have hx3:(([]:List Int)++[(M.O.ld (M.abs m) (wr (aX l node+(([]:List Int).length:Nat)))).1]).length=([]:List Int).length+1:=by simp
   refine ai 1 ?_
   refine gz.dI (.pull [1] (.refl _)) ?_
   refine .sched [5] (upto [5] 11 0) (by kernel_rfl) ?_
   refine aa 0 ?_
   refine aL [] (dK _ _ _) ?_
   refine⟨_,wRead_,?_⟩
   refine Um hm ab nL (fun m' b aR he=>?_) (fun m' b aR he=>?_)
   ·refine .kz 2 b 0 (([]:List Int)++[(M.O.ld (M.abs m) (wr (aX l node+(([]:List Int).length:Nat)))).1]).length 1 _ (.int .u64) (([]:List Int)++[(M.O.ld (M.abs m) (wr (aX l node+(([]:List Int).length:Nat)))).1]) rfl ?_ ⟨rfl,rfl,by decide⟩ 1 3 r _ rfl rfl ?_
    ·rw[List.drop_zero,← kO];exact List.take_of_length_le (by simp[aO])
    refine ay [] (Gw w r s l who ev jo false does node has nx out (([]:List Int)++[(M.O.ld (M.abs m) (wr (aX l node+(([]:List Int).length:Nat)))).1]) _ _ _ _ _ _ _ _ hf ir (by omega)) ?_
    refine ai 0 ?_
    refine ai 0 ?_
    refine aa 0 ?_
    exact .drop 1 1 (.done (gG (x:=⟨ev,jo,false,does,.none,node,has,nx,out⟩) (n:=.read ([]:List Int)) rfl gL (yf ao) (bu he) aR rfl rfl r))
   ·exact .done (ie (x:=⟨ev,jo,false,does,.none,node,has,nx,out⟩) (n:=.read ([]:List Int)) rfl gL (yf ao) (decide_eq_false he) aR r (.ae b 0 (([]:List Int)++[(M.O.ld (M.abs m) (wr (aX l node+(([]:List Int).length:Nat)))).1]).length 1) [(b,aO (([]:List Int)++[(M.O.ld (M.abs m) (wr (aX l node+(([]:List Int).length:Nat)))).1]))] ⟨.ae b (([]:List Int)++[(M.O.ld (M.abs m) (wr (aX l node+(([]:List Int).length:Nat)))).1]),fun h=>absurd h (by simp)⟩)
  ·obtain⟨h0,-⟩:=o4.resolve_left ab
   generalize hz:([]:List Int)=z0 at nL
   cases nL with
   |nil=>
   have ao:mB M.O l (aX l node) [] (M.abs m)=([],M.abs m,true):=ag ab
   refine ai 1 ?_
   refine gz.dI (.pull [1] (.refl _)) ?_
   refine .sched [5] (upto [5] 11 0) (by kernel_rfl) ?_
   refine aa 0 ?_
   refine aL [] (dK _ _ _) ?_
   refine⟨_,wRead_,?_⟩
   refine ay [1] (Tz M r _ _ _ _ _ _ d _ h0) ?_
   refine GW 0 3 r _ (.int .u64) rfl rfl ?_
   refine ay [1] (Gw w r s l who ev jo false does node has nx out [] _ _ _ _ _ _ _ _ hf o5 (bD _)) ?_
   refine ai 0 ?_
   refine ai 0 ?_
   refine aa 0 ?_
   exact .drop 1 1 (.done (gG (x:=⟨ev,jo,false,does,.none,node,has,nx,out⟩) (n:=.read []) rfl gL (yf ao) rfl rfl rfl rfl r))
 |join q=>
  obtain⟨q',a',b',ao⟩:∃q' a' b',iA M.O q (M.abs m)=(q',a',b'):=⟨_,_,_,rfl⟩
  obtain⟨u1,u2,u3,u4,u5,u6,u7,u8,u9,u10⟩:=q'
  cases u5 with
  |true=>
   refine ai 1 ?_
   refine gz.dI (.pull [1] (.refl _)) ?_
   refine .sched [5] (upto [5] 11 0) (by kernel_rfl) ?_
   refine aa 0 ?_
   refine aL [] (dK _ _ _) ?_
   refine⟨_,wJoin_,?_⟩
   refine iN [_] ao (fun σ=>HM M r q m d σ hm (by have:=o3.1;omega)) (fun m' aR hb=>?_) (fun m' aR hb=>?_)
   ·refine ay [] (Rj w r s l who ev jo false does node has nx out _ _ _ _ _ _ _ _ _ _) ?_
    refine ai 0 ?_
    refine ai 0 ?_
    refine aa 0 ?_
    exact .drop 1 1 (.done (gG (x:=⟨ev,jo,false,does,.none,node,has,nx,out⟩) (n:=.join q) rfl gL (ur ao) hb aR rfl rfl r))
   ·exact .done (ie (x:=⟨ev,jo,false,does,.none,node,has,nx,out⟩) (n:=.join q) rfl gL (ur ao) hb aR r .aj [] trivial)
  |false=>
   refine ai 1 ?_
   refine gz.dI (.pull [1] (.refl _)) ?_
   refine .sched [5] (upto [5] 11 0) (by kernel_rfl) ?_
   refine aa 0 ?_
   refine aL [] (dK _ _ _) ?_
   refine⟨_,wJoin_,?_⟩
   refine iN [_] ao (fun σ=>HM M r q m d σ hm (by have:=o3.1;omega)) (fun m' aR hb=>?_) (fun m' aR hb=>?_)
   ·refine ay [] (Rl w r s l who ev jo false does node has nx out _ _ _ _ _ _ _ _ _ _ o3.2) ?_
    refine ai 0 ?_
    refine ai 0 ?_
    refine aa 0 ?_
    exact .drop 1 1 (.done (gG (x:=⟨ev,jo,false,does,.none,node,has,nx,out⟩) (n:=.join q) rfl gL (ur ao) hb aR rfl rfl r))
   ·exact .done (ie (x:=⟨ev,jo,false,does,.none,node,has,nx,out⟩) (n:=.join q) rfl gL (ur ao) hb aR r .aj [] trivial)
 |take q=>
  obtain⟨q',a',b',ao⟩:∃q' a' b',kT M.O q (M.abs m)=(q',a',b'):=⟨_,_,_,rfl⟩
  obtain⟨u1,u2,u3,u4,u5,u6⟩:=q'
  cases u4 with
  |true=>
   refine ai 1 ?_
   refine gz.dI (.pull [1] (.refl _)) ?_
   refine .sched [5] (upto [5] 11 0) (by kernel_rfl) ?_
   refine aa 0 ?_
   refine aL [] (dK _ _ _) ?_
   refine⟨_,wTake_,?_⟩
   refine iN [_] ao (fun σ=>HK M r q m d σ hm) (fun m' aR hb=>?_) (fun m' aR hb=>?_)
   ·refine ay [] (Rh w r s l who ev jo false does node has nx out _ _ _ _ _ _) ?_
    refine ai 0 ?_
    refine ai 0 ?_
    refine aa 0 ?_
    exact .drop 1 1 (.done (gG (x:=⟨ev,jo,false,does,.none,node,has,nx,out⟩) (n:=.take q) rfl gL (uq ao) hb aR rfl rfl r))
   ·exact .done (ie (x:=⟨ev,jo,false,does,.none,node,has,nx,out⟩) (n:=.take q) rfl gL (uq ao) hb aR r .aj [] trivial)
  |false=>
   refine ai 1 ?_
   refine gz.dI (.pull [1] (.refl _)) ?_
   refine .sched [5] (upto [5] 11 0) (by kernel_rfl) ?_
   refine aa 0 ?_
   refine aL [] (dK _ _ _) ?_
   refine⟨_,wTake_,?_⟩
   refine iN [_] ao (fun σ=>HK M r q m d σ hm) (fun m' aR hb=>?_) (fun m' aR hb=>?_)
   ·refine ay [] (Ri w r s l who ev jo false does node has nx out _ _ _ _ _ _ o3) ?_
    refine ai 0 ?_
    refine ai 0 ?_
    refine aa 0 ?_
    exact .drop 1 1 (.done (gG (x:=⟨ev,jo,false,does,.none,node,has,nx,out⟩) (n:=.take q) rfl gL (uq ao) hb aR rfl rfl r))
   ·exact .done (ie (x:=⟨ev,jo,false,does,.none,node,has,nx,out⟩) (n:=.take q) rfl gL (uq ao) hb aR r .aj [] trivial)
 |push q=>
  obtain⟨q',a',b',ao⟩:∃q' a' b',gu M.O q (M.abs m)=(q',a',b'):=⟨_,_,_,rfl⟩
  refine ai 1 ?_
  refine gz.dI (.pull [1] (.refl _)) ?_
  refine .sched [5] (upto [5] 11 0) (by kernel_rfl) ?_
  refine aa 0 ?_
  refine aL [] (dK _ _ _) ?_
  refine⟨_,wPush_,?_⟩
  refine iN [_] ao (fun σ=>U9 M r q m d σ hm (by have:=o3.1.1;omega) o3.1.2) (fun m' aR hb=>?_) (fun m' aR hb=>?_)
  ·refine ay [] (Sv w r s l who ev jo false does node has nx out _ _ o3.2) ?_
   refine ai 0 ?_
   refine ai 0 ?_
   refine aa 0 ?_
   exact .drop 1 1 (.done (gG (x:=⟨ev,jo,false,does,.none,node,has,nx,out⟩) (n:=.push q) rfl gL (CH ao) hb aR rfl rfl r))
  ·exact .done (ie (x:=⟨ev,jo,false,does,.none,node,has,nx,out⟩) (n:=.push q) rfl gL (CH ao) hb aR r .aj [] trivial)
 |dU q=>
  obtain⟨q',a',b',ao⟩:∃q' a' b',s5 M.O q (M.abs m)=(q',a',b'):=⟨_,_,_,rfl⟩
  refine ai 1 ?_
  refine gz.dI (.pull [1] (.refl _)) ?_
  refine .sched [5] (upto [5] 11 0) (by kernel_rfl) ?_
  refine aa 0 ?_
  refine aL [] (dK _ _ _) ?_
  refine⟨_,wRetire_,?_⟩
  refine iN [_] ao (fun σ=>Ty M r q m d σ hm) (fun m' aR hb=>?_) (fun m' aR hb=>?_)
  ·refine ay [] (Qf w r s l who ev jo false does node has nx out _ _) ?_
   refine ai 0 ?_
   refine ai 0 ?_
   refine aa 0 ?_
   exact .drop 1 1 (.done (gG (x:=⟨ev,jo,false,does,.none,node,has,nx,out⟩) (n:=.dU q) rfl gL (FY ao) hb aR rfl rfl r))
  ·exact .done (ie (x:=⟨ev,jo,false,does,.none,node,has,nx,out⟩) (n:=.dU q) rfl gL (FY ao) hb aR r .aj [] trivial)
theorem ael(M:AMem)(w r:Nat)(c:AV)(acc:Hp)(s:Sy)(l:Lay)(who:Int)(x:WS)(d:Int)(m:M.S)(σ:Hp)(hf:Fit s)(hm:M.O.free (M.abs m))(hv:∀a,bH (M.O.ld (M.abs m) a).1)(ok:MB l x)(rd:yN c acc x.now):
  ACalls Tryz.prog 390 [.ptr w 0,M.v,.int .i64 d] (WB s l who w r c acc x++(M.B m++σ)) (po M s l who w (dC M.O s l who x d (M.abs m)) σ):=by
 obtain⟨ev,jo,en,does,n,node,has,nx,out⟩:=x
 obtain⟨o1,o2,o3⟩:=ok
 cases en with
 |true=>
  refine az Tryz.func390 ?_
  refine aa 0 ?_
  refine aa 0 ?_
  exact .done (ZL rfl rfl rd)
 |false=>
  cases n with
  |none=>exact ab9 M w r c acc s l who ev jo does node has nx out d m σ hm hf hv o1 o2
  |pop q=>exact ad0 M w r c acc s l who ev jo does q node has nx out d m σ hm o3
  |cu q=>exact Zs M w r c acc s l who ev jo does q node has nx out d m σ hm o3
  |quiet q=>exact Zt M w r c acc s l who ev jo does q node has nx out d m σ hm
  |clear q=>exact Zu M w r c acc s l who ev jo does q node has nx out d m σ hm
  |read q=>exact ab7 M w r c acc s l who ev jo does q node has nx out d m σ hm hf hv o3 rd
  |join q=>exact aba M w r c acc s l who ev jo does q node has nx out d m σ hm o3
  |take q=>exact ab6 M w r c acc s l who ev jo does q node has nx out d m σ hm o3
  |push q=>exact ab8 M w r c acc s l who ev jo does q node has nx out d m σ hm o3
  |dU q=>exact X3 M w r c acc s l who ev jo does q node has nx out d m σ hm
end Go.Proofs.YtnikdflhefijbaaGreat
