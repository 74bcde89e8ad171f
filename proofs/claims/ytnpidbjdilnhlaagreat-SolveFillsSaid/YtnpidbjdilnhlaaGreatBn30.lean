import Derived.Test.YtnpidbjdilnhlaaGreatBn29
namespace Go.Proofs.YtnpidbjdilnhlaaGreat
open Go.RowKit
set_option maxRecDepth 100000
set_option maxHeartbeats 4000000
def lG(M:AMem)(s:Sy)(l:Lay)(aw:Int)(w:Nat)(res:WS×M.O.A×Bool)(σ:Hp):AV→Hp→Prop:=fun z σ'=>∃m' r c acc,tA c acc res.1.now∧M.abs m'=res.2.1∧z=.bool res.2.2∧σ'=WB s l aw w r c acc res.1++(M.B m'++σ)
theorem QR{M:AMem}{s:Sy}{l:Lay}{aw:Int}{w:Nat}{σ:Hp}{x:WS}{a:M.O.A}{d:Int}(h:x.en=true){m:M.S}(hm:M.abs m=a){r:Nat}{c:AV}{acc:Hp}(rd:tA c acc x.now):lG M s l aw w (dq M.O s l aw x d a) σ (.bool true) (WB s l aw w r c acc x++(M.B m++σ)):=by
 unfold dq
 rw[if_pos h]
 exact⟨m,r,c,acc,rd,hm,rfl,rfl⟩
theorem eJ{M:AMem}{s:Sy}{l:Lay}{aw:Int}{w:Nat}{σ:Hp}{x:WS}{a a':M.O.A}{d:Int}{n n':Nw}{b:Bool}{m':M.S}{y:WS}(he:x.en=false)(dO:nH l aw x d=n)(hn:iO M.O l x.node n a=(n',a',b))(hb:b=true)(hm:M.abs m'=a')(hy:fq s l x n'=y)(h0:y.now=.none)(r:Nat):lG M s l aw w (dq M.O s l aw x d a) σ (.bool y.en) (WB s l aw w r .aj [] y++(M.B m'++σ)):=by
 unfold dq
 rw[if_neg (by rw[he];decide),dO,hn]
 dsimp only
 rw[if_pos hb,hy]
 exact⟨m',r,.aj,[],by rw[h0];trivial,hm,rfl,rfl⟩
theorem eY{M:AMem}{s:Sy}{l:Lay}{aw:Int}{w:Nat}{σ:Hp}{x:WS}{a a':M.O.A}{d:Int}{n n':Nw}{b:Bool}{m':M.S}(he:x.en=false)(dO:nH l aw x d=n)(hn:iO M.O l x.node n a=(n',a',b))(hb:b=false)(hm:M.abs m'=a')(r:Nat)(c:AV)(acc:Hp)(rd:tA c acc n'):lG M s l aw w (dq M.O s l aw x d a) σ (.bool false) (WB s l aw w r c acc ⟨x.ev,x.jo,x.en,x.ao,n',x.node,x.has,x.nx,x.out⟩++(M.B m'++σ)):=by
 unfold dq
 rw[if_neg (by rw[he];decide),dO,hn]
 dsimp only
 rw[if_neg (by rw[hb];decide)]
 exact⟨m',r,c,acc,rd,hm,rfl,rfl⟩
theorem fC{M:AMem}{f:FuncId}{xs:List AV}{X:Type}{B:X→List AV}{r:Nat}{cs:List AV}{res:X×M.O.A×Bool}{x':X}{a':M.O.A}{b':Bool}{m:M.S}(fr:Hp){σ:Hp}{K:AV→Hp→Prop}(ar:res=(x',a',b'))(h:∀σ,ACalls Tryz.prog f xs ((r,cs)::(M.B m++σ)) (mg M σ B r res))
  (k1:∀m',M.abs m'=a'→b'=true→K (.bool true) (fr++((r,B x')::(M.B m'++σ)))) (k2:∀m',M.abs m'=a'→b'=false→K (.bool false) (fr++((r,B x')::(M.B m'++σ)))):CallAt Tryz.prog f K xs (fr++((r,cs)::(M.B m++σ))):=by
 subst ar
 exact Wt fr h k1 k2
theorem qk{O:gM}{l:Lay}{node:Int}{q q':DQ}{a a':O.A}{b:Bool}(h:gT O q a=(q',a',b)):iO O l node (.pop q) a=(.pop q',a',b):=by show (Nw.pop (gT O q a).1,(gT O q a).2)=_;rw[h]
theorem qa{O:gM}{l:Lay}{node:Int}{q q':DQ}{a a':O.A}{b:Bool}(h:jq O q a=(q',a',b)):iO O l node (.dT q) a=(.dT q',a',b):=by show (Nw.dT (jq O q a).1,(jq O q a).2)=_;rw[h]
theorem rK{O:gM}{l:Lay}{node:Int}{q q':Qk}{a a':O.A}{b:Bool}(h:nT O q a=(q',a',b)):iO O l node (.quiet q) a=(.quiet q',a',b):=by show (Nw.quiet (nT O q a).1,(nT O q a).2)=_;rw[h]
theorem Ac{O:gM}{l:Lay}{node:Int}{q q':Ck}{a a':O.A}{b:Bool}(h:nU O q a=(q',a',b)):iO O l node (.clear q) a=(.clear q',a',b):=by show (Nw.clear (nU O q a).1,(nU O q a).2)=_;rw[h]
theorem qd{O:gM}{l:Lay}{node:Int}{q q':Tk}{a a':O.A}{b:Bool}(h:kI O q a=(q',a',b)):iO O l node (.take q) a=(.take q',a',b):=by show (Nw.take (kI O q a).1,(kI O q a).2)=_;rw[h]
theorem xb{O:gM}{l:Lay}{node:Int}{q q':DQ}{a a':O.A}{b:Bool}(h:jQ O q a=(q',a',b)):iO O l node (.push q) a=(.push q',a',b):=by show (Nw.push (jQ O q a).1,(jQ O q a).2)=_;rw[h]
theorem zT{O:gM}{l:Lay}{node:Int}{q q':Rk}{a a':O.A}{b:Bool}(h:o7 O q a=(q',a',b)):iO O l node (.fB q) a=(.fB q',a',b):=by show (Nw.fB (o7 O q a).1,(o7 O q a).2)=_;rw[h]
theorem qe{O:gM}{l:Lay}{node:Int}{q q':Jn}{a a':O.A}{b:Bool}(h:iQ O q a=(q',a',b)):iO O l node (.join q) a=(.join q',a',b):=by show (Nw.join (iQ O q a).1,(iQ O q a).2)=_;rw[h]
theorem s9{O:gM}{l:Lay}{node:Int}{q q':List Int}{a a':O.A}{b:Bool}(h:mS O l (cy l node) q a=(q',a',b)):iO O l node (.read q) a=(.read q',a',b):=by show (Nw.read (mS O l (cy l node) q a).1,(mS O l (cy l node) q a).2)=_;rw[h]
theorem R4(l:Lay)(aw ao node:Int)(nx out:List Int)(d:Int):gw l aw ao node nx out d≠.none:=by
 unfold gw;repeat' (first | split | (intro h;cases h))
theorem Tt{l:Lay}{aw ao node:Int}{nx out:List Int}{d:Int}(h:ao=5∨ao=6∨ao=7→0<nx.length):qT l nx (gw l aw ao node nx out d):=by
 unfold gw
 repeat' split
 ·exact⟨Nat.zero_le _,Int.le_refl _⟩
 ·exact⟨Nat.zero_le _,Int.le_refl _⟩
 ·trivial
 ·trivial
 ·refine⟨?_,fun _ h=>by cases h⟩
  rcases Nat.eq_zero_or_pos (cw l.words) with h | h
  ·exact .inr ⟨h,rfl⟩
  ·exact .inl h
 ·exact⟨Nat.zero_le _,h (by omega)⟩
 ·exact h (by omega)
 ·exact⟨⟨Nat.zero_le _,Int.le_refl _⟩,h (by omega)⟩
 ·trivial
theorem Lh{M:AMem}{r w:Nat}{wc:List AV}{m:M.S}{base ag words x d:Int}{l:List Int}{c:AV}{acc σ:Hp}{K:AV→Hp→Prop}(hf:M.O.free (M.abs m))(dO:l.length<cw words)(hv:ir c acc l)
  (k1:∀m' b,M.abs m'=(M.O.ld (M.abs m) (wr (base+(l.length:Nat)))).2→l.length+1=cw words→K (.bool true) ((w,wc)::(r,gO (.ae b 0 (l++[(M.O.ld (M.abs m) (wr (base+(l.length:Nat)))).1]).length 1) base ag words true (l++[(M.O.ld (M.abs m) (wr (base+(l.length:Nat)))).1]).length false x)::(b,aL (l++[(M.O.ld (M.abs m) (wr (base+(l.length:Nat)))).1]))::(M.B m'++σ)))
  (k2:∀m' b,M.abs m'=(M.O.ld (M.abs m) (wr (base+(l.length:Nat)))).2→¬l.length+1=cw words→K (.bool false) ((w,wc)::(r,gO (.ae b 0 (l++[(M.O.ld (M.abs m) (wr (base+(l.length:Nat)))).1]).length 1) base ag words false (l++[(M.O.ld (M.abs m) (wr (base+(l.length:Nat)))).1]).length false x)::(b,aL (l++[(M.O.ld (M.abs m) (wr (base+(l.length:Nat)))).1]))::(M.B m'++σ))):CallAt Tryz.prog 373 K [.ptr r 0,M.v,.int .i64 d] ((w,wc)::(r,gO c base ag words false l.length false x)::(acc++(M.B m++σ))):=by
 have B9:=tq words
 have hp:∀(cs:List AV) (a b:Hp),((r,cs)::(a++(b++((w,wc)::σ)))).Perm ((w,wc)::(r,cs)::(a++(b++σ))):=fun cs a b=>by
  have:=dJ [(w,wc)] ((r,cs)::(a++b)) σ
  simpa using this
 refine .perm _ (hp _ acc (M.B m)) (Um M r m base ag words x l.length false l c acc d ((w,wc)::σ) hf dO hv (by omega)) ?_
 rintro z σ' ⟨m',c',aP,h1,h2,rfl,rfl⟩
 refine⟨_,(hp _ aP (M.B m')).symm,?_⟩
 have hlen:(l++[(M.O.ld (M.abs m) (wr (base+(l.length:Nat)))).1]).length=l.length+1:=by simp
 generalize hg:l++[(M.O.ld (M.abs m) (wr (base+(l.length:Nat)))).1]=g at h1 k1 k2 hlen
 rw[← hlen]
 rw[← hlen]at k1 k2
 cases h1 with
 | nil=>simp at hlen
 | ae b g =>
  by_cases he:g.length=cw words
  ·rw[decide_eq_true he];exact k1 m' b h2 he
  ·rw[decide_eq_false he];exact k2 m' b h2 he
theorem Ua(M:AMem)(w r:Nat)(c:AV)(acc:Hp)(s:Sy)(l:Lay)(aw:Int)(ev jo:Int)(ao:Int)(q:DQ)(node:Int)(has:Bool)(nx out:List Int)(d:Int)(m:M.S)(σ:Hp)(hm:M.O.free (M.abs m))(o3:qT l nx (.pop q)):
  ACalls Tryz.prog 357 [.ptr w 0,M.v,.int .i64 d] (WB s l aw w r c acc ⟨ev,jo,false,ao,.pop q,node,has,nx,out⟩++(M.B m++σ)) (lG M s l aw w (dq M.O s l aw ⟨ev,jo,false,ao,.pop q,node,has,nx,out⟩ d (M.abs m)) σ):=by
 refine okF Tryz.func357 (by kernel_rfl) ?_
 refine aa.mk 0 _ _ rfl rfl ?_
 refine aa.mk 0 _ _ rfl rfl ?_
 refine aa.mk 0 _ _ rfl rfl ?_
 obtain⟨q',a',b',ar⟩:∃q' a' b',gT M.O q (M.abs m)=(q',a',b'):=⟨_,_,_,rfl⟩
 obtain⟨u1,u2,u3,u4,u5,u6,u7,u8,u9⟩:=q'
 cases u4 with
 | true =>
  refine .fwd 1 ?_
  refine .sched [5] (upto [5] 11 0) (by kernel_rfl) ?_
  refine aa.mk 0 _ _ rfl rfl ?_
  refine aJ [] (cu _ _ _) ?_
  refine⟨_,wPop_,?_⟩
  refine fC [_] ar (fun σ=>BH M r q m d σ hm (by have:=o3.1;omega) o3.2) (fun m' aQ hb =>?_) (fun m' aQ hb =>?_)
  ·refine az [] (JT w r s l aw ev jo false ao node has nx out _ _ _ _ _ _ _ _ _) ?_
   refine ai.mk 0 _ _ rfl rfl ?_
   refine ai.mk 0 _ _ rfl rfl ?_
   refine aa.mk 0 _ _ rfl rfl ?_
   exact .drop 1 1 (.done (eJ (x:=⟨ev,jo,false,ao,.pop q,node,has,nx,out⟩) (n:=.pop q) rfl rfl (qk ar) hb aQ rfl rfl r))
  ·exact .done (eY (x:=⟨ev,jo,false,ao,.pop q,node,has,nx,out⟩) (n:=.pop q) rfl rfl (qk ar) hb aQ r .aj [] trivial)
 | false =>
  refine .fwd 1 ?_
  refine .sched [5] (upto [5] 11 0) (by kernel_rfl) ?_
  refine aa.mk 0 _ _ rfl rfl ?_
  refine aJ [] (cu _ _ _) ?_
  refine⟨_,wPop_,?_⟩
  refine fC [_] ar (fun σ=>BH M r q m d σ hm (by have:=o3.1;omega) o3.2) (fun m' aQ hb =>?_) (fun m' aQ hb =>?_)
  ·refine az [] (JU w r s l aw ev jo false ao node has nx out _ _ _ _ _ _ _ _ _) ?_
   refine ai.mk 0 _ _ rfl rfl ?_
   refine ai.mk 0 _ _ rfl rfl ?_
   refine aa.mk 0 _ _ rfl rfl ?_
   exact .drop 1 1 (.done (eJ (x:=⟨ev,jo,false,ao,.pop q,node,has,nx,out⟩) (n:=.pop q) rfl rfl (qk ar) hb aQ rfl rfl r))
  ·exact .done (eY (x:=⟨ev,jo,false,ao,.pop q,node,has,nx,out⟩) (n:=.pop q) rfl rfl (qk ar) hb aQ r .aj [] trivial)
theorem QB(M:AMem)(w r:Nat)(c:AV)(acc:Hp)(s:Sy)(l:Lay)(aw:Int)(ev jo:Int)(ao:Int)(q:DQ)(node:Int)(has:Bool)(nx out:List Int)(d:Int)(m:M.S)(σ:Hp)(hm:M.O.free (M.abs m))(o3:qT l nx (.dT q)):
  ACalls Tryz.prog 357 [.ptr w 0,M.v,.int .i64 d] (WB s l aw w r c acc ⟨ev,jo,false,ao,.dT q,node,has,nx,out⟩++(M.B m++σ)) (lG M s l aw w (dq M.O s l aw ⟨ev,jo,false,ao,.dT q,node,has,nx,out⟩ d (M.abs m)) σ):=by
 refine okF Tryz.func357 (by kernel_rfl) ?_
 refine aa.mk 0 _ _ rfl rfl ?_
 refine aa.mk 0 _ _ rfl rfl ?_
 refine aa.mk 0 _ _ rfl rfl ?_
 obtain⟨q',a',b',ar⟩:∃q' a' b',jq M.O q (M.abs m)=(q',a',b'):=⟨_,_,_,rfl⟩
 obtain⟨u1,u2,u3,u4,u5,u6,u7,u8,u9⟩:=q'
 cases u4 with
 | true =>
  refine .fwd 1 ?_
  refine .sched [5] (upto [5] 11 0) (by kernel_rfl) ?_
  refine aa.mk 0 _ _ rfl rfl ?_
  refine aJ [] (cu _ _ _) ?_
  refine⟨_,wSteal_,?_⟩
  refine fC [_] ar (fun σ=>AS M r q m d σ hm (by have:=o3.1;omega) o3.2) (fun m' aQ hb =>?_) (fun m' aQ hb =>?_)
  ·refine az [] (HQ w r s l aw ev jo false ao node has nx out _ _ _ _ _ _ _ _ _) ?_
   refine ai.mk 0 _ _ rfl rfl ?_
   refine ai.mk 0 _ _ rfl rfl ?_
   refine aa.mk 0 _ _ rfl rfl ?_
   exact .drop 1 1 (.done (eJ (x:=⟨ev,jo,false,ao,.dT q,node,has,nx,out⟩) (n:=.dT q) rfl rfl (qa ar) hb aQ rfl rfl r))
  ·exact .done (eY (x:=⟨ev,jo,false,ao,.dT q,node,has,nx,out⟩) (n:=.dT q) rfl rfl (qa ar) hb aQ r .aj [] trivial)
 | false =>
  refine .fwd 1 ?_
  refine .sched [5] (upto [5] 11 0) (by kernel_rfl) ?_
  refine aa.mk 0 _ _ rfl rfl ?_
  refine aJ [] (cu _ _ _) ?_
  refine⟨_,wSteal_,?_⟩
  refine fC [_] ar (fun σ=>AS M r q m d σ hm (by have:=o3.1;omega) o3.2) (fun m' aQ hb =>?_) (fun m' aQ hb =>?_)
  ·refine az [] (HR w r s l aw ev jo false ao node has nx out _ _ _ _ _ _ _ _ _) ?_
   refine ai.mk 0 _ _ rfl rfl ?_
   refine ai.mk 0 _ _ rfl rfl ?_
   refine aa.mk 0 _ _ rfl rfl ?_
   exact .drop 1 1 (.done (eJ (x:=⟨ev,jo,false,ao,.dT q,node,has,nx,out⟩) (n:=.dT q) rfl rfl (qa ar) hb aQ rfl rfl r))
  ·exact .done (eY (x:=⟨ev,jo,false,ao,.dT q,node,has,nx,out⟩) (n:=.dT q) rfl rfl (qa ar) hb aQ r .aj [] trivial)
theorem QC(M:AMem)(w r:Nat)(c:AV)(acc:Hp)(s:Sy)(l:Lay)(aw:Int)(ev jo:Int)(ao:Int)(q:Qk)(node:Int)(has:Bool)(nx out:List Int)(d:Int)(m:M.S)(σ:Hp)(hm:M.O.free (M.abs m)):
  ACalls Tryz.prog 357 [.ptr w 0,M.v,.int .i64 d] (WB s l aw w r c acc ⟨ev,jo,false,ao,.quiet q,node,has,nx,out⟩++(M.B m++σ)) (lG M s l aw w (dq M.O s l aw ⟨ev,jo,false,ao,.quiet q,node,has,nx,out⟩ d (M.abs m)) σ):=by
 refine okF Tryz.func357 (by kernel_rfl) ?_
 refine aa.mk 0 _ _ rfl rfl ?_
 refine aa.mk 0 _ _ rfl rfl ?_
 refine aa.mk 0 _ _ rfl rfl ?_
 obtain⟨q',a',b',ar⟩:∃q' a' b',nT M.O q (M.abs m)=(q',a',b'):=⟨_,_,_,rfl⟩
 obtain⟨u1,u2,u3,u4⟩:=q'
 cases u3 with
 | true =>
  refine .fwd 1 ?_
  refine .sched [5] (upto [5] 11 0) (by kernel_rfl) ?_
  refine aa.mk 0 _ _ rfl rfl ?_
  refine aJ [] (cu _ _ _) ?_
  refine⟨_,wQuiet_,?_⟩
  refine fC [_] ar (fun σ=>AT M r q m d σ hm) (fun m' aQ hb =>?_) (fun m' aQ hb =>?_)
  ·refine az [] (zZ w r s l aw ev jo false ao node has nx out _ _ _ _ _) ?_
   refine ai.mk 0 _ _ rfl rfl ?_
   refine ai.mk 0 _ _ rfl rfl ?_
   refine aa.mk 0 _ _ rfl rfl ?_
   exact .drop 1 1 (.done (eJ (x:=⟨ev,jo,false,ao,.quiet q,node,has,nx,out⟩) (n:=.quiet q) rfl rfl (rK ar) hb aQ rfl rfl r))
  ·exact .done (eY (x:=⟨ev,jo,false,ao,.quiet q,node,has,nx,out⟩) (n:=.quiet q) rfl rfl (rK ar) hb aQ r .aj [] trivial)
 | false =>
  refine .fwd 1 ?_
  refine .sched [5] (upto [5] 11 0) (by kernel_rfl) ?_
  refine aa.mk 0 _ _ rfl rfl ?_
  refine aJ [] (cu _ _ _) ?_
  refine⟨_,wQuiet_,?_⟩
  refine fC [_] ar (fun σ=>AT M r q m d σ hm) (fun m' aQ hb =>?_) (fun m' aQ hb =>?_)
  ·refine az [] (zZ w r s l aw ev jo false ao node has nx out _ _ _ _ _) ?_
   refine ai.mk 0 _ _ rfl rfl ?_
   refine ai.mk 0 _ _ rfl rfl ?_
   refine aa.mk 0 _ _ rfl rfl ?_
   exact .drop 1 1 (.done (eJ (x:=⟨ev,jo,false,ao,.quiet q,node,has,nx,out⟩) (n:=.quiet q) rfl rfl (rK ar) hb aQ rfl rfl r))
  ·exact .done (eY (x:=⟨ev,jo,false,ao,.quiet q,node,has,nx,out⟩) (n:=.quiet q) rfl rfl (rK ar) hb aQ r .aj [] trivial)
theorem QD(M:AMem)(w r:Nat)(c:AV)(acc:Hp)(s:Sy)(l:Lay)(aw:Int)(ev jo:Int)(ao:Int)(q:Ck)(node:Int)(has:Bool)(nx out:List Int)(d:Int)(m:M.S)(σ:Hp)(hm:M.O.free (M.abs m)):
  ACalls Tryz.prog 357 [.ptr w 0,M.v,.int .i64 d] (WB s l aw w r c acc ⟨ev,jo,false,ao,.clear q,node,has,nx,out⟩++(M.B m++σ)) (lG M s l aw w (dq M.O s l aw ⟨ev,jo,false,ao,.clear q,node,has,nx,out⟩ d (M.abs m)) σ):=by
 refine okF Tryz.func357 (by kernel_rfl) ?_
 refine aa.mk 0 _ _ rfl rfl ?_
 refine aa.mk 0 _ _ rfl rfl ?_
 refine aa.mk 0 _ _ rfl rfl ?_
 obtain⟨q',a',b',ar⟩:∃q' a' b',nU M.O q (M.abs m)=(q',a',b'):=⟨_,_,_,rfl⟩
 obtain⟨u1,u2,u3,u4⟩:=q'
 refine .fwd 1 ?_
 refine .sched [5] (upto [5] 11 0) (by kernel_rfl) ?_
 refine aa.mk 0 _ _ rfl rfl ?_
 refine aJ [] (cu _ _ _) ?_
 refine⟨_,wClear_,?_⟩
 refine fC [_] ar (fun σ=>Lu M r q m d σ hm) (fun m' aQ hb =>?_) (fun m' aQ hb =>?_)
 ·refine az [] (IQ w r s l aw ev jo false ao node has nx out _ _ _ _ _) ?_
  refine ai.mk 0 _ _ rfl rfl ?_
  refine ai.mk 0 _ _ rfl rfl ?_
  refine aa.mk 0 _ _ rfl rfl ?_
  exact .drop 1 1 (.done (eJ (x:=⟨ev,jo,false,ao,.clear q,node,has,nx,out⟩) (n:=.clear q) rfl rfl (Ac ar) hb aQ rfl rfl r))
 ·exact .done (eY (x:=⟨ev,jo,false,ao,.clear q,node,has,nx,out⟩) (n:=.clear q) rfl rfl (Ac ar) hb aQ r .aj [] trivial)
theorem R8(M:AMem)(w r:Nat)(c:AV)(acc:Hp)(s:Sy)(l:Lay)(aw:Int)(ev jo:Int)(ao:Int)(q:Tk)(node:Int)(has:Bool)(nx out:List Int)(d:Int)(m:M.S)(σ:Hp)(hm:M.O.free (M.abs m))(o3:qT l nx (.take q)):
  ACalls Tryz.prog 357 [.ptr w 0,M.v,.int .i64 d] (WB s l aw w r c acc ⟨ev,jo,false,ao,.take q,node,has,nx,out⟩++(M.B m++σ)) (lG M s l aw w (dq M.O s l aw ⟨ev,jo,false,ao,.take q,node,has,nx,out⟩ d (M.abs m)) σ):=by
 refine okF Tryz.func357 (by kernel_rfl) ?_
 refine aa.mk 0 _ _ rfl rfl ?_
 refine aa.mk 0 _ _ rfl rfl ?_
 refine aa.mk 0 _ _ rfl rfl ?_
 obtain⟨q',a',b',ar⟩:∃q' a' b',kI M.O q (M.abs m)=(q',a',b'):=⟨_,_,_,rfl⟩
 obtain⟨u1,u2,u3,u4,u5,u6⟩:=q'
 cases u4 with
 | true =>
  refine .fwd 1 ?_
  refine .sched [5] (upto [5] 11 0) (by kernel_rfl) ?_
  refine aa.mk 0 _ _ rfl rfl ?_
  refine aJ [] (cu _ _ _) ?_
  refine⟨_,wTake_,?_⟩
  refine fC [_] ar (fun σ=>Bg M r q m d σ hm) (fun m' aQ hb =>?_) (fun m' aQ hb =>?_)
  ·refine az [] (IL w r s l aw ev jo false ao node has nx out _ _ _ _ _ _) ?_
   refine ai.mk 0 _ _ rfl rfl ?_
   refine ai.mk 0 _ _ rfl rfl ?_
   refine aa.mk 0 _ _ rfl rfl ?_
   exact .drop 1 1 (.done (eJ (x:=⟨ev,jo,false,ao,.take q,node,has,nx,out⟩) (n:=.take q) rfl rfl (qd ar) hb aQ rfl rfl r))
  ·exact .done (eY (x:=⟨ev,jo,false,ao,.take q,node,has,nx,out⟩) (n:=.take q) rfl rfl (qd ar) hb aQ r .aj [] trivial)
 | false =>
  refine .fwd 1 ?_
  refine .sched [5] (upto [5] 11 0) (by kernel_rfl) ?_
  refine aa.mk 0 _ _ rfl rfl ?_
  refine aJ [] (cu _ _ _) ?_
  refine⟨_,wTake_,?_⟩
  refine fC [_] ar (fun σ=>Bg M r q m d σ hm) (fun m' aQ hb =>?_) (fun m' aQ hb =>?_)
  ·refine az [] (IM w r s l aw ev jo false ao node has nx out _ _ _ _ _ _ o3) ?_
   refine ai.mk 0 _ _ rfl rfl ?_
   refine ai.mk 0 _ _ rfl rfl ?_
   refine aa.mk 0 _ _ rfl rfl ?_
   exact .drop 1 1 (.done (eJ (x:=⟨ev,jo,false,ao,.take q,node,has,nx,out⟩) (n:=.take q) rfl rfl (qd ar) hb aQ rfl rfl r))
  ·exact .done (eY (x:=⟨ev,jo,false,ao,.take q,node,has,nx,out⟩) (n:=.take q) rfl rfl (qd ar) hb aQ r .aj [] trivial)
theorem Sa(M:AMem)(w r:Nat)(c:AV)(acc:Hp)(s:Sy)(l:Lay)(aw:Int)(ev jo:Int)(ao:Int)(q:DQ)(node:Int)(has:Bool)(nx out:List Int)(d:Int)(m:M.S)(σ:Hp)(hm:M.O.free (M.abs m))(o3:qT l nx (.push q)):
  ACalls Tryz.prog 357 [.ptr w 0,M.v,.int .i64 d] (WB s l aw w r c acc ⟨ev,jo,false,ao,.push q,node,has,nx,out⟩++(M.B m++σ)) (lG M s l aw w (dq M.O s l aw ⟨ev,jo,false,ao,.push q,node,has,nx,out⟩ d (M.abs m)) σ):=by
 refine okF Tryz.func357 (by kernel_rfl) ?_
 refine aa.mk 0 _ _ rfl rfl ?_
 refine aa.mk 0 _ _ rfl rfl ?_
 refine aa.mk 0 _ _ rfl rfl ?_
 obtain⟨q',a',b',ar⟩:∃q' a' b',jQ M.O q (M.abs m)=(q',a',b'):=⟨_,_,_,rfl⟩
 refine .fwd 1 ?_
 refine .sched [5] (upto [5] 11 0) (by kernel_rfl) ?_
 refine aa.mk 0 _ _ rfl rfl ?_
 refine aJ [] (cu _ _ _) ?_
 refine⟨_,wPush_,?_⟩
 refine fC [_] ar (fun σ=>L4 M r q m d σ hm (by have:=o3.1.1;omega) o3.1.2) (fun m' aQ hb =>?_) (fun m' aQ hb =>?_)
 ·refine az [] (JS w r s l aw ev jo false ao node has nx out _ _ o3.2) ?_
  refine ai.mk 0 _ _ rfl rfl ?_
  refine ai.mk 0 _ _ rfl rfl ?_
  refine aa.mk 0 _ _ rfl rfl ?_
  exact .drop 1 1 (.done (eJ (x:=⟨ev,jo,false,ao,.push q,node,has,nx,out⟩) (n:=.push q) rfl rfl (xb ar) hb aQ rfl rfl r))
 ·exact .done (eY (x:=⟨ev,jo,false,ao,.push q,node,has,nx,out⟩) (n:=.push q) rfl rfl (xb ar) hb aQ r .aj [] trivial)
theorem Pb(M:AMem)(w r:Nat)(c:AV)(acc:Hp)(s:Sy)(l:Lay)(aw:Int)(ev jo:Int)(ao:Int)(q:Rk)(node:Int)(has:Bool)(nx out:List Int)(d:Int)(m:M.S)(σ:Hp)(hm:M.O.free (M.abs m)):
  ACalls Tryz.prog 357 [.ptr w 0,M.v,.int .i64 d] (WB s l aw w r c acc ⟨ev,jo,false,ao,.fB q,node,has,nx,out⟩++(M.B m++σ)) (lG M s l aw w (dq M.O s l aw ⟨ev,jo,false,ao,.fB q,node,has,nx,out⟩ d (M.abs m)) σ):=by
 refine okF Tryz.func357 (by kernel_rfl) ?_
 refine aa.mk 0 _ _ rfl rfl ?_
 refine aa.mk 0 _ _ rfl rfl ?_
 refine aa.mk 0 _ _ rfl rfl ?_
 obtain⟨q',a',b',ar⟩:∃q' a' b',o7 M.O q (M.abs m)=(q',a',b'):=⟨_,_,_,rfl⟩
 refine .fwd 1 ?_
 refine .sched [5] (upto [5] 11 0) (by kernel_rfl) ?_
 refine aa.mk 0 _ _ rfl rfl ?_
 refine aJ [] (cu _ _ _) ?_
 refine⟨_,wRetire_,?_⟩
 refine fC [_] ar (fun σ=>KA M r q m d σ hm) (fun m' aQ hb =>?_) (fun m' aQ hb =>?_)
 ·refine az [] (HS w r s l aw ev jo false ao node has nx out _ _) ?_
  refine ai.mk 0 _ _ rfl rfl ?_
  refine ai.mk 0 _ _ rfl rfl ?_
  refine aa.mk 0 _ _ rfl rfl ?_
  exact .drop 1 1 (.done (eJ (x:=⟨ev,jo,false,ao,.fB q,node,has,nx,out⟩) (n:=.fB q) rfl rfl (zT ar) hb aQ rfl rfl r))
 ·exact .done (eY (x:=⟨ev,jo,false,ao,.fB q,node,has,nx,out⟩) (n:=.fB q) rfl rfl (zT ar) hb aQ r .aj [] trivial)
theorem Sc(M:AMem)(w r:Nat)(c:AV)(acc:Hp)(s:Sy)(l:Lay)(aw:Int)(ev jo:Int)(ao:Int)(q:Jn)(node:Int)(has:Bool)(nx out:List Int)(d:Int)(m:M.S)(σ:Hp)(hm:M.O.free (M.abs m))(o3:qT l nx (.join q)):
  ACalls Tryz.prog 357 [.ptr w 0,M.v,.int .i64 d] (WB s l aw w r c acc ⟨ev,jo,false,ao,.join q,node,has,nx,out⟩++(M.B m++σ)) (lG M s l aw w (dq M.O s l aw ⟨ev,jo,false,ao,.join q,node,has,nx,out⟩ d (M.abs m)) σ):=by
 refine okF Tryz.func357 (by kernel_rfl) ?_
 refine aa.mk 0 _ _ rfl rfl ?_
 refine aa.mk 0 _ _ rfl rfl ?_
 refine aa.mk 0 _ _ rfl rfl ?_
 obtain⟨q',a',b',ar⟩:∃q' a' b',iQ M.O q (M.abs m)=(q',a',b'):=⟨_,_,_,rfl⟩
 obtain⟨u1,u2,u3,u4,u5,u6,u7,u8,u9,u10⟩:=q'
 cases u5 with
 | true =>
  refine .fwd 1 ?_
  refine .sched [5] (upto [5] 11 0) (by kernel_rfl) ?_
  refine aa.mk 0 _ _ rfl rfl ?_
  refine aJ [] (cu _ _ _) ?_
  refine⟨_,wJoin_,?_⟩
  refine fC [_] ar (fun σ=>Bj M r q m d σ hm (by have:=o3.1;omega)) (fun m' aQ hb =>?_) (fun m' aQ hb =>?_)
  ·refine az [] (IN w r s l aw ev jo false ao node has nx out _ _ _ _ _ _ _ _ _ _) ?_
   refine ai.mk 0 _ _ rfl rfl ?_
   refine ai.mk 0 _ _ rfl rfl ?_
   refine aa.mk 0 _ _ rfl rfl ?_
   exact .drop 1 1 (.done (eJ (x:=⟨ev,jo,false,ao,.join q,node,has,nx,out⟩) (n:=.join q) rfl rfl (qe ar) hb aQ rfl rfl r))
  ·exact .done (eY (x:=⟨ev,jo,false,ao,.join q,node,has,nx,out⟩) (n:=.join q) rfl rfl (qe ar) hb aQ r .aj [] trivial)
 | false =>
  refine .fwd 1 ?_
  refine .sched [5] (upto [5] 11 0) (by kernel_rfl) ?_
  refine aa.mk 0 _ _ rfl rfl ?_
  refine aJ [] (cu _ _ _) ?_
  refine⟨_,wJoin_,?_⟩
  refine fC [_] ar (fun σ=>Bj M r q m d σ hm (by have:=o3.1;omega)) (fun m' aQ hb =>?_) (fun m' aQ hb =>?_)
  ·refine az [] (IP w r s l aw ev jo false ao node has nx out _ _ _ _ _ _ _ _ _ _ o3.2) ?_
   refine ai.mk 0 _ _ rfl rfl ?_
   refine ai.mk 0 _ _ rfl rfl ?_
   refine aa.mk 0 _ _ rfl rfl ?_
   exact .drop 1 1 (.done (eJ (x:=⟨ev,jo,false,ao,.join q,node,has,nx,out⟩) (n:=.join q) rfl rfl (qe ar) hb aQ rfl rfl r))
  ·exact .done (eY (x:=⟨ev,jo,false,ao,.join q,node,has,nx,out⟩) (n:=.join q) rfl rfl (qe ar) hb aQ r .aj [] trivial)
theorem R9(M:AMem)(w r:Nat)(c:AV)(acc:Hp)(s:Sy)(l:Lay)(aw:Int)(ev jo:Int)(ao:Int)(x:List Int)(node:Int)(has:Bool)(nx out:List Int)(d:Int)(m:M.S)(σ:Hp)(hm:M.O.free (M.abs m))(hf:Fit s)(hv:∀a,bh (M.O.ld (M.abs m) a).1)(o3:qT l nx (.read x))(EZ:ir c acc x∧(x=[]→c=.aj)):
  ACalls Tryz.prog 357 [.ptr w 0,M.v,.int .i64 d] (WB s l aw w r c acc ⟨ev,jo,false,ao,.read x,node,has,nx,out⟩++(M.B m++σ)) (lG M s l aw w (dq M.O s l aw ⟨ev,jo,false,ao,.read x,node,has,nx,out⟩ d (M.abs m)) σ):=by
 refine okF Tryz.func357 (by kernel_rfl) ?_
 refine aa.mk 0 _ _ rfl rfl ?_
 refine aa.mk 0 _ _ rfl rfl ?_
 refine aa.mk 0 _ _ rfl rfl ?_
 obtain⟨o4,o5⟩:=o3
 obtain⟨lV,Mq⟩:=EZ
 by_cases ab:x.length<cw l.words
 ·have B9:=tq l.words
  have ar:mS M.O l (cy l node) x (M.abs m)=(x++[(M.O.ld (M.abs m) (wr (cy l node+(x.length:Nat)))).1],(M.O.ld (M.abs m) (wr (cy l node+(x.length:Nat)))).2,decide (x.length+1=cw l.words)):=if_pos ab
  have mC:bJ (x++[(M.O.ld (M.abs m) (wr (cy l node+(x.length:Nat)))).1]):=fun z hz=>by rcases List.mem_append.1 hz with h | h;exact o5 z h;rw[List.mem_singleton.1 h];exact hv _
  have hx3:(x++[(M.O.ld (M.abs m) (wr (cy l node+(x.length:Nat)))).1]).length=x.length+1:=by simp
  refine .fwd 1 ?_
  refine .sched [5] (upto [5] 11 0) (by kernel_rfl) ?_
  refine aa.mk 0 _ _ rfl rfl ?_
  refine aJ [] (cu _ _ _) ?_
  refine⟨_,wRead_,?_⟩
  refine Lh hm ab lV (fun m' b aQ he =>?_) (fun m' b aQ he =>?_)
  ·refine .hY 2 b 0 (x++[(M.O.ld (M.abs m) (wr (cy l node+(x.length:Nat)))).1]).length 1 _ (.int .u64) (x++[(M.O.ld (M.abs m) (wr (cy l node+(x.length:Nat)))).1]) rfl ?_ ⟨rfl,rfl,by decide⟩ 1 3 r _ rfl rfl ?_
   ·rw[List.drop_zero,← ka];exact List.take_of_length_le (by simp[aL])
   refine az [] (Al w r s l aw ev jo false ao node has nx out (x++[(M.O.ld (M.abs m) (wr (cy l node+(x.length:Nat)))).1]) _ _ _ _ _ _ _ _ hf mC (by omega)) ?_
   refine ai.mk 0 _ _ rfl rfl ?_
   refine ai.mk 0 _ _ rfl rfl ?_
   refine aa.mk 0 _ _ rfl rfl ?_
   exact .drop 1 1 (.done (eJ (x:=⟨ev,jo,false,ao,.read x,node,has,nx,out⟩) (n:=.read x) rfl rfl (s9 ar) (decide_eq_true he) aQ rfl rfl r))
  ·exact .done (eY (x:=⟨ev,jo,false,ao,.read x,node,has,nx,out⟩) (n:=.read x) rfl rfl (s9 ar) (decide_eq_false he) aQ r (.ae b 0 (x++[(M.O.ld (M.abs m) (wr (cy l node+(x.length:Nat)))).1]).length 1) [(b,aL (x++[(M.O.ld (M.abs m) (wr (cy l node+(x.length:Nat)))).1]))] ⟨.ae b (x++[(M.O.ld (M.abs m) (wr (cy l node+(x.length:Nat)))).1]),fun h=>absurd h (by simp)⟩)
 ·obtain⟨h0,rfl⟩:=o4.resolve_left ab
  generalize hz:([]:List Int)=z0 at lV
  cases lV with
  | ae b z=>exact absurd (Mq rfl) (by simp)
  | nil =>
  have ar:mS M.O l (cy l node) [] (M.abs m)=([],M.abs m,true):=if_neg ab
  refine .fwd 1 ?_
  refine .sched [5] (upto [5] 11 0) (by kernel_rfl) ?_
  refine aa.mk 0 _ _ rfl rfl ?_
  refine aJ [] (cu _ _ _) ?_
  refine⟨_,wRead_,?_⟩
  refine az [1] (KB M r _ _ _ _ _ _ d _ h0) ?_
  refine AB 0 3 r _ (.int .u64) rfl rfl ?_
  refine az [1] (Al w r s l aw ev jo false ao node has nx out [] _ _ _ _ _ _ _ _ hf o5 (Nat.zero_le _)) ?_
  refine ai.mk 0 _ _ rfl rfl ?_
  refine ai.mk 0 _ _ rfl rfl ?_
  refine aa.mk 0 _ _ rfl rfl ?_
  exact .drop 1 1 (.done (eJ (x:=⟨ev,jo,false,ao,.read [],node,has,nx,out⟩) (n:=.read []) rfl rfl (s9 ar) rfl rfl rfl rfl r))
set_option maxRecDepth 100000
set_option maxHeartbeats 4000000
theorem R5{l:Lay}{aw ao node:Int}{nx out:List Int}{d:Int}{x:List Int}(h:gw l aw ao node nx out d=.read x):x=[]:=by
 unfold gw at h
 repeat' (first | (cases h;rfl) | cases h | split at h)
theorem Sb(M:AMem)(w r0:Nat)(c:AV)(acc:Hp)(s:Sy)(l:Lay)(aw:Int)(ev jo:Int)(ao:Int)(node:Int)(has:Bool)(nx out:List Int)(d:Int)(m:M.S)(σ:Hp)(hm:M.O.free (M.abs m))(hf:Fit s)(hv:∀a,bh (M.O.ld (M.abs m) a).1)(o1:ao=5∨ao=6∨ao=7→0<nx.length)(o2:ao=1→nK l≠0∧l.k≠0):
  ACalls Tryz.prog 357 [.ptr w 0,M.v,.int .i64 d] (WB s l aw w r0 c acc ⟨ev,jo,false,ao,.none,node,has,nx,out⟩++(M.B m++σ)) (lG M s l aw w (dq M.O s l aw ⟨ev,jo,false,ao,.none,node,has,nx,out⟩ d (M.abs m)) σ):=by
 refine okF Tryz.func357 (by kernel_rfl) ?_
 refine aa.mk 0 _ _ rfl rfl ?_
 refine aa.mk 0 _ _ rfl rfl ?_
 refine aa.mk 0 _ _ rfl rfl ?_
 refine .mk [] _ (VS w s l aw ev jo false ao .nilif node has nx out d _ o1 o2) ?_
 rintro _ _ ⟨r,rfl,rfl⟩
 have o3:qT l nx (gw l aw ao node nx out d):=Tt o1
 have h0:=R4 l aw ao node nx out d
 generalize eN:gw l aw ao node nx out d=n at o3 h0
 cases n with
 | none=>exact absurd rfl h0
 | pop q =>
  obtain⟨q',a',b',ar⟩:∃q' a' b',gT M.O q (M.abs m)=(q',a',b'):=⟨_,_,_,rfl⟩
  obtain⟨u1,u2,u3,u4,u5,u6,u7,u8,u9⟩:=q'
  cases u4 with
  | true =>
   refine ai.mk 1 _ _ rfl rfl ?_
   refine eK.cz (.pull [1] (.refl _)) ?_
   refine .sched [5] (upto [5] 11 0) (by kernel_rfl) ?_
   refine aa.mk 0 _ _ rfl rfl ?_
   refine aJ [] (cu _ _ _) ?_
   refine⟨_,wPop_,?_⟩
   refine fC [_] ar (fun σ=>BH M r q m d σ hm (by have:=o3.1;omega) o3.2) (fun m' aQ hb =>?_) (fun m' aQ hb =>?_)
   ·refine az [] (JT w r s l aw ev jo false ao node has nx out _ _ _ _ _ _ _ _ _) ?_
    refine ai.mk 0 _ _ rfl rfl ?_
    refine ai.mk 0 _ _ rfl rfl ?_
    refine aa.mk 0 _ _ rfl rfl ?_
    exact .drop 1 1 (.done (eJ (x:=⟨ev,jo,false,ao,.none,node,has,nx,out⟩) (n:=.pop q) rfl eN (qk ar) hb aQ rfl rfl r))
   ·exact .done (eY (x:=⟨ev,jo,false,ao,.none,node,has,nx,out⟩) (n:=.pop q) rfl eN (qk ar) hb aQ r .aj [] trivial)
  | false =>
   refine ai.mk 1 _ _ rfl rfl ?_
   refine eK.cz (.pull [1] (.refl _)) ?_
   refine .sched [5] (upto [5] 11 0) (by kernel_rfl) ?_
   refine aa.mk 0 _ _ rfl rfl ?_
   refine aJ [] (cu _ _ _) ?_
   refine⟨_,wPop_,?_⟩
   refine fC [_] ar (fun σ=>BH M r q m d σ hm (by have:=o3.1;omega) o3.2) (fun m' aQ hb =>?_) (fun m' aQ hb =>?_)
   ·refine az [] (JU w r s l aw ev jo false ao node has nx out _ _ _ _ _ _ _ _ _) ?_
    refine ai.mk 0 _ _ rfl rfl ?_
    refine ai.mk 0 _ _ rfl rfl ?_
    refine aa.mk 0 _ _ rfl rfl ?_
    exact .drop 1 1 (.done (eJ (x:=⟨ev,jo,false,ao,.none,node,has,nx,out⟩) (n:=.pop q) rfl eN (qk ar) hb aQ rfl rfl r))
   ·exact .done (eY (x:=⟨ev,jo,false,ao,.none,node,has,nx,out⟩) (n:=.pop q) rfl eN (qk ar) hb aQ r .aj [] trivial)
 | dT q =>
  obtain⟨q',a',b',ar⟩:∃q' a' b',jq M.O q (M.abs m)=(q',a',b'):=⟨_,_,_,rfl⟩
  obtain⟨u1,u2,u3,u4,u5,u6,u7,u8,u9⟩:=q'
  cases u4 with
  | true =>
   refine ai.mk 1 _ _ rfl rfl ?_
   refine eK.cz (.pull [1] (.refl _)) ?_
   refine .sched [5] (upto [5] 11 0) (by kernel_rfl) ?_
   refine aa.mk 0 _ _ rfl rfl ?_
   refine aJ [] (cu _ _ _) ?_
   refine⟨_,wSteal_,?_⟩
   refine fC [_] ar (fun σ=>AS M r q m d σ hm (by have:=o3.1;omega) o3.2) (fun m' aQ hb =>?_) (fun m' aQ hb =>?_)
   ·refine az [] (HQ w r s l aw ev jo false ao node has nx out _ _ _ _ _ _ _ _ _) ?_
    refine ai.mk 0 _ _ rfl rfl ?_
    refine ai.mk 0 _ _ rfl rfl ?_
    refine aa.mk 0 _ _ rfl rfl ?_
    exact .drop 1 1 (.done (eJ (x:=⟨ev,jo,false,ao,.none,node,has,nx,out⟩) (n:=.dT q) rfl eN (qa ar) hb aQ rfl rfl r))
   ·exact .done (eY (x:=⟨ev,jo,false,ao,.none,node,has,nx,out⟩) (n:=.dT q) rfl eN (qa ar) hb aQ r .aj [] trivial)
  | false =>
   refine ai.mk 1 _ _ rfl rfl ?_
   refine eK.cz (.pull [1] (.refl _)) ?_
   refine .sched [5] (upto [5] 11 0) (by kernel_rfl) ?_
   refine aa.mk 0 _ _ rfl rfl ?_
   refine aJ [] (cu _ _ _) ?_
   refine⟨_,wSteal_,?_⟩
   refine fC [_] ar (fun σ=>AS M r q m d σ hm (by have:=o3.1;omega) o3.2) (fun m' aQ hb =>?_) (fun m' aQ hb =>?_)
   ·refine az [] (HR w r s l aw ev jo false ao node has nx out _ _ _ _ _ _ _ _ _) ?_
    refine ai.mk 0 _ _ rfl rfl ?_
    refine ai.mk 0 _ _ rfl rfl ?_
    refine aa.mk 0 _ _ rfl rfl ?_
    exact .drop 1 1 (.done (eJ (x:=⟨ev,jo,false,ao,.none,node,has,nx,out⟩) (n:=.dT q) rfl eN (qa ar) hb aQ rfl rfl r))
   ·exact .done (eY (x:=⟨ev,jo,false,ao,.none,node,has,nx,out⟩) (n:=.dT q) rfl eN (qa ar) hb aQ r .aj [] trivial)
 | quiet q =>
  obtain⟨q',a',b',ar⟩:∃q' a' b',nT M.O q (M.abs m)=(q',a',b'):=⟨_,_,_,rfl⟩
  obtain⟨u1,u2,u3,u4⟩:=q'
  cases u3 with
  | true =>
   refine ai.mk 1 _ _ rfl rfl ?_
   refine eK.cz (.pull [1] (.refl _)) ?_
   refine .sched [5] (upto [5] 11 0) (by kernel_rfl) ?_
   refine aa.mk 0 _ _ rfl rfl ?_
   refine aJ [] (cu _ _ _) ?_
   refine⟨_,wQuiet_,?_⟩
   refine fC [_] ar (fun σ=>AT M r q m d σ hm) (fun m' aQ hb =>?_) (fun m' aQ hb =>?_)
   ·refine az [] (zZ w r s l aw ev jo false ao node has nx out _ _ _ _ _) ?_
    refine ai.mk 0 _ _ rfl rfl ?_
    refine ai.mk 0 _ _ rfl rfl ?_
    refine aa.mk 0 _ _ rfl rfl ?_
    exact .drop 1 1 (.done (eJ (x:=⟨ev,jo,false,ao,.none,node,has,nx,out⟩) (n:=.quiet q) rfl eN (rK ar) hb aQ rfl rfl r))
   ·exact .done (eY (x:=⟨ev,jo,false,ao,.none,node,has,nx,out⟩) (n:=.quiet q) rfl eN (rK ar) hb aQ r .aj [] trivial)
  | false =>
   refine ai.mk 1 _ _ rfl rfl ?_
   refine eK.cz (.pull [1] (.refl _)) ?_
   refine .sched [5] (upto [5] 11 0) (by kernel_rfl) ?_
   refine aa.mk 0 _ _ rfl rfl ?_
   refine aJ [] (cu _ _ _) ?_
   refine⟨_,wQuiet_,?_⟩
   refine fC [_] ar (fun σ=>AT M r q m d σ hm) (fun m' aQ hb =>?_) (fun m' aQ hb =>?_)
   ·refine az [] (zZ w r s l aw ev jo false ao node has nx out _ _ _ _ _) ?_
    refine ai.mk 0 _ _ rfl rfl ?_
    refine ai.mk 0 _ _ rfl rfl ?_
    refine aa.mk 0 _ _ rfl rfl ?_
    exact .drop 1 1 (.done (eJ (x:=⟨ev,jo,false,ao,.none,node,has,nx,out⟩) (n:=.quiet q) rfl eN (rK ar) hb aQ rfl rfl r))
   ·exact .done (eY (x:=⟨ev,jo,false,ao,.none,node,has,nx,out⟩) (n:=.quiet q) rfl eN (rK ar) hb aQ r .aj [] trivial)
 | clear q =>
  obtain⟨q',a',b',ar⟩:∃q' a' b',nU M.O q (M.abs m)=(q',a',b'):=⟨_,_,_,rfl⟩
  obtain⟨u1,u2,u3,u4⟩:=q'
  refine ai.mk 1 _ _ rfl rfl ?_
  refine eK.cz (.pull [1] (.refl _)) ?_
  refine .sched [5] (upto [5] 11 0) (by kernel_rfl) ?_
  refine aa.mk 0 _ _ rfl rfl ?_
  refine aJ [] (cu _ _ _) ?_
  refine⟨_,wClear_,?_⟩
  refine fC [_] ar (fun σ=>Lu M r q m d σ hm) (fun m' aQ hb =>?_) (fun m' aQ hb =>?_)
  ·refine az [] (IQ w r s l aw ev jo false ao node has nx out _ _ _ _ _) ?_
   refine ai.mk 0 _ _ rfl rfl ?_
   refine ai.mk 0 _ _ rfl rfl ?_
   refine aa.mk 0 _ _ rfl rfl ?_
   exact .drop 1 1 (.done (eJ (x:=⟨ev,jo,false,ao,.none,node,has,nx,out⟩) (n:=.clear q) rfl eN (Ac ar) hb aQ rfl rfl r))
  ·exact .done (eY (x:=⟨ev,jo,false,ao,.none,node,has,nx,out⟩) (n:=.clear q) rfl eN (Ac ar) hb aQ r .aj [] trivial)
 | read x =>
  obtain rfl:x=[]:=R5 eN
  have EZ:ir .aj [] []∧(([]:List Int)=[]→AV.aj=.aj):=⟨.nil,fun _=>rfl⟩
  obtain⟨o4,o5⟩:=o3
  obtain⟨lV,Mq⟩:=EZ
  by_cases ab:([]:List Int).length<cw l.words
  ·have B9:=tq l.words
   have ar:mS M.O l (cy l node) ([]:List Int) (M.abs m)=(([]:List Int)++[(M.O.ld (M.abs m) (wr (cy l node+(([]:List Int).length:Nat)))).1],(M.O.ld (M.abs m) (wr (cy l node+(([]:List Int).length:Nat)))).2,decide (([]:List Int).length+1=cw l.words)):=if_pos ab
   have mC:bJ (([]:List Int)++[(M.O.ld (M.abs m) (wr (cy l node+(([]:List Int).length:Nat)))).1]):=fun z hz=>by rcases List.mem_append.1 hz with h | h;exact o5 z h;rw[List.mem_singleton.1 h];exact hv _
   have hx3:(([]:List Int)++[(M.O.ld (M.abs m) (wr (cy l node+(([]:List Int).length:Nat)))).1]).length=([]:List Int).length+1:=by simp
   refine ai.mk 1 _ _ rfl rfl ?_
   refine eK.cz (.pull [1] (.refl _)) ?_
   refine .sched [5] (upto [5] 11 0) (by kernel_rfl) ?_
   refine aa.mk 0 _ _ rfl rfl ?_
   refine aJ [] (cu _ _ _) ?_
   refine⟨_,wRead_,?_⟩
   refine Lh hm ab lV (fun m' b aQ he =>?_) (fun m' b aQ he =>?_)
   ·refine .hY 2 b 0 (([]:List Int)++[(M.O.ld (M.abs m) (wr (cy l node+(([]:List Int).length:Nat)))).1]).length 1 _ (.int .u64) (([]:List Int)++[(M.O.ld (M.abs m) (wr (cy l node+(([]:List Int).length:Nat)))).1]) rfl ?_ ⟨rfl,rfl,by decide⟩ 1 3 r _ rfl rfl ?_
    ·rw[List.drop_zero,← ka];exact List.take_of_length_le (by simp[aL])
    refine az [] (Al w r s l aw ev jo false ao node has nx out (([]:List Int)++[(M.O.ld (M.abs m) (wr (cy l node+(([]:List Int).length:Nat)))).1]) _ _ _ _ _ _ _ _ hf mC (by omega)) ?_
    refine ai.mk 0 _ _ rfl rfl ?_
    refine ai.mk 0 _ _ rfl rfl ?_
    refine aa.mk 0 _ _ rfl rfl ?_
    exact .drop 1 1 (.done (eJ (x:=⟨ev,jo,false,ao,.none,node,has,nx,out⟩) (n:=.read ([]:List Int)) rfl eN (s9 ar) (decide_eq_true he) aQ rfl rfl r))
   ·exact .done (eY (x:=⟨ev,jo,false,ao,.none,node,has,nx,out⟩) (n:=.read ([]:List Int)) rfl eN (s9 ar) (decide_eq_false he) aQ r (.ae b 0 (([]:List Int)++[(M.O.ld (M.abs m) (wr (cy l node+(([]:List Int).length:Nat)))).1]).length 1) [(b,aL (([]:List Int)++[(M.O.ld (M.abs m) (wr (cy l node+(([]:List Int).length:Nat)))).1]))] ⟨.ae b (([]:List Int)++[(M.O.ld (M.abs m) (wr (cy l node+(([]:List Int).length:Nat)))).1]),fun h=>absurd h (by simp)⟩)
  ·obtain⟨h0,-⟩:=o4.resolve_left ab
   generalize hz:([]:List Int)=z0 at lV
   cases lV with
   | nil =>
   have ar:mS M.O l (cy l node) [] (M.abs m)=([],M.abs m,true):=if_neg ab
   refine ai.mk 1 _ _ rfl rfl ?_
   refine eK.cz (.pull [1] (.refl _)) ?_
   refine .sched [5] (upto [5] 11 0) (by kernel_rfl) ?_
   refine aa.mk 0 _ _ rfl rfl ?_
   refine aJ [] (cu _ _ _) ?_
   refine⟨_,wRead_,?_⟩
   refine az [1] (KB M r _ _ _ _ _ _ d _ h0) ?_
   refine AB 0 3 r _ (.int .u64) rfl rfl ?_
   refine az [1] (Al w r s l aw ev jo false ao node has nx out [] _ _ _ _ _ _ _ _ hf o5 (Nat.zero_le _)) ?_
   refine ai.mk 0 _ _ rfl rfl ?_
   refine ai.mk 0 _ _ rfl rfl ?_
   refine aa.mk 0 _ _ rfl rfl ?_
   exact .drop 1 1 (.done (eJ (x:=⟨ev,jo,false,ao,.none,node,has,nx,out⟩) (n:=.read []) rfl eN (s9 ar) rfl rfl rfl rfl r))
 | join q =>
  obtain⟨q',a',b',ar⟩:∃q' a' b',iQ M.O q (M.abs m)=(q',a',b'):=⟨_,_,_,rfl⟩
  obtain⟨u1,u2,u3,u4,u5,u6,u7,u8,u9,u10⟩:=q'
  cases u5 with
  | true =>
   refine ai.mk 1 _ _ rfl rfl ?_
   refine eK.cz (.pull [1] (.refl _)) ?_
   refine .sched [5] (upto [5] 11 0) (by kernel_rfl) ?_
   refine aa.mk 0 _ _ rfl rfl ?_
   refine aJ [] (cu _ _ _) ?_
   refine⟨_,wJoin_,?_⟩
   refine fC [_] ar (fun σ=>Bj M r q m d σ hm (by have:=o3.1;omega)) (fun m' aQ hb =>?_) (fun m' aQ hb =>?_)
   ·refine az [] (IN w r s l aw ev jo false ao node has nx out _ _ _ _ _ _ _ _ _ _) ?_
    refine ai.mk 0 _ _ rfl rfl ?_
    refine ai.mk 0 _ _ rfl rfl ?_
    refine aa.mk 0 _ _ rfl rfl ?_
    exact .drop 1 1 (.done (eJ (x:=⟨ev,jo,false,ao,.none,node,has,nx,out⟩) (n:=.join q) rfl eN (qe ar) hb aQ rfl rfl r))
   ·exact .done (eY (x:=⟨ev,jo,false,ao,.none,node,has,nx,out⟩) (n:=.join q) rfl eN (qe ar) hb aQ r .aj [] trivial)
  | false =>
   refine ai.mk 1 _ _ rfl rfl ?_
   refine eK.cz (.pull [1] (.refl _)) ?_
   refine .sched [5] (upto [5] 11 0) (by kernel_rfl) ?_
   refine aa.mk 0 _ _ rfl rfl ?_
   refine aJ [] (cu _ _ _) ?_
   refine⟨_,wJoin_,?_⟩
   refine fC [_] ar (fun σ=>Bj M r q m d σ hm (by have:=o3.1;omega)) (fun m' aQ hb =>?_) (fun m' aQ hb =>?_)
   ·refine az [] (IP w r s l aw ev jo false ao node has nx out _ _ _ _ _ _ _ _ _ _ o3.2) ?_
    refine ai.mk 0 _ _ rfl rfl ?_
    refine ai.mk 0 _ _ rfl rfl ?_
    refine aa.mk 0 _ _ rfl rfl ?_
    exact .drop 1 1 (.done (eJ (x:=⟨ev,jo,false,ao,.none,node,has,nx,out⟩) (n:=.join q) rfl eN (qe ar) hb aQ rfl rfl r))
   ·exact .done (eY (x:=⟨ev,jo,false,ao,.none,node,has,nx,out⟩) (n:=.join q) rfl eN (qe ar) hb aQ r .aj [] trivial)
 | take q =>
  obtain⟨q',a',b',ar⟩:∃q' a' b',kI M.O q (M.abs m)=(q',a',b'):=⟨_,_,_,rfl⟩
  obtain⟨u1,u2,u3,u4,u5,u6⟩:=q'
  cases u4 with
  | true =>
   refine ai.mk 1 _ _ rfl rfl ?_
   refine eK.cz (.pull [1] (.refl _)) ?_
   refine .sched [5] (upto [5] 11 0) (by kernel_rfl) ?_
   refine aa.mk 0 _ _ rfl rfl ?_
   refine aJ [] (cu _ _ _) ?_
   refine⟨_,wTake_,?_⟩
   refine fC [_] ar (fun σ=>Bg M r q m d σ hm) (fun m' aQ hb =>?_) (fun m' aQ hb =>?_)
   ·refine az [] (IL w r s l aw ev jo false ao node has nx out _ _ _ _ _ _) ?_
    refine ai.mk 0 _ _ rfl rfl ?_
    refine ai.mk 0 _ _ rfl rfl ?_
    refine aa.mk 0 _ _ rfl rfl ?_
    exact .drop 1 1 (.done (eJ (x:=⟨ev,jo,false,ao,.none,node,has,nx,out⟩) (n:=.take q) rfl eN (qd ar) hb aQ rfl rfl r))
   ·exact .done (eY (x:=⟨ev,jo,false,ao,.none,node,has,nx,out⟩) (n:=.take q) rfl eN (qd ar) hb aQ r .aj [] trivial)
  | false =>
   refine ai.mk 1 _ _ rfl rfl ?_
   refine eK.cz (.pull [1] (.refl _)) ?_
   refine .sched [5] (upto [5] 11 0) (by kernel_rfl) ?_
   refine aa.mk 0 _ _ rfl rfl ?_
   refine aJ [] (cu _ _ _) ?_
   refine⟨_,wTake_,?_⟩
   refine fC [_] ar (fun σ=>Bg M r q m d σ hm) (fun m' aQ hb =>?_) (fun m' aQ hb =>?_)
   ·refine az [] (IM w r s l aw ev jo false ao node has nx out _ _ _ _ _ _ o3) ?_
    refine ai.mk 0 _ _ rfl rfl ?_
    refine ai.mk 0 _ _ rfl rfl ?_
    refine aa.mk 0 _ _ rfl rfl ?_
    exact .drop 1 1 (.done (eJ (x:=⟨ev,jo,false,ao,.none,node,has,nx,out⟩) (n:=.take q) rfl eN (qd ar) hb aQ rfl rfl r))
   ·exact .done (eY (x:=⟨ev,jo,false,ao,.none,node,has,nx,out⟩) (n:=.take q) rfl eN (qd ar) hb aQ r .aj [] trivial)
 | push q =>
  obtain⟨q',a',b',ar⟩:∃q' a' b',jQ M.O q (M.abs m)=(q',a',b'):=⟨_,_,_,rfl⟩
  refine ai.mk 1 _ _ rfl rfl ?_
  refine eK.cz (.pull [1] (.refl _)) ?_
  refine .sched [5] (upto [5] 11 0) (by kernel_rfl) ?_
  refine aa.mk 0 _ _ rfl rfl ?_
  refine aJ [] (cu _ _ _) ?_
  refine⟨_,wPush_,?_⟩
  refine fC [_] ar (fun σ=>L4 M r q m d σ hm (by have:=o3.1.1;omega) o3.1.2) (fun m' aQ hb =>?_) (fun m' aQ hb =>?_)
  ·refine az [] (JS w r s l aw ev jo false ao node has nx out _ _ o3.2) ?_
   refine ai.mk 0 _ _ rfl rfl ?_
   refine ai.mk 0 _ _ rfl rfl ?_
   refine aa.mk 0 _ _ rfl rfl ?_
   exact .drop 1 1 (.done (eJ (x:=⟨ev,jo,false,ao,.none,node,has,nx,out⟩) (n:=.push q) rfl eN (xb ar) hb aQ rfl rfl r))
  ·exact .done (eY (x:=⟨ev,jo,false,ao,.none,node,has,nx,out⟩) (n:=.push q) rfl eN (xb ar) hb aQ r .aj [] trivial)
 | fB q =>
  obtain⟨q',a',b',ar⟩:∃q' a' b',o7 M.O q (M.abs m)=(q',a',b'):=⟨_,_,_,rfl⟩
  refine ai.mk 1 _ _ rfl rfl ?_
  refine eK.cz (.pull [1] (.refl _)) ?_
  refine .sched [5] (upto [5] 11 0) (by kernel_rfl) ?_
  refine aa.mk 0 _ _ rfl rfl ?_
  refine aJ [] (cu _ _ _) ?_
  refine⟨_,wRetire_,?_⟩
  refine fC [_] ar (fun σ=>KA M r q m d σ hm) (fun m' aQ hb =>?_) (fun m' aQ hb =>?_)
  ·refine az [] (HS w r s l aw ev jo false ao node has nx out _ _) ?_
   refine ai.mk 0 _ _ rfl rfl ?_
   refine ai.mk 0 _ _ rfl rfl ?_
   refine aa.mk 0 _ _ rfl rfl ?_
   exact .drop 1 1 (.done (eJ (x:=⟨ev,jo,false,ao,.none,node,has,nx,out⟩) (n:=.fB q) rfl eN (zT ar) hb aQ rfl rfl r))
  ·exact .done (eY (x:=⟨ev,jo,false,ao,.none,node,has,nx,out⟩) (n:=.fB q) rfl eN (zT ar) hb aQ r .aj [] trivial)
theorem Vn(M:AMem)(w r:Nat)(c:AV)(acc:Hp)(s:Sy)(l:Lay)(aw:Int)(x:WS)(d:Int)(m:M.S)(σ:Hp)(hf:Fit s)(hm:M.O.free (M.abs m))(hv:∀a,bh (M.O.ld (M.abs m) a).1)(ok:EX l x)(rd:tA c acc x.now):
  ACalls Tryz.prog 357 [.ptr w 0,M.v,.int .i64 d] (WB s l aw w r c acc x++(M.B m++σ)) (lG M s l aw w (dq M.O s l aw x d (M.abs m)) σ):=by
 obtain⟨ev,jo,en,ao,n,node,has,nx,out⟩:=x
 obtain⟨o1,o2,o3⟩:=ok
 cases en with
 | true =>
  refine okF Tryz.func357 (by kernel_rfl) ?_
  refine aa.mk 0 _ _ rfl rfl ?_
  refine aa.mk 0 _ _ rfl rfl ?_
  exact .done (QR rfl rfl rd)
 | false =>
  cases n with
  | none=>exact Sb M w r c acc s l aw ev jo ao node has nx out d m σ hm hf hv o1 o2
  | pop q=>exact Ua M w r c acc s l aw ev jo ao q node has nx out d m σ hm o3
  | dT q=>exact QB M w r c acc s l aw ev jo ao q node has nx out d m σ hm o3
  | quiet q=>exact QC M w r c acc s l aw ev jo ao q node has nx out d m σ hm
  | clear q=>exact QD M w r c acc s l aw ev jo ao q node has nx out d m σ hm
  | read q=>exact R9 M w r c acc s l aw ev jo ao q node has nx out d m σ hm hf hv o3 rd
  | join q=>exact Sc M w r c acc s l aw ev jo ao q node has nx out d m σ hm o3
  | take q=>exact R8 M w r c acc s l aw ev jo ao q node has nx out d m σ hm o3
  | push q=>exact Sa M w r c acc s l aw ev jo ao q node has nx out d m σ hm o3
  | fB q=>exact Pb M w r c acc s l aw ev jo ao q node has nx out d m σ hm
end Go.Proofs.YtnpidbjdilnhlaaGreat
