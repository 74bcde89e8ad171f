import Derived.Test.YtnpidbjdilnhlaaGreatBn26
namespace Go.Proofs.YtnpidbjdilnhlaaGreat
open Go.RowKit
set_option maxRecDepth 100000
set_option maxHeartbeats 4000000
def mT(M:AMem)(s:Sy)(l:Lay)(who:Int)(w:Nat)(res:WS×M.O.A×Bool)(σ:Hp):AV→Hp→Prop:=fun z σ'=>∃m' r c acc,v7 c acc res.1.now∧M.abs m'=res.2.1∧z=.bool res.2.2∧σ'=WB s l who w r c acc res.1++(M.B m'++σ)
theorem VD{M:AMem}{s:Sy}{l:Lay}{who:Int}{w:Nat}{σ:Hp}{x:WS}{a:M.O.A}{d:Int}(h:x.en=true){m:M.S}(hm:M.abs m=a){r:Nat}{c:AV}{acc:Hp}(rd:v7 c acc x.now):mT M s l who w (cz M.O s l who x d a) σ (.bool true) (WB s l who w r c acc x++(M.B m++σ)):=by
 unfold cz
 rw[if_pos h]
 exact⟨m,r,c,acc,rd,hm,rfl,rfl⟩
theorem fw{M:AMem}{s:Sy}{l:Lay}{who:Int}{w:Nat}{σ:Hp}{x:WS}{a a':M.O.A}{d:Int}{n n':Nw}{b:Bool}{m':M.S}{y:WS}(he:x.en=false)(cW:iO l who x d=n)(hn:eU M.O l x.node n a=(n',a',b))(hb:b=true)(hm:M.abs m'=a')(hy:dv s l x n'=y)(h0:y.now=.none)(r:Nat):mT M s l who w (cz M.O s l who x d a) σ (.bool y.en) (WB s l who w r .af [] y++(M.B m'++σ)):=by
 unfold cz
 rw[if_neg (by rw[he];decide),cW,hn]
 dsimp only
 rw[if_pos hb,hy]
 exact⟨m',r,.af,[],by rw[h0];trivial,hm,rfl,rfl⟩
theorem fM{M:AMem}{s:Sy}{l:Lay}{who:Int}{w:Nat}{σ:Hp}{x:WS}{a a':M.O.A}{d:Int}{n n':Nw}{b:Bool}{m':M.S}(he:x.en=false)(cW:iO l who x d=n)(hn:eU M.O l x.node n a=(n',a',b))(hb:b=false)(hm:M.abs m'=a')(r:Nat)(c:AV)(acc:Hp)(rd:v7 c acc n'):mT M s l who w (cz M.O s l who x d a) σ (.bool false) (WB s l who w r c acc ⟨x.ev,x.jo,x.en,x.does,n',x.node,x.has,x.nx,x.out⟩++(M.B m'++σ)):=by
 unfold cz
 rw[if_neg (by rw[he];decide),cW,hn]
 dsimp only
 rw[if_neg (by rw[hb];decide)]
 exact⟨m',r,c,acc,rd,hm,rfl,rfl⟩
theorem gh{M:AMem}{f:FuncId}{xs:List AV}{X:Type}{B:X→List AV}{r:Nat}{cs:List AV}{res:X×M.O.A×Bool}{x':X}{a':M.O.A}{b':Bool}{m:M.S}(fr:Hp){σ:Hp}{K:AV→Hp→Prop}(ak:res=(x',a',b'))(h:∀σ,ACalls Tryz.prog f xs ((r,cs)::(M.B m++σ)) (nS M σ B r res))
  (k1:∀m',M.abs m'=a'→b'=true→K (.bool true) (fr++((r,B x')::(M.B m'++σ)))) (k2:∀m',M.abs m'=a'→b'=false→K (.bool false) (fr++((r,B x')::(M.B m'++σ)))):CallAt Tryz.prog f K xs (fr++((r,cs)::(M.B m++σ))):=by
 subst ak
 exact abl fr h k1 k2
theorem sf{O:iE}{l:Lay}{node:Int}{q q':DQ}{a a':O.A}{b:Bool}(h:ei O q a=(q',a',b)):eU O l node (.pop q) a=(.pop q',a',b):=by show (Nw.pop (ei O q a).1,(ei O q a).2)=_;rw[h]
theorem rT{O:iE}{l:Lay}{node:Int}{q q':DQ}{a a':O.A}{b:Bool}(h:fv O q a=(q',a',b)):eU O l node (.bE q) a=(.bE q',a',b):=by show (Nw.bE (fv O q a).1,(fv O q a).2)=_;rw[h]
theorem tA{O:iE}{l:Lay}{node:Int}{q q':Qk}{a a':O.A}{b:Bool}(h:pJ O q a=(q',a',b)):eU O l node (.quiet q) a=(.quiet q',a',b):=by show (Nw.quiet (pJ O q a).1,(pJ O q a).2)=_;rw[h]
theorem CX{O:iE}{l:Lay}{node:Int}{q q':Ck}{a a':O.A}{b:Bool}(h:pK O q a=(q',a',b)):eU O l node (.clear q) a=(.clear q',a',b):=by show (Nw.clear (pK O q a).1,(pK O q a).2)=_;rw[h]
theorem rZ{O:iE}{l:Lay}{node:Int}{q q':Tk}{a a':O.A}{b:Bool}(h:jr O q a=(q',a',b)):eU O l node (.take q) a=(.take q',a',b):=by show (Nw.take (jr O q a).1,(jr O q a).2)=_;rw[h]
theorem zX{O:iE}{l:Lay}{node:Int}{q q':DQ}{a a':O.A}{b:Bool}(h:fg O q a=(q',a',b)):eU O l node (.push q) a=(.push q',a',b):=by show (Nw.push (fg O q a).1,(fg O q a).2)=_;rw[h]
theorem CD{O:iE}{l:Lay}{node:Int}{q q':Rk}{a a':O.A}{b:Bool}(h:qM O q a=(q',a',b)):eU O l node (.cX q) a=(.cX q',a',b):=by show (Nw.cX (qM O q a).1,(qM O q a).2)=_;rw[h]
theorem r7{O:iE}{l:Lay}{node:Int}{q q':Jn}{a a':O.A}{b:Bool}(h:fV O q a=(q',a',b)):eU O l node (.join q) a=(.join q',a',b):=by show (Nw.join (fV O q a).1,(fV O q a).2)=_;rw[h]
theorem vt{O:iE}{l:Lay}{node:Int}{q q':List Int}{a a':O.A}{b:Bool}(h:kx O l (aK l node) q a=(q',a',b)):eU O l node (.read q) a=(.read q',a',b):=by show (Nw.read (kx O l (aK l node) q a).1,(kx O l (aK l node) q a).2)=_;rw[h]
theorem Xi(l:Lay)(who does node:Int)(nx out:List Int)(d:Int):gn l who does node nx out d≠.none:=by
 unfold gn;repeat' (first | split | (intro h;cases h))
theorem Yv{l:Lay}{who does node:Int}{nx out:List Int}{d:Int}(h:does=5∨does=6∨does=7→0<nx.length):sO l nx (gn l who does node nx out d):=by
 unfold gn
 repeat' split
 ·exact⟨Nat.zero_le _,Int.le_refl _⟩
 ·exact⟨Nat.zero_le _,Int.le_refl _⟩
 ·trivial
 ·trivial
 ·refine⟨?_,fun _ h=>by cases h⟩
  rcases Nat.eq_zero_or_pos (cw l.words) with h | h
  ·exact .inr ⟨h,rfl⟩
  ·exact .inl h
 ·exact⟨Nat.zero_le _,h (by omega)⟩
 ·exact h (by omega)
 ·exact⟨⟨Nat.zero_le _,Int.le_refl _⟩,h (by omega)⟩
 ·trivial
theorem PI{M:AMem}{r w:Nat}{wc:List AV}{m:M.S}{base what words x d:Int}{l:List Int}{c:AV}{acc σ:Hp}{K:AV→Hp→Prop}(hf:M.O.free (M.abs m))(cW:l.length<cw words)(hv:jl c acc l)
  (k1:∀m' b,M.abs m'=(M.O.ld (M.abs m) (wr (base+(l.length:Nat)))).2→l.length+1=cw words→K (.bool true) ((w,wc)::(r,iH (.ae b 0 (l++[(M.O.ld (M.abs m) (wr (base+(l.length:Nat)))).1]).length 1) base what words true (l++[(M.O.ld (M.abs m) (wr (base+(l.length:Nat)))).1]).length false x)::(b,aU (l++[(M.O.ld (M.abs m) (wr (base+(l.length:Nat)))).1]))::(M.B m'++σ)))
  (k2:∀m' b,M.abs m'=(M.O.ld (M.abs m) (wr (base+(l.length:Nat)))).2→¬l.length+1=cw words→K (.bool false) ((w,wc)::(r,iH (.ae b 0 (l++[(M.O.ld (M.abs m) (wr (base+(l.length:Nat)))).1]).length 1) base what words false (l++[(M.O.ld (M.abs m) (wr (base+(l.length:Nat)))).1]).length false x)::(b,aU (l++[(M.O.ld (M.abs m) (wr (base+(l.length:Nat)))).1]))::(M.B m'++σ))):CallAt Tryz.prog 373 K [.ptr r 0,M.v,.int .i64 d] ((w,wc)::(r,iH c base what words false l.length false x)::(acc++(M.B m++σ))):=by
 have JV:=x5 words
 have hp:∀(cs:List AV) (a b:Hp),((r,cs)::(a++(b++((w,wc)::σ)))).Perm ((w,wc)::(r,cs)::(a++(b++σ))):=fun cs a b=>by
  have:=dO [(w,wc)] ((r,cs)::(a++b)) σ
  simpa using this
 refine .perm _ (hp _ acc (M.B m)) (Zm M r m base what words x l.length false l c acc d ((w,wc)::σ) hf cW hv (by omega)) ?_
 rintro z σ' ⟨m',c',bh,h1,h2,rfl,rfl⟩
 refine⟨_,(hp _ bh (M.B m')).symm,?_⟩
 have hlen:(l++[(M.O.ld (M.abs m) (wr (base+(l.length:Nat)))).1]).length=l.length+1:=by simp
 generalize hg:l++[(M.O.ld (M.abs m) (wr (base+(l.length:Nat)))).1]=g at h1 k1 k2 hlen
 rw[← hlen]
 rw[← hlen]at k1 k2
 cases h1 with
 | nil=>simp at hlen
 | ae b g =>
  by_cases he:g.length=cw words
  ·rw[decide_eq_true he];exact k1 m' b h2 he
  ·rw[decide_eq_false he];exact k2 m' b h2 he
theorem Y9(M:AMem)(w r:Nat)(c:AV)(acc:Hp)(s:Sy)(l:Lay)(who:Int)(ev jo:Int)(does:Int)(q:DQ)(node:Int)(has:Bool)(nx out:List Int)(d:Int)(m:M.S)(σ:Hp)(hm:M.O.free (M.abs m))(o3:sO l nx (.pop q)):
  ACalls Tryz.prog 357 [.ptr w 0,M.v,.int .i64 d] (WB s l who w r c acc ⟨ev,jo,false,does,.pop q,node,has,nx,out⟩++(M.B m++σ)) (mT M s l who w (cz M.O s l who ⟨ev,jo,false,does,.pop q,node,has,nx,out⟩ d (M.abs m)) σ):=by
 refine okF Tryz.func357 (by kernel_rfl) ?_
 refine aa 0 ?_
 refine aa 0 ?_
 refine aa 0 ?_
 obtain⟨q',a',b',ak⟩:∃q' a' b',ei M.O q (M.abs m)=(q',a',b'):=⟨_,_,_,rfl⟩
 obtain⟨u1,u2,u3,u4,u5,u6,u7,u8,u9⟩:=q'
 cases u4 with
 | true =>
  refine .fwd 1 ?_
  refine .sched [5] (upto [5] 11 0) (by kernel_rfl) ?_
  refine aa 0 ?_
  refine aD [] (cy _ _ _) ?_
  refine⟨_,wPop_,?_⟩
  refine gh [_] ak (fun σ=>EU M r q m d σ hm (by have:=o3.1;omega) o3.2) (fun m' aH hb =>?_) (fun m' aH hb =>?_)
  ·refine ax [] (N2 w r s l who ev jo false does node has nx out _ _ _ _ _ _ _ _ _) ?_
   refine ai 0 ?_
   refine ai 0 ?_
   refine aa 0 ?_
   exact .drop 1 1 (.done (fw (x:=⟨ev,jo,false,does,.pop q,node,has,nx,out⟩) (n:=.pop q) rfl rfl (sf ak) hb aH rfl rfl r))
  ·exact .done (fM (x:=⟨ev,jo,false,does,.pop q,node,has,nx,out⟩) (n:=.pop q) rfl rfl (sf ak) hb aH r .af [] trivial)
 | false =>
  refine .fwd 1 ?_
  refine .sched [5] (upto [5] 11 0) (by kernel_rfl) ?_
  refine aa 0 ?_
  refine aD [] (cy _ _ _) ?_
  refine⟨_,wPop_,?_⟩
  refine gh [_] ak (fun σ=>EU M r q m d σ hm (by have:=o3.1;omega) o3.2) (fun m' aH hb =>?_) (fun m' aH hb =>?_)
  ·refine ax [] (N3 w r s l who ev jo false does node has nx out _ _ _ _ _ _ _ _ _) ?_
   refine ai 0 ?_
   refine ai 0 ?_
   refine aa 0 ?_
   exact .drop 1 1 (.done (fw (x:=⟨ev,jo,false,does,.pop q,node,has,nx,out⟩) (n:=.pop q) rfl rfl (sf ak) hb aH rfl rfl r))
  ·exact .done (fM (x:=⟨ev,jo,false,does,.pop q,node,has,nx,out⟩) (n:=.pop q) rfl rfl (sf ak) hb aH r .af [] trivial)
theorem Vp(M:AMem)(w r:Nat)(c:AV)(acc:Hp)(s:Sy)(l:Lay)(who:Int)(ev jo:Int)(does:Int)(q:DQ)(node:Int)(has:Bool)(nx out:List Int)(d:Int)(m:M.S)(σ:Hp)(hm:M.O.free (M.abs m))(o3:sO l nx (.bE q)):
  ACalls Tryz.prog 357 [.ptr w 0,M.v,.int .i64 d] (WB s l who w r c acc ⟨ev,jo,false,does,.bE q,node,has,nx,out⟩++(M.B m++σ)) (mT M s l who w (cz M.O s l who ⟨ev,jo,false,does,.bE q,node,has,nx,out⟩ d (M.abs m)) σ):=by
 refine okF Tryz.func357 (by kernel_rfl) ?_
 refine aa 0 ?_
 refine aa 0 ?_
 refine aa 0 ?_
 obtain⟨q',a',b',ak⟩:∃q' a' b',fv M.O q (M.abs m)=(q',a',b'):=⟨_,_,_,rfl⟩
 obtain⟨u1,u2,u3,u4,u5,u6,u7,u8,u9⟩:=q'
 cases u4 with
 | true =>
  refine .fwd 1 ?_
  refine .sched [5] (upto [5] 11 0) (by kernel_rfl) ?_
  refine aa 0 ?_
  refine aD [] (cy _ _ _) ?_
  refine⟨_,wSteal_,?_⟩
  refine gh [_] ak (fun σ=>DS M r q m d σ hm (by have:=o3.1;omega) o3.2) (fun m' aH hb =>?_) (fun m' aH hb =>?_)
  ·refine ax [] (LQ w r s l who ev jo false does node has nx out _ _ _ _ _ _ _ _ _) ?_
   refine ai 0 ?_
   refine ai 0 ?_
   refine aa 0 ?_
   exact .drop 1 1 (.done (fw (x:=⟨ev,jo,false,does,.bE q,node,has,nx,out⟩) (n:=.bE q) rfl rfl (rT ak) hb aH rfl rfl r))
  ·exact .done (fM (x:=⟨ev,jo,false,does,.bE q,node,has,nx,out⟩) (n:=.bE q) rfl rfl (rT ak) hb aH r .af [] trivial)
 | false =>
  refine .fwd 1 ?_
  refine .sched [5] (upto [5] 11 0) (by kernel_rfl) ?_
  refine aa 0 ?_
  refine aD [] (cy _ _ _) ?_
  refine⟨_,wSteal_,?_⟩
  refine gh [_] ak (fun σ=>DS M r q m d σ hm (by have:=o3.1;omega) o3.2) (fun m' aH hb =>?_) (fun m' aH hb =>?_)
  ·refine ax [] (LR w r s l who ev jo false does node has nx out _ _ _ _ _ _ _ _ _) ?_
   refine ai 0 ?_
   refine ai 0 ?_
   refine aa 0 ?_
   exact .drop 1 1 (.done (fw (x:=⟨ev,jo,false,does,.bE q,node,has,nx,out⟩) (n:=.bE q) rfl rfl (rT ak) hb aH rfl rfl r))
  ·exact .done (fM (x:=⟨ev,jo,false,does,.bE q,node,has,nx,out⟩) (n:=.bE q) rfl rfl (rT ak) hb aH r .af [] trivial)
theorem Vq(M:AMem)(w r:Nat)(c:AV)(acc:Hp)(s:Sy)(l:Lay)(who:Int)(ev jo:Int)(does:Int)(q:Qk)(node:Int)(has:Bool)(nx out:List Int)(d:Int)(m:M.S)(σ:Hp)(hm:M.O.free (M.abs m)):
  ACalls Tryz.prog 357 [.ptr w 0,M.v,.int .i64 d] (WB s l who w r c acc ⟨ev,jo,false,does,.quiet q,node,has,nx,out⟩++(M.B m++σ)) (mT M s l who w (cz M.O s l who ⟨ev,jo,false,does,.quiet q,node,has,nx,out⟩ d (M.abs m)) σ):=by
 refine okF Tryz.func357 (by kernel_rfl) ?_
 refine aa 0 ?_
 refine aa 0 ?_
 refine aa 0 ?_
 obtain⟨q',a',b',ak⟩:∃q' a' b',pJ M.O q (M.abs m)=(q',a',b'):=⟨_,_,_,rfl⟩
 obtain⟨u1,u2,u3,u4⟩:=q'
 cases u3 with
 | true =>
  refine .fwd 1 ?_
  refine .sched [5] (upto [5] 11 0) (by kernel_rfl) ?_
  refine aa 0 ?_
  refine aD [] (cy _ _ _) ?_
  refine⟨_,wQuiet_,?_⟩
  refine gh [_] ak (fun σ=>DT M r q m d σ hm) (fun m' aH hb =>?_) (fun m' aH hb =>?_)
  ·refine ax [] (CR w r s l who ev jo false does node has nx out _ _ _ _ _) ?_
   refine ai 0 ?_
   refine ai 0 ?_
   refine aa 0 ?_
   exact .drop 1 1 (.done (fw (x:=⟨ev,jo,false,does,.quiet q,node,has,nx,out⟩) (n:=.quiet q) rfl rfl (tA ak) hb aH rfl rfl r))
  ·exact .done (fM (x:=⟨ev,jo,false,does,.quiet q,node,has,nx,out⟩) (n:=.quiet q) rfl rfl (tA ak) hb aH r .af [] trivial)
 | false =>
  refine .fwd 1 ?_
  refine .sched [5] (upto [5] 11 0) (by kernel_rfl) ?_
  refine aa 0 ?_
  refine aD [] (cy _ _ _) ?_
  refine⟨_,wQuiet_,?_⟩
  refine gh [_] ak (fun σ=>DT M r q m d σ hm) (fun m' aH hb =>?_) (fun m' aH hb =>?_)
  ·refine ax [] (CR w r s l who ev jo false does node has nx out _ _ _ _ _) ?_
   refine ai 0 ?_
   refine ai 0 ?_
   refine aa 0 ?_
   exact .drop 1 1 (.done (fw (x:=⟨ev,jo,false,does,.quiet q,node,has,nx,out⟩) (n:=.quiet q) rfl rfl (tA ak) hb aH rfl rfl r))
  ·exact .done (fM (x:=⟨ev,jo,false,does,.quiet q,node,has,nx,out⟩) (n:=.quiet q) rfl rfl (tA ak) hb aH r .af [] trivial)
theorem Vr(M:AMem)(w r:Nat)(c:AV)(acc:Hp)(s:Sy)(l:Lay)(who:Int)(ev jo:Int)(does:Int)(q:Ck)(node:Int)(has:Bool)(nx out:List Int)(d:Int)(m:M.S)(σ:Hp)(hm:M.O.free (M.abs m)):
  ACalls Tryz.prog 357 [.ptr w 0,M.v,.int .i64 d] (WB s l who w r c acc ⟨ev,jo,false,does,.clear q,node,has,nx,out⟩++(M.B m++σ)) (mT M s l who w (cz M.O s l who ⟨ev,jo,false,does,.clear q,node,has,nx,out⟩ d (M.abs m)) σ):=by
 refine okF Tryz.func357 (by kernel_rfl) ?_
 refine aa 0 ?_
 refine aa 0 ?_
 refine aa 0 ?_
 obtain⟨q',a',b',ak⟩:∃q' a' b',pK M.O q (M.abs m)=(q',a',b'):=⟨_,_,_,rfl⟩
 obtain⟨u1,u2,u3,u4⟩:=q'
 refine .fwd 1 ?_
 refine .sched [5] (upto [5] 11 0) (by kernel_rfl) ?_
 refine aa 0 ?_
 refine aD [] (cy _ _ _) ?_
 refine⟨_,wClear_,?_⟩
 refine gh [_] ak (fun σ=>PY M r q m d σ hm) (fun m' aH hb =>?_) (fun m' aH hb =>?_)
 ·refine ax [] (MN w r s l who ev jo false does node has nx out _ _ _ _ _) ?_
  refine ai 0 ?_
  refine ai 0 ?_
  refine aa 0 ?_
  exact .drop 1 1 (.done (fw (x:=⟨ev,jo,false,does,.clear q,node,has,nx,out⟩) (n:=.clear q) rfl rfl (CX ak) hb aH rfl rfl r))
 ·exact .done (fM (x:=⟨ev,jo,false,does,.clear q,node,has,nx,out⟩) (n:=.clear q) rfl rfl (CX ak) hb aH r .af [] trivial)
theorem Xm(M:AMem)(w r:Nat)(c:AV)(acc:Hp)(s:Sy)(l:Lay)(who:Int)(ev jo:Int)(does:Int)(q:Tk)(node:Int)(has:Bool)(nx out:List Int)(d:Int)(m:M.S)(σ:Hp)(hm:M.O.free (M.abs m))(o3:sO l nx (.take q)):
  ACalls Tryz.prog 357 [.ptr w 0,M.v,.int .i64 d] (WB s l who w r c acc ⟨ev,jo,false,does,.take q,node,has,nx,out⟩++(M.B m++σ)) (mT M s l who w (cz M.O s l who ⟨ev,jo,false,does,.take q,node,has,nx,out⟩ d (M.abs m)) σ):=by
 refine okF Tryz.func357 (by kernel_rfl) ?_
 refine aa 0 ?_
 refine aa 0 ?_
 refine aa 0 ?_
 obtain⟨q',a',b',ak⟩:∃q' a' b',jr M.O q (M.abs m)=(q',a',b'):=⟨_,_,_,rfl⟩
 obtain⟨u1,u2,u3,u4,u5,u6⟩:=q'
 cases u4 with
 | true =>
  refine .fwd 1 ?_
  refine .sched [5] (upto [5] 11 0) (by kernel_rfl) ?_
  refine aa 0 ?_
  refine aD [] (cy _ _ _) ?_
  refine⟨_,wTake_,?_⟩
  refine gh [_] ak (fun σ=>Eh M r q m d σ hm) (fun m' aH hb =>?_) (fun m' aH hb =>?_)
  ·refine ax [] (MJ w r s l who ev jo false does node has nx out _ _ _ _ _ _) ?_
   refine ai 0 ?_
   refine ai 0 ?_
   refine aa 0 ?_
   exact .drop 1 1 (.done (fw (x:=⟨ev,jo,false,does,.take q,node,has,nx,out⟩) (n:=.take q) rfl rfl (rZ ak) hb aH rfl rfl r))
  ·exact .done (fM (x:=⟨ev,jo,false,does,.take q,node,has,nx,out⟩) (n:=.take q) rfl rfl (rZ ak) hb aH r .af [] trivial)
 | false =>
  refine .fwd 1 ?_
  refine .sched [5] (upto [5] 11 0) (by kernel_rfl) ?_
  refine aa 0 ?_
  refine aD [] (cy _ _ _) ?_
  refine⟨_,wTake_,?_⟩
  refine gh [_] ak (fun σ=>Eh M r q m d σ hm) (fun m' aH hb =>?_) (fun m' aH hb =>?_)
  ·refine ax [] (MK w r s l who ev jo false does node has nx out _ _ _ _ _ _ o3) ?_
   refine ai 0 ?_
   refine ai 0 ?_
   refine aa 0 ?_
   exact .drop 1 1 (.done (fw (x:=⟨ev,jo,false,does,.take q,node,has,nx,out⟩) (n:=.take q) rfl rfl (rZ ak) hb aH rfl rfl r))
  ·exact .done (fM (x:=⟨ev,jo,false,does,.take q,node,has,nx,out⟩) (n:=.take q) rfl rfl (rZ ak) hb aH r .af [] trivial)
theorem Xo(M:AMem)(w r:Nat)(c:AV)(acc:Hp)(s:Sy)(l:Lay)(who:Int)(ev jo:Int)(does:Int)(q:DQ)(node:Int)(has:Bool)(nx out:List Int)(d:Int)(m:M.S)(σ:Hp)(hm:M.O.free (M.abs m))(o3:sO l nx (.push q)):
  ACalls Tryz.prog 357 [.ptr w 0,M.v,.int .i64 d] (WB s l who w r c acc ⟨ev,jo,false,does,.push q,node,has,nx,out⟩++(M.B m++σ)) (mT M s l who w (cz M.O s l who ⟨ev,jo,false,does,.push q,node,has,nx,out⟩ d (M.abs m)) σ):=by
 refine okF Tryz.func357 (by kernel_rfl) ?_
 refine aa 0 ?_
 refine aa 0 ?_
 refine aa 0 ?_
 obtain⟨q',a',b',ak⟩:∃q' a' b',fg M.O q (M.abs m)=(q',a',b'):=⟨_,_,_,rfl⟩
 refine .fwd 1 ?_
 refine .sched [5] (upto [5] 11 0) (by kernel_rfl) ?_
 refine aa 0 ?_
 refine aD [] (cy _ _ _) ?_
 refine⟨_,wPush_,?_⟩
 refine gh [_] ak (fun σ=>Qz M r q m d σ hm (by have:=o3.1.1;omega) o3.1.2) (fun m' aH hb =>?_) (fun m' aH hb =>?_)
 ·refine ax [] (N1 w r s l who ev jo false does node has nx out _ _ o3.2) ?_
  refine ai 0 ?_
  refine ai 0 ?_
  refine aa 0 ?_
  exact .drop 1 1 (.done (fw (x:=⟨ev,jo,false,does,.push q,node,has,nx,out⟩) (n:=.push q) rfl rfl (zX ak) hb aH rfl rfl r))
 ·exact .done (fM (x:=⟨ev,jo,false,does,.push q,node,has,nx,out⟩) (n:=.push q) rfl rfl (zX ak) hb aH r .af [] trivial)
theorem TC(M:AMem)(w r:Nat)(c:AV)(acc:Hp)(s:Sy)(l:Lay)(who:Int)(ev jo:Int)(does:Int)(q:Rk)(node:Int)(has:Bool)(nx out:List Int)(d:Int)(m:M.S)(σ:Hp)(hm:M.O.free (M.abs m)):
  ACalls Tryz.prog 357 [.ptr w 0,M.v,.int .i64 d] (WB s l who w r c acc ⟨ev,jo,false,does,.cX q,node,has,nx,out⟩++(M.B m++σ)) (mT M s l who w (cz M.O s l who ⟨ev,jo,false,does,.cX q,node,has,nx,out⟩ d (M.abs m)) σ):=by
 refine okF Tryz.func357 (by kernel_rfl) ?_
 refine aa 0 ?_
 refine aa 0 ?_
 refine aa 0 ?_
 obtain⟨q',a',b',ak⟩:∃q' a' b',qM M.O q (M.abs m)=(q',a',b'):=⟨_,_,_,rfl⟩
 refine .fwd 1 ?_
 refine .sched [5] (upto [5] 11 0) (by kernel_rfl) ?_
 refine aa 0 ?_
 refine aD [] (cy _ _ _) ?_
 refine⟨_,wRetire_,?_⟩
 refine gh [_] ak (fun σ=>OZ M r q m d σ hm) (fun m' aH hb =>?_) (fun m' aH hb =>?_)
 ·refine ax [] (LU w r s l who ev jo false does node has nx out _ _) ?_
  refine ai 0 ?_
  refine ai 0 ?_
  refine aa 0 ?_
  exact .drop 1 1 (.done (fw (x:=⟨ev,jo,false,does,.cX q,node,has,nx,out⟩) (n:=.cX q) rfl rfl (CD ak) hb aH rfl rfl r))
 ·exact .done (fM (x:=⟨ev,jo,false,does,.cX q,node,has,nx,out⟩) (n:=.cX q) rfl rfl (CD ak) hb aH r .af [] trivial)
theorem Xq(M:AMem)(w r:Nat)(c:AV)(acc:Hp)(s:Sy)(l:Lay)(who:Int)(ev jo:Int)(does:Int)(q:Jn)(node:Int)(has:Bool)(nx out:List Int)(d:Int)(m:M.S)(σ:Hp)(hm:M.O.free (M.abs m))(o3:sO l nx (.join q)):
  ACalls Tryz.prog 357 [.ptr w 0,M.v,.int .i64 d] (WB s l who w r c acc ⟨ev,jo,false,does,.join q,node,has,nx,out⟩++(M.B m++σ)) (mT M s l who w (cz M.O s l who ⟨ev,jo,false,does,.join q,node,has,nx,out⟩ d (M.abs m)) σ):=by
 refine okF Tryz.func357 (by kernel_rfl) ?_
 refine aa 0 ?_
 refine aa 0 ?_
 refine aa 0 ?_
 obtain⟨q',a',b',ak⟩:∃q' a' b',fV M.O q (M.abs m)=(q',a',b'):=⟨_,_,_,rfl⟩
 obtain⟨u1,u2,u3,u4,u5,u6,u7,u8,u9,u10⟩:=q'
 cases u5 with
 | true =>
  refine .fwd 1 ?_
  refine .sched [5] (upto [5] 11 0) (by kernel_rfl) ?_
  refine aa 0 ?_
  refine aD [] (cy _ _ _) ?_
  refine⟨_,wJoin_,?_⟩
  refine gh [_] ak (fun σ=>Ej M r q m d σ hm (by have:=o3.1;omega)) (fun m' aH hb =>?_) (fun m' aH hb =>?_)
  ·refine ax [] (ML w r s l who ev jo false does node has nx out _ _ _ _ _ _ _ _ _ _) ?_
   refine ai 0 ?_
   refine ai 0 ?_
   refine aa 0 ?_
   exact .drop 1 1 (.done (fw (x:=⟨ev,jo,false,does,.join q,node,has,nx,out⟩) (n:=.join q) rfl rfl (r7 ak) hb aH rfl rfl r))
  ·exact .done (fM (x:=⟨ev,jo,false,does,.join q,node,has,nx,out⟩) (n:=.join q) rfl rfl (r7 ak) hb aH r .af [] trivial)
 | false =>
  refine .fwd 1 ?_
  refine .sched [5] (upto [5] 11 0) (by kernel_rfl) ?_
  refine aa 0 ?_
  refine aD [] (cy _ _ _) ?_
  refine⟨_,wJoin_,?_⟩
  refine gh [_] ak (fun σ=>Ej M r q m d σ hm (by have:=o3.1;omega)) (fun m' aH hb =>?_) (fun m' aH hb =>?_)
  ·refine ax [] (MM w r s l who ev jo false does node has nx out _ _ _ _ _ _ _ _ _ _ o3.2) ?_
   refine ai 0 ?_
   refine ai 0 ?_
   refine aa 0 ?_
   exact .drop 1 1 (.done (fw (x:=⟨ev,jo,false,does,.join q,node,has,nx,out⟩) (n:=.join q) rfl rfl (r7 ak) hb aH rfl rfl r))
  ·exact .done (fM (x:=⟨ev,jo,false,does,.join q,node,has,nx,out⟩) (n:=.join q) rfl rfl (r7 ak) hb aH r .af [] trivial)
theorem Xn(M:AMem)(w r:Nat)(c:AV)(acc:Hp)(s:Sy)(l:Lay)(who:Int)(ev jo:Int)(does:Int)(x:List Int)(node:Int)(has:Bool)(nx out:List Int)(d:Int)(m:M.S)(σ:Hp)(hm:M.O.free (M.abs m))(hf:Fit s)(hv:∀a,bf (M.O.ld (M.abs m) a).1)(o3:sO l nx (.read x))(IW:jl c acc x∧(x=[]→c=.af)):
  ACalls Tryz.prog 357 [.ptr w 0,M.v,.int .i64 d] (WB s l who w r c acc ⟨ev,jo,false,does,.read x,node,has,nx,out⟩++(M.B m++σ)) (mT M s l who w (cz M.O s l who ⟨ev,jo,false,does,.read x,node,has,nx,out⟩ d (M.abs m)) σ):=by
 refine okF Tryz.func357 (by kernel_rfl) ?_
 refine aa 0 ?_
 refine aa 0 ?_
 refine aa 0 ?_
 obtain⟨o4,o5⟩:=o3
 obtain⟨lK,QQ⟩:=IW
 by_cases ab:x.length<cw l.words
 ·have JV:=x5 l.words
  have ak:kx M.O l (aK l node) x (M.abs m)=(x++[(M.O.ld (M.abs m) (wr (aK l node+(x.length:Nat)))).1],(M.O.ld (M.abs m) (wr (aK l node+(x.length:Nat)))).2,decide (x.length+1=cw l.words)):=if_pos ab
  have fR:aS (x++[(M.O.ld (M.abs m) (wr (aK l node+(x.length:Nat)))).1]):=fun z hz=>by rcases List.mem_append.1 hz with h | h;exact o5 z h;rw[List.mem_singleton.1 h];exact hv _
  have hx3:(x++[(M.O.ld (M.abs m) (wr (aK l node+(x.length:Nat)))).1]).length=x.length+1:=by simp
  refine .fwd 1 ?_
  refine .sched [5] (upto [5] 11 0) (by kernel_rfl) ?_
  refine aa 0 ?_
  refine aD [] (cy _ _ _) ?_
  refine⟨_,wRead_,?_⟩
  refine PI hm ab lK (fun m' b aH he =>?_) (fun m' b aH he =>?_)
  ·refine .iU 2 b 0 (x++[(M.O.ld (M.abs m) (wr (aK l node+(x.length:Nat)))).1]).length 1 _ (.int .u64) (x++[(M.O.ld (M.abs m) (wr (aK l node+(x.length:Nat)))).1]) rfl ?_ ⟨rfl,rfl,by decide⟩ 1 3 r _ rfl rfl ?_
   ·rw[List.drop_zero,← oL];exact List.take_of_length_le (by simp[aU])
   refine ax [] (C6 w r s l who ev jo false does node has nx out (x++[(M.O.ld (M.abs m) (wr (aK l node+(x.length:Nat)))).1]) _ _ _ _ _ _ _ _ hf fR (by omega)) ?_
   refine ai 0 ?_
   refine ai 0 ?_
   refine aa 0 ?_
   exact .drop 1 1 (.done (fw (x:=⟨ev,jo,false,does,.read x,node,has,nx,out⟩) (n:=.read x) rfl rfl (vt ak) (decide_eq_true he) aH rfl rfl r))
  ·exact .done (fM (x:=⟨ev,jo,false,does,.read x,node,has,nx,out⟩) (n:=.read x) rfl rfl (vt ak) (decide_eq_false he) aH r (.ae b 0 (x++[(M.O.ld (M.abs m) (wr (aK l node+(x.length:Nat)))).1]).length 1) [(b,aU (x++[(M.O.ld (M.abs m) (wr (aK l node+(x.length:Nat)))).1]))] ⟨.ae b (x++[(M.O.ld (M.abs m) (wr (aK l node+(x.length:Nat)))).1]),fun h=>absurd h (by simp)⟩)
 ·obtain⟨h0,rfl⟩:=o4.resolve_left ab
  generalize hz:([]:List Int)=z0 at lK
  cases lK with
  | ae b z=>exact absurd (QQ rfl) (by simp)
  | nil =>
  have ak:kx M.O l (aK l node) [] (M.abs m)=([],M.abs m,true):=if_neg ab
  refine .fwd 1 ?_
  refine .sched [5] (upto [5] 11 0) (by kernel_rfl) ?_
  refine aa 0 ?_
  refine aD [] (cy _ _ _) ?_
  refine⟨_,wRead_,?_⟩
  refine ax [1] (O0 M r _ _ _ _ _ _ d _ h0) ?_
  refine HJ 0 3 r _ (.int .u64) rfl rfl ?_
  refine ax [1] (C6 w r s l who ev jo false does node has nx out [] _ _ _ _ _ _ _ _ hf o5 (Nat.zero_le _)) ?_
  refine ai 0 ?_
  refine ai 0 ?_
  refine aa 0 ?_
  exact .drop 1 1 (.done (fw (x:=⟨ev,jo,false,does,.read [],node,has,nx,out⟩) (n:=.read []) rfl rfl (vt ak) rfl rfl rfl rfl r))
set_option maxHeartbeats 4000000
theorem Xj{l:Lay}{who does node:Int}{nx out:List Int}{d:Int}{x:List Int}(h:gn l who does node nx out d=.read x):x=[]:=by
 unfold gn at h
 repeat' (first | (cases h;rfl) | cases h | split at h)
theorem Xp(M:AMem)(w r0:Nat)(c:AV)(acc:Hp)(s:Sy)(l:Lay)(who:Int)(ev jo:Int)(does:Int)(node:Int)(has:Bool)(nx out:List Int)(d:Int)(m:M.S)(σ:Hp)(hm:M.O.free (M.abs m))(hf:Fit s)(hv:∀a,bf (M.O.ld (M.abs m) a).1)(o1:does=5∨does=6∨does=7→0<nx.length)(o2:does=1→nK l≠0∧l.k≠0):
  ACalls Tryz.prog 357 [.ptr w 0,M.v,.int .i64 d] (WB s l who w r0 c acc ⟨ev,jo,false,does,.none,node,has,nx,out⟩++(M.B m++σ)) (mT M s l who w (cz M.O s l who ⟨ev,jo,false,does,.none,node,has,nx,out⟩ d (M.abs m)) σ):=by
 refine okF Tryz.func357 (by kernel_rfl) ?_
 refine aa 0 ?_
 refine aa 0 ?_
 refine aa 0 ?_
 refine .mk [] _ (aaH w s l who ev jo false does .nilif node has nx out d _ o1 o2) ?_
 rintro _ _ ⟨r,rfl,rfl⟩
 have o3:sO l nx (gn l who does node nx out d):=Yv o1
 have h0:=Xi l who does node nx out d
 generalize fC:gn l who does node nx out d=n at o3 h0
 cases n with
 | none=>exact absurd rfl h0
 | pop q =>
  obtain⟨q',a',b',ak⟩:∃q' a' b',ei M.O q (M.abs m)=(q',a',b'):=⟨_,_,_,rfl⟩
  obtain⟨u1,u2,u3,u4,u5,u6,u7,u8,u9⟩:=q'
  cases u4 with
  | true =>
   refine ai 1 ?_
   refine fy.cO (.pull [1] (.refl _)) ?_
   refine .sched [5] (upto [5] 11 0) (by kernel_rfl) ?_
   refine aa 0 ?_
   refine aD [] (cy _ _ _) ?_
   refine⟨_,wPop_,?_⟩
   refine gh [_] ak (fun σ=>EU M r q m d σ hm (by have:=o3.1;omega) o3.2) (fun m' aH hb =>?_) (fun m' aH hb =>?_)
   ·refine ax [] (N2 w r s l who ev jo false does node has nx out _ _ _ _ _ _ _ _ _) ?_
    refine ai 0 ?_
    refine ai 0 ?_
    refine aa 0 ?_
    exact .drop 1 1 (.done (fw (x:=⟨ev,jo,false,does,.none,node,has,nx,out⟩) (n:=.pop q) rfl fC (sf ak) hb aH rfl rfl r))
   ·exact .done (fM (x:=⟨ev,jo,false,does,.none,node,has,nx,out⟩) (n:=.pop q) rfl fC (sf ak) hb aH r .af [] trivial)
  | false =>
   refine ai 1 ?_
   refine fy.cO (.pull [1] (.refl _)) ?_
   refine .sched [5] (upto [5] 11 0) (by kernel_rfl) ?_
   refine aa 0 ?_
   refine aD [] (cy _ _ _) ?_
   refine⟨_,wPop_,?_⟩
   refine gh [_] ak (fun σ=>EU M r q m d σ hm (by have:=o3.1;omega) o3.2) (fun m' aH hb =>?_) (fun m' aH hb =>?_)
   ·refine ax [] (N3 w r s l who ev jo false does node has nx out _ _ _ _ _ _ _ _ _) ?_
    refine ai 0 ?_
    refine ai 0 ?_
    refine aa 0 ?_
    exact .drop 1 1 (.done (fw (x:=⟨ev,jo,false,does,.none,node,has,nx,out⟩) (n:=.pop q) rfl fC (sf ak) hb aH rfl rfl r))
   ·exact .done (fM (x:=⟨ev,jo,false,does,.none,node,has,nx,out⟩) (n:=.pop q) rfl fC (sf ak) hb aH r .af [] trivial)
 | bE q =>
  obtain⟨q',a',b',ak⟩:∃q' a' b',fv M.O q (M.abs m)=(q',a',b'):=⟨_,_,_,rfl⟩
  obtain⟨u1,u2,u3,u4,u5,u6,u7,u8,u9⟩:=q'
  cases u4 with
  | true =>
   refine ai 1 ?_
   refine fy.cO (.pull [1] (.refl _)) ?_
   refine .sched [5] (upto [5] 11 0) (by kernel_rfl) ?_
   refine aa 0 ?_
   refine aD [] (cy _ _ _) ?_
   refine⟨_,wSteal_,?_⟩
   refine gh [_] ak (fun σ=>DS M r q m d σ hm (by have:=o3.1;omega) o3.2) (fun m' aH hb =>?_) (fun m' aH hb =>?_)
   ·refine ax [] (LQ w r s l who ev jo false does node has nx out _ _ _ _ _ _ _ _ _) ?_
    refine ai 0 ?_
    refine ai 0 ?_
    refine aa 0 ?_
    exact .drop 1 1 (.done (fw (x:=⟨ev,jo,false,does,.none,node,has,nx,out⟩) (n:=.bE q) rfl fC (rT ak) hb aH rfl rfl r))
   ·exact .done (fM (x:=⟨ev,jo,false,does,.none,node,has,nx,out⟩) (n:=.bE q) rfl fC (rT ak) hb aH r .af [] trivial)
  | false =>
   refine ai 1 ?_
   refine fy.cO (.pull [1] (.refl _)) ?_
   refine .sched [5] (upto [5] 11 0) (by kernel_rfl) ?_
   refine aa 0 ?_
   refine aD [] (cy _ _ _) ?_
   refine⟨_,wSteal_,?_⟩
   refine gh [_] ak (fun σ=>DS M r q m d σ hm (by have:=o3.1;omega) o3.2) (fun m' aH hb =>?_) (fun m' aH hb =>?_)
   ·refine ax [] (LR w r s l who ev jo false does node has nx out _ _ _ _ _ _ _ _ _) ?_
    refine ai 0 ?_
    refine ai 0 ?_
    refine aa 0 ?_
    exact .drop 1 1 (.done (fw (x:=⟨ev,jo,false,does,.none,node,has,nx,out⟩) (n:=.bE q) rfl fC (rT ak) hb aH rfl rfl r))
   ·exact .done (fM (x:=⟨ev,jo,false,does,.none,node,has,nx,out⟩) (n:=.bE q) rfl fC (rT ak) hb aH r .af [] trivial)
 | quiet q =>
  obtain⟨q',a',b',ak⟩:∃q' a' b',pJ M.O q (M.abs m)=(q',a',b'):=⟨_,_,_,rfl⟩
  obtain⟨u1,u2,u3,u4⟩:=q'
  cases u3 with
  | true =>
   refine ai 1 ?_
   refine fy.cO (.pull [1] (.refl _)) ?_
   refine .sched [5] (upto [5] 11 0) (by kernel_rfl) ?_
   refine aa 0 ?_
   refine aD [] (cy _ _ _) ?_
   refine⟨_,wQuiet_,?_⟩
   refine gh [_] ak (fun σ=>DT M r q m d σ hm) (fun m' aH hb =>?_) (fun m' aH hb =>?_)
   ·refine ax [] (CR w r s l who ev jo false does node has nx out _ _ _ _ _) ?_
    refine ai 0 ?_
    refine ai 0 ?_
    refine aa 0 ?_
    exact .drop 1 1 (.done (fw (x:=⟨ev,jo,false,does,.none,node,has,nx,out⟩) (n:=.quiet q) rfl fC (tA ak) hb aH rfl rfl r))
   ·exact .done (fM (x:=⟨ev,jo,false,does,.none,node,has,nx,out⟩) (n:=.quiet q) rfl fC (tA ak) hb aH r .af [] trivial)
  | false =>
   refine ai 1 ?_
   refine fy.cO (.pull [1] (.refl _)) ?_
   refine .sched [5] (upto [5] 11 0) (by kernel_rfl) ?_
   refine aa 0 ?_
   refine aD [] (cy _ _ _) ?_
   refine⟨_,wQuiet_,?_⟩
   refine gh [_] ak (fun σ=>DT M r q m d σ hm) (fun m' aH hb =>?_) (fun m' aH hb =>?_)
   ·refine ax [] (CR w r s l who ev jo false does node has nx out _ _ _ _ _) ?_
    refine ai 0 ?_
    refine ai 0 ?_
    refine aa 0 ?_
    exact .drop 1 1 (.done (fw (x:=⟨ev,jo,false,does,.none,node,has,nx,out⟩) (n:=.quiet q) rfl fC (tA ak) hb aH rfl rfl r))
   ·exact .done (fM (x:=⟨ev,jo,false,does,.none,node,has,nx,out⟩) (n:=.quiet q) rfl fC (tA ak) hb aH r .af [] trivial)
 | clear q =>
  obtain⟨q',a',b',ak⟩:∃q' a' b',pK M.O q (M.abs m)=(q',a',b'):=⟨_,_,_,rfl⟩
  obtain⟨u1,u2,u3,u4⟩:=q'
  refine ai 1 ?_
  refine fy.cO (.pull [1] (.refl _)) ?_
  refine .sched [5] (upto [5] 11 0) (by kernel_rfl) ?_
  refine aa 0 ?_
  refine aD [] (cy _ _ _) ?_
  refine⟨_,wClear_,?_⟩
  refine gh [_] ak (fun σ=>PY M r q m d σ hm) (fun m' aH hb =>?_) (fun m' aH hb =>?_)
  ·refine ax [] (MN w r s l who ev jo false does node has nx out _ _ _ _ _) ?_
   refine ai 0 ?_
   refine ai 0 ?_
   refine aa 0 ?_
   exact .drop 1 1 (.done (fw (x:=⟨ev,jo,false,does,.none,node,has,nx,out⟩) (n:=.clear q) rfl fC (CX ak) hb aH rfl rfl r))
  ·exact .done (fM (x:=⟨ev,jo,false,does,.none,node,has,nx,out⟩) (n:=.clear q) rfl fC (CX ak) hb aH r .af [] trivial)
 | read x =>
  obtain rfl:x=[]:=Xj fC
  have IW:jl .af [] []∧(([]:List Int)=[]→AV.af=.af):=⟨.nil,fun _=>rfl⟩
  obtain⟨o4,o5⟩:=o3
  obtain⟨lK,QQ⟩:=IW
  by_cases ab:([]:List Int).length<cw l.words
  ·have JV:=x5 l.words
   have ak:kx M.O l (aK l node) ([]:List Int) (M.abs m)=(([]:List Int)++[(M.O.ld (M.abs m) (wr (aK l node+(([]:List Int).length:Nat)))).1],(M.O.ld (M.abs m) (wr (aK l node+(([]:List Int).length:Nat)))).2,decide (([]:List Int).length+1=cw l.words)):=if_pos ab
   have fR:aS (([]:List Int)++[(M.O.ld (M.abs m) (wr (aK l node+(([]:List Int).length:Nat)))).1]):=fun z hz=>by rcases List.mem_append.1 hz with h | h;exact o5 z h;rw[List.mem_singleton.1 h];exact hv _
   have hx3:(([]:List Int)++[(M.O.ld (M.abs m) (wr (aK l node+(([]:List Int).length:Nat)))).1]).length=([]:List Int).length+1:=by simp
   refine ai 1 ?_
   refine fy.cO (.pull [1] (.refl _)) ?_
   refine .sched [5] (upto [5] 11 0) (by kernel_rfl) ?_
   refine aa 0 ?_
   refine aD [] (cy _ _ _) ?_
   refine⟨_,wRead_,?_⟩
   refine PI hm ab lK (fun m' b aH he =>?_) (fun m' b aH he =>?_)
   ·refine .iU 2 b 0 (([]:List Int)++[(M.O.ld (M.abs m) (wr (aK l node+(([]:List Int).length:Nat)))).1]).length 1 _ (.int .u64) (([]:List Int)++[(M.O.ld (M.abs m) (wr (aK l node+(([]:List Int).length:Nat)))).1]) rfl ?_ ⟨rfl,rfl,by decide⟩ 1 3 r _ rfl rfl ?_
    ·rw[List.drop_zero,← oL];exact List.take_of_length_le (by simp[aU])
    refine ax [] (C6 w r s l who ev jo false does node has nx out (([]:List Int)++[(M.O.ld (M.abs m) (wr (aK l node+(([]:List Int).length:Nat)))).1]) _ _ _ _ _ _ _ _ hf fR (by omega)) ?_
    refine ai 0 ?_
    refine ai 0 ?_
    refine aa 0 ?_
    exact .drop 1 1 (.done (fw (x:=⟨ev,jo,false,does,.none,node,has,nx,out⟩) (n:=.read ([]:List Int)) rfl fC (vt ak) (decide_eq_true he) aH rfl rfl r))
   ·exact .done (fM (x:=⟨ev,jo,false,does,.none,node,has,nx,out⟩) (n:=.read ([]:List Int)) rfl fC (vt ak) (decide_eq_false he) aH r (.ae b 0 (([]:List Int)++[(M.O.ld (M.abs m) (wr (aK l node+(([]:List Int).length:Nat)))).1]).length 1) [(b,aU (([]:List Int)++[(M.O.ld (M.abs m) (wr (aK l node+(([]:List Int).length:Nat)))).1]))] ⟨.ae b (([]:List Int)++[(M.O.ld (M.abs m) (wr (aK l node+(([]:List Int).length:Nat)))).1]),fun h=>absurd h (by simp)⟩)
  ·obtain⟨h0,-⟩:=o4.resolve_left ab
   generalize hz:([]:List Int)=z0 at lK
   cases lK with
   | nil =>
   have ak:kx M.O l (aK l node) [] (M.abs m)=([],M.abs m,true):=if_neg ab
   refine ai 1 ?_
   refine fy.cO (.pull [1] (.refl _)) ?_
   refine .sched [5] (upto [5] 11 0) (by kernel_rfl) ?_
   refine aa 0 ?_
   refine aD [] (cy _ _ _) ?_
   refine⟨_,wRead_,?_⟩
   refine ax [1] (O0 M r _ _ _ _ _ _ d _ h0) ?_
   refine HJ 0 3 r _ (.int .u64) rfl rfl ?_
   refine ax [1] (C6 w r s l who ev jo false does node has nx out [] _ _ _ _ _ _ _ _ hf o5 (Nat.zero_le _)) ?_
   refine ai 0 ?_
   refine ai 0 ?_
   refine aa 0 ?_
   exact .drop 1 1 (.done (fw (x:=⟨ev,jo,false,does,.none,node,has,nx,out⟩) (n:=.read []) rfl fC (vt ak) rfl rfl rfl rfl r))
 | join q =>
  obtain⟨q',a',b',ak⟩:∃q' a' b',fV M.O q (M.abs m)=(q',a',b'):=⟨_,_,_,rfl⟩
  obtain⟨u1,u2,u3,u4,u5,u6,u7,u8,u9,u10⟩:=q'
  cases u5 with
  | true =>
   refine ai 1 ?_
   refine fy.cO (.pull [1] (.refl _)) ?_
   refine .sched [5] (upto [5] 11 0) (by kernel_rfl) ?_
   refine aa 0 ?_
   refine aD [] (cy _ _ _) ?_
   refine⟨_,wJoin_,?_⟩
   refine gh [_] ak (fun σ=>Ej M r q m d σ hm (by have:=o3.1;omega)) (fun m' aH hb =>?_) (fun m' aH hb =>?_)
   ·refine ax [] (ML w r s l who ev jo false does node has nx out _ _ _ _ _ _ _ _ _ _) ?_
    refine ai 0 ?_
    refine ai 0 ?_
    refine aa 0 ?_
    exact .drop 1 1 (.done (fw (x:=⟨ev,jo,false,does,.none,node,has,nx,out⟩) (n:=.join q) rfl fC (r7 ak) hb aH rfl rfl r))
   ·exact .done (fM (x:=⟨ev,jo,false,does,.none,node,has,nx,out⟩) (n:=.join q) rfl fC (r7 ak) hb aH r .af [] trivial)
  | false =>
   refine ai 1 ?_
   refine fy.cO (.pull [1] (.refl _)) ?_
   refine .sched [5] (upto [5] 11 0) (by kernel_rfl) ?_
   refine aa 0 ?_
   refine aD [] (cy _ _ _) ?_
   refine⟨_,wJoin_,?_⟩
   refine gh [_] ak (fun σ=>Ej M r q m d σ hm (by have:=o3.1;omega)) (fun m' aH hb =>?_) (fun m' aH hb =>?_)
   ·refine ax [] (MM w r s l who ev jo false does node has nx out _ _ _ _ _ _ _ _ _ _ o3.2) ?_
    refine ai 0 ?_
    refine ai 0 ?_
    refine aa 0 ?_
    exact .drop 1 1 (.done (fw (x:=⟨ev,jo,false,does,.none,node,has,nx,out⟩) (n:=.join q) rfl fC (r7 ak) hb aH rfl rfl r))
   ·exact .done (fM (x:=⟨ev,jo,false,does,.none,node,has,nx,out⟩) (n:=.join q) rfl fC (r7 ak) hb aH r .af [] trivial)
 | take q =>
  obtain⟨q',a',b',ak⟩:∃q' a' b',jr M.O q (M.abs m)=(q',a',b'):=⟨_,_,_,rfl⟩
  obtain⟨u1,u2,u3,u4,u5,u6⟩:=q'
  cases u4 with
  | true =>
   refine ai 1 ?_
   refine fy.cO (.pull [1] (.refl _)) ?_
   refine .sched [5] (upto [5] 11 0) (by kernel_rfl) ?_
   refine aa 0 ?_
   refine aD [] (cy _ _ _) ?_
   refine⟨_,wTake_,?_⟩
   refine gh [_] ak (fun σ=>Eh M r q m d σ hm) (fun m' aH hb =>?_) (fun m' aH hb =>?_)
   ·refine ax [] (MJ w r s l who ev jo false does node has nx out _ _ _ _ _ _) ?_
    refine ai 0 ?_
    refine ai 0 ?_
    refine aa 0 ?_
    exact .drop 1 1 (.done (fw (x:=⟨ev,jo,false,does,.none,node,has,nx,out⟩) (n:=.take q) rfl fC (rZ ak) hb aH rfl rfl r))
   ·exact .done (fM (x:=⟨ev,jo,false,does,.none,node,has,nx,out⟩) (n:=.take q) rfl fC (rZ ak) hb aH r .af [] trivial)
  | false =>
   refine ai 1 ?_
   refine fy.cO (.pull [1] (.refl _)) ?_
   refine .sched [5] (upto [5] 11 0) (by kernel_rfl) ?_
   refine aa 0 ?_
   refine aD [] (cy _ _ _) ?_
   refine⟨_,wTake_,?_⟩
   refine gh [_] ak (fun σ=>Eh M r q m d σ hm) (fun m' aH hb =>?_) (fun m' aH hb =>?_)
   ·refine ax [] (MK w r s l who ev jo false does node has nx out _ _ _ _ _ _ o3) ?_
    refine ai 0 ?_
    refine ai 0 ?_
    refine aa 0 ?_
    exact .drop 1 1 (.done (fw (x:=⟨ev,jo,false,does,.none,node,has,nx,out⟩) (n:=.take q) rfl fC (rZ ak) hb aH rfl rfl r))
   ·exact .done (fM (x:=⟨ev,jo,false,does,.none,node,has,nx,out⟩) (n:=.take q) rfl fC (rZ ak) hb aH r .af [] trivial)
 | push q =>
  obtain⟨q',a',b',ak⟩:∃q' a' b',fg M.O q (M.abs m)=(q',a',b'):=⟨_,_,_,rfl⟩
  refine ai 1 ?_
  refine fy.cO (.pull [1] (.refl _)) ?_
  refine .sched [5] (upto [5] 11 0) (by kernel_rfl) ?_
  refine aa 0 ?_
  refine aD [] (cy _ _ _) ?_
  refine⟨_,wPush_,?_⟩
  refine gh [_] ak (fun σ=>Qz M r q m d σ hm (by have:=o3.1.1;omega) o3.1.2) (fun m' aH hb =>?_) (fun m' aH hb =>?_)
  ·refine ax [] (N1 w r s l who ev jo false does node has nx out _ _ o3.2) ?_
   refine ai 0 ?_
   refine ai 0 ?_
   refine aa 0 ?_
   exact .drop 1 1 (.done (fw (x:=⟨ev,jo,false,does,.none,node,has,nx,out⟩) (n:=.push q) rfl fC (zX ak) hb aH rfl rfl r))
  ·exact .done (fM (x:=⟨ev,jo,false,does,.none,node,has,nx,out⟩) (n:=.push q) rfl fC (zX ak) hb aH r .af [] trivial)
 | cX q =>
  obtain⟨q',a',b',ak⟩:∃q' a' b',qM M.O q (M.abs m)=(q',a',b'):=⟨_,_,_,rfl⟩
  refine ai 1 ?_
  refine fy.cO (.pull [1] (.refl _)) ?_
  refine .sched [5] (upto [5] 11 0) (by kernel_rfl) ?_
  refine aa 0 ?_
  refine aD [] (cy _ _ _) ?_
  refine⟨_,wRetire_,?_⟩
  refine gh [_] ak (fun σ=>OZ M r q m d σ hm) (fun m' aH hb =>?_) (fun m' aH hb =>?_)
  ·refine ax [] (LU w r s l who ev jo false does node has nx out _ _) ?_
   refine ai 0 ?_
   refine ai 0 ?_
   refine aa 0 ?_
   exact .drop 1 1 (.done (fw (x:=⟨ev,jo,false,does,.none,node,has,nx,out⟩) (n:=.cX q) rfl fC (CD ak) hb aH rfl rfl r))
  ·exact .done (fM (x:=⟨ev,jo,false,does,.none,node,has,nx,out⟩) (n:=.cX q) rfl fC (CD ak) hb aH r .af [] trivial)
theorem aak(M:AMem)(w r:Nat)(c:AV)(acc:Hp)(s:Sy)(l:Lay)(who:Int)(x:WS)(d:Int)(m:M.S)(σ:Hp)(hf:Fit s)(hm:M.O.free (M.abs m))(hv:∀a,bf (M.O.ld (M.abs m) a).1)(ok:IT l x)(rd:v7 c acc x.now):
  ACalls Tryz.prog 357 [.ptr w 0,M.v,.int .i64 d] (WB s l who w r c acc x++(M.B m++σ)) (mT M s l who w (cz M.O s l who x d (M.abs m)) σ):=by
 obtain⟨ev,jo,en,does,n,node,has,nx,out⟩:=x
 obtain⟨o1,o2,o3⟩:=ok
 cases en with
 | true =>
  refine okF Tryz.func357 (by kernel_rfl) ?_
  refine aa 0 ?_
  refine aa 0 ?_
  exact .done (VD rfl rfl rd)
 | false =>
  cases n with
  | none=>exact Xp M w r c acc s l who ev jo does node has nx out d m σ hm hf hv o1 o2
  | pop q=>exact Y9 M w r c acc s l who ev jo does q node has nx out d m σ hm o3
  | bE q=>exact Vp M w r c acc s l who ev jo does q node has nx out d m σ hm o3
  | quiet q=>exact Vq M w r c acc s l who ev jo does q node has nx out d m σ hm
  | clear q=>exact Vr M w r c acc s l who ev jo does q node has nx out d m σ hm
  | read q=>exact Xn M w r c acc s l who ev jo does q node has nx out d m σ hm hf hv o3 rd
  | join q=>exact Xq M w r c acc s l who ev jo does q node has nx out d m σ hm o3
  | take q=>exact Xm M w r c acc s l who ev jo does q node has nx out d m σ hm o3
  | push q=>exact Xo M w r c acc s l who ev jo does q node has nx out d m σ hm o3
  | cX q=>exact TC M w r c acc s l who ev jo does q node has nx out d m σ hm
end Go.Proofs.YtnpidbjdilnhlaaGreat
