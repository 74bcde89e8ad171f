import Derived.Test.YtnpidbjdilnhlaaGreatBn25
namespace Go.Proofs.YtnpidbjdilnhlaaGreat
open Go.RowKit
set_option maxRecDepth 100000
def E7(r:Nat):Nw→AV
 | .none=>.nilif
 | .pop _=>.iface 367 (.ptr r 0)
 | .bE _=>.iface 372 (.ptr r 0)
 | .quiet _=>.iface 374 (.ptr r 0)
 | .clear _=>.iface 377 (.ptr r 0)
 | .read _=>.iface 380 (.ptr r 0)
 | .join _=>.iface 385 (.ptr r 0)
 | .take _=>.iface 388 (.ptr r 0)
 | .push _=>.iface 393 (.ptr r 0)
 | .cX _=>.iface 395 (.ptr r 0)
def E8(l:Lay)(node:Int)(r:Nat)(c:AV)(acc:Hp):Nw→Hp
 | .none=>[]
 | .pop q=>[(r,j0 q)]
 | .bE q=>[(r,j0 q)]
 | .quiet t=>[(r,Bt t)]
 | .clear t=>[(r,B5 t)]
 | .read x=>(r,iH c (aK l node) l.what l.words false x.length false 0)::acc
 | .join j=>[(r,wI j)]
 | .take t=>[(r,wD t)]
 | .push q=>[(r,j0 q)]
 | .cX t=>[(r,Br t)]
def rM(base cap n:Int):DQ:=⟨base,cap,n,false,false,0,0,0,0⟩
def gn(l:Lay)(who does node:Int)(nx out:List Int)(d:Int):Nw:=
 if does=0 then .pop (rM (fe l who) (du l) 0)
 else if does=1 then .bE (rM (fe l (zO l who d)) (du l) 0)
 else if does=2 then .quiet ⟨bR l,bN l,false,false⟩
 else if does=3 then .clear ⟨bR l,bN l,node,false⟩
 else if does=4 then .read []
 else if does=5 then .join ⟨aK l (nx.headD 0),l.what,l.words,out,false,false,0,0,false,0⟩
 else if does=6 then .take ⟨bR l,bN l,nx.headD 0,false,false,false⟩
 else if does=7 then .push (rM (fe l who) (du l) (wu (nx.headD 0)))
 else .cX ⟨bR l,bN l,0,false⟩
theorem ET{l:Lay}{who does node d:Int}{nx out:List Int}(h:does=0):gn l who does node nx out d=.pop (rM (fe l who) (du l) 0):=by subst h;rfl
theorem ES{l:Lay}{who does node d:Int}{nx out:List Int}(h:does=1):gn l who does node nx out d=.bE (rM (fe l (zO l who d)) (du l) 0):=by subst h;rfl
theorem ER{l:Lay}{who does node d:Int}{nx out:List Int}(h:does=2):gn l who does node nx out d=.quiet ⟨bR l,bN l,false,false⟩:=by subst h;rfl
theorem EP{l:Lay}{who does node d:Int}{nx out:List Int}(h:does=3):gn l who does node nx out d=.clear ⟨bR l,bN l,node,false⟩:=by subst h;rfl
theorem EO{l:Lay}{who does node d:Int}{nx out:List Int}(h:does=4):gn l who does node nx out d=.read []:=by subst h;rfl
theorem EN{l:Lay}{who does node d:Int}{nx out:List Int}(h:does=5):gn l who does node nx out d=.join ⟨aK l (nx.headD 0),l.what,l.words,out,false,false,0,0,false,0⟩:=by subst h;rfl
theorem EM{l:Lay}{who does node d:Int}{nx out:List Int}(h:does=6):gn l who does node nx out d=.take ⟨bR l,bN l,nx.headD 0,false,false,false⟩:=by subst h;rfl
theorem EL{l:Lay}{who does node d:Int}{nx out:List Int}(h:does=7):gn l who does node nx out d=.push (rM (fe l who) (du l) (wu (nx.headD 0))):=by subst h;rfl
theorem EK{l:Lay}{who does node d:Int}{nx out:List Int}(h0:¬does=0)(h1:¬does=1)(h2:¬does=2)(h3:¬does=3)(h4:¬does=4)(h5:¬does=5)(h6:¬does=6)(h7:¬does=7):gn l who does node nx out d=.cX ⟨bR l,bN l,0,false⟩:=by
 unfold gn;rw[if_neg h0,if_neg h1,if_neg h2,if_neg h3,if_neg h4,if_neg h5,if_neg h6,if_neg h7]
theorem GD{nx:List Int}(h:0<nx.length):nx[((0:Int)).toNat]?=some (nx.headD 0):=by
 cases nx with
 | nil=>simp at h
 | cons z nx=>rfl
theorem aaH(w:Nat)(s:Sy)(l:Lay)(who ev jo:Int)(en:Bool)(does:Int)(nv:AV)(node:Int)(has:Bool)(nx out:List Int)(d:Int)(σ:Hp)(hx:does=5∨does=6∨does=7→0<nx.length)(h1:does=1→nK l≠0∧l.k≠0):ACalls Tryz.prog 358 [.ptr w 0,.int .i64 d] ((w,cR s l who ev jo en does nv node has nx out)::σ) (fun x σ'=>∃r,x=E7 r (gn l who does node nx out d)∧σ'=E8 l node r .af [] (gn l who does node nx out d)++((w,cR s l who ev jo en does nv node has nx out)::σ)):=by
 refine okF Tryz.func358 (by kernel_rfl) ?_
 refine aa 0 ?_
 refine ax [] (xA l _) ?_
 intro aC
 refine ai 0 ?_
 refine aa 1 ?_
 refine ao (fun c2 =>?_) (fun c2 =>?_)
 ·have c2:does=0:=c2
  refine .sched [8] (upto [8] 13 0) (by kernel_rfl) ?_
  refine aa 1 ?_
  refine aa 1 ?_
  refine aD [] (vB l _ _) ?_
  intro pB
  exact .drop 1 1 (.done ⟨_,by rw[ET (by assumption)];rfl,by rw[ET (by assumption)];rfl⟩)
 ·have c2:¬(does=0):=c2
  refine ao (fun c4 =>?_) (fun c4 =>?_)
  ·have c4:does=1:=c4
   refine .sched [6,7] (upto [6,7] 12 0) (by kernel_rfl) ?_
   refine aa 1 ?_
   refine aD [1] (Zb w s l who ev jo en does nv node has nx out d _ (h1 (by assumption)).1 (h1 (by assumption)).2) ?_
   refine aD [] (vB l _ _) ?_
   intro uP
   exact .drop 1 1 (.done ⟨_,by rw[ES (by assumption)];rfl,by rw[ES (by assumption)];rfl⟩)
  ·have c4:¬(does=1):=c4
   refine ao (fun c6 =>?_) (fun c6 =>?_)
   ·have c6:does=2:=c6
    refine aa 0 ?_
    intro bl7
    exact .drop 1 1 (.done ⟨_,by rw[ER (by assumption)];rfl,by rw[ER (by assumption)];rfl⟩)
   ·have c6:¬(does=2):=c6
    refine ao (fun c8 =>?_) (fun c8 =>?_)
    ·have c8:does=3:=c8
     refine .sched [] (upto [] 9 0) (by kernel_rfl) ?_
     refine aa 0 ?_
     refine aa 1 ?_
     intro bl9
     exact .drop 1 1 (.done ⟨_,by rw[EP (by assumption)];rfl,by rw[EP (by assumption)];rfl⟩)
    ·have c8:¬(does=3):=c8
     refine ao (fun iq =>?_) (fun iq =>?_)
     ·have iq:does=4:=iq
      refine .sched [8] (upto [8] 13 0) (by kernel_rfl) ?_
      refine aa 1 ?_
      refine aa 1 ?_
      refine aD [] (DV l _ _) ?_
      intro bl11
      exact .drop 1 1 (.done ⟨_,by rw[EO (by assumption)];rfl,by rw[EO (by assumption)];rfl⟩)
     ·have iq:¬(does=4):=iq
      refine ao (fun s8 =>?_) (fun s8 =>?_)
      ·have s8:does=5:=s8
       refine .sched [10] (upto [10] 19 0) (by kernel_rfl) ?_
       refine aa 1 ?_
       refine aa 1 ?_
       refine ag.mk rfl ?_
       refine bH.mk (nx.headD 0) (by decide) (GD (hx (by omega))) ?_
       refine aD [] (DV l _ _) ?_
       refine aa 1 ?_
       intro bl13
       exact .drop 1 1 (.done ⟨_,by rw[EN (by assumption)];rfl,by rw[EN (by assumption)];rfl⟩)
      ·have s8:¬(does=5):=s8
       refine ao (fun qy =>?_) (fun qy =>?_)
       ·have qy:does=6:=qy
        refine .sched [] (upto [] 11 0) (by kernel_rfl) ?_
        refine aa 0 ?_
        refine aa 1 ?_
        refine ag.mk rfl ?_
        refine bH.mk (nx.headD 0) (by decide) (GD (hx (by omega))) ?_
        intro bl15
        exact .drop 1 1 (.done ⟨_,by rw[EM (by assumption)];rfl,by rw[EM (by assumption)];rfl⟩)
       ·have qy:¬(does=6):=qy
        refine ao (fun s7 =>?_) (fun s7 =>?_)
        ·have s7:does=7:=s7
         refine .sched [8] (upto [8] 20 0) (by kernel_rfl) ?_
         refine aa 1 ?_
         refine aa 1 ?_
         refine aD [] (vB l _ _) ?_
         refine aa 1 ?_
         refine ag.mk rfl ?_
         refine bH.mk (nx.headD 0) (by decide) (GD (hx (by omega))) ?_
         intro bl17
         exact .drop 1 1 (.done ⟨_,by rw[EL (by assumption)];rfl,by rw[EL (by assumption)];rfl⟩)
        ·have s7:¬(does=7):=s7
         refine aa 0 ?_
         intro bl18
         exact .drop 1 1 (.done ⟨_,by rw[EK (by assumption) (by assumption) (by assumption) (by assumption) (by assumption) (by assumption) (by assumption) (by assumption)];rfl,by rw[EK (by assumption) (by assumption) (by assumption) (by assumption) (by assumption) (by assumption) (by assumption) (by assumption)];rfl⟩)
theorem N2(w r:Nat)(s:Sy)(l:Lay)(who ev jo:Int)(en:Bool)(does:Int)(node:Int)(has:Bool)(nx out:List Int)(base cap n:Int)(e9:Bool)(at_:Nat)(b t x:Int)(σ:Hp):ACalls Tryz.prog 359 [.ptr w 0] ((w,cR s l who ev jo en does (.iface 367 (.ptr r 0)) node has nx out)::(r,j0 ⟨base,cap,n,true,e9,at_,b,t,x⟩)::σ) (az (.int .i64 (oQ l n)) ((w,cR s l who ev jo en does (.iface 367 (.ptr r 0)) (mH l n) true nx out)::(r,j0 ⟨base,cap,n,true,e9,at_,b,t,x⟩)::σ)):=by
 refine okF Tryz.func359 (by kernel_rfl) ?_
 refine aa 0 ?_
 refine aa 1 ?_
 refine aa 1 ?_
 refine ax [] (Q7 w s l who ev jo en does (.iface 367 (.ptr r 0)) node has nx out n _) ?_
 exact .done ⟨rfl,rfl⟩
theorem N3(w r:Nat)(s:Sy)(l:Lay)(who ev jo:Int)(en:Bool)(does:Int)(node:Int)(has:Bool)(nx out:List Int)(base cap n:Int)(e9:Bool)(at_:Nat)(b t x:Int)(σ:Hp):ACalls Tryz.prog 359 [.ptr w 0] ((w,cR s l who ev jo en does (.iface 367 (.ptr r 0)) node has nx out)::(r,j0 ⟨base,cap,n,false,e9,at_,b,t,x⟩)::σ) (az (.int .i64 (oN l)) ((w,cR s l who ev jo en does (.iface 367 (.ptr r 0)) node has nx out)::(r,j0 ⟨base,cap,n,false,e9,at_,b,t,x⟩)::σ)):=by
 refine okF Tryz.func359 (by kernel_rfl) ?_
 refine aa 0 ?_
 refine aa 1 ?_
 refine ax [] (aaw w s l who ev jo en does (.iface 367 (.ptr r 0)) node has nx out _) ?_
 exact .done ⟨rfl,rfl⟩
theorem LQ(w r:Nat)(s:Sy)(l:Lay)(who ev jo:Int)(en:Bool)(does:Int)(node:Int)(has:Bool)(nx out:List Int)(base cap n:Int)(e9:Bool)(at_:Nat)(b t x:Int)(σ:Hp):ACalls Tryz.prog 359 [.ptr w 0] ((w,cR s l who ev jo en does (.iface 372 (.ptr r 0)) node has nx out)::(r,j0 ⟨base,cap,n,true,e9,at_,b,t,x⟩)::σ) (az (.int .i64 (oQ l n)) ((w,cR s l who ev jo en does (.iface 372 (.ptr r 0)) (mH l n) true nx out)::(r,j0 ⟨base,cap,n,true,e9,at_,b,t,x⟩)::σ)):=by
 refine okF Tryz.func359 (by kernel_rfl) ?_
 refine aa 0 ?_
 refine aa 1 ?_
 refine aa 1 ?_
 refine ax [] (Q7 w s l who ev jo en does (.iface 372 (.ptr r 0)) node has nx out n _) ?_
 exact .done ⟨rfl,rfl⟩
theorem LR(w r:Nat)(s:Sy)(l:Lay)(who ev jo:Int)(en:Bool)(does:Int)(node:Int)(has:Bool)(nx out:List Int)(base cap n:Int)(e9:Bool)(at_:Nat)(b t x:Int)(σ:Hp):ACalls Tryz.prog 359 [.ptr w 0] ((w,cR s l who ev jo en does (.iface 372 (.ptr r 0)) node has nx out)::(r,j0 ⟨base,cap,n,false,e9,at_,b,t,x⟩)::σ) (az (.int .i64 2) ((w,cR s l who ev jo en does (.iface 372 (.ptr r 0)) node has nx out)::(r,j0 ⟨base,cap,n,false,e9,at_,b,t,x⟩)::σ)):=by
 refine okF Tryz.func359 (by kernel_rfl) ?_
 refine aa 0 ?_
 refine aa 1 ?_
 exact .done ⟨rfl,rfl⟩
def rX(l:Lay):Int:=if l.k<2 then 0 else 1
theorem CR(w r:Nat)(s:Sy)(l:Lay)(who ev jo:Int)(en:Bool)(does:Int)(node:Int)(has:Bool)(nx out:List Int)(f c0:Int)(is e9:Bool)(σ:Hp):ACalls Tryz.prog 359 [.ptr w 0] ((w,cR s l who ev jo en does (.iface 374 (.ptr r 0)) node has nx out)::(r,Bt ⟨f,c0,is,e9⟩)::σ) (az (.int .i64 (rX l)) ((w,cR s l who ev jo is does (.iface 374 (.ptr r 0)) node has nx out)::(r,Bt ⟨f,c0,is,e9⟩)::σ)):=by
 refine okF Tryz.func359 (by kernel_rfl) ?_
 cases is with
 | true =>
  refine aa 0 ?_
  refine aa 1 ?_
  refine ai 0 ?_
  refine eH [] (Ic w s l who ev jo true does (.iface 374 (.ptr r 0)) node has nx out _) (fun c =>?_) (fun c =>?_)
  ·exact .done ⟨aN (if_pos (of_decide_eq_true (by assumption))).symm,by subst_vars;rfl⟩
  ·exact .done ⟨aN (if_neg (of_decide_eq_false (by assumption))).symm,by subst_vars;rfl⟩
 | false =>
  refine aa 0 ?_
  refine aa 1 ?_
  refine ai 0 ?_
  refine eH [] (Ic w s l who ev jo false does (.iface 374 (.ptr r 0)) node has nx out _) (fun c =>?_) (fun c =>?_)
  ·exact .done ⟨aN (if_pos (of_decide_eq_true (by assumption))).symm,by subst_vars;rfl⟩
  ·exact .done ⟨aN (if_neg (of_decide_eq_false (by assumption))).symm,by subst_vars;rfl⟩
theorem MN(w r:Nat)(s:Sy)(l:Lay)(who ev jo:Int)(en:Bool)(does:Int)(node:Int)(has:Bool)(nx out:List Int)(f c0 v:Int)(e9:Bool)(σ:Hp):ACalls Tryz.prog 359 [.ptr w 0] ((w,cR s l who ev jo en does (.iface 377 (.ptr r 0)) node has nx out)::(r,B5 ⟨f,c0,v,e9⟩)::σ) (az (.int .i64 4) ((w,cR s l who ev jo en does (.iface 377 (.ptr r 0)) node has nx out)::(r,B5 ⟨f,c0,v,e9⟩)::σ)):=by
 refine okF Tryz.func359 (by kernel_rfl) ?_
 refine aa 0 ?_
 exact .done ⟨rfl,rfl⟩
theorem C6(w r:Nat)(s:Sy)(l:Lay)(who ev jo:Int)(en:Bool)(does:Int)(node:Int)(has:Bool)(nx out:List Int)(x:List Int)(base what words:Int)(e9:Bool)(at_:Nat)(ld:Bool)(z:Int)(σ:Hp)(hf:Fit s)(hx:aS x)(lx:x.length≤10000):ACalls Tryz.prog 359 [.ptr w 0] ((w,cR s l who ev jo en does (.iface 380 (.ptr r 0)) node has nx out)::(r,iH (.ah (.int .u64) x) base what words e9 at_ ld z)::σ) (az (.int .i64 (sc s node)) ((w,cR s l who (wr (ev+1)) jo en does (.iface 380 (.ptr r 0)) node has (an s.n s.aR node) (qd (mY s node x) (iD s x node.toNat)))::(r,iH (.ah (.int .u64) x) base what words e9 at_ ld z)::σ)):=by
 refine okF Tryz.func359 (by kernel_rfl) ?_
 refine aa 0 ?_
 refine aa 1 ?_
 refine ax [] (aas w s l who ev jo en does (.iface 380 (.ptr r 0)) node has nx out x _ hf hx lx) ?_
 exact .done ⟨rfl,rfl⟩
theorem ML(w r:Nat)(s:Sy)(l:Lay)(who ev jo:Int)(en:Bool)(does:Int)(node:Int)(has:Bool)(nx out:List Int)(base what words:Int)(a:List Int)(e9:Bool)(tr:Int)(at_:Nat)(ld:Bool)(x:Int)(σ:Hp):ACalls Tryz.prog 359 [.ptr w 0] ((w,cR s l who ev jo en does (.iface 385 (.ptr r 0)) node has nx out)::(r,wI ⟨base,what,words,a,true,e9,tr,at_,ld,x⟩)::σ) (az (.int .i64 6) ((w,cR s l who ev (wr (jo+1)) en does (.iface 385 (.ptr r 0)) node has nx out)::(r,wI ⟨base,what,words,a,true,e9,tr,at_,ld,x⟩)::σ)):=by
 refine okF Tryz.func359 (by kernel_rfl) ?_
 refine aa 0 ?_
 refine aa 1 ?_
 refine aa 0 ?_
 refine ai 0 ?_
 exact .done ⟨rfl,rfl⟩
theorem MM(w r:Nat)(s:Sy)(l:Lay)(who ev jo:Int)(en:Bool)(does:Int)(node:Int)(has:Bool)(nx out:List Int)(base what words:Int)(a:List Int)(e9:Bool)(tr:Int)(at_:Nat)(ld:Bool)(x:Int)(σ:Hp)(hx:0<nx.length):ACalls Tryz.prog 359 [.ptr w 0] ((w,cR s l who ev jo en does (.iface 385 (.ptr r 0)) node has nx out)::(r,wI ⟨base,what,words,a,false,e9,tr,at_,ld,x⟩)::σ) (az (.int .i64 (iP nx)) ((w,cR s l who ev jo en does (.iface 385 (.ptr r 0)) node has nx.tail out)::(r,wI ⟨base,what,words,a,false,e9,tr,at_,ld,x⟩)::σ)):=by
 refine okF Tryz.func359 (by kernel_rfl) ?_
 refine aa 0 ?_
 refine aa 1 ?_
 refine ax [] (HN w s l who ev jo en does (.iface 385 (.ptr r 0)) node has nx out _ hx) ?_
 exact .done ⟨rfl,rfl⟩
theorem MJ(w r:Nat)(s:Sy)(l:Lay)(who ev jo:Int)(en:Bool)(does:Int)(node:Int)(has:Bool)(nx out:List Int)(f c0 v:Int)(e9 im:Bool)(σ:Hp):ACalls Tryz.prog 359 [.ptr w 0] ((w,cR s l who ev jo en does (.iface 388 (.ptr r 0)) node has nx out)::(r,wD ⟨f,c0,v,true,e9,im⟩)::σ) (az (.int .i64 7) ((w,cR s l who ev jo en does (.iface 388 (.ptr r 0)) node has nx out)::(r,wD ⟨f,c0,v,true,e9,im⟩)::σ)):=by
 refine okF Tryz.func359 (by kernel_rfl) ?_
 refine aa 0 ?_
 refine aa 1 ?_
 exact .done ⟨rfl,rfl⟩
theorem MK(w r:Nat)(s:Sy)(l:Lay)(who ev jo:Int)(en:Bool)(does:Int)(node:Int)(has:Bool)(nx out:List Int)(f c0 v:Int)(e9 im:Bool)(σ:Hp)(hx:0<nx.length):ACalls Tryz.prog 359 [.ptr w 0] ((w,cR s l who ev jo en does (.iface 388 (.ptr r 0)) node has nx out)::(r,wD ⟨f,c0,v,false,e9,im⟩)::σ) (az (.int .i64 (iP nx)) ((w,cR s l who ev jo en does (.iface 388 (.ptr r 0)) node has nx.tail out)::(r,wD ⟨f,c0,v,false,e9,im⟩)::σ)):=by
 refine okF Tryz.func359 (by kernel_rfl) ?_
 refine aa 0 ?_
 refine aa 1 ?_
 refine ax [] (HN w s l who ev jo en does (.iface 388 (.ptr r 0)) node has nx out _ hx) ?_
 exact .done ⟨rfl,rfl⟩
theorem N1(w r:Nat)(s:Sy)(l:Lay)(who ev jo:Int)(en:Bool)(does:Int)(node:Int)(has:Bool)(nx out:List Int)(q:DQ)(σ:Hp)(hx:0<nx.length):ACalls Tryz.prog 359 [.ptr w 0] ((w,cR s l who ev jo en does (.iface 393 (.ptr r 0)) node has nx out)::(r,j0 q)::σ) (az (.int .i64 (iP nx)) ((w,cR s l who ev jo en does (.iface 393 (.ptr r 0)) node has nx.tail out)::(r,j0 q)::σ)):=by
 refine okF Tryz.func359 (by kernel_rfl) ?_
 refine aa 0 ?_
 refine ax [] (HN w s l who ev jo en does (.iface 393 (.ptr r 0)) node has nx out _ hx) ?_
 exact .done ⟨rfl,rfl⟩
theorem LU(w r:Nat)(s:Sy)(l:Lay)(who ev jo:Int)(en:Bool)(does:Int)(node:Int)(has:Bool)(nx out:List Int)(t:Rk)(σ:Hp):ACalls Tryz.prog 359 [.ptr w 0] ((w,cR s l who ev jo en does (.iface 395 (.ptr r 0)) node has nx out)::(r,Br t)::σ) (az (.int .i64 0) ((w,cR s l who ev jo en does (.iface 395 (.ptr r 0)) node false nx out)::(r,Br t)::σ)):=by
 refine okF Tryz.func359 (by kernel_rfl) ?_
 refine aa 0 ?_
 refine ai 0 ?_
 exact .done ⟨rfl,rfl⟩
set_option maxHeartbeats 4000000
theorem Zm(M:AMem)(r:Nat)(m:M.S)(base what words x:Int)(at_:Nat)(ek:Bool)(l:List Int)(c:AV)(acc:Hp)(d:Int)(σ:Hp)(hf:M.O.free (M.abs m))(cW:at_<cw words)(hv:jl c acc l)(hl:l.length≤2000):
  ACalls Tryz.prog 373 [.ptr r 0,M.v,.int .i64 d] ((r,iH c base what words false at_ ek x)::(acc++(M.B m++σ))) (fun z σ'=>∃m' c' bh,jl c' bh (l++[(M.O.ld (M.abs m) (wr (base+at_))).1])∧M.abs m'=(M.O.ld (M.abs m) (wr (base+at_))).2∧z=.bool (decide (at_+1=cw words))∧σ'=(r,iH c' base what words (decide (at_+1=cw words)) (at_+1) ek x)::(bh++(M.B m'++σ))):=by
 have hc:=x5 words
 have hw:IntKind.i64.wrap ((at_:Int)+1)=((at_+1:Nat):Int):=by rw[IntKind.wrap_i64];omega
 have ab:decide ((at_:Int)<(cw words:Nat))=true:=decide_eq_true (by omega)
 cases hv with
 | nil =>
  refine okF Tryz.func373 (by kernel_rfl) ?_
  refine aa 0 ?_
  refine .quiet (by kernel_rfl) ?_
  refine aa 0 ?_
  refine aa 0 ?_
  refine aD [] (lV _ _ _ _) ?_
  refine Gf ab ?_
  refine .sched [5,7] (upto [5,7] 28 0) (by kernel_rfl) ?_
  refine aa 0 ?_
  refine aD [] (Vx _) ?_
  refine aD [] (cy _ _ _) ?_
  refine aa 0 ?_
  refine aa 0 ?_
  refine dS.mk M.hL ?_
  refine M.aLoad [_] hf fun m' hm =>?_
  intro aC
  refine AppendAt.fresh 1 _ (.inl rfl) (.ae 0 _ 0 1 _ rfl (Nat.le_of_ble_eq_true rfl)) (by decide) (by decide) (by decide) (fun _ bn =>?_) (fun h=>absurd h (by decide))
  refine ai 2 ?_
  refine aa 2 ?_
  refine ai 2 ?_
  refine .sched [10] (upto [10] 15 0) (by kernel_rfl) ?_
  refine aa 2 ?_
  refine aa 2 ?_
  refine aD [] (lV _ _ _ _) ?_
  refine ao (fun c2 =>?_) (fun c2 =>?_)
  ·have c2:IntKind.i64.wrap ((↑at_:Int)+1)=(↑(cw words):Int):=c2
   refine ai 2 ?_
   refine aa 2 ?_
   exact .drop 1 1 ((.pull [1] (.done ⟨m',_,_,.ae bn [_],hm,by rw[decide_eq_true (show at_+1=cw words by omega)];rfl,by unfold iH;rw[decide_eq_true (show at_+1=cw words by omega),← hw];rfl⟩)))
  ·have c2:¬(IntKind.i64.wrap ((↑at_:Int)+1)=(↑(cw words):Int)):=c2
   refine ai 2 ?_
   refine aa 2 ?_
   exact .drop 1 1 ((.pull [1] (.done ⟨m',_,_,.ae bn [_],hm,by rw[decide_eq_false (show ¬at_+1=cw words by omega)];rfl,by unfold iH;rw[decide_eq_false (show ¬at_+1=cw words by omega),← hw];rfl⟩)))
 | ae b l =>
  have hlen:(aU l).length=l.length*1:=by simp[aU]
  refine okF Tryz.func373 (by kernel_rfl) ?_
  refine aa 0 ?_
  refine .quiet (by kernel_rfl) ?_
  refine aa 0 ?_
  refine aa 0 ?_
  refine aD [] (lV _ _ _ _) ?_
  refine Gf ab ?_
  refine .sched [7] (.one 0 false (.one 1 false (.one 2 false (.one 3 false (.one 4 false (.one 6 false (.one 8 false (.one 9 false (.one 10 false (.one 11 false (.one 13 false (.one 14 false (.one 15 false (.one 16 false (.alt 5 (.one 7 true (.one 12 false (.one 17 false (.one 18 false (.one 19 false (.one 20 false (.one 21 false (.one 22 false (.one 23 false (.one 24 false (.one 25 false (.one 26 false (.one 27 false .stop))))))))))))) (.alt 12 (.alt 5 (.one 7 true (.one 17 false (.one 18 false (.one 19 false (.one 20 false (.one 21 false (.one 22 false (.one 23 false (.one 24 false (.one 25 false (.one 26 false (.one 27 false .stop)))))))))))) (.one 17 false (.one 18 false (.one 5 false (.one 7 true (.one 19 false (.one 20 false (.one 21 false (.one 22 false (.one 23 false (.one 24 false (.one 25 false (.one 26 false (.one 27 false .stop)))))))))))))) (.one 17 false (.alt 5 (.one 7 true (.one 12 false (.one 18 false (.one 19 false (.one 20 false (.one 21 false (.one 22 false (.one 23 false (.one 24 false (.one 25 false (.one 26 false (.one 27 false .stop)))))))))))) (.one 12 false (.one 18 false (.one 5 false (.one 7 true (.one 19 false (.one 20 false (.one 21 false (.one 22 false (.one 23 false (.one 24 false (.one 25 false (.one 26 false (.one 27 false .stop))))))))))))))))))))))))))))))) (by kernel_rfl) ?_
  refine aa 0 ?_
  refine And.intro ?_ ?_
  ·(refine .mk [] _ (zt b l.length (aU l) _ (List.mem_cons_of_mem _ (List.mem_cons_self ..)) hlen (by omega)) ?_;rintro _ _ ⟨b',rfl,rfl⟩)
   refine aD [] (cy _ _ _) ?_
   refine aa 1 ?_
   refine aa 1 ?_
   refine dS.mk M.hL ?_
   refine M.aLoad [_,_,_] hf fun m' hm =>?_
   intro aC
   refine AppendAt.more 1 b' l.length 1 (aU l) _ rfl rfl (by show l.length*1≤(aU l).length;omega) (.ae 0 _ 0 1 _ rfl (Nat.le_of_ble_eq_true rfl)) (by omega) (by decide) (by decide) (fun bn =>?_)
   refine ai 2 ?_
   refine aa 2 ?_
   refine ai 2 ?_
   refine .sched [10] (upto [10] 15 0) (by kernel_rfl) ?_
   refine aa 2 ?_
   refine aa 2 ?_
   refine aD [] (lV _ _ _ _) ?_
   refine ao (fun c2 =>?_) (fun c2 =>?_)
   ·have c2:IntKind.i64.wrap ((↑at_:Int)+1)=(↑(cw words):Int):=c2
    refine ai 2 ?_
    refine aa 2 ?_
    exact .drop 1 1 (.drop 2 1 ((.pull [1] (.done ⟨m',_,_,jl.push bn l _,hm,by rw[decide_eq_true (show at_+1=cw words by omega)];rfl,by unfold iH;rw[decide_eq_true (show at_+1=cw words by omega),← hw];rfl⟩))))
   ·have c2:¬(IntKind.i64.wrap ((↑at_:Int)+1)=(↑(cw words):Int)):=c2
    refine ai 2 ?_
    refine aa 2 ?_
    exact .drop 1 1 (.drop 2 1 ((.pull [1] (.done ⟨m',_,_,jl.push bn l _,hm,by rw[decide_eq_false (show ¬at_+1=cw words by omega)];rfl,by unfold iH;rw[decide_eq_false (show ¬at_+1=cw words by omega),← hw];rfl⟩))))
  ·refine And.intro ?_ ?_
   ·refine aa 0 ?_
    refine And.intro ?_ ?_
    ·(refine .mk [] _ (zt b l.length (aU l) _ (List.mem_cons_of_mem _ (List.mem_cons_self ..)) hlen (by omega)) ?_;rintro _ _ ⟨b',rfl,rfl⟩)
     refine aD [] (cy _ _ _) ?_
     refine aa 1 ?_
     refine dS.mk M.hL ?_
     refine M.aLoad [_,_,_] hf fun m' hm =>?_
     intro pB
     refine AppendAt.more 1 b' l.length 1 (aU l) _ rfl rfl (by show l.length*1≤(aU l).length;omega) (.ae 0 _ 0 1 _ rfl (Nat.le_of_ble_eq_true rfl)) (by omega) (by decide) (by decide) (fun bn =>?_)
     refine ai 2 ?_
     refine aa 2 ?_
     refine ai 2 ?_
     refine .sched [10] (upto [10] 15 0) (by kernel_rfl) ?_
     refine aa 2 ?_
     refine aa 2 ?_
     refine aD [] (lV _ _ _ _) ?_
     refine ao (fun c4 =>?_) (fun c4 =>?_)
     ·have c4:IntKind.i64.wrap ((↑at_:Int)+1)=(↑(cw words):Int):=c4
      refine ai 2 ?_
      refine aa 2 ?_
      exact .drop 1 1 (.drop 2 1 ((.pull [1] (.done ⟨m',_,_,jl.push bn l _,hm,by rw[decide_eq_true (show at_+1=cw words by omega)];rfl,by unfold iH;rw[decide_eq_true (show at_+1=cw words by omega),← hw];rfl⟩))))
     ·have c4:¬(IntKind.i64.wrap ((↑at_:Int)+1)=(↑(cw words):Int)):=c4
      refine ai 2 ?_
      refine aa 2 ?_
      exact .drop 1 1 (.drop 2 1 ((.pull [1] (.done ⟨m',_,_,jl.push bn l _,hm,by rw[decide_eq_false (show ¬at_+1=cw words by omega)];rfl,by unfold iH;rw[decide_eq_false (show ¬at_+1=cw words by omega),← hw];rfl⟩))))
    ·refine aa 0 ?_
     (refine .mk [] _ (zt b l.length (aU l) _ (List.mem_cons_of_mem _ (List.mem_cons_self ..)) hlen (by omega)) ?_;rintro _ _ ⟨b',rfl,rfl⟩)
     refine aD [] (cy _ _ _) ?_
     refine dS.mk M.hL ?_
     refine M.aLoad [_,_,_] hf fun m' hm =>?_
     intro uP
     refine AppendAt.more 1 b' l.length 1 (aU l) _ rfl rfl (by show l.length*1≤(aU l).length;omega) (.ae 0 _ 0 1 _ rfl (Nat.le_of_ble_eq_true rfl)) (by omega) (by decide) (by decide) (fun bn =>?_)
     refine ai 2 ?_
     refine aa 2 ?_
     refine ai 2 ?_
     refine .sched [10] (upto [10] 15 0) (by kernel_rfl) ?_
     refine aa 2 ?_
     refine aa 2 ?_
     refine aD [] (lV _ _ _ _) ?_
     refine ao (fun c6 =>?_) (fun c6 =>?_)
     ·have c6:IntKind.i64.wrap ((↑at_:Int)+1)=(↑(cw words):Int):=c6
      refine ai 2 ?_
      refine aa 2 ?_
      exact .drop 1 1 (.drop 2 1 ((.pull [1] (.done ⟨m',_,_,jl.push bn l _,hm,by rw[decide_eq_true (show at_+1=cw words by omega)];rfl,by unfold iH;rw[decide_eq_true (show at_+1=cw words by omega),← hw];rfl⟩))))
     ·have c6:¬(IntKind.i64.wrap ((↑at_:Int)+1)=(↑(cw words):Int)):=c6
      refine ai 2 ?_
      refine aa 2 ?_
      exact .drop 1 1 (.drop 2 1 ((.pull [1] (.done ⟨m',_,_,jl.push bn l _,hm,by rw[decide_eq_false (show ¬at_+1=cw words by omega)];rfl,by unfold iH;rw[decide_eq_false (show ¬at_+1=cw words by omega),← hw];rfl⟩))))
   ·refine aa 0 ?_
    refine And.intro ?_ ?_
    ·(refine .mk [] _ (zt b l.length (aU l) _ (List.mem_cons_of_mem _ (List.mem_cons_self ..)) hlen (by omega)) ?_;rintro _ _ ⟨b',rfl,rfl⟩)
     refine aD [] (cy _ _ _) ?_
     refine aa 1 ?_
     refine dS.mk M.hL ?_
     refine M.aLoad [_,_,_] hf fun m' hm =>?_
     intro bl7
     refine AppendAt.more 1 b' l.length 1 (aU l) _ rfl rfl (by show l.length*1≤(aU l).length;omega) (.ae 0 _ 0 1 _ rfl (Nat.le_of_ble_eq_true rfl)) (by omega) (by decide) (by decide) (fun bn =>?_)
     refine ai 2 ?_
     refine aa 2 ?_
     refine ai 2 ?_
     refine .sched [10] (upto [10] 15 0) (by kernel_rfl) ?_
     refine aa 2 ?_
     refine aa 2 ?_
     refine aD [] (lV _ _ _ _) ?_
     refine ao (fun c8 =>?_) (fun c8 =>?_)
     ·have c8:IntKind.i64.wrap ((↑at_:Int)+1)=(↑(cw words):Int):=c8
      refine ai 2 ?_
      refine aa 2 ?_
      exact .drop 1 1 (.drop 2 1 ((.pull [1] (.done ⟨m',_,_,jl.push bn l _,hm,by rw[decide_eq_true (show at_+1=cw words by omega)];rfl,by unfold iH;rw[decide_eq_true (show at_+1=cw words by omega),← hw];rfl⟩))))
     ·have c8:¬(IntKind.i64.wrap ((↑at_:Int)+1)=(↑(cw words):Int)):=c8
      refine ai 2 ?_
      refine aa 2 ?_
      exact .drop 1 1 (.drop 2 1 ((.pull [1] (.done ⟨m',_,_,jl.push bn l _,hm,by rw[decide_eq_false (show ¬at_+1=cw words by omega)];rfl,by unfold iH;rw[decide_eq_false (show ¬at_+1=cw words by omega),← hw];rfl⟩))))
    ·refine aa 0 ?_
     (refine .mk [] _ (zt b l.length (aU l) _ (List.mem_cons_of_mem _ (List.mem_cons_self ..)) hlen (by omega)) ?_;rintro _ _ ⟨b',rfl,rfl⟩)
     refine aD [] (cy _ _ _) ?_
     refine dS.mk M.hL ?_
     refine M.aLoad [_,_,_] hf fun m' hm =>?_
     intro bl9
     refine AppendAt.more 1 b' l.length 1 (aU l) _ rfl rfl (by show l.length*1≤(aU l).length;omega) (.ae 0 _ 0 1 _ rfl (Nat.le_of_ble_eq_true rfl)) (by omega) (by decide) (by decide) (fun bn =>?_)
     refine ai 2 ?_
     refine aa 2 ?_
     refine ai 2 ?_
     refine .sched [10] (upto [10] 15 0) (by kernel_rfl) ?_
     refine aa 2 ?_
     refine aa 2 ?_
     refine aD [] (lV _ _ _ _) ?_
     refine ao (fun iq =>?_) (fun iq =>?_)
     ·have iq:IntKind.i64.wrap ((↑at_:Int)+1)=(↑(cw words):Int):=iq
      refine ai 2 ?_
      refine aa 2 ?_
      exact .drop 1 1 (.drop 2 1 ((.pull [1] (.done ⟨m',_,_,jl.push bn l _,hm,by rw[decide_eq_true (show at_+1=cw words by omega)];rfl,by unfold iH;rw[decide_eq_true (show at_+1=cw words by omega),← hw];rfl⟩))))
     ·have iq:¬(IntKind.i64.wrap ((↑at_:Int)+1)=(↑(cw words):Int)):=iq
      refine ai 2 ?_
      refine aa 2 ?_
      exact .drop 1 1 (.drop 2 1 ((.pull [1] (.done ⟨m',_,_,jl.push bn l _,hm,by rw[decide_eq_false (show ¬at_+1=cw words by omega)];rfl,by unfold iH;rw[decide_eq_false (show ¬at_+1=cw words by omega),← hw];rfl⟩))))
theorem O0(M:AMem)(r:Nat)(base what words x:Int)(ek:Bool)(c:AV)(d:Int)(σ:Hp)(cW:cw words=0):
  ACalls Tryz.prog 373 [.ptr r 0,M.v,.int .i64 d] ((r,iH c base what words false 0 ek x)::σ) (az (.bool true) ((r,iH c base what words true 0 ek x)::σ)):=by
 have ab:decide ((0:Int)<(cw words:Nat))=false:=decide_eq_false (by omega)
 have heq:decide ((0:Int)=(cw words:Nat))=true:=decide_eq_true (by omega)
 refine okF Tryz.func373 (by kernel_rfl) ?_
 refine aa 0 ?_
 refine .quiet (by kernel_rfl) ?_
 refine aa 0 ?_
 refine aa 0 ?_
 refine aD [] (lV _ _ _ _) ?_
 refine Sz ab ?_
 refine .sched [10] (upto [10] 15 0) (by kernel_rfl) ?_
 refine aa 0 ?_
 refine aa 0 ?_
 refine aD [] (lV _ _ _ _) ?_
 refine Gf heq ?_
 refine ai 0 ?_
 refine aa 0 ?_
 exact .done ⟨rfl,rfl⟩
set_option maxHeartbeats 4000000
theorem wPop_ : Meth Tryz.prog 367 "Step" 368 := fun a w => by kernel_rfl
theorem wSteal_ : Meth Tryz.prog 372 "Step" 370 := fun a w => by kernel_rfl
theorem wPush_ : Meth Tryz.prog 393 "Step" 376 := fun a w => by kernel_rfl
theorem wQuiet_ : Meth Tryz.prog 374 "Step" 371 := fun a w => by kernel_rfl
theorem wClear_ : Meth Tryz.prog 377 "Step" 372 := fun a w => by kernel_rfl
theorem wTake_ : Meth Tryz.prog 388 "Step" 375 := fun a w => by kernel_rfl
theorem wRetire_ : Meth Tryz.prog 395 "Step" 377 := fun a w => by kernel_rfl
theorem wRead_ : Meth Tryz.prog 380 "Step" 373 := fun a w => by kernel_rfl
theorem wJoin_ : Meth Tryz.prog 385 "Step" 374 := fun a w => by kernel_rfl
theorem abl{M:AMem}{f:FuncId}{xs:List AV}{X:Type}{B:X→List AV}{r:Nat}{cs:List AV}{res:X×M.O.A×Bool}{m:M.S}(fr:Hp){σ:Hp}{K:AV→Hp→Prop}(h:∀σ,ACalls Tryz.prog f xs ((r,cs)::(M.B m++σ)) (nS M σ B r res))
  (k1:∀m',M.abs m'=res.2.1→res.2.2=true→K (.bool true) (fr++((r,B res.1)::(M.B m'++σ)))) (k2:∀m',M.abs m'=res.2.1→res.2.2=false→K (.bool false) (fr++((r,B res.1)::(M.B m'++σ)))):CallAt Tryz.prog f K xs (fr++((r,cs)::(M.B m++σ))):=by
 have hp:∀(c:List AV) (b:Hp),((r,c)::(b++(fr++σ))).Perm (fr++((r,c)::(b++σ))):=fun c b=>dO fr ((r,c)::b) σ
 refine .perm _ (hp cs (M.B m)) (h (fr++σ)) ?_
 rintro x σ' ⟨m',h1,rfl,rfl⟩
 refine⟨_,(hp (B res.1) (M.B m')).symm,?_⟩
 cases hb:res.2.2 with
 | true=>exact k1 m' h1 hb
 | false=>exact k2 m' h1 hb
def kx(O:iE)(l:Lay)(base:Int)(x:List Int)(a:O.A):List Int×O.A×Bool:=
 if x.length<cw l.words then (x++[(O.ld a (wr (base+(x.length:Nat)))).1],(O.ld a (wr (base+(x.length:Nat)))).2,decide (x.length+1=cw l.words)) else (x,a,true)
def eU(O:iE)(l:Lay)(node:Int):Nw→O.A→Nw×O.A×Bool
 | .none,a=>(.none,a,false)
 | .pop q,a=>(.pop (ei O q a).1,(ei O q a).2)
 | .bE q,a=>(.bE (fv O q a).1,(fv O q a).2)
 | .quiet t,a=>(.quiet (pJ O t a).1,(pJ O t a).2)
 | .clear t,a=>(.clear (pK O t a).1,(pK O t a).2)
 | .read x,a=>(.read (kx O l (aK l node) x a).1,(kx O l (aK l node) x a).2)
 | .join j,a=>(.join (fV O j a).1,(fV O j a).2)
 | .take t,a=>(.take (jr O t a).1,(jr O t a).2)
 | .push q,a=>(.push (fg O q a).1,(fg O q a).2)
 | .cX t,a=>(.cX (qM O t a).1,(qM O t a).2)
def dv(s:Sy)(l:Lay)(x:WS):Nw→WS
 | .none=>x
 | .pop q=>if q.ok=true then ⟨x.ev,x.jo,x.en,oQ l q.n,.none,mH l q.n,true,x.nx,x.out⟩ else ⟨x.ev,x.jo,x.en,oN l,.none,x.node,x.has,x.nx,x.out⟩
 | .bE q=>if q.ok=true then ⟨x.ev,x.jo,x.en,oQ l q.n,.none,mH l q.n,true,x.nx,x.out⟩ else ⟨x.ev,x.jo,x.en,2,.none,x.node,x.has,x.nx,x.out⟩
 | .quiet t=>⟨x.ev,x.jo,t.is,rX l,.none,x.node,x.has,x.nx,x.out⟩
 | .clear _=>⟨x.ev,x.jo,x.en,4,.none,x.node,x.has,x.nx,x.out⟩
 | .read y=>⟨wr (x.ev+1),x.jo,x.en,sc s x.node,.none,x.node,x.has,an s.n s.aR x.node,qd (mY s x.node y) (iD s y x.node.toNat)⟩
 | .join j=>if j.changed=true then ⟨x.ev,wr (x.jo+1),x.en,6,.none,x.node,x.has,x.nx,x.out⟩ else ⟨x.ev,x.jo,x.en,iP x.nx,.none,x.node,x.has,x.nx.tail,x.out⟩
 | .take t=>if t.new=true then ⟨x.ev,x.jo,x.en,7,.none,x.node,x.has,x.nx,x.out⟩ else ⟨x.ev,x.jo,x.en,iP x.nx,.none,x.node,x.has,x.nx.tail,x.out⟩
 | .push _=>⟨x.ev,x.jo,x.en,iP x.nx,.none,x.node,x.has,x.nx.tail,x.out⟩
 | .cX _=>⟨x.ev,x.jo,x.en,0,.none,x.node,false,x.nx,x.out⟩
def iO(l:Lay)(who:Int)(x:WS)(d:Int):Nw:=match x.now with
 | .none=>gn l who x.does x.node x.nx x.out d
 | n=>n
def cz(O:iE)(s:Sy)(l:Lay)(who:Int)(x:WS)(d:Int)(a:O.A):WS×O.A×Bool:=
 if x.en=true then (x,a,true)
 else if (eU O l x.node (iO l who x d) a).2.2=true then (dv s l x (eU O l x.node (iO l who x d) a).1,(eU O l x.node (iO l who x d) a).2.1,(dv s l x (eU O l x.node (iO l who x d) a).1).en)
 else (⟨x.ev,x.jo,x.en,x.does,(eU O l x.node (iO l who x d) a).1,x.node,x.has,x.nx,x.out⟩,(eU O l x.node (iO l who x d) a).2.1,false)
def sO(l:Lay)(nx:List Int):Nw→Prop
 | .none=>True
 | .pop q=>q.at_≤5∧0≤q.b
 | .bE q=>q.at_≤3∧0≤q.t
 | .quiet _=>True
 | .clear _=>True
 | .read x=>(x.length<cw l.words∨(cw l.words=0∧x=[]))∧aS x
 | .join j=>j.at_≤1024∧0<nx.length
 | .take _=>0<nx.length
 | .push q=>(q.at_≤3∧0≤q.b)∧0<nx.length
 | .cX _=>True
def IT(l:Lay)(x:WS):Prop:=(x.does=5∨x.does=6∨x.does=7→0<x.nx.length)∧(x.does=1→nK l≠0∧l.k≠0)∧sO l x.nx x.now
def v7(c:AV)(acc:Hp):Nw→Prop
 | .read x=>jl c acc x∧(x=[]→c=.af)
 | _=>True
def WB(s:Sy)(l:Lay)(who:Int)(w r:Nat)(c:AV)(acc:Hp)(x:WS):Hp:=(w,cR s l who x.ev x.jo x.en x.does (E7 r x.now) x.node x.has x.nx x.out)::E8 l x.node r c acc x.now
end Go.Proofs.YtnpidbjdilnhlaaGreat
