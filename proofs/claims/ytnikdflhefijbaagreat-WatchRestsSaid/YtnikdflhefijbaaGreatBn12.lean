import Derived.Test.YtnikdflhefijbaaGreatBn11
namespace Go.Proofs.YtnikdflhefijbaaGreat
open Go.RowKit
set_option maxRecDepth 100000
def JE(r:Nat):Nw→AV
 |.none=>.nilif
 |.pop _=>.iface 399 (.ptr r 0)
 |.cC _=>.iface 404 (.ptr r 0)
 |.quiet _=>.iface 406 (.ptr r 0)
 |.clear _=>.iface 409 (.ptr r 0)
 |.read _=>.iface 412 (.ptr r 0)
 |.join _=>.iface 417 (.ptr r 0)
 |.take _=>.iface 420 (.ptr r 0)
 |.push _=>.iface 425 (.ptr r 0)
 |.ee _=>.iface 427 (.ptr r 0)
def JF(l:Lay)(node:Int)(r:Nat)(c:AV)(acc:Hp):Nw→Hp
 |.none=>[]
 |.pop q=>[(r,mb q)]
 |.cC q=>[(r,mb q)]
 |.quiet t=>[(r,E9 t)]
 |.clear t=>[(r,Gk t)]
 |.read x=>(r,kp c (bg l node) l.what l.words false x.length false 0)::acc
 |.join j=>[(r,z7 j)]
 |.take t=>[(r,zX t)]
 |.push q=>[(r,mb q)]
 |.ee t=>[(r,E7 t)]
def uP(base cap n:Int):DQ:=⟨base,cap,n,false,false,0,0,0,0⟩
def iY(l:Lay)(who does node:Int)(nx out:List Int)(d:Int):Nw:=
 if does=0 then .pop (uP (ec l who) (eC l) 0)
 else if does=1 then .cC (uP (ec l (Dx l who d)) (eC l) 0)
 else if does=2 then .quiet ⟨cO l,cq l,false,false⟩
 else if does=3 then .clear ⟨cO l,cq l,node,false⟩
 else if does=4 then .read []
 else if does=5 then .join ⟨bg l (nx.headD 0),l.what,l.words,out,false,false,0,0,false,0⟩
 else if does=6 then .take ⟨cO l,cq l,nx.headD 0,false,false,false⟩
 else if does=7 then .push (uP (ec l who) (eC l) (wu (nx.headD 0)))
 else .ee ⟨cO l,cq l,0,false⟩
theorem Jq{l:Lay}{who does node d:Int}{nx out:List Int}(h:does=0):iY l who does node nx out d=.pop (uP (ec l who) (eC l) 0):=by subst h;rfl
theorem Jp{l:Lay}{who does node d:Int}{nx out:List Int}(h:does=1):iY l who does node nx out d=.cC (uP (ec l (Dx l who d)) (eC l) 0):=by subst h;rfl
theorem Jo{l:Lay}{who does node d:Int}{nx out:List Int}(h:does=2):iY l who does node nx out d=.quiet ⟨cO l,cq l,false,false⟩:=by subst h;rfl
theorem Jm{l:Lay}{who does node d:Int}{nx out:List Int}(h:does=3):iY l who does node nx out d=.clear ⟨cO l,cq l,node,false⟩:=by subst h;rfl
theorem Jl{l:Lay}{who does node d:Int}{nx out:List Int}(h:does=4):iY l who does node nx out d=.read []:=by subst h;rfl
theorem Jk{l:Lay}{who does node d:Int}{nx out:List Int}(h:does=5):iY l who does node nx out d=.join ⟨bg l (nx.headD 0),l.what,l.words,out,false,false,0,0,false,0⟩:=by subst h;rfl
theorem Jj{l:Lay}{who does node d:Int}{nx out:List Int}(h:does=6):iY l who does node nx out d=.take ⟨cO l,cq l,nx.headD 0,false,false,false⟩:=by subst h;rfl
theorem Ji{l:Lay}{who does node d:Int}{nx out:List Int}(h:does=7):iY l who does node nx out d=.push (uP (ec l who) (eC l) (wu (nx.headD 0))):=by subst h;rfl
theorem Jh{l:Lay}{who does node d:Int}{nx out:List Int}(h0:¬does=0)(h1:¬does=1)(h2:¬does=2)(h3:¬does=3)(h4:¬does=4)(h5:¬does=5)(h6:¬does=6)(h7:¬does=7):iY l who does node nx out d=.ee ⟨cO l,cq l,0,false⟩:=by
 unfold iY;rw[ag h0,ag h1,ag h2,ag h3,ag h4,ag h5,ag h6,ag h7]
theorem LF{nx:List Int}(h:0<nx.length):nx[((0:Int)).toNat]?=some (nx.headD 0):=by
 cases nx with
 |nil=>simp at h
 |cons z nx=>rfl
theorem agU(w:Nat)(s:Sy)(l:Lay)(who ev jo:Int)(en:Bool)(does:Int)(nv:AV)(node:Int)(has:Bool)(nx out:List Int)(d:Int)(σ:Hp)(hx:does=5∨does=6∨does=7→0<nx.length)(h1:does=1→nK l≠0∧l.k≠0):ACalls Tryz.prog 391 [.ptr w 0,.int .i64 d] ((w,dW s l who ev jo en does nv node has nx out)::σ) (fun x σ'=>∃r,x=JE r (iY l who does node nx out d)∧σ'=JF l node r .ai [] (iY l who does node nx out d)++((w,dW s l who ev jo en does nv node has nx out)::σ)):=by
 refine ar Tryz.func391 ?_
 refine aa 0 ?_
 refine aw [] (A9 l _) ?_
 intro aB
 refine aj 0 ?_
 refine aa 1 ?_
 refine ak (fun c2=>?_) (fun c2=>?_)
 ·have c2:does=0:=c2
  refine .sched [8] (upto [8] 13 0) (by kernel_rfl) ?_
  refine aa 1 ?_
  refine aa 1 ?_
  refine aI [] (za l _ _) ?_
  intro qj
  exact .drop 1 1 (.done ⟨_,by rw[Jq (by assumption)];rfl,by rw[Jq (by assumption)];rfl⟩)
 ·have c2:¬(does=0):=c2
  refine ak (fun c4=>?_) (fun c4=>?_)
  ·have c4:does=1:=c4
   refine .sched [6,7] (upto [6,7] 12 0) (by kernel_rfl) ?_
   refine aa 1 ?_
   refine aI [1] (af2 w s l who ev jo en does nv node has nx out d _ (h1 (by assumption)).1 (h1 (by assumption)).2) ?_
   refine aI [] (za l _ _) ?_
   intro CE
   exact .drop 1 1 (.done ⟨_,by rw[Jp (by assumption)];rfl,by rw[Jp (by assumption)];rfl⟩)
  ·have c4:¬(does=1):=c4
   refine ak (fun c6=>?_) (fun c6=>?_)
   ·have c6:does=2:=c6
    refine aa 0 ?_
    intro bl7
    exact .drop 1 1 (.done ⟨_,by rw[Jo (by assumption)];rfl,by rw[Jo (by assumption)];rfl⟩)
   ·have c6:¬(does=2):=c6
    refine ak (fun c8=>?_) (fun c8=>?_)
    ·have c8:does=3:=c8
     refine .sched [] (upto [] 9 0) (by kernel_rfl) ?_
     refine aa 0 ?_
     refine aa 1 ?_
     intro bl9
     exact .drop 1 1 (.done ⟨_,by rw[Jm (by assumption)];rfl,by rw[Jm (by assumption)];rfl⟩)
    ·have c8:¬(does=3):=c8
     refine ak (fun j7=>?_) (fun j7=>?_)
     ·have j7:does=4:=j7
      refine .sched [8] (upto [8] 13 0) (by kernel_rfl) ?_
      refine aa 1 ?_
      refine aa 1 ?_
      refine aI [] (Iu l _ _) ?_
      intro bl11
      exact .drop 1 1 (.done ⟨_,by rw[Jl (by assumption)];rfl,by rw[Jl (by assumption)];rfl⟩)
     ·have j7:¬(does=4):=j7
      refine ak (fun wX=>?_) (fun wX=>?_)
      ·have wX:does=5:=wX
       refine .sched [10] (upto [10] 19 0) (by kernel_rfl) ?_
       refine aa 1 ?_
       refine aa 1 ?_
       refine aG.mk rfl ?_
       refine bE.mk (nx.headD 0) (by decide) (LF (hx (by omega))) ?_
       refine aI [] (Iu l _ _) ?_
       refine aa 1 ?_
       intro bl13
       exact .drop 1 1 (.done ⟨_,by rw[Jk (by assumption)];rfl,by rw[Jk (by assumption)];rfl⟩)
      ·have wX:¬(does=5):=wX
       refine ak (fun tw=>?_) (fun tw=>?_)
       ·have tw:does=6:=tw
        refine .sched [] (upto [] 11 0) (by kernel_rfl) ?_
        refine aa 0 ?_
        refine aa 1 ?_
        refine aG.mk rfl ?_
        refine bE.mk (nx.headD 0) (by decide) (LF (hx (by omega))) ?_
        intro bl15
        exact .drop 1 1 (.done ⟨_,by rw[Jj (by assumption)];rfl,by rw[Jj (by assumption)];rfl⟩)
       ·have tw:¬(does=6):=tw
        refine ak (fun wW=>?_) (fun wW=>?_)
        ·have wW:does=7:=wW
         refine .sched [8] (upto [8] 20 0) (by kernel_rfl) ?_
         refine aa 1 ?_
         refine aa 1 ?_
         refine aI [] (za l _ _) ?_
         refine aa 1 ?_
         refine aG.mk rfl ?_
         refine bE.mk (nx.headD 0) (by decide) (LF (hx (by omega))) ?_
         intro bl17
         exact .drop 1 1 (.done ⟨_,by rw[Ji (by assumption)];rfl,by rw[Ji (by assumption)];rfl⟩)
        ·have wW:¬(does=7):=wW
         refine aa 0 ?_
         intro bl18
         exact .drop 1 1 (.done ⟨_,by rw[Jh (by assumption) (by assumption) (by assumption) (by assumption) (by assumption) (by assumption) (by assumption) (by assumption)];rfl,by rw[Jh (by assumption) (by assumption) (by assumption) (by assumption) (by assumption) (by assumption) (by assumption) (by assumption)];rfl⟩)
theorem T8(w r:Nat)(s:Sy)(l:Lay)(who ev jo:Int)(en:Bool)(does:Int)(node:Int)(has:Bool)(nx out:List Int)(base cap n:Int)(gB:Bool)(at_:Nat)(b t x:Int)(σ:Hp):ACalls Tryz.prog 392 [.ptr w 0] ((w,dW s l who ev jo en does (.iface 399 (.ptr r 0)) node has nx out)::(r,mb ⟨base,cap,n,true,gB,at_,b,t,x⟩)::σ) (ay (.int .i64 (rG l n)) ((w,dW s l who ev jo en does (.iface 399 (.ptr r 0)) (pD l n) true nx out)::(r,mb ⟨base,cap,n,true,gB,at_,b,t,x⟩)::σ)):=by
 refine ar Tryz.func392 ?_
 refine aa 0 ?_
 refine aa 1 ?_
 refine aa 1 ?_
 refine aw [] (Xq w s l who ev jo en does (.iface 399 (.ptr r 0)) node has nx out n _) ?_
 exact .done ⟨rfl,rfl⟩
theorem T9(w r:Nat)(s:Sy)(l:Lay)(who ev jo:Int)(en:Bool)(does:Int)(node:Int)(has:Bool)(nx out:List Int)(base cap n:Int)(gB:Bool)(at_:Nat)(b t x:Int)(σ:Hp):ACalls Tryz.prog 392 [.ptr w 0] ((w,dW s l who ev jo en does (.iface 399 (.ptr r 0)) node has nx out)::(r,mb ⟨base,cap,n,false,gB,at_,b,t,x⟩)::σ) (ay (.int .i64 (rC l)) ((w,dW s l who ev jo en does (.iface 399 (.ptr r 0)) node has nx out)::(r,mb ⟨base,cap,n,false,gB,at_,b,t,x⟩)::σ)):=by
 refine ar Tryz.func392 ?_
 refine aa 0 ?_
 refine aa 1 ?_
 refine aw [] (agJ w s l who ev jo en does (.iface 399 (.ptr r 0)) node has nx out _) ?_
 exact .done ⟨rfl,rfl⟩
theorem Rr(w r:Nat)(s:Sy)(l:Lay)(who ev jo:Int)(en:Bool)(does:Int)(node:Int)(has:Bool)(nx out:List Int)(base cap n:Int)(gB:Bool)(at_:Nat)(b t x:Int)(σ:Hp):ACalls Tryz.prog 392 [.ptr w 0] ((w,dW s l who ev jo en does (.iface 404 (.ptr r 0)) node has nx out)::(r,mb ⟨base,cap,n,true,gB,at_,b,t,x⟩)::σ) (ay (.int .i64 (rG l n)) ((w,dW s l who ev jo en does (.iface 404 (.ptr r 0)) (pD l n) true nx out)::(r,mb ⟨base,cap,n,true,gB,at_,b,t,x⟩)::σ)):=by
 refine ar Tryz.func392 ?_
 refine aa 0 ?_
 refine aa 1 ?_
 refine aa 1 ?_
 refine aw [] (Xq w s l who ev jo en does (.iface 404 (.ptr r 0)) node has nx out n _) ?_
 exact .done ⟨rfl,rfl⟩
theorem Rs(w r:Nat)(s:Sy)(l:Lay)(who ev jo:Int)(en:Bool)(does:Int)(node:Int)(has:Bool)(nx out:List Int)(base cap n:Int)(gB:Bool)(at_:Nat)(b t x:Int)(σ:Hp):ACalls Tryz.prog 392 [.ptr w 0] ((w,dW s l who ev jo en does (.iface 404 (.ptr r 0)) node has nx out)::(r,mb ⟨base,cap,n,false,gB,at_,b,t,x⟩)::σ) (ay (.int .i64 2) ((w,dW s l who ev jo en does (.iface 404 (.ptr r 0)) node has nx out)::(r,mb ⟨base,cap,n,false,gB,at_,b,t,x⟩)::σ)):=by
 refine ar Tryz.func392 ?_
 refine aa 0 ?_
 refine aa 1 ?_
 exact .done ⟨rfl,rfl⟩
def vc(l:Lay):Int:=if l.k<2 then 0 else 1
theorem Ha(w r:Nat)(s:Sy)(l:Lay)(who ev jo:Int)(en:Bool)(does:Int)(node:Int)(has:Bool)(nx out:List Int)(f c0:Int)(is gB:Bool)(σ:Hp):ACalls Tryz.prog 392 [.ptr w 0] ((w,dW s l who ev jo en does (.iface 406 (.ptr r 0)) node has nx out)::(r,E9 ⟨f,c0,is,gB⟩)::σ) (ay (.int .i64 (vc l)) ((w,dW s l who ev jo is does (.iface 406 (.ptr r 0)) node has nx out)::(r,E9 ⟨f,c0,is,gB⟩)::σ)):=by
 refine ar Tryz.func392 ?_
 cases is with
 |true=>
  refine aa 0 ?_
  refine aa 1 ?_
  refine aj 0 ?_
  refine dC [] (M9 w s l who ev jo true does (.iface 406 (.ptr r 0)) node has nx out _) (fun c=>?_) (fun c=>?_)
  ·exact .done ⟨aQ (ah (fk (by assumption))).symm,by subst_vars;rfl⟩
  ·exact .done ⟨aQ (ag (nj (by assumption))).symm,by subst_vars;rfl⟩
 |false=>
  refine aa 0 ?_
  refine aa 1 ?_
  refine aj 0 ?_
  refine dC [] (M9 w s l who ev jo false does (.iface 406 (.ptr r 0)) node has nx out _) (fun c=>?_) (fun c=>?_)
  ·exact .done ⟨aQ (ah (fk (by assumption))).symm,by subst_vars;rfl⟩
  ·exact .done ⟨aQ (ag (nj (by assumption))).symm,by subst_vars;rfl⟩
theorem SC(w r:Nat)(s:Sy)(l:Lay)(who ev jo:Int)(en:Bool)(does:Int)(node:Int)(has:Bool)(nx out:List Int)(f c0 v:Int)(gB:Bool)(σ:Hp):ACalls Tryz.prog 392 [.ptr w 0] ((w,dW s l who ev jo en does (.iface 409 (.ptr r 0)) node has nx out)::(r,Gk ⟨f,c0,v,gB⟩)::σ) (ay (.int .i64 4) ((w,dW s l who ev jo en does (.iface 409 (.ptr r 0)) node has nx out)::(r,Gk ⟨f,c0,v,gB⟩)::σ)):=by
 refine ar Tryz.func392 ?_
 refine aa 0 ?_
 exact .done ⟨rfl,rfl⟩
theorem Hu(w r:Nat)(s:Sy)(l:Lay)(who ev jo:Int)(en:Bool)(does:Int)(node:Int)(has:Bool)(nx out:List Int)(x:List Int)(base what words:Int)(gB:Bool)(at_:Nat)(ld:Bool)(z:Int)(σ:Hp)(hf:Fit s)(hx:aR x)(lx:x.length≤10000):ACalls Tryz.prog 392 [.ptr w 0] ((w,dW s l who ev jo en does (.iface 412 (.ptr r 0)) node has nx out)::(r,kp (.ae (.int .u64) x) base what words gB at_ ld z)::σ) (ay (.int .i64 (vr s node)) ((w,dW s l who (wr (ev+1)) jo en does (.iface 412 (.ptr r 0)) node has (au s.n s.aO node) (r8 (pQ s node x) (gg s x node.toNat)))::(r,kp (.ae (.int .u64) x) base what words gB at_ ld z)::σ)):=by
 refine ar Tryz.func392 ?_
 refine aa 0 ?_
 refine aa 1 ?_
 refine aw [] (agC w s l who ev jo en does (.iface 412 (.ptr r 0)) node has nx out x _ hf hx lx) ?_
 exact .done ⟨rfl,rfl⟩
theorem SA(w r:Nat)(s:Sy)(l:Lay)(who ev jo:Int)(en:Bool)(does:Int)(node:Int)(has:Bool)(nx out:List Int)(base what words:Int)(a:List Int)(gB:Bool)(tr:Int)(at_:Nat)(ld:Bool)(x:Int)(σ:Hp):ACalls Tryz.prog 392 [.ptr w 0] ((w,dW s l who ev jo en does (.iface 417 (.ptr r 0)) node has nx out)::(r,z7 ⟨base,what,words,a,true,gB,tr,at_,ld,x⟩)::σ) (ay (.int .i64 6) ((w,dW s l who ev (wr (jo+1)) en does (.iface 417 (.ptr r 0)) node has nx out)::(r,z7 ⟨base,what,words,a,true,gB,tr,at_,ld,x⟩)::σ)):=by
 refine ar Tryz.func392 ?_
 refine aa 0 ?_
 refine aa 1 ?_
 refine aa 0 ?_
 refine aj 0 ?_
 exact .done ⟨rfl,rfl⟩
theorem SB(w r:Nat)(s:Sy)(l:Lay)(who ev jo:Int)(en:Bool)(does:Int)(node:Int)(has:Bool)(nx out:List Int)(base what words:Int)(a:List Int)(gB:Bool)(tr:Int)(at_:Nat)(ld:Bool)(x:Int)(σ:Hp)(hx:0<nx.length):ACalls Tryz.prog 392 [.ptr w 0] ((w,dW s l who ev jo en does (.iface 417 (.ptr r 0)) node has nx out)::(r,z7 ⟨base,what,words,a,false,gB,tr,at_,ld,x⟩)::σ) (ay (.int .i64 (kD nx)) ((w,dW s l who ev jo en does (.iface 417 (.ptr r 0)) node has nx.tail out)::(r,z7 ⟨base,what,words,a,false,gB,tr,at_,ld,x⟩)::σ)):=by
 refine ar Tryz.func392 ?_
 refine aa 0 ?_
 refine aa 1 ?_
 refine aw [] (MK w s l who ev jo en does (.iface 417 (.ptr r 0)) node has nx out _ hx) ?_
 exact .done ⟨rfl,rfl⟩
theorem Sx(w r:Nat)(s:Sy)(l:Lay)(who ev jo:Int)(en:Bool)(does:Int)(node:Int)(has:Bool)(nx out:List Int)(f c0 v:Int)(gB j6:Bool)(σ:Hp):ACalls Tryz.prog 392 [.ptr w 0] ((w,dW s l who ev jo en does (.iface 420 (.ptr r 0)) node has nx out)::(r,zX ⟨f,c0,v,true,gB,j6⟩)::σ) (ay (.int .i64 7) ((w,dW s l who ev jo en does (.iface 420 (.ptr r 0)) node has nx out)::(r,zX ⟨f,c0,v,true,gB,j6⟩)::σ)):=by
 refine ar Tryz.func392 ?_
 refine aa 0 ?_
 refine aa 1 ?_
 exact .done ⟨rfl,rfl⟩
theorem Sz(w r:Nat)(s:Sy)(l:Lay)(who ev jo:Int)(en:Bool)(does:Int)(node:Int)(has:Bool)(nx out:List Int)(f c0 v:Int)(gB j6:Bool)(σ:Hp)(hx:0<nx.length):ACalls Tryz.prog 392 [.ptr w 0] ((w,dW s l who ev jo en does (.iface 420 (.ptr r 0)) node has nx out)::(r,zX ⟨f,c0,v,false,gB,j6⟩)::σ) (ay (.int .i64 (kD nx)) ((w,dW s l who ev jo en does (.iface 420 (.ptr r 0)) node has nx.tail out)::(r,zX ⟨f,c0,v,false,gB,j6⟩)::σ)):=by
 refine ar Tryz.func392 ?_
 refine aa 0 ?_
 refine aa 1 ?_
 refine aw [] (MK w s l who ev jo en does (.iface 420 (.ptr r 0)) node has nx out _ hx) ?_
 exact .done ⟨rfl,rfl⟩
theorem T0(w r:Nat)(s:Sy)(l:Lay)(who ev jo:Int)(en:Bool)(does:Int)(node:Int)(has:Bool)(nx out:List Int)(q:DQ)(σ:Hp)(hx:0<nx.length):ACalls Tryz.prog 392 [.ptr w 0] ((w,dW s l who ev jo en does (.iface 425 (.ptr r 0)) node has nx out)::(r,mb q)::σ) (ay (.int .i64 (kD nx)) ((w,dW s l who ev jo en does (.iface 425 (.ptr r 0)) node has nx.tail out)::(r,mb q)::σ)):=by
 refine ar Tryz.func392 ?_
 refine aa 0 ?_
 refine aw [] (MK w s l who ev jo en does (.iface 425 (.ptr r 0)) node has nx out _ hx) ?_
 exact .done ⟨rfl,rfl⟩
theorem Rt(w r:Nat)(s:Sy)(l:Lay)(who ev jo:Int)(en:Bool)(does:Int)(node:Int)(has:Bool)(nx out:List Int)(t:Rk)(σ:Hp):ACalls Tryz.prog 392 [.ptr w 0] ((w,dW s l who ev jo en does (.iface 427 (.ptr r 0)) node has nx out)::(r,E7 t)::σ) (ay (.int .i64 0) ((w,dW s l who ev jo en does (.iface 427 (.ptr r 0)) node false nx out)::(r,E7 t)::σ)):=by
 refine ar Tryz.func392 ?_
 refine aa 0 ?_
 refine aj 0 ?_
 exact .done ⟨rfl,rfl⟩
set_option maxHeartbeats 4000000
theorem afc(M:AMem)(r:Nat)(m:M.S)(base what words x:Int)(at_:Nat)(fG:Bool)(l:List Int)(c:AV)(acc:Hp)(d:Int)(σ:Hp)(hf:M.O.free (M.abs m))(eb:at_<cw words)(hv:kV c acc l)(hl:l.length≤2000):
  ACalls Tryz.prog 406 [.ptr r 0,M.v,.int .i64 d] ((r,kp c base what words false at_ fG x)::(acc++(M.B m++σ))) (fun z σ'=>∃m' c' bD,kV c' bD (l++[(M.O.ld (M.abs m) (wr (base+at_))).1])∧M.abs m'=(M.O.ld (M.abs m) (wr (base+at_))).2∧z=.bool (decide (at_+1=cw words))∧σ'=(r,kp c' base what words (decide (at_+1=cw words)) (at_+1) fG x)::(bD++(M.B m'++σ))):=by
 have hc:=Bx words
 have hw:IntKind.i64.wrap ((at_:Int)+1)=((at_+1:Nat):Int):=by rw[IntKind.wrap_i64];omega
 have ab:decide ((at_:Int)<(cw words:Nat))=true:=aT (by omega)
 cases hv with
 |nil=>
  refine ar Tryz.func406 ?_
  refine aa 0 ?_
  refine .quiet (by kernel_rfl) ?_
  refine aa 0 ?_
  refine aa 0 ?_
  refine aI [] (oy _ _ _ _) ?_
  refine Lm ab ?_
  refine .sched [5,7] (upto [5,7] 28 0) (by kernel_rfl) ?_
  refine aa 0 ?_
  refine aI [] (ab8 _) ?_
  refine aI [] (dG _ _ _) ?_
  refine aa 0 ?_
  refine aa 0 ?_
  refine fo.mk M.hL ?_
  refine M.aLoad [_] hf fun m' hm=>?_
  intro aB
  refine AppendAt.fresh 1 _ (.inl rfl) (.af 0 _ 0 1 _ rfl (cI rfl)) (by decide) (by decide) (by decide) (fun _ bn=>?_) (fun h=>absurd h (by decide))
  refine aj 2 ?_
  refine aa 2 ?_
  refine aj 2 ?_
  refine .sched [10] (upto [10] 15 0) (by kernel_rfl) ?_
  refine aa 2 ?_
  refine aa 2 ?_
  refine aI [] (oy _ _ _ _) ?_
  refine ak (fun c2=>?_) (fun c2=>?_)
  ·have c2:IntKind.i64.wrap ((↑at_:Int)+1)=(↑(cw words):Int):=c2
   refine aj 2 ?_
   refine aa 2 ?_
   exact .drop 1 1 ((.pull [1] (.done ⟨m',_,_,.af bn [_],hm,by rw[aT (show at_+1=cw words by omega)];rfl,by unfold kp;rw[aT (show at_+1=cw words by omega),← hw];rfl⟩)))
  ·have c2:¬(IntKind.i64.wrap ((↑at_:Int)+1)=(↑(cw words):Int)):=c2
   refine aj 2 ?_
   refine aa 2 ?_
   exact .drop 1 1 ((.pull [1] (.done ⟨m',_,_,.af bn [_],hm,by rw[bS (show ¬at_+1=cw words by omega)];rfl,by unfold kp;rw[bS (show ¬at_+1=cw words by omega),← hw];rfl⟩)))
 |af b l=>
  have hlen:(aP l).length=l.length*1:=by simp[aP]
  refine ar Tryz.func406 ?_
  refine aa 0 ?_
  refine .quiet (by kernel_rfl) ?_
  refine aa 0 ?_
  refine aa 0 ?_
  refine aI [] (oy _ _ _ _) ?_
  refine Lm ab ?_
  refine .sched [7] (.one 0 false (.one 1 false (.one 2 false (.one 3 false (.one 4 false (.one 6 false (.one 8 false (.one 9 false (.one 10 false (.one 11 false (.one 13 false (.one 14 false (.one 15 false (.one 16 false (.alt 5 (.one 7 true (.one 12 false (.one 17 false (.one 18 false (.one 19 false (.one 20 false (.one 21 false (.one 22 false (.one 23 false (.one 24 false (.one 25 false (.one 26 false (.one 27 false .stop))))))))))))) (.alt 12 (.alt 5 (.one 7 true (.one 17 false (.one 18 false (.one 19 false (.one 20 false (.one 21 false (.one 22 false (.one 23 false (.one 24 false (.one 25 false (.one 26 false (.one 27 false .stop)))))))))))) (.one 17 false (.one 18 false (.one 5 false (.one 7 true (.one 19 false (.one 20 false (.one 21 false (.one 22 false (.one 23 false (.one 24 false (.one 25 false (.one 26 false (.one 27 false .stop)))))))))))))) (.one 17 false (.alt 5 (.one 7 true (.one 12 false (.one 18 false (.one 19 false (.one 20 false (.one 21 false (.one 22 false (.one 23 false (.one 24 false (.one 25 false (.one 26 false (.one 27 false .stop)))))))))))) (.one 12 false (.one 18 false (.one 5 false (.one 7 true (.one 19 false (.one 20 false (.one 21 false (.one 22 false (.one 23 false (.one 24 false (.one 25 false (.one 26 false (.one 27 false .stop))))))))))))))))))))))))))))))) (by kernel_rfl) ?_
  refine aa 0 ?_
  refine And.intro ?_ ?_
  ·(refine .mk [] _ (Dd b l.length (aP l) _ (dp _ (cj ..)) hlen (by omega)) ?_;rintro _ _ ⟨b',rfl,rfl⟩)
   refine aI [] (dG _ _ _) ?_
   refine aa 1 ?_
   refine aa 1 ?_
   refine fo.mk M.hL ?_
   refine M.aLoad [_,_,_] hf fun m' hm=>?_
   intro aB
   refine AppendAt.more 1 b' l.length 1 (aP l) _ rfl rfl (by show l.length*1≤(aP l).length;omega) (.af 0 _ 0 1 _ rfl (cI rfl)) (by omega) (by decide) (by decide) (fun bn=>?_)
   refine aj 2 ?_
   refine aa 2 ?_
   refine aj 2 ?_
   refine .sched [10] (upto [10] 15 0) (by kernel_rfl) ?_
   refine aa 2 ?_
   refine aa 2 ?_
   refine aI [] (oy _ _ _ _) ?_
   refine ak (fun c2=>?_) (fun c2=>?_)
   ·have c2:IntKind.i64.wrap ((↑at_:Int)+1)=(↑(cw words):Int):=c2
    refine aj 2 ?_
    refine aa 2 ?_
    exact .drop 1 1 (.drop 2 1 ((.pull [1] (.done ⟨m',_,_,kV.push bn l _,hm,by rw[aT (show at_+1=cw words by omega)];rfl,by unfold kp;rw[aT (show at_+1=cw words by omega),← hw];rfl⟩))))
   ·have c2:¬(IntKind.i64.wrap ((↑at_:Int)+1)=(↑(cw words):Int)):=c2
    refine aj 2 ?_
    refine aa 2 ?_
    exact .drop 1 1 (.drop 2 1 ((.pull [1] (.done ⟨m',_,_,kV.push bn l _,hm,by rw[bS (show ¬at_+1=cw words by omega)];rfl,by unfold kp;rw[bS (show ¬at_+1=cw words by omega),← hw];rfl⟩))))
  ·refine And.intro ?_ ?_
   ·refine aa 0 ?_
    refine And.intro ?_ ?_
    ·(refine .mk [] _ (Dd b l.length (aP l) _ (dp _ (cj ..)) hlen (by omega)) ?_;rintro _ _ ⟨b',rfl,rfl⟩)
     refine aI [] (dG _ _ _) ?_
     refine aa 1 ?_
     refine fo.mk M.hL ?_
     refine M.aLoad [_,_,_] hf fun m' hm=>?_
     intro qj
     refine AppendAt.more 1 b' l.length 1 (aP l) _ rfl rfl (by show l.length*1≤(aP l).length;omega) (.af 0 _ 0 1 _ rfl (cI rfl)) (by omega) (by decide) (by decide) (fun bn=>?_)
     refine aj 2 ?_
     refine aa 2 ?_
     refine aj 2 ?_
     refine .sched [10] (upto [10] 15 0) (by kernel_rfl) ?_
     refine aa 2 ?_
     refine aa 2 ?_
     refine aI [] (oy _ _ _ _) ?_
     refine ak (fun c4=>?_) (fun c4=>?_)
     ·have c4:IntKind.i64.wrap ((↑at_:Int)+1)=(↑(cw words):Int):=c4
      refine aj 2 ?_
      refine aa 2 ?_
      exact .drop 1 1 (.drop 2 1 ((.pull [1] (.done ⟨m',_,_,kV.push bn l _,hm,by rw[aT (show at_+1=cw words by omega)];rfl,by unfold kp;rw[aT (show at_+1=cw words by omega),← hw];rfl⟩))))
     ·have c4:¬(IntKind.i64.wrap ((↑at_:Int)+1)=(↑(cw words):Int)):=c4
      refine aj 2 ?_
      refine aa 2 ?_
      exact .drop 1 1 (.drop 2 1 ((.pull [1] (.done ⟨m',_,_,kV.push bn l _,hm,by rw[bS (show ¬at_+1=cw words by omega)];rfl,by unfold kp;rw[bS (show ¬at_+1=cw words by omega),← hw];rfl⟩))))
    ·refine aa 0 ?_
     (refine .mk [] _ (Dd b l.length (aP l) _ (dp _ (cj ..)) hlen (by omega)) ?_;rintro _ _ ⟨b',rfl,rfl⟩)
     refine aI [] (dG _ _ _) ?_
     refine fo.mk M.hL ?_
     refine M.aLoad [_,_,_] hf fun m' hm=>?_
     intro CE
     refine AppendAt.more 1 b' l.length 1 (aP l) _ rfl rfl (by show l.length*1≤(aP l).length;omega) (.af 0 _ 0 1 _ rfl (cI rfl)) (by omega) (by decide) (by decide) (fun bn=>?_)
     refine aj 2 ?_
     refine aa 2 ?_
     refine aj 2 ?_
     refine .sched [10] (upto [10] 15 0) (by kernel_rfl) ?_
     refine aa 2 ?_
     refine aa 2 ?_
     refine aI [] (oy _ _ _ _) ?_
     refine ak (fun c6=>?_) (fun c6=>?_)
     ·have c6:IntKind.i64.wrap ((↑at_:Int)+1)=(↑(cw words):Int):=c6
      refine aj 2 ?_
      refine aa 2 ?_
      exact .drop 1 1 (.drop 2 1 ((.pull [1] (.done ⟨m',_,_,kV.push bn l _,hm,by rw[aT (show at_+1=cw words by omega)];rfl,by unfold kp;rw[aT (show at_+1=cw words by omega),← hw];rfl⟩))))
     ·have c6:¬(IntKind.i64.wrap ((↑at_:Int)+1)=(↑(cw words):Int)):=c6
      refine aj 2 ?_
      refine aa 2 ?_
      exact .drop 1 1 (.drop 2 1 ((.pull [1] (.done ⟨m',_,_,kV.push bn l _,hm,by rw[bS (show ¬at_+1=cw words by omega)];rfl,by unfold kp;rw[bS (show ¬at_+1=cw words by omega),← hw];rfl⟩))))
   ·refine aa 0 ?_
    refine And.intro ?_ ?_
    ·(refine .mk [] _ (Dd b l.length (aP l) _ (dp _ (cj ..)) hlen (by omega)) ?_;rintro _ _ ⟨b',rfl,rfl⟩)
     refine aI [] (dG _ _ _) ?_
     refine aa 1 ?_
     refine fo.mk M.hL ?_
     refine M.aLoad [_,_,_] hf fun m' hm=>?_
     intro bl7
     refine AppendAt.more 1 b' l.length 1 (aP l) _ rfl rfl (by show l.length*1≤(aP l).length;omega) (.af 0 _ 0 1 _ rfl (cI rfl)) (by omega) (by decide) (by decide) (fun bn=>?_)
     refine aj 2 ?_
     refine aa 2 ?_
     refine aj 2 ?_
     refine .sched [10] (upto [10] 15 0) (by kernel_rfl) ?_
     refine aa 2 ?_
     refine aa 2 ?_
     refine aI [] (oy _ _ _ _) ?_
     refine ak (fun c8=>?_) (fun c8=>?_)
     ·have c8:IntKind.i64.wrap ((↑at_:Int)+1)=(↑(cw words):Int):=c8
      refine aj 2 ?_
      refine aa 2 ?_
      exact .drop 1 1 (.drop 2 1 ((.pull [1] (.done ⟨m',_,_,kV.push bn l _,hm,by rw[aT (show at_+1=cw words by omega)];rfl,by unfold kp;rw[aT (show at_+1=cw words by omega),← hw];rfl⟩))))
     ·have c8:¬(IntKind.i64.wrap ((↑at_:Int)+1)=(↑(cw words):Int)):=c8
      refine aj 2 ?_
      refine aa 2 ?_
      exact .drop 1 1 (.drop 2 1 ((.pull [1] (.done ⟨m',_,_,kV.push bn l _,hm,by rw[bS (show ¬at_+1=cw words by omega)];rfl,by unfold kp;rw[bS (show ¬at_+1=cw words by omega),← hw];rfl⟩))))
    ·refine aa 0 ?_
     (refine .mk [] _ (Dd b l.length (aP l) _ (dp _ (cj ..)) hlen (by omega)) ?_;rintro _ _ ⟨b',rfl,rfl⟩)
     refine aI [] (dG _ _ _) ?_
     refine fo.mk M.hL ?_
     refine M.aLoad [_,_,_] hf fun m' hm=>?_
     intro bl9
     refine AppendAt.more 1 b' l.length 1 (aP l) _ rfl rfl (by show l.length*1≤(aP l).length;omega) (.af 0 _ 0 1 _ rfl (cI rfl)) (by omega) (by decide) (by decide) (fun bn=>?_)
     refine aj 2 ?_
     refine aa 2 ?_
     refine aj 2 ?_
     refine .sched [10] (upto [10] 15 0) (by kernel_rfl) ?_
     refine aa 2 ?_
     refine aa 2 ?_
     refine aI [] (oy _ _ _ _) ?_
     refine ak (fun j7=>?_) (fun j7=>?_)
     ·have j7:IntKind.i64.wrap ((↑at_:Int)+1)=(↑(cw words):Int):=j7
      refine aj 2 ?_
      refine aa 2 ?_
      exact .drop 1 1 (.drop 2 1 ((.pull [1] (.done ⟨m',_,_,kV.push bn l _,hm,by rw[aT (show at_+1=cw words by omega)];rfl,by unfold kp;rw[aT (show at_+1=cw words by omega),← hw];rfl⟩))))
     ·have j7:¬(IntKind.i64.wrap ((↑at_:Int)+1)=(↑(cw words):Int)):=j7
      refine aj 2 ?_
      refine aa 2 ?_
      exact .drop 1 1 (.drop 2 1 ((.pull [1] (.done ⟨m',_,_,kV.push bn l _,hm,by rw[bS (show ¬at_+1=cw words by omega)];rfl,by unfold kp;rw[bS (show ¬at_+1=cw words by omega),← hw];rfl⟩))))
theorem U3(M:AMem)(r:Nat)(base what words x:Int)(fG:Bool)(c:AV)(d:Int)(σ:Hp)(eb:cw words=0):
  ACalls Tryz.prog 406 [.ptr r 0,M.v,.int .i64 d] ((r,kp c base what words false 0 fG x)::σ) (ay (.bool true) ((r,kp c base what words true 0 fG x)::σ)):=by
 have ab:decide ((0:Int)<(cw words:Nat))=false:=bS (by omega)
 have heq:decide ((0:Int)=(cw words:Nat))=true:=aT (by omega)
 refine ar Tryz.func406 ?_
 refine aa 0 ?_
 refine .quiet (by kernel_rfl) ?_
 refine aa 0 ?_
 refine aa 0 ?_
 refine aI [] (oy _ _ _ _) ?_
 refine YI ab ?_
 refine .sched [10] (upto [10] 15 0) (by kernel_rfl) ?_
 refine aa 0 ?_
 refine aa 0 ?_
 refine aI [] (oy _ _ _ _) ?_
 refine Lm heq ?_
 refine aj 0 ?_
 refine aa 0 ?_
 exact .done ⟨rfl,rfl⟩
set_option maxHeartbeats 4000000
theorem wPop_ : Meth Tryz.prog 399 "Step" 401 := fun a w => by kernel_rfl
theorem wSteal_ : Meth Tryz.prog 404 "Step" 403 := fun a w => by kernel_rfl
theorem wPush_ : Meth Tryz.prog 425 "Step" 409 := fun a w => by kernel_rfl
theorem wQuiet_ : Meth Tryz.prog 406 "Step" 404 := fun a w => by kernel_rfl
theorem wClear_ : Meth Tryz.prog 409 "Step" 405 := fun a w => by kernel_rfl
theorem wTake_ : Meth Tryz.prog 420 "Step" 408 := fun a w => by kernel_rfl
theorem wRetire_ : Meth Tryz.prog 427 "Step" 410 := fun a w => by kernel_rfl
theorem wRead_ : Meth Tryz.prog 412 "Step" 406 := fun a w => by kernel_rfl
theorem wJoin_ : Meth Tryz.prog 417 "Step" 407 := fun a w => by kernel_rfl
theorem ahs{M:AMem}{f:FuncId}{xs:List AV}{X:Type}{B:X→List AV}{r:Nat}{cs:List AV}{res:X×M.O.A×Bool}{m:M.S}(fr:Hp){σ:Hp}{K:AV→Hp→Prop}(h:∀σ,ACalls Tryz.prog f xs ((r,cs)::(M.B m++σ)) (qF M σ B r res))
  (k1:∀m',M.abs m'=res.2.1→res.2.2=true→K (.bool true) (fr++((r,B res.1)::(M.B m'++σ)))) (k2:∀m',M.abs m'=res.2.1→res.2.2=false→K (.bool false) (fr++((r,B res.1)::(M.B m'++σ)))):CallAt Tryz.prog f K xs (fr++((r,cs)::(M.B m++σ))):=by
 have hp:∀(c:List AV) (b:Hp),((r,c)::(b++(fr++σ))).Perm (fr++((r,c)::(b++σ))):=fun c b=>eX fr ((r,c)::b) σ
 refine .perm _ (hp cs (M.B m)) (h (fr++σ)) ?_
 rintro x σ' ⟨m',h1,rfl,rfl⟩
 refine⟨_,(hp (B res.1) (M.B m')).symm,?_⟩
 cases hb:res.2.2 with
 |true=>exact k1 m' h1 hb
 |false=>exact k2 m' h1 hb
def mM(O:km)(l:Lay)(base:Int)(x:List Int)(a:O.A):List Int×O.A×Bool:=
 if x.length<cw l.words then (x++[(O.ld a (wr (base+(x.length:Nat)))).1],(O.ld a (wr (base+(x.length:Nat)))).2,decide (x.length+1=cw l.words)) else (x,a,true)
def gn(O:km)(l:Lay)(node:Int):Nw→O.A→Nw×O.A×Bool
 |.none,a=>(.none,a,false)
 |.pop q,a=>(.pop (fE O q a).1,(fE O q a).2)
 |.cC q,a=>(.cC (gR O q a).1,(gR O q a).2)
 |.quiet t,a=>(.quiet (sx O t a).1,(sx O t a).2)
 |.clear t,a=>(.clear (sy O t a).1,(sy O t a).2)
 |.read x,a=>(.read (mM O l (bg l node) x a).1,(mM O l (bg l node) x a).2)
 |.join j,a=>(.join (iI O j a).1,(iI O j a).2)
 |.take t,a=>(.take (k8 O t a).1,(k8 O t a).2)
 |.push q,a=>(.push (gD O q a).1,(gD O q a).2)
 |.ee t,a=>(.ee (tN O t a).1,(tN O t a).2)
def dV(s:Sy)(l:Lay)(x:WS):Nw→WS
 |.none=>x
 |.pop q=>if q.ok=true then ⟨x.ev,x.jo,x.en,rG l q.n,.none,pD l q.n,true,x.nx,x.out⟩ else ⟨x.ev,x.jo,x.en,rC l,.none,x.node,x.has,x.nx,x.out⟩
 |.cC q=>if q.ok=true then ⟨x.ev,x.jo,x.en,rG l q.n,.none,pD l q.n,true,x.nx,x.out⟩ else ⟨x.ev,x.jo,x.en,2,.none,x.node,x.has,x.nx,x.out⟩
 |.quiet t=>⟨x.ev,x.jo,t.is,vc l,.none,x.node,x.has,x.nx,x.out⟩
 |.clear _=>⟨x.ev,x.jo,x.en,4,.none,x.node,x.has,x.nx,x.out⟩
 |.read y=>⟨wr (x.ev+1),x.jo,x.en,vr s x.node,.none,x.node,x.has,au s.n s.aO x.node,r8 (pQ s x.node y) (gg s y x.node.toNat)⟩
 |.join j=>if j.changed=true then ⟨x.ev,wr (x.jo+1),x.en,6,.none,x.node,x.has,x.nx,x.out⟩ else ⟨x.ev,x.jo,x.en,kD x.nx,.none,x.node,x.has,x.nx.tail,x.out⟩
 |.take t=>if t.new=true then ⟨x.ev,x.jo,x.en,7,.none,x.node,x.has,x.nx,x.out⟩ else ⟨x.ev,x.jo,x.en,kD x.nx,.none,x.node,x.has,x.nx.tail,x.out⟩
 |.push _=>⟨x.ev,x.jo,x.en,kD x.nx,.none,x.node,x.has,x.nx.tail,x.out⟩
 |.ee _=>⟨x.ev,x.jo,x.en,0,.none,x.node,false,x.nx,x.out⟩
def kB(l:Lay)(who:Int)(x:WS)(d:Int):Nw:=match x.now with
 |.none=>iY l who x.does x.node x.nx x.out d
 |n=>n
def dw(O:km)(s:Sy)(l:Lay)(who:Int)(x:WS)(d:Int)(a:O.A):WS×O.A×Bool:=
 if x.en=true then (x,a,true)
 else if (gn O l x.node (kB l who x d) a).2.2=true then (dV s l x (gn O l x.node (kB l who x d) a).1,(gn O l x.node (kB l who x d) a).2.1,(dV s l x (gn O l x.node (kB l who x d) a).1).en)
 else (⟨x.ev,x.jo,x.en,x.does,(gn O l x.node (kB l who x d) a).1,x.node,x.has,x.nx,x.out⟩,(gn O l x.node (kB l who x d) a).2.1,false)
def wj(l:Lay)(nx:List Int):Nw→Prop
 |.none=>True
 |.pop q=>q.at_≤5∧0≤q.b
 |.cC q=>q.at_≤3∧0≤q.t
 |.quiet _=>True
 |.clear _=>True
 |.read x=>(x.length<cw l.words∨(cw l.words=0∧x=[]))∧aR x
 |.join j=>j.at_≤1024∧0<nx.length
 |.take _=>0<nx.length
 |.push q=>(q.at_≤3∧0≤q.b)∧0<nx.length
 |.ee _=>True
def NP(l:Lay)(x:WS):Prop:=(x.does=5∨x.does=6∨x.does=7→0<x.nx.length)∧(x.does=1→nK l≠0∧l.k≠0)∧wj l x.nx x.now
def zJ(c:AV)(acc:Hp):Nw→Prop
 |.read x=>kV c acc x∧(x=[]→c=.ai)
 |_=>True
def WB(s:Sy)(l:Lay)(who:Int)(w r:Nat)(c:AV)(acc:Hp)(x:WS):Hp:=(w,dW s l who x.ev x.jo x.en x.does (JE r x.now) x.node x.has x.nx x.out)::JF l x.node r c acc x.now
set_option maxHeartbeats 4000000
def pM(M:AMem)(s:Sy)(l:Lay)(who:Int)(w:Nat)(res:WS×M.O.A×Bool)(σ:Hp):AV→Hp→Prop:=fun z σ'=>∃m' r c acc,zJ c acc res.1.now∧M.abs m'=res.2.1∧z=.bool res.2.2∧σ'=WB s l who w r c acc res.1++(M.B m'++σ)
theorem abf{M:AMem}{s:Sy}{l:Lay}{who:Int}{w:Nat}{σ:Hp}{x:WS}{a:M.O.A}{d:Int}(h:x.en=true){m:M.S}(hm:M.abs m=a){r:Nat}{c:AV}{acc:Hp}(rd:zJ c acc x.now):pM M s l who w (dw M.O s l who x d a) σ (.bool true) (WB s l who w r c acc x++(M.B m++σ)):=by
 unfold dw
 rw[ah h]
 exact⟨m,r,c,acc,rd,hm,rfl,rfl⟩
theorem gT{M:AMem}{s:Sy}{l:Lay}{who:Int}{w:Nat}{σ:Hp}{x:WS}{a a':M.O.A}{d:Int}{n n':Nw}{b:Bool}{m':M.S}{y:WS}(he:x.en=false)(eb:kB l who x d=n)(hn:gn M.O l x.node n a=(n',a',b))(hb:b=true)(hm:M.abs m'=a')(hy:dV s l x n'=y)(h0:y.now=.none)(r:Nat):pM M s l who w (dw M.O s l who x d a) σ (.bool y.en) (WB s l who w r .ai [] y++(M.B m'++σ)):=by
 unfold dw
 rw[ag (by rw[he];decide),eb,hn]
 dsimp only
 rw[ah hb,hy]
 exact⟨m',r,.ai,[],by rw[h0];trivial,hm,rfl,rfl⟩
theorem iu{M:AMem}{s:Sy}{l:Lay}{who:Int}{w:Nat}{σ:Hp}{x:WS}{a a':M.O.A}{d:Int}{n n':Nw}{b:Bool}{m':M.S}(he:x.en=false)(eb:kB l who x d=n)(hn:gn M.O l x.node n a=(n',a',b))(hb:b=false)(hm:M.abs m'=a')(r:Nat)(c:AV)(acc:Hp)(rd:zJ c acc n'):pM M s l who w (dw M.O s l who x d a) σ (.bool false) (WB s l who w r c acc ⟨x.ev,x.jo,x.en,x.does,n',x.node,x.has,x.nx,x.out⟩++(M.B m'++σ)):=by
 unfold dw
 rw[ag (by rw[he];decide),eb,hn]
 dsimp only
 rw[ag (by rw[hb];decide)]
 exact⟨m',r,c,acc,rd,hm,rfl,rfl⟩
theorem iR{M:AMem}{f:FuncId}{xs:List AV}{X:Type}{B:X→List AV}{r:Nat}{cs:List AV}{res:X×M.O.A×Bool}{x':X}{a':M.O.A}{b':Bool}{m:M.S}(fr:Hp){σ:Hp}{K:AV→Hp→Prop}(an:res=(x',a',b'))(h:∀σ,ACalls Tryz.prog f xs ((r,cs)::(M.B m++σ)) (qF M σ B r res))
  (k1:∀m',M.abs m'=a'→b'=true→K (.bool true) (fr++((r,B x')::(M.B m'++σ)))) (k2:∀m',M.abs m'=a'→b'=false→K (.bool false) (fr++((r,B x')::(M.B m'++σ)))):CallAt Tryz.prog f K xs (fr++((r,cs)::(M.B m++σ))):=by
 subst an
 exact ahs fr h k1 k2
theorem vu{O:km}{l:Lay}{node:Int}{q q':DQ}{a a':O.A}{b:Bool}(h:fE O q a=(q',a',b)):gn O l node (.pop q) a=(.pop q',a',b):=by show (Nw.pop (fE O q a).1,(fE O q a).2)=_;rw[h]
theorem uX{O:km}{l:Lay}{node:Int}{q q':DQ}{a a':O.A}{b:Bool}(h:gR O q a=(q',a',b)):gn O l node (.cC q) a=(.cC q',a',b):=by show (Nw.cC (gR O q a).1,(gR O q a).2)=_;rw[h]
theorem xm{O:km}{l:Lay}{node:Int}{q q':Qk}{a a':O.A}{b:Bool}(h:sx O q a=(q',a',b)):gn O l node (.quiet q) a=(.quiet q',a',b):=by show (Nw.quiet (sx O q a).1,(sx O q a).2)=_;rw[h]
theorem Hg{O:km}{l:Lay}{node:Int}{q q':Ck}{a a':O.A}{b:Bool}(h:sy O q a=(q',a',b)):gn O l node (.clear q) a=(.clear q',a',b):=by show (Nw.clear (sy O q a).1,(sy O q a).2)=_;rw[h]
theorem vf{O:km}{l:Lay}{node:Int}{q q':Tk}{a a':O.A}{b:Bool}(h:k8 O q a=(q',a',b)):gn O l node (.take q) a=(.take q',a',b):=by show (Nw.take (k8 O q a).1,(k8 O q a).2)=_;rw[h]
theorem DG{O:km}{l:Lay}{node:Int}{q q':DQ}{a a':O.A}{b:Bool}(h:gD O q a=(q',a',b)):gn O l node (.push q) a=(.push q',a',b):=by show (Nw.push (gD O q a).1,(gD O q a).2)=_;rw[h]
theorem GX{O:km}{l:Lay}{node:Int}{q q':Rk}{a a':O.A}{b:Bool}(h:tN O q a=(q',a',b)):gn O l node (.ee q) a=(.ee q',a',b):=by show (Nw.ee (tN O q a).1,(tN O q a).2)=_;rw[h]
theorem vh{O:km}{l:Lay}{node:Int}{q q':Jn}{a a':O.A}{b:Bool}(h:iI O q a=(q',a',b)):gn O l node (.join q) a=(.join q',a',b):=by show (Nw.join (iI O q a).1,(iI O q a).2)=_;rw[h]
theorem y7{O:km}{l:Lay}{node:Int}{q q':List Int}{a a':O.A}{b:Bool}(h:mM O l (bg l node) q a=(q',a',b)):gn O l node (.read q) a=(.read q',a',b):=by show (Nw.read (mM O l (bg l node) q a).1,(mM O l (bg l node) q a).2)=_;rw[h]
theorem acO(l:Lay)(who does node:Int)(nx out:List Int)(d:Int):iY l who does node nx out d≠.none:=by
 unfold iY;repeat' (first | split | (intro h;cases h))
theorem aef{l:Lay}{who does node:Int}{nx out:List Int}{d:Int}(h:does=5∨does=6∨does=7→0<nx.length):wj l nx (iY l who does node nx out d):=by
 unfold iY
 repeat' split
 ·exact⟨bA _,jL _⟩
 ·exact⟨bA _,jL _⟩
 ·trivial
 ·trivial
 ·refine⟨?_,fun _ h=>by cases h⟩
  rcases uK (cw l.words) with h | h
  ·exact .inr ⟨h,rfl⟩
  ·exact .inl h
 ·exact⟨bA _,h (by omega)⟩
 ·exact h (by omega)
 ·exact⟨⟨bA _,jL _⟩,h (by omega)⟩
 ·trivial
theorem VK{M:AMem}{r w:Nat}{wc:List AV}{m:M.S}{base what words x d:Int}{l:List Int}{c:AV}{acc σ:Hp}{K:AV→Hp→Prop}(hf:M.O.free (M.abs m))(eb:l.length<cw words)(hv:kV c acc l)
  (k1:∀m' b,M.abs m'=(M.O.ld (M.abs m) (wr (base+(l.length:Nat)))).2→l.length+1=cw words→K (.bool true) ((w,wc)::(r,kp (.af b 0 (l++[(M.O.ld (M.abs m) (wr (base+(l.length:Nat)))).1]).length 1) base what words true (l++[(M.O.ld (M.abs m) (wr (base+(l.length:Nat)))).1]).length false x)::(b,aP (l++[(M.O.ld (M.abs m) (wr (base+(l.length:Nat)))).1]))::(M.B m'++σ)))
  (k2:∀m' b,M.abs m'=(M.O.ld (M.abs m) (wr (base+(l.length:Nat)))).2→¬l.length+1=cw words→K (.bool false) ((w,wc)::(r,kp (.af b 0 (l++[(M.O.ld (M.abs m) (wr (base+(l.length:Nat)))).1]).length 1) base what words false (l++[(M.O.ld (M.abs m) (wr (base+(l.length:Nat)))).1]).length false x)::(b,aP (l++[(M.O.ld (M.abs m) (wr (base+(l.length:Nat)))).1]))::(M.B m'++σ))):CallAt Tryz.prog 406 K [.ptr r 0,M.v,.int .i64 d] ((w,wc)::(r,kp c base what words false l.length false x)::(acc++(M.B m++σ))):=by
 have OY:=Bx words
 have hp:∀(cs:List AV) (a b:Hp),((r,cs)::(a++(b++((w,wc)::σ)))).Perm ((w,wc)::(r,cs)::(a++(b++σ))):=fun cs a b=>by
  have:=eX [(w,wc)] ((r,cs)::(a++b)) σ
  simpa using this
 refine .perm _ (hp _ acc (M.B m)) (afc M r m base what words x l.length false l c acc d ((w,wc)::σ) hf eb hv (by omega)) ?_
 rintro z σ' ⟨m',c',bD,h1,h2,rfl,rfl⟩
 refine⟨_,(hp _ bD (M.B m')).symm,?_⟩
 have hlen:(l++[(M.O.ld (M.abs m) (wr (base+(l.length:Nat)))).1]).length=l.length+1:=by simp
 generalize hg:l++[(M.O.ld (M.abs m) (wr (base+(l.length:Nat)))).1]=g at h1 k1 k2 hlen
 rw[← hlen]
 rw[← hlen]at k1 k2
 cases h1 with
 |nil=>simp at hlen
 |af b g=>
  by_cases he:g.length=cw words
  ·rw[aT he];exact k1 m' b h2 he
  ·rw[bS he];exact k2 m' b h2 he
theorem aeY(M:AMem)(w r:Nat)(c:AV)(acc:Hp)(s:Sy)(l:Lay)(who:Int)(ev jo:Int)(does:Int)(q:DQ)(node:Int)(has:Bool)(nx out:List Int)(d:Int)(m:M.S)(σ:Hp)(hm:M.O.free (M.abs m))(o3:wj l nx (.pop q)):
  ACalls Tryz.prog 390 [.ptr w 0,M.v,.int .i64 d] (WB s l who w r c acc ⟨ev,jo,false,does,.pop q,node,has,nx,out⟩++(M.B m++σ)) (pM M s l who w (dw M.O s l who ⟨ev,jo,false,does,.pop q,node,has,nx,out⟩ d (M.abs m)) σ):=by
 refine ar Tryz.func390 ?_
 refine aa 0 ?_
 refine aa 0 ?_
 refine aa 0 ?_
 obtain⟨q',a',b',an⟩:∃q' a' b',fE M.O q (M.abs m)=(q',a',b'):=⟨_,_,_,rfl⟩
 obtain⟨u1,u2,u3,u4,u5,u6,u7,u8,u9⟩:=q'
 cases u4 with
 |true=>
  refine .fwd 1 ?_
  refine .sched [5] (upto [5] 11 0) (by kernel_rfl) ?_
  refine aa 0 ?_
  refine aI [] (dG _ _ _) ?_
  refine⟨_,wPop_,?_⟩
  refine iR [_] an (fun σ=>Jr M r q m d σ hm (by have:=o3.1;omega) o3.2) (fun m' aV hb=>?_) (fun m' aV hb=>?_)
  ·refine aw [] (T8 w r s l who ev jo false does node has nx out _ _ _ _ _ _ _ _ _) ?_
   refine aj 0 ?_
   refine aj 0 ?_
   refine aa 0 ?_
   exact .drop 1 1 (.done (gT (x:=⟨ev,jo,false,does,.pop q,node,has,nx,out⟩) (n:=.pop q) rfl rfl (vu an) hb aV rfl rfl r))
  ·exact .done (iu (x:=⟨ev,jo,false,does,.pop q,node,has,nx,out⟩) (n:=.pop q) rfl rfl (vu an) hb aV r .ai [] trivial)
 |false=>
  refine .fwd 1 ?_
  refine .sched [5] (upto [5] 11 0) (by kernel_rfl) ?_
  refine aa 0 ?_
  refine aI [] (dG _ _ _) ?_
  refine⟨_,wPop_,?_⟩
  refine iR [_] an (fun σ=>Jr M r q m d σ hm (by have:=o3.1;omega) o3.2) (fun m' aV hb=>?_) (fun m' aV hb=>?_)
  ·refine aw [] (T9 w r s l who ev jo false does node has nx out _ _ _ _ _ _ _ _ _) ?_
   refine aj 0 ?_
   refine aj 0 ?_
   refine aa 0 ?_
   exact .drop 1 1 (.done (gT (x:=⟨ev,jo,false,does,.pop q,node,has,nx,out⟩) (n:=.pop q) rfl rfl (vu an) hb aV rfl rfl r))
  ·exact .done (iu (x:=⟨ev,jo,false,does,.pop q,node,has,nx,out⟩) (n:=.pop q) rfl rfl (vu an) hb aV r .ai [] trivial)
theorem aaW(M:AMem)(w r:Nat)(c:AV)(acc:Hp)(s:Sy)(l:Lay)(who:Int)(ev jo:Int)(does:Int)(q:DQ)(node:Int)(has:Bool)(nx out:List Int)(d:Int)(m:M.S)(σ:Hp)(hm:M.O.free (M.abs m))(o3:wj l nx (.cC q)):
  ACalls Tryz.prog 390 [.ptr w 0,M.v,.int .i64 d] (WB s l who w r c acc ⟨ev,jo,false,does,.cC q,node,has,nx,out⟩++(M.B m++σ)) (pM M s l who w (dw M.O s l who ⟨ev,jo,false,does,.cC q,node,has,nx,out⟩ d (M.abs m)) σ):=by
 refine ar Tryz.func390 ?_
 refine aa 0 ?_
 refine aa 0 ?_
 refine aa 0 ?_
 obtain⟨q',a',b',an⟩:∃q' a' b',gR M.O q (M.abs m)=(q',a',b'):=⟨_,_,_,rfl⟩
 obtain⟨u1,u2,u3,u4,u5,u6,u7,u8,u9⟩:=q'
 cases u4 with
 |true=>
  refine .fwd 1 ?_
  refine .sched [5] (upto [5] 11 0) (by kernel_rfl) ?_
  refine aa 0 ?_
  refine aI [] (dG _ _ _) ?_
  refine⟨_,wSteal_,?_⟩
  refine iR [_] an (fun σ=>Iq M r q m d σ hm (by have:=o3.1;omega) o3.2) (fun m' aV hb=>?_) (fun m' aV hb=>?_)
  ·refine aw [] (Rr w r s l who ev jo false does node has nx out _ _ _ _ _ _ _ _ _) ?_
   refine aj 0 ?_
   refine aj 0 ?_
   refine aa 0 ?_
   exact .drop 1 1 (.done (gT (x:=⟨ev,jo,false,does,.cC q,node,has,nx,out⟩) (n:=.cC q) rfl rfl (uX an) hb aV rfl rfl r))
  ·exact .done (iu (x:=⟨ev,jo,false,does,.cC q,node,has,nx,out⟩) (n:=.cC q) rfl rfl (uX an) hb aV r .ai [] trivial)
 |false=>
  refine .fwd 1 ?_
  refine .sched [5] (upto [5] 11 0) (by kernel_rfl) ?_
  refine aa 0 ?_
  refine aI [] (dG _ _ _) ?_
  refine⟨_,wSteal_,?_⟩
  refine iR [_] an (fun σ=>Iq M r q m d σ hm (by have:=o3.1;omega) o3.2) (fun m' aV hb=>?_) (fun m' aV hb=>?_)
  ·refine aw [] (Rs w r s l who ev jo false does node has nx out _ _ _ _ _ _ _ _ _) ?_
   refine aj 0 ?_
   refine aj 0 ?_
   refine aa 0 ?_
   exact .drop 1 1 (.done (gT (x:=⟨ev,jo,false,does,.cC q,node,has,nx,out⟩) (n:=.cC q) rfl rfl (uX an) hb aV rfl rfl r))
  ·exact .done (iu (x:=⟨ev,jo,false,does,.cC q,node,has,nx,out⟩) (n:=.cC q) rfl rfl (uX an) hb aV r .ai [] trivial)
theorem aaX(M:AMem)(w r:Nat)(c:AV)(acc:Hp)(s:Sy)(l:Lay)(who:Int)(ev jo:Int)(does:Int)(q:Qk)(node:Int)(has:Bool)(nx out:List Int)(d:Int)(m:M.S)(σ:Hp)(hm:M.O.free (M.abs m)):
  ACalls Tryz.prog 390 [.ptr w 0,M.v,.int .i64 d] (WB s l who w r c acc ⟨ev,jo,false,does,.quiet q,node,has,nx,out⟩++(M.B m++σ)) (pM M s l who w (dw M.O s l who ⟨ev,jo,false,does,.quiet q,node,has,nx,out⟩ d (M.abs m)) σ):=by
 refine ar Tryz.func390 ?_
 refine aa 0 ?_
 refine aa 0 ?_
 refine aa 0 ?_
 obtain⟨q',a',b',an⟩:∃q' a' b',sx M.O q (M.abs m)=(q',a',b'):=⟨_,_,_,rfl⟩
 obtain⟨u1,u2,u3,u4⟩:=q'
 cases u3 with
 |true=>
  refine .fwd 1 ?_
  refine .sched [5] (upto [5] 11 0) (by kernel_rfl) ?_
  refine aa 0 ?_
  refine aI [] (dG _ _ _) ?_
  refine⟨_,wQuiet_,?_⟩
  refine iR [_] an (fun σ=>Is M r q m d σ hm) (fun m' aV hb=>?_) (fun m' aV hb=>?_)
  ·refine aw [] (Ha w r s l who ev jo false does node has nx out _ _ _ _ _) ?_
   refine aj 0 ?_
   refine aj 0 ?_
   refine aa 0 ?_
   exact .drop 1 1 (.done (gT (x:=⟨ev,jo,false,does,.quiet q,node,has,nx,out⟩) (n:=.quiet q) rfl rfl (xm an) hb aV rfl rfl r))
  ·exact .done (iu (x:=⟨ev,jo,false,does,.quiet q,node,has,nx,out⟩) (n:=.quiet q) rfl rfl (xm an) hb aV r .ai [] trivial)
 |false=>
  refine .fwd 1 ?_
  refine .sched [5] (upto [5] 11 0) (by kernel_rfl) ?_
  refine aa 0 ?_
  refine aI [] (dG _ _ _) ?_
  refine⟨_,wQuiet_,?_⟩
  refine iR [_] an (fun σ=>Is M r q m d σ hm) (fun m' aV hb=>?_) (fun m' aV hb=>?_)
  ·refine aw [] (Ha w r s l who ev jo false does node has nx out _ _ _ _ _) ?_
   refine aj 0 ?_
   refine aj 0 ?_
   refine aa 0 ?_
   exact .drop 1 1 (.done (gT (x:=⟨ev,jo,false,does,.quiet q,node,has,nx,out⟩) (n:=.quiet q) rfl rfl (xm an) hb aV rfl rfl r))
  ·exact .done (iu (x:=⟨ev,jo,false,does,.quiet q,node,has,nx,out⟩) (n:=.quiet q) rfl rfl (xm an) hb aV r .ai [] trivial)
theorem aaY(M:AMem)(w r:Nat)(c:AV)(acc:Hp)(s:Sy)(l:Lay)(who:Int)(ev jo:Int)(does:Int)(q:Ck)(node:Int)(has:Bool)(nx out:List Int)(d:Int)(m:M.S)(σ:Hp)(hm:M.O.free (M.abs m)):
  ACalls Tryz.prog 390 [.ptr w 0,M.v,.int .i64 d] (WB s l who w r c acc ⟨ev,jo,false,does,.clear q,node,has,nx,out⟩++(M.B m++σ)) (pM M s l who w (dw M.O s l who ⟨ev,jo,false,does,.clear q,node,has,nx,out⟩ d (M.abs m)) σ):=by
 refine ar Tryz.func390 ?_
 refine aa 0 ?_
 refine aa 0 ?_
 refine aa 0 ?_
 obtain⟨q',a',b',an⟩:∃q' a' b',sy M.O q (M.abs m)=(q',a',b'):=⟨_,_,_,rfl⟩
 obtain⟨u1,u2,u3,u4⟩:=q'
 refine .fwd 1 ?_
 refine .sched [5] (upto [5] 11 0) (by kernel_rfl) ?_
 refine aa 0 ?_
 refine aI [] (dG _ _ _) ?_
 refine⟨_,wClear_,?_⟩
 refine iR [_] an (fun σ=>V5 M r q m d σ hm) (fun m' aV hb=>?_) (fun m' aV hb=>?_)
 ·refine aw [] (SC w r s l who ev jo false does node has nx out _ _ _ _ _) ?_
  refine aj 0 ?_
  refine aj 0 ?_
  refine aa 0 ?_
  exact .drop 1 1 (.done (gT (x:=⟨ev,jo,false,does,.clear q,node,has,nx,out⟩) (n:=.clear q) rfl rfl (Hg an) hb aV rfl rfl r))
 ·exact .done (iu (x:=⟨ev,jo,false,does,.clear q,node,has,nx,out⟩) (n:=.clear q) rfl rfl (Hg an) hb aV r .ai [] trivial)
theorem acS(M:AMem)(w r:Nat)(c:AV)(acc:Hp)(s:Sy)(l:Lay)(who:Int)(ev jo:Int)(does:Int)(q:Tk)(node:Int)(has:Bool)(nx out:List Int)(d:Int)(m:M.S)(σ:Hp)(hm:M.O.free (M.abs m))(o3:wj l nx (.take q)):
  ACalls Tryz.prog 390 [.ptr w 0,M.v,.int .i64 d] (WB s l who w r c acc ⟨ev,jo,false,does,.take q,node,has,nx,out⟩++(M.B m++σ)) (pM M s l who w (dw M.O s l who ⟨ev,jo,false,does,.take q,node,has,nx,out⟩ d (M.abs m)) σ):=by
 refine ar Tryz.func390 ?_
 refine aa 0 ?_
 refine aa 0 ?_
 refine aa 0 ?_
 obtain⟨q',a',b',an⟩:∃q' a' b',k8 M.O q (M.abs m)=(q',a',b'):=⟨_,_,_,rfl⟩
 obtain⟨u1,u2,u3,u4,u5,u6⟩:=q'
 cases u4 with
 |true=>
  refine .fwd 1 ?_
  refine .sched [5] (upto [5] 11 0) (by kernel_rfl) ?_
  refine aa 0 ?_
  refine aI [] (dG _ _ _) ?_
  refine⟨_,wTake_,?_⟩
  refine iR [_] an (fun σ=>IN M r q m d σ hm) (fun m' aV hb=>?_) (fun m' aV hb=>?_)
  ·refine aw [] (Sx w r s l who ev jo false does node has nx out _ _ _ _ _ _) ?_
   refine aj 0 ?_
   refine aj 0 ?_
   refine aa 0 ?_
   exact .drop 1 1 (.done (gT (x:=⟨ev,jo,false,does,.take q,node,has,nx,out⟩) (n:=.take q) rfl rfl (vf an) hb aV rfl rfl r))
  ·exact .done (iu (x:=⟨ev,jo,false,does,.take q,node,has,nx,out⟩) (n:=.take q) rfl rfl (vf an) hb aV r .ai [] trivial)
 |false=>
  refine .fwd 1 ?_
  refine .sched [5] (upto [5] 11 0) (by kernel_rfl) ?_
  refine aa 0 ?_
  refine aI [] (dG _ _ _) ?_
  refine⟨_,wTake_,?_⟩
  refine iR [_] an (fun σ=>IN M r q m d σ hm) (fun m' aV hb=>?_) (fun m' aV hb=>?_)
  ·refine aw [] (Sz w r s l who ev jo false does node has nx out _ _ _ _ _ _ o3) ?_
   refine aj 0 ?_
   refine aj 0 ?_
   refine aa 0 ?_
   exact .drop 1 1 (.done (gT (x:=⟨ev,jo,false,does,.take q,node,has,nx,out⟩) (n:=.take q) rfl rfl (vf an) hb aV rfl rfl r))
  ·exact .done (iu (x:=⟨ev,jo,false,does,.take q,node,has,nx,out⟩) (n:=.take q) rfl rfl (vf an) hb aV r .ai [] trivial)
theorem acU(M:AMem)(w r:Nat)(c:AV)(acc:Hp)(s:Sy)(l:Lay)(who:Int)(ev jo:Int)(does:Int)(q:DQ)(node:Int)(has:Bool)(nx out:List Int)(d:Int)(m:M.S)(σ:Hp)(hm:M.O.free (M.abs m))(o3:wj l nx (.push q)):
  ACalls Tryz.prog 390 [.ptr w 0,M.v,.int .i64 d] (WB s l who w r c acc ⟨ev,jo,false,does,.push q,node,has,nx,out⟩++(M.B m++σ)) (pM M s l who w (dw M.O s l who ⟨ev,jo,false,does,.push q,node,has,nx,out⟩ d (M.abs m)) σ):=by
 refine ar Tryz.func390 ?_
 refine aa 0 ?_
 refine aa 0 ?_
 refine aa 0 ?_
 obtain⟨q',a',b',an⟩:∃q' a' b',gD M.O q (M.abs m)=(q',a',b'):=⟨_,_,_,rfl⟩
 refine .fwd 1 ?_
 refine .sched [5] (upto [5] 11 0) (by kernel_rfl) ?_
 refine aa 0 ?_
 refine aI [] (dG _ _ _) ?_
 refine⟨_,wPush_,?_⟩
 refine iR [_] an (fun σ=>WG M r q m d σ hm (by have:=o3.1.1;omega) o3.1.2) (fun m' aV hb=>?_) (fun m' aV hb=>?_)
 ·refine aw [] (T0 w r s l who ev jo false does node has nx out _ _ o3.2) ?_
  refine aj 0 ?_
  refine aj 0 ?_
  refine aa 0 ?_
  exact .drop 1 1 (.done (gT (x:=⟨ev,jo,false,does,.push q,node,has,nx,out⟩) (n:=.push q) rfl rfl (DG an) hb aV rfl rfl r))
 ·exact .done (iu (x:=⟨ev,jo,false,does,.push q,node,has,nx,out⟩) (n:=.push q) rfl rfl (DG an) hb aV r .ai [] trivial)
theorem ZF(M:AMem)(w r:Nat)(c:AV)(acc:Hp)(s:Sy)(l:Lay)(who:Int)(ev jo:Int)(does:Int)(q:Rk)(node:Int)(has:Bool)(nx out:List Int)(d:Int)(m:M.S)(σ:Hp)(hm:M.O.free (M.abs m)):
  ACalls Tryz.prog 390 [.ptr w 0,M.v,.int .i64 d] (WB s l who w r c acc ⟨ev,jo,false,does,.ee q,node,has,nx,out⟩++(M.B m++σ)) (pM M s l who w (dw M.O s l who ⟨ev,jo,false,does,.ee q,node,has,nx,out⟩ d (M.abs m)) σ):=by
 refine ar Tryz.func390 ?_
 refine aa 0 ?_
 refine aa 0 ?_
 refine aa 0 ?_
 obtain⟨q',a',b',an⟩:∃q' a' b',tN M.O q (M.abs m)=(q',a',b'):=⟨_,_,_,rfl⟩
 refine .fwd 1 ?_
 refine .sched [5] (upto [5] 11 0) (by kernel_rfl) ?_
 refine aa 0 ?_
 refine aI [] (dG _ _ _) ?_
 refine⟨_,wRetire_,?_⟩
 refine iR [_] an (fun σ=>U2 M r q m d σ hm) (fun m' aV hb=>?_) (fun m' aV hb=>?_)
 ·refine aw [] (Rt w r s l who ev jo false does node has nx out _ _) ?_
  refine aj 0 ?_
  refine aj 0 ?_
  refine aa 0 ?_
  exact .drop 1 1 (.done (gT (x:=⟨ev,jo,false,does,.ee q,node,has,nx,out⟩) (n:=.ee q) rfl rfl (GX an) hb aV rfl rfl r))
 ·exact .done (iu (x:=⟨ev,jo,false,does,.ee q,node,has,nx,out⟩) (n:=.ee q) rfl rfl (GX an) hb aV r .ai [] trivial)
theorem acW(M:AMem)(w r:Nat)(c:AV)(acc:Hp)(s:Sy)(l:Lay)(who:Int)(ev jo:Int)(does:Int)(q:Jn)(node:Int)(has:Bool)(nx out:List Int)(d:Int)(m:M.S)(σ:Hp)(hm:M.O.free (M.abs m))(o3:wj l nx (.join q)):
  ACalls Tryz.prog 390 [.ptr w 0,M.v,.int .i64 d] (WB s l who w r c acc ⟨ev,jo,false,does,.join q,node,has,nx,out⟩++(M.B m++σ)) (pM M s l who w (dw M.O s l who ⟨ev,jo,false,does,.join q,node,has,nx,out⟩ d (M.abs m)) σ):=by
 refine ar Tryz.func390 ?_
 refine aa 0 ?_
 refine aa 0 ?_
 refine aa 0 ?_
 obtain⟨q',a',b',an⟩:∃q' a' b',iI M.O q (M.abs m)=(q',a',b'):=⟨_,_,_,rfl⟩
 obtain⟨u1,u2,u3,u4,u5,u6,u7,u8,u9,u10⟩:=q'
 cases u5 with
 |true=>
  refine .fwd 1 ?_
  refine .sched [5] (upto [5] 11 0) (by kernel_rfl) ?_
  refine aa 0 ?_
  refine aI [] (dG _ _ _) ?_
  refine⟨_,wJoin_,?_⟩
  refine iR [_] an (fun σ=>IQ M r q m d σ hm (by have:=o3.1;omega)) (fun m' aV hb=>?_) (fun m' aV hb=>?_)
  ·refine aw [] (SA w r s l who ev jo false does node has nx out _ _ _ _ _ _ _ _ _ _) ?_
   refine aj 0 ?_
   refine aj 0 ?_
   refine aa 0 ?_
   exact .drop 1 1 (.done (gT (x:=⟨ev,jo,false,does,.join q,node,has,nx,out⟩) (n:=.join q) rfl rfl (vh an) hb aV rfl rfl r))
  ·exact .done (iu (x:=⟨ev,jo,false,does,.join q,node,has,nx,out⟩) (n:=.join q) rfl rfl (vh an) hb aV r .ai [] trivial)
 |false=>
  refine .fwd 1 ?_
  refine .sched [5] (upto [5] 11 0) (by kernel_rfl) ?_
  refine aa 0 ?_
  refine aI [] (dG _ _ _) ?_
  refine⟨_,wJoin_,?_⟩
  refine iR [_] an (fun σ=>IQ M r q m d σ hm (by have:=o3.1;omega)) (fun m' aV hb=>?_) (fun m' aV hb=>?_)
  ·refine aw [] (SB w r s l who ev jo false does node has nx out _ _ _ _ _ _ _ _ _ _ o3.2) ?_
   refine aj 0 ?_
   refine aj 0 ?_
   refine aa 0 ?_
   exact .drop 1 1 (.done (gT (x:=⟨ev,jo,false,does,.join q,node,has,nx,out⟩) (n:=.join q) rfl rfl (vh an) hb aV rfl rfl r))
  ·exact .done (iu (x:=⟨ev,jo,false,does,.join q,node,has,nx,out⟩) (n:=.join q) rfl rfl (vh an) hb aV r .ai [] trivial)
theorem acT(M:AMem)(w r:Nat)(c:AV)(acc:Hp)(s:Sy)(l:Lay)(who:Int)(ev jo:Int)(does:Int)(x:List Int)(node:Int)(has:Bool)(nx out:List Int)(d:Int)(m:M.S)(σ:Hp)(hm:M.O.free (M.abs m))(hf:Fit s)(hv:∀a,bG (M.O.ld (M.abs m) a).1)(o3:wj l nx (.read x))(NS:kV c acc x∧(x=[]→c=.ai)):
  ACalls Tryz.prog 390 [.ptr w 0,M.v,.int .i64 d] (WB s l who w r c acc ⟨ev,jo,false,does,.read x,node,has,nx,out⟩++(M.B m++σ)) (pM M s l who w (dw M.O s l who ⟨ev,jo,false,does,.read x,node,has,nx,out⟩ d (M.abs m)) σ):=by
 refine ar Tryz.func390 ?_
 refine aa 0 ?_
 refine aa 0 ?_
 refine aa 0 ?_
 obtain⟨o4,o5⟩:=o3
 obtain⟨nX,W8⟩:=NS
 by_cases ab:x.length<cw l.words
 ·have OY:=Bx l.words
  have an:mM M.O l (bg l node) x (M.abs m)=(x++[(M.O.ld (M.abs m) (wr (bg l node+(x.length:Nat)))).1],(M.O.ld (M.abs m) (wr (bg l node+(x.length:Nat)))).2,decide (x.length+1=cw l.words)):=ah ab
  have iC:aR (x++[(M.O.ld (M.abs m) (wr (bg l node+(x.length:Nat)))).1]):=fun z hz=>by rcases bV.1 hz with h | h;exact o5 z h;rw[bB.1 h];exact hv _
  have hx3:(x++[(M.O.ld (M.abs m) (wr (bg l node+(x.length:Nat)))).1]).length=x.length+1:=by simp
  refine .fwd 1 ?_
  refine .sched [5] (upto [5] 11 0) (by kernel_rfl) ?_
  refine aa 0 ?_
  refine aI [] (dG _ _ _) ?_
  refine⟨_,wRead_,?_⟩
  refine VK hm ab nX (fun m' b aV he=>?_) (fun m' b aV he=>?_)
  ·refine .kl 2 b 0 (x++[(M.O.ld (M.abs m) (wr (bg l node+(x.length:Nat)))).1]).length 1 _ (.int .u64) (x++[(M.O.ld (M.abs m) (wr (bg l node+(x.length:Nat)))).1]) rfl ?_ ⟨rfl,rfl,by decide⟩ 1 3 r _ rfl rfl ?_
   ·rw[List.drop_zero,← kC];exact List.take_of_length_le (by simp[aP])
   refine aw [] (Hu w r s l who ev jo false does node has nx out (x++[(M.O.ld (M.abs m) (wr (bg l node+(x.length:Nat)))).1]) _ _ _ _ _ _ _ _ hf iC (by omega)) ?_
   refine aj 0 ?_
   refine aj 0 ?_
   refine aa 0 ?_
   exact .drop 1 1 (.done (gT (x:=⟨ev,jo,false,does,.read x,node,has,nx,out⟩) (n:=.read x) rfl rfl (y7 an) (aT he) aV rfl rfl r))
  ·exact .done (iu (x:=⟨ev,jo,false,does,.read x,node,has,nx,out⟩) (n:=.read x) rfl rfl (y7 an) (decide_eq_false he) aV r (.af b 0 (x++[(M.O.ld (M.abs m) (wr (bg l node+(x.length:Nat)))).1]).length 1) [(b,aP (x++[(M.O.ld (M.abs m) (wr (bg l node+(x.length:Nat)))).1]))] ⟨.af b (x++[(M.O.ld (M.abs m) (wr (bg l node+(x.length:Nat)))).1]),fun h=>absurd h (by simp)⟩)
 ·obtain⟨h0,rfl⟩:=o4.resolve_left ab
  generalize hz:([]:List Int)=z0 at nX
  cases nX with
  |af b z=>exact absurd (W8 rfl) (by simp)
  |nil=>
  have an:mM M.O l (bg l node) [] (M.abs m)=([],M.abs m,true):=ag ab
  refine .fwd 1 ?_
  refine .sched [5] (upto [5] 11 0) (by kernel_rfl) ?_
  refine aa 0 ?_
  refine aI [] (dG _ _ _) ?_
  refine⟨_,wRead_,?_⟩
  refine aw [1] (U3 M r _ _ _ _ _ _ d _ h0) ?_
  refine HV 0 3 r _ (.int .u64) rfl rfl ?_
  refine aw [1] (Hu w r s l who ev jo false does node has nx out [] _ _ _ _ _ _ _ _ hf o5 (bA _)) ?_
  refine aj 0 ?_
  refine aj 0 ?_
  refine aa 0 ?_
  exact .drop 1 1 (.done (gT (x:=⟨ev,jo,false,does,.read [],node,has,nx,out⟩) (n:=.read []) rfl rfl (y7 an) rfl rfl rfl rfl r))
set_option maxHeartbeats 4000000
theorem acP{l:Lay}{who does node:Int}{nx out:List Int}{d:Int}{x:List Int}(h:iY l who does node nx out d=.read x):x=[]:=by
 unfold iY at h
 repeat' (first | (cases h;rfl) | cases h | split at h)
theorem acV(M:AMem)(w r0:Nat)(c:AV)(acc:Hp)(s:Sy)(l:Lay)(who:Int)(ev jo:Int)(does:Int)(node:Int)(has:Bool)(nx out:List Int)(d:Int)(m:M.S)(σ:Hp)(hm:M.O.free (M.abs m))(hf:Fit s)(hv:∀a,bG (M.O.ld (M.abs m) a).1)(o1:does=5∨does=6∨does=7→0<nx.length)(o2:does=1→nK l≠0∧l.k≠0):
  ACalls Tryz.prog 390 [.ptr w 0,M.v,.int .i64 d] (WB s l who w r0 c acc ⟨ev,jo,false,does,.none,node,has,nx,out⟩++(M.B m++σ)) (pM M s l who w (dw M.O s l who ⟨ev,jo,false,does,.none,node,has,nx,out⟩ d (M.abs m)) σ):=by
 refine ar Tryz.func390 ?_
 refine aa 0 ?_
 refine aa 0 ?_
 refine aa 0 ?_
 refine .mk [] _ (agU w s l who ev jo false does .nilif node has nx out d _ o1 o2) ?_
 rintro _ _ ⟨r,rfl,rfl⟩
 have o3:wj l nx (iY l who does node nx out d):=aef o1
 have h0:=acO l who does node nx out d
 generalize gX:iY l who does node nx out d=n at o3 h0
 cases n with
 |none=>exact absurd rfl h0
 |pop q=>
  obtain⟨q',a',b',an⟩:∃q' a' b',fE M.O q (M.abs m)=(q',a',b'):=⟨_,_,_,rfl⟩
  obtain⟨u1,u2,u3,u4,u5,u6,u7,u8,u9⟩:=q'
  cases u4 with
  |true=>
   refine aj 1 ?_
   refine gq.dO (.pull [1] (.refl _)) ?_
   refine .sched [5] (upto [5] 11 0) (by kernel_rfl) ?_
   refine aa 0 ?_
   refine aI [] (dG _ _ _) ?_
   refine⟨_,wPop_,?_⟩
   refine iR [_] an (fun σ=>Jr M r q m d σ hm (by have:=o3.1;omega) o3.2) (fun m' aV hb=>?_) (fun m' aV hb=>?_)
   ·refine aw [] (T8 w r s l who ev jo false does node has nx out _ _ _ _ _ _ _ _ _) ?_
    refine aj 0 ?_
    refine aj 0 ?_
    refine aa 0 ?_
    exact .drop 1 1 (.done (gT (x:=⟨ev,jo,false,does,.none,node,has,nx,out⟩) (n:=.pop q) rfl gX (vu an) hb aV rfl rfl r))
   ·exact .done (iu (x:=⟨ev,jo,false,does,.none,node,has,nx,out⟩) (n:=.pop q) rfl gX (vu an) hb aV r .ai [] trivial)
  |false=>
   refine aj 1 ?_
   refine gq.dO (.pull [1] (.refl _)) ?_
   refine .sched [5] (upto [5] 11 0) (by kernel_rfl) ?_
   refine aa 0 ?_
   refine aI [] (dG _ _ _) ?_
   refine⟨_,wPop_,?_⟩
   refine iR [_] an (fun σ=>Jr M r q m d σ hm (by have:=o3.1;omega) o3.2) (fun m' aV hb=>?_) (fun m' aV hb=>?_)
   ·refine aw [] (T9 w r s l who ev jo false does node has nx out _ _ _ _ _ _ _ _ _) ?_
    refine aj 0 ?_
    refine aj 0 ?_
    refine aa 0 ?_
    exact .drop 1 1 (.done (gT (x:=⟨ev,jo,false,does,.none,node,has,nx,out⟩) (n:=.pop q) rfl gX (vu an) hb aV rfl rfl r))
   ·exact .done (iu (x:=⟨ev,jo,false,does,.none,node,has,nx,out⟩) (n:=.pop q) rfl gX (vu an) hb aV r .ai [] trivial)
 |cC q=>
  obtain⟨q',a',b',an⟩:∃q' a' b',gR M.O q (M.abs m)=(q',a',b'):=⟨_,_,_,rfl⟩
  obtain⟨u1,u2,u3,u4,u5,u6,u7,u8,u9⟩:=q'
  cases u4 with
  |true=>
   refine aj 1 ?_
   refine gq.dO (.pull [1] (.refl _)) ?_
   refine .sched [5] (upto [5] 11 0) (by kernel_rfl) ?_
   refine aa 0 ?_
   refine aI [] (dG _ _ _) ?_
   refine⟨_,wSteal_,?_⟩
   refine iR [_] an (fun σ=>Iq M r q m d σ hm (by have:=o3.1;omega) o3.2) (fun m' aV hb=>?_) (fun m' aV hb=>?_)
   ·refine aw [] (Rr w r s l who ev jo false does node has nx out _ _ _ _ _ _ _ _ _) ?_
    refine aj 0 ?_
    refine aj 0 ?_
    refine aa 0 ?_
    exact .drop 1 1 (.done (gT (x:=⟨ev,jo,false,does,.none,node,has,nx,out⟩) (n:=.cC q) rfl gX (uX an) hb aV rfl rfl r))
   ·exact .done (iu (x:=⟨ev,jo,false,does,.none,node,has,nx,out⟩) (n:=.cC q) rfl gX (uX an) hb aV r .ai [] trivial)
  |false=>
   refine aj 1 ?_
   refine gq.dO (.pull [1] (.refl _)) ?_
   refine .sched [5] (upto [5] 11 0) (by kernel_rfl) ?_
   refine aa 0 ?_
   refine aI [] (dG _ _ _) ?_
   refine⟨_,wSteal_,?_⟩
   refine iR [_] an (fun σ=>Iq M r q m d σ hm (by have:=o3.1;omega) o3.2) (fun m' aV hb=>?_) (fun m' aV hb=>?_)
   ·refine aw [] (Rs w r s l who ev jo false does node has nx out _ _ _ _ _ _ _ _ _) ?_
    refine aj 0 ?_
    refine aj 0 ?_
    refine aa 0 ?_
    exact .drop 1 1 (.done (gT (x:=⟨ev,jo,false,does,.none,node,has,nx,out⟩) (n:=.cC q) rfl gX (uX an) hb aV rfl rfl r))
   ·exact .done (iu (x:=⟨ev,jo,false,does,.none,node,has,nx,out⟩) (n:=.cC q) rfl gX (uX an) hb aV r .ai [] trivial)
 |quiet q=>
  obtain⟨q',a',b',an⟩:∃q' a' b',sx M.O q (M.abs m)=(q',a',b'):=⟨_,_,_,rfl⟩
  obtain⟨u1,u2,u3,u4⟩:=q'
  cases u3 with
  |true=>
   refine aj 1 ?_
   refine gq.dO (.pull [1] (.refl _)) ?_
   refine .sched [5] (upto [5] 11 0) (by kernel_rfl) ?_
   refine aa 0 ?_
   refine aI [] (dG _ _ _) ?_
   refine⟨_,wQuiet_,?_⟩
   refine iR [_] an (fun σ=>Is M r q m d σ hm) (fun m' aV hb=>?_) (fun m' aV hb=>?_)
   ·refine aw [] (Ha w r s l who ev jo false does node has nx out _ _ _ _ _) ?_
    refine aj 0 ?_
    refine aj 0 ?_
    refine aa 0 ?_
    exact .drop 1 1 (.done (gT (x:=⟨ev,jo,false,does,.none,node,has,nx,out⟩) (n:=.quiet q) rfl gX (xm an) hb aV rfl rfl r))
   ·exact .done (iu (x:=⟨ev,jo,false,does,.none,node,has,nx,out⟩) (n:=.quiet q) rfl gX (xm an) hb aV r .ai [] trivial)
  |false=>
   refine aj 1 ?_
   refine gq.dO (.pull [1] (.refl _)) ?_
   refine .sched [5] (upto [5] 11 0) (by kernel_rfl) ?_
   refine aa 0 ?_
   refine aI [] (dG _ _ _) ?_
   refine⟨_,wQuiet_,?_⟩
   refine iR [_] an (fun σ=>Is M r q m d σ hm) (fun m' aV hb=>?_) (fun m' aV hb=>?_)
   ·refine aw [] (Ha w r s l who ev jo false does node has nx out _ _ _ _ _) ?_
    refine aj 0 ?_
    refine aj 0 ?_
    refine aa 0 ?_
    exact .drop 1 1 (.done (gT (x:=⟨ev,jo,false,does,.none,node,has,nx,out⟩) (n:=.quiet q) rfl gX (xm an) hb aV rfl rfl r))
   ·exact .done (iu (x:=⟨ev,jo,false,does,.none,node,has,nx,out⟩) (n:=.quiet q) rfl gX (xm an) hb aV r .ai [] trivial)
 |clear q=>
  obtain⟨q',a',b',an⟩:∃q' a' b',sy M.O q (M.abs m)=(q',a',b'):=⟨_,_,_,rfl⟩
  obtain⟨u1,u2,u3,u4⟩:=q'
  refine aj 1 ?_
  refine gq.dO (.pull [1] (.refl _)) ?_
  refine .sched [5] (upto [5] 11 0) (by kernel_rfl) ?_
  refine aa 0 ?_
  refine aI [] (dG _ _ _) ?_
  refine⟨_,wClear_,?_⟩
  refine iR [_] an (fun σ=>V5 M r q m d σ hm) (fun m' aV hb=>?_) (fun m' aV hb=>?_)
  ·refine aw [] (SC w r s l who ev jo false does node has nx out _ _ _ _ _) ?_
   refine aj 0 ?_
   refine aj 0 ?_
   refine aa 0 ?_
   exact .drop 1 1 (.done (gT (x:=⟨ev,jo,false,does,.none,node,has,nx,out⟩) (n:=.clear q) rfl gX (Hg an) hb aV rfl rfl r))
  ·exact .done (iu (x:=⟨ev,jo,false,does,.none,node,has,nx,out⟩) (n:=.clear q) rfl gX (Hg an) hb aV r .ai [] trivial)
 |read x=>
  obtain rfl:x=[]:=acP gX
  have NS:kV .ai [] []∧(([]:List Int)=[]→AV.ai=.ai):=⟨.nil,fun _=>rfl⟩
  obtain⟨o4,o5⟩:=o3
  obtain⟨nX,W8⟩:=NS
  by_cases ab:([]:List Int).length<cw l.words
  ·have OY:=Bx l.words
   have an:mM M.O l (bg l node) ([]:List Int) (M.abs m)=(([]:List Int)++[(M.O.ld (M.abs m) (wr (bg l node+(([]:List Int).length:Nat)))).1],(M.O.ld (M.abs m) (wr (bg l node+(([]:List Int).length:Nat)))).2,decide (([]:List Int).length+1=cw l.words)):=ah ab
   have iC:aR (([]:List Int)++[(M.O.ld (M.abs m) (wr (bg l node+(([]:List Int).length:Nat)))).1]):=fun z hz=>by rcases bV.1 hz with h | h;exact o5 z h;rw[bB.1 h];exact hv _
   have hx3:(([]:List Int)++[(M.O.ld (M.abs m) (wr (bg l node+(([]:List Int).length:Nat)))).1]).length=([]:List Int).length+1:=by simp
   refine aj 1 ?_
   refine gq.dO (.pull [1] (.refl _)) ?_
   refine .sched [5] (upto [5] 11 0) (by kernel_rfl) ?_
   refine aa 0 ?_
   refine aI [] (dG _ _ _) ?_
   refine⟨_,wRead_,?_⟩
   refine VK hm ab nX (fun m' b aV he=>?_) (fun m' b aV he=>?_)
   ·refine .kl 2 b 0 (([]:List Int)++[(M.O.ld (M.abs m) (wr (bg l node+(([]:List Int).length:Nat)))).1]).length 1 _ (.int .u64) (([]:List Int)++[(M.O.ld (M.abs m) (wr (bg l node+(([]:List Int).length:Nat)))).1]) rfl ?_ ⟨rfl,rfl,by decide⟩ 1 3 r _ rfl rfl ?_
    ·rw[List.drop_zero,← kC];exact List.take_of_length_le (by simp[aP])
    refine aw [] (Hu w r s l who ev jo false does node has nx out (([]:List Int)++[(M.O.ld (M.abs m) (wr (bg l node+(([]:List Int).length:Nat)))).1]) _ _ _ _ _ _ _ _ hf iC (by omega)) ?_
    refine aj 0 ?_
    refine aj 0 ?_
    refine aa 0 ?_
    exact .drop 1 1 (.done (gT (x:=⟨ev,jo,false,does,.none,node,has,nx,out⟩) (n:=.read ([]:List Int)) rfl gX (y7 an) (aT he) aV rfl rfl r))
   ·exact .done (iu (x:=⟨ev,jo,false,does,.none,node,has,nx,out⟩) (n:=.read ([]:List Int)) rfl gX (y7 an) (decide_eq_false he) aV r (.af b 0 (([]:List Int)++[(M.O.ld (M.abs m) (wr (bg l node+(([]:List Int).length:Nat)))).1]).length 1) [(b,aP (([]:List Int)++[(M.O.ld (M.abs m) (wr (bg l node+(([]:List Int).length:Nat)))).1]))] ⟨.af b (([]:List Int)++[(M.O.ld (M.abs m) (wr (bg l node+(([]:List Int).length:Nat)))).1]),fun h=>absurd h (by simp)⟩)
  ·obtain⟨h0,-⟩:=o4.resolve_left ab
   generalize hz:([]:List Int)=z0 at nX
   cases nX with
   |nil=>
   have an:mM M.O l (bg l node) [] (M.abs m)=([],M.abs m,true):=ag ab
   refine aj 1 ?_
   refine gq.dO (.pull [1] (.refl _)) ?_
   refine .sched [5] (upto [5] 11 0) (by kernel_rfl) ?_
   refine aa 0 ?_
   refine aI [] (dG _ _ _) ?_
   refine⟨_,wRead_,?_⟩
   refine aw [1] (U3 M r _ _ _ _ _ _ d _ h0) ?_
   refine HV 0 3 r _ (.int .u64) rfl rfl ?_
   refine aw [1] (Hu w r s l who ev jo false does node has nx out [] _ _ _ _ _ _ _ _ hf o5 (bA _)) ?_
   refine aj 0 ?_
   refine aj 0 ?_
   refine aa 0 ?_
   exact .drop 1 1 (.done (gT (x:=⟨ev,jo,false,does,.none,node,has,nx,out⟩) (n:=.read []) rfl gX (y7 an) rfl rfl rfl rfl r))
 |join q=>
  obtain⟨q',a',b',an⟩:∃q' a' b',iI M.O q (M.abs m)=(q',a',b'):=⟨_,_,_,rfl⟩
  obtain⟨u1,u2,u3,u4,u5,u6,u7,u8,u9,u10⟩:=q'
  cases u5 with
  |true=>
   refine aj 1 ?_
   refine gq.dO (.pull [1] (.refl _)) ?_
   refine .sched [5] (upto [5] 11 0) (by kernel_rfl) ?_
   refine aa 0 ?_
   refine aI [] (dG _ _ _) ?_
   refine⟨_,wJoin_,?_⟩
   refine iR [_] an (fun σ=>IQ M r q m d σ hm (by have:=o3.1;omega)) (fun m' aV hb=>?_) (fun m' aV hb=>?_)
   ·refine aw [] (SA w r s l who ev jo false does node has nx out _ _ _ _ _ _ _ _ _ _) ?_
    refine aj 0 ?_
    refine aj 0 ?_
    refine aa 0 ?_
    exact .drop 1 1 (.done (gT (x:=⟨ev,jo,false,does,.none,node,has,nx,out⟩) (n:=.join q) rfl gX (vh an) hb aV rfl rfl r))
   ·exact .done (iu (x:=⟨ev,jo,false,does,.none,node,has,nx,out⟩) (n:=.join q) rfl gX (vh an) hb aV r .ai [] trivial)
  |false=>
   refine aj 1 ?_
   refine gq.dO (.pull [1] (.refl _)) ?_
   refine .sched [5] (upto [5] 11 0) (by kernel_rfl) ?_
   refine aa 0 ?_
   refine aI [] (dG _ _ _) ?_
   refine⟨_,wJoin_,?_⟩
   refine iR [_] an (fun σ=>IQ M r q m d σ hm (by have:=o3.1;omega)) (fun m' aV hb=>?_) (fun m' aV hb=>?_)
   ·refine aw [] (SB w r s l who ev jo false does node has nx out _ _ _ _ _ _ _ _ _ _ o3.2) ?_
    refine aj 0 ?_
    refine aj 0 ?_
    refine aa 0 ?_
    exact .drop 1 1 (.done (gT (x:=⟨ev,jo,false,does,.none,node,has,nx,out⟩) (n:=.join q) rfl gX (vh an) hb aV rfl rfl r))
   ·exact .done (iu (x:=⟨ev,jo,false,does,.none,node,has,nx,out⟩) (n:=.join q) rfl gX (vh an) hb aV r .ai [] trivial)
 |take q=>
  obtain⟨q',a',b',an⟩:∃q' a' b',k8 M.O q (M.abs m)=(q',a',b'):=⟨_,_,_,rfl⟩
  obtain⟨u1,u2,u3,u4,u5,u6⟩:=q'
  cases u4 with
  |true=>
   refine aj 1 ?_
   refine gq.dO (.pull [1] (.refl _)) ?_
   refine .sched [5] (upto [5] 11 0) (by kernel_rfl) ?_
   refine aa 0 ?_
   refine aI [] (dG _ _ _) ?_
   refine⟨_,wTake_,?_⟩
   refine iR [_] an (fun σ=>IN M r q m d σ hm) (fun m' aV hb=>?_) (fun m' aV hb=>?_)
   ·refine aw [] (Sx w r s l who ev jo false does node has nx out _ _ _ _ _ _) ?_
    refine aj 0 ?_
    refine aj 0 ?_
    refine aa 0 ?_
    exact .drop 1 1 (.done (gT (x:=⟨ev,jo,false,does,.none,node,has,nx,out⟩) (n:=.take q) rfl gX (vf an) hb aV rfl rfl r))
   ·exact .done (iu (x:=⟨ev,jo,false,does,.none,node,has,nx,out⟩) (n:=.take q) rfl gX (vf an) hb aV r .ai [] trivial)
  |false=>
   refine aj 1 ?_
   refine gq.dO (.pull [1] (.refl _)) ?_
   refine .sched [5] (upto [5] 11 0) (by kernel_rfl) ?_
   refine aa 0 ?_
   refine aI [] (dG _ _ _) ?_
   refine⟨_,wTake_,?_⟩
   refine iR [_] an (fun σ=>IN M r q m d σ hm) (fun m' aV hb=>?_) (fun m' aV hb=>?_)
   ·refine aw [] (Sz w r s l who ev jo false does node has nx out _ _ _ _ _ _ o3) ?_
    refine aj 0 ?_
    refine aj 0 ?_
    refine aa 0 ?_
    exact .drop 1 1 (.done (gT (x:=⟨ev,jo,false,does,.none,node,has,nx,out⟩) (n:=.take q) rfl gX (vf an) hb aV rfl rfl r))
   ·exact .done (iu (x:=⟨ev,jo,false,does,.none,node,has,nx,out⟩) (n:=.take q) rfl gX (vf an) hb aV r .ai [] trivial)
 |push q=>
  obtain⟨q',a',b',an⟩:∃q' a' b',gD M.O q (M.abs m)=(q',a',b'):=⟨_,_,_,rfl⟩
  refine aj 1 ?_
  refine gq.dO (.pull [1] (.refl _)) ?_
  refine .sched [5] (upto [5] 11 0) (by kernel_rfl) ?_
  refine aa 0 ?_
  refine aI [] (dG _ _ _) ?_
  refine⟨_,wPush_,?_⟩
  refine iR [_] an (fun σ=>WG M r q m d σ hm (by have:=o3.1.1;omega) o3.1.2) (fun m' aV hb=>?_) (fun m' aV hb=>?_)
  ·refine aw [] (T0 w r s l who ev jo false does node has nx out _ _ o3.2) ?_
   refine aj 0 ?_
   refine aj 0 ?_
   refine aa 0 ?_
   exact .drop 1 1 (.done (gT (x:=⟨ev,jo,false,does,.none,node,has,nx,out⟩) (n:=.push q) rfl gX (DG an) hb aV rfl rfl r))
  ·exact .done (iu (x:=⟨ev,jo,false,does,.none,node,has,nx,out⟩) (n:=.push q) rfl gX (DG an) hb aV r .ai [] trivial)
 |ee q=>
  obtain⟨q',a',b',an⟩:∃q' a' b',tN M.O q (M.abs m)=(q',a',b'):=⟨_,_,_,rfl⟩
  refine aj 1 ?_
  refine gq.dO (.pull [1] (.refl _)) ?_
  refine .sched [5] (upto [5] 11 0) (by kernel_rfl) ?_
  refine aa 0 ?_
  refine aI [] (dG _ _ _) ?_
  refine⟨_,wRetire_,?_⟩
  refine iR [_] an (fun σ=>U2 M r q m d σ hm) (fun m' aV hb=>?_) (fun m' aV hb=>?_)
  ·refine aw [] (Rt w r s l who ev jo false does node has nx out _ _) ?_
   refine aj 0 ?_
   refine aj 0 ?_
   refine aa 0 ?_
   exact .drop 1 1 (.done (gT (x:=⟨ev,jo,false,does,.none,node,has,nx,out⟩) (n:=.ee q) rfl gX (GX an) hb aV rfl rfl r))
  ·exact .done (iu (x:=⟨ev,jo,false,does,.none,node,has,nx,out⟩) (n:=.ee q) rfl gX (GX an) hb aV r .ai [] trivial)
theorem agu(M:AMem)(w r:Nat)(c:AV)(acc:Hp)(s:Sy)(l:Lay)(who:Int)(x:WS)(d:Int)(m:M.S)(σ:Hp)(hf:Fit s)(hm:M.O.free (M.abs m))(hv:∀a,bG (M.O.ld (M.abs m) a).1)(ok:NP l x)(rd:zJ c acc x.now):
  ACalls Tryz.prog 390 [.ptr w 0,M.v,.int .i64 d] (WB s l who w r c acc x++(M.B m++σ)) (pM M s l who w (dw M.O s l who x d (M.abs m)) σ):=by
 obtain⟨ev,jo,en,does,n,node,has,nx,out⟩:=x
 obtain⟨o1,o2,o3⟩:=ok
 cases en with
 |true=>
  refine ar Tryz.func390 ?_
  refine aa 0 ?_
  refine aa 0 ?_
  exact .done (abf rfl rfl rd)
 |false=>
  cases n with
  |none=>exact acV M w r c acc s l who ev jo does node has nx out d m σ hm hf hv o1 o2
  |pop q=>exact aeY M w r c acc s l who ev jo does q node has nx out d m σ hm o3
  |cC q=>exact aaW M w r c acc s l who ev jo does q node has nx out d m σ hm o3
  |quiet q=>exact aaX M w r c acc s l who ev jo does q node has nx out d m σ hm
  |clear q=>exact aaY M w r c acc s l who ev jo does q node has nx out d m σ hm
  |read q=>exact acT M w r c acc s l who ev jo does q node has nx out d m σ hm hf hv o3 rd
  |join q=>exact acW M w r c acc s l who ev jo does q node has nx out d m σ hm o3
  |take q=>exact acS M w r c acc s l who ev jo does q node has nx out d m σ hm o3
  |push q=>exact acU M w r c acc s l who ev jo does q node has nx out d m σ hm o3
  |ee q=>exact ZF M w r c acc s l who ev jo does q node has nx out d m σ hm
end Go.Proofs.YtnikdflhefijbaaGreat
