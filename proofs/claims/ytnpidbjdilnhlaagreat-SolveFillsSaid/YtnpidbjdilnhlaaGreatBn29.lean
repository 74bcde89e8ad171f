import Derived.Test.YtnpidbjdilnhlaaGreatBn28
namespace Go.Proofs.YtnpidbjdilnhlaaGreat
open Go.RowKit
set_option maxRecDepth 100000
def BP(r:Nat):Nw→AV
 | .none=>.nilif
 | .pop _=>.iface 367 (.ptr r 0)
 | .dT _=>.iface 372 (.ptr r 0)
 | .quiet _=>.iface 374 (.ptr r 0)
 | .clear _=>.iface 377 (.ptr r 0)
 | .read _=>.iface 380 (.ptr r 0)
 | .join _=>.iface 385 (.ptr r 0)
 | .take _=>.iface 388 (.ptr r 0)
 | .push _=>.iface 393 (.ptr r 0)
 | .fB _=>.iface 395 (.ptr r 0)
def BQ(l:Lay)(node:Int)(r:Nat)(c:AV)(acc:Hp):Nw→Hp
 | .none=>[]
 | .pop q=>[(r,jh q)]
 | .dT q=>[(r,jh q)]
 | .quiet t=>[(r,yp t)]
 | .clear t=>[(r,za t)]
 | .read x=>(r,gO c (cy l node) l.ag l.words false x.length false 0)::acc
 | .join j=>[(r,tT j)]
 | .take t=>[(r,tO t)]
 | .push q=>[(r,jh q)]
 | .fB t=>[(r,yo t)]
def um(base cap n:Int):DQ:=⟨base,cap,n,false,false,0,0,0,0⟩
def gw(l:Lay)(aw ao node:Int)(nx out:List Int)(d:Int):Nw:=
 if ao=0 then .pop (um (dC l aw) (fE l) 0)
 else if ao=1 then .dT (um (dC l (wZ l aw d)) (fE l) 0)
 else if ao=2 then .quiet ⟨gp l,gU l,false,false⟩
 else if ao=3 then .clear ⟨gp l,gU l,node,false⟩
 else if ao=4 then .read []
 else if ao=5 then .join ⟨cy l (nx.headD 0),l.ag,l.words,out,false,false,0,0,false,0⟩
 else if ao=6 then .take ⟨gp l,gU l,nx.headD 0,false,false,false⟩
 else if ao=7 then .push (um (dC l aw) (fE l) (wu (nx.headD 0)))
 else .fB ⟨gp l,gU l,0,false⟩
theorem MK{l:Lay}{aw ao node d:Int}{nx out:List Int}(h:ao=0):gw l aw ao node nx out d=.pop (um (dC l aw) (fE l) 0):=by subst h;rfl
theorem MJ{l:Lay}{aw ao node d:Int}{nx out:List Int}(h:ao=1):gw l aw ao node nx out d=.dT (um (dC l (wZ l aw d)) (fE l) 0):=by subst h;rfl
theorem MI{l:Lay}{aw ao node d:Int}{nx out:List Int}(h:ao=2):gw l aw ao node nx out d=.quiet ⟨gp l,gU l,false,false⟩:=by subst h;rfl
theorem MH{l:Lay}{aw ao node d:Int}{nx out:List Int}(h:ao=3):gw l aw ao node nx out d=.clear ⟨gp l,gU l,node,false⟩:=by subst h;rfl
theorem MG{l:Lay}{aw ao node d:Int}{nx out:List Int}(h:ao=4):gw l aw ao node nx out d=.read []:=by subst h;rfl
theorem MF{l:Lay}{aw ao node d:Int}{nx out:List Int}(h:ao=5):gw l aw ao node nx out d=.join ⟨cy l (nx.headD 0),l.ag,l.words,out,false,false,0,0,false,0⟩:=by subst h;rfl
theorem ME{l:Lay}{aw ao node d:Int}{nx out:List Int}(h:ao=6):gw l aw ao node nx out d=.take ⟨gp l,gU l,nx.headD 0,false,false,false⟩:=by subst h;rfl
theorem MD{l:Lay}{aw ao node d:Int}{nx out:List Int}(h:ao=7):gw l aw ao node nx out d=.push (um (dC l aw) (fE l) (wu (nx.headD 0))):=by subst h;rfl
theorem MC{l:Lay}{aw ao node d:Int}{nx out:List Int}(h0:¬ao=0)(h1:¬ao=1)(h2:¬ao=2)(h3:¬ao=3)(h4:¬ao=4)(h5:¬ao=5)(h6:¬ao=6)(h7:¬ao=7):gw l aw ao node nx out d=.fB ⟨gp l,gU l,0,false⟩:=by
 unfold gw;rw[if_neg h0,if_neg h1,if_neg h2,if_neg h3,if_neg h4,if_neg h5,if_neg h6,if_neg h7]
theorem C3{nx:List Int}(h:0<nx.length):nx[((0:Int)).toNat]?=some (nx.headD 0):=by
 cases nx with
 | nil=>simp at h
 | cons z nx=>rfl
theorem VS(w:Nat)(s:Sy)(l:Lay)(aw ev jo:Int)(en:Bool)(ao:Int)(nv:AV)(node:Int)(has:Bool)(nx out:List Int)(d:Int)(σ:Hp)(hx:ao=5∨ao=6∨ao=7→0<nx.length)(h1:ao=1→nK l≠0∧l.k≠0):ACalls Tryz.prog 358 [.ptr w 0,.int .i64 d] ((w,cF s l aw ev jo en ao nv node has nx out)::σ) (fun x σ'=>∃r,x=BP r (gw l aw ao node nx out d)∧σ'=BQ l node r .aj [] (gw l aw ao node nx out d)++((w,cF s l aw ev jo en ao nv node has nx out)::σ)):=by
 refine okF Tryz.func358 (by kernel_rfl) ?_
 refine aa.mk 0 _ _ rfl rfl ?_
 refine az [] (DX l _) ?_
 intro aC
 refine ai.mk 0 _ _ rfl rfl ?_
 refine aa.mk 1 _ _ rfl rfl ?_
 refine an (fun c2 =>?_) (fun c2 =>?_)
 ·have c2:ao=0:=c2
  refine .sched [8] (upto [8] 13 0) (by kernel_rfl) ?_
  refine aa.mk 1 _ _ rfl rfl ?_
  refine aa.mk 1 _ _ rfl rfl ?_
  refine aJ [] (xh l _ _) ?_
  intro rq
  exact .drop 1 1 (.done ⟨_,by rw[MK (by assumption)];rfl,by rw[MK (by assumption)];rfl⟩)
 ·have c2:¬(ao=0):=c2
  refine an (fun c4 =>?_) (fun c4 =>?_)
  ·have c4:ao=1:=c4
   refine .sched [6,7] (upto [6,7] 12 0) (by kernel_rfl) ?_
   refine aa.mk 1 _ _ rfl rfl ?_
   refine aJ [1] (Uc w s l aw ev jo en ao nv node has nx out d _ (h1 (by assumption)).1 (h1 (by assumption)).2) ?_
   refine aJ [] (xh l _ _) ?_
   intro pS
   exact .drop 1 1 (.done ⟨_,by rw[MJ (by assumption)];rfl,by rw[MJ (by assumption)];rfl⟩)
  ·have c4:¬(ao=1):=c4
   refine an (fun c6 =>?_) (fun c6 =>?_)
   ·have c6:ao=2:=c6
    refine aa.mk 0 _ _ rfl rfl ?_
    intro bl7
    exact .drop 1 1 (.done ⟨_,by rw[MI (by assumption)];rfl,by rw[MI (by assumption)];rfl⟩)
   ·have c6:¬(ao=2):=c6
    refine an (fun c8 =>?_) (fun c8 =>?_)
    ·have c8:ao=3:=c8
     refine .sched [] (upto [] 9 0) (by kernel_rfl) ?_
     refine aa.mk 0 _ _ rfl rfl ?_
     refine aa.mk 1 _ _ rfl rfl ?_
     intro bl9
     exact .drop 1 1 (.done ⟨_,by rw[MH (by assumption)];rfl,by rw[MH (by assumption)];rfl⟩)
    ·have c8:¬(ao=3):=c8
     refine an (fun fY =>?_) (fun fY =>?_)
     ·have fY:ao=4:=fY
      refine .sched [8] (upto [8] 13 0) (by kernel_rfl) ?_
      refine aa.mk 1 _ _ rfl rfl ?_
      refine aa.mk 1 _ _ rfl rfl ?_
      refine aJ [] (AU l _ _) ?_
      intro bl11
      exact .drop 1 1 (.done ⟨_,by rw[MG (by assumption)];rfl,by rw[MG (by assumption)];rfl⟩)
     ·have fY:¬(ao=4):=fY
      refine an (fun oP =>?_) (fun oP =>?_)
      ·have oP:ao=5:=oP
       refine .sched [10] (upto [10] 19 0) (by kernel_rfl) ?_
       refine aa.mk 1 _ _ rfl rfl ?_
       refine aa.mk 1 _ _ rfl rfl ?_
       refine ah.mk rfl ?_
       refine aT.mk (nx.headD 0) (by decide) (C3 (hx (by omega))) ?_
       refine aJ [] (AU l _ _) ?_
       refine aa.mk 1 _ _ rfl rfl ?_
       intro bl13
       exact .drop 1 1 (.done ⟨_,by rw[MF (by assumption)];rfl,by rw[MF (by assumption)];rfl⟩)
      ·have oP:¬(ao=5):=oP
       refine an (fun oO =>?_) (fun oO =>?_)
       ·have oO:ao=6:=oO
        refine .sched [] (upto [] 11 0) (by kernel_rfl) ?_
        refine aa.mk 0 _ _ rfl rfl ?_
        refine aa.mk 1 _ _ rfl rfl ?_
        refine ah.mk rfl ?_
        refine aT.mk (nx.headD 0) (by decide) (C3 (hx (by omega))) ?_
        intro bl15
        exact .drop 1 1 (.done ⟨_,by rw[ME (by assumption)];rfl,by rw[ME (by assumption)];rfl⟩)
       ·have oO:¬(ao=6):=oO
        refine an (fun oN =>?_) (fun oN =>?_)
        ·have oN:ao=7:=oN
         refine .sched [8] (upto [8] 20 0) (by kernel_rfl) ?_
         refine aa.mk 1 _ _ rfl rfl ?_
         refine aa.mk 1 _ _ rfl rfl ?_
         refine aJ [] (xh l _ _) ?_
         refine aa.mk 1 _ _ rfl rfl ?_
         refine ah.mk rfl ?_
         refine aT.mk (nx.headD 0) (by decide) (C3 (hx (by omega))) ?_
         intro bl17
         exact .drop 1 1 (.done ⟨_,by rw[MD (by assumption)];rfl,by rw[MD (by assumption)];rfl⟩)
        ·have oN:¬(ao=7):=oN
         refine aa.mk 0 _ _ rfl rfl ?_
         intro bl18
         exact .drop 1 1 (.done ⟨_,by rw[MC (by assumption) (by assumption) (by assumption) (by assumption) (by assumption) (by assumption) (by assumption) (by assumption)];rfl,by rw[MC (by assumption) (by assumption) (by assumption) (by assumption) (by assumption) (by assumption) (by assumption) (by assumption)];rfl⟩)
theorem JT(w r:Nat)(s:Sy)(l:Lay)(aw ev jo:Int)(en:Bool)(ao:Int)(node:Int)(has:Bool)(nx out:List Int)(base cap n:Int)(eC:Bool)(at_:Nat)(b t x:Int)(σ:Hp):ACalls Tryz.prog 359 [.ptr w 0] ((w,cF s l aw ev jo en ao (.iface 367 (.ptr r 0)) node has nx out)::(r,jh ⟨base,cap,n,true,eC,at_,b,t,x⟩)::σ) (aB (.int .i64 (oZ l n)) ((w,cF s l aw ev jo en ao (.iface 367 (.ptr r 0)) (mW l n) true nx out)::(r,jh ⟨base,cap,n,true,eC,at_,b,t,x⟩)::σ)):=by
 refine okF Tryz.func359 (by kernel_rfl) ?_
 refine aa.mk 0 _ _ rfl rfl ?_
 refine aa.mk 1 _ _ rfl rfl ?_
 refine aa.mk 1 _ _ rfl rfl ?_
 refine az [] (MR w s l aw ev jo en ao (.iface 367 (.ptr r 0)) node has nx out n _) ?_
 exact .done ⟨rfl,rfl⟩
theorem JU(w r:Nat)(s:Sy)(l:Lay)(aw ev jo:Int)(en:Bool)(ao:Int)(node:Int)(has:Bool)(nx out:List Int)(base cap n:Int)(eC:Bool)(at_:Nat)(b t x:Int)(σ:Hp):ACalls Tryz.prog 359 [.ptr w 0] ((w,cF s l aw ev jo en ao (.iface 367 (.ptr r 0)) node has nx out)::(r,jh ⟨base,cap,n,false,eC,at_,b,t,x⟩)::σ) (aB (.int .i64 (s6 l)) ((w,cF s l aw ev jo en ao (.iface 367 (.ptr r 0)) node has nx out)::(r,jh ⟨base,cap,n,false,eC,at_,b,t,x⟩)::σ)):=by
 refine okF Tryz.func359 (by kernel_rfl) ?_
 refine aa.mk 0 _ _ rfl rfl ?_
 refine aa.mk 1 _ _ rfl rfl ?_
 refine az [] (VI w s l aw ev jo en ao (.iface 367 (.ptr r 0)) node has nx out _) ?_
 exact .done ⟨rfl,rfl⟩
theorem HQ(w r:Nat)(s:Sy)(l:Lay)(aw ev jo:Int)(en:Bool)(ao:Int)(node:Int)(has:Bool)(nx out:List Int)(base cap n:Int)(eC:Bool)(at_:Nat)(b t x:Int)(σ:Hp):ACalls Tryz.prog 359 [.ptr w 0] ((w,cF s l aw ev jo en ao (.iface 372 (.ptr r 0)) node has nx out)::(r,jh ⟨base,cap,n,true,eC,at_,b,t,x⟩)::σ) (aB (.int .i64 (oZ l n)) ((w,cF s l aw ev jo en ao (.iface 372 (.ptr r 0)) (mW l n) true nx out)::(r,jh ⟨base,cap,n,true,eC,at_,b,t,x⟩)::σ)):=by
 refine okF Tryz.func359 (by kernel_rfl) ?_
 refine aa.mk 0 _ _ rfl rfl ?_
 refine aa.mk 1 _ _ rfl rfl ?_
 refine aa.mk 1 _ _ rfl rfl ?_
 refine az [] (MR w s l aw ev jo en ao (.iface 372 (.ptr r 0)) node has nx out n _) ?_
 exact .done ⟨rfl,rfl⟩
theorem HR(w r:Nat)(s:Sy)(l:Lay)(aw ev jo:Int)(en:Bool)(ao:Int)(node:Int)(has:Bool)(nx out:List Int)(base cap n:Int)(eC:Bool)(at_:Nat)(b t x:Int)(σ:Hp):ACalls Tryz.prog 359 [.ptr w 0] ((w,cF s l aw ev jo en ao (.iface 372 (.ptr r 0)) node has nx out)::(r,jh ⟨base,cap,n,false,eC,at_,b,t,x⟩)::σ) (aB (.int .i64 2) ((w,cF s l aw ev jo en ao (.iface 372 (.ptr r 0)) node has nx out)::(r,jh ⟨base,cap,n,false,eC,at_,b,t,x⟩)::σ)):=by
 refine okF Tryz.func359 (by kernel_rfl) ?_
 refine aa.mk 0 _ _ rfl rfl ?_
 refine aa.mk 1 _ _ rfl rfl ?_
 exact .done ⟨rfl,rfl⟩
def w7(l:Lay):Int:=if l.k<2 then 0 else 1
theorem zZ(w r:Nat)(s:Sy)(l:Lay)(aw ev jo:Int)(en:Bool)(ao:Int)(node:Int)(has:Bool)(nx out:List Int)(f c0:Int)(is eC:Bool)(σ:Hp):ACalls Tryz.prog 359 [.ptr w 0] ((w,cF s l aw ev jo en ao (.iface 374 (.ptr r 0)) node has nx out)::(r,yp ⟨f,c0,is,eC⟩)::σ) (aB (.int .i64 (w7 l)) ((w,cF s l aw ev jo is ao (.iface 374 (.ptr r 0)) node has nx out)::(r,yp ⟨f,c0,is,eC⟩)::σ)):=by
 refine okF Tryz.func359 (by kernel_rfl) ?_
 cases is with
 | true =>
  refine aa.mk 0 _ _ rfl rfl ?_
  refine aa.mk 1 _ _ rfl rfl ?_
  refine ai.mk 0 _ _ rfl rfl ?_
  refine cm [] (Ej w s l aw ev jo true ao (.iface 374 (.ptr r 0)) node has nx out _) (fun c =>?_) (fun c =>?_)
  ·exact .done ⟨aN (if_pos (of_decide_eq_true (by assumption))).symm,by subst_vars;rfl⟩
  ·exact .done ⟨aN (if_neg (of_decide_eq_false (by assumption))).symm,by subst_vars;rfl⟩
 | false =>
  refine aa.mk 0 _ _ rfl rfl ?_
  refine aa.mk 1 _ _ rfl rfl ?_
  refine ai.mk 0 _ _ rfl rfl ?_
  refine cm [] (Ej w s l aw ev jo false ao (.iface 374 (.ptr r 0)) node has nx out _) (fun c =>?_) (fun c =>?_)
  ·exact .done ⟨aN (if_pos (of_decide_eq_true (by assumption))).symm,by subst_vars;rfl⟩
  ·exact .done ⟨aN (if_neg (of_decide_eq_false (by assumption))).symm,by subst_vars;rfl⟩
theorem IQ(w r:Nat)(s:Sy)(l:Lay)(aw ev jo:Int)(en:Bool)(ao:Int)(node:Int)(has:Bool)(nx out:List Int)(f c0 v:Int)(eC:Bool)(σ:Hp):ACalls Tryz.prog 359 [.ptr w 0] ((w,cF s l aw ev jo en ao (.iface 377 (.ptr r 0)) node has nx out)::(r,za ⟨f,c0,v,eC⟩)::σ) (aB (.int .i64 4) ((w,cF s l aw ev jo en ao (.iface 377 (.ptr r 0)) node has nx out)::(r,za ⟨f,c0,v,eC⟩)::σ)):=by
 refine okF Tryz.func359 (by kernel_rfl) ?_
 refine aa.mk 0 _ _ rfl rfl ?_
 exact .done ⟨rfl,rfl⟩
theorem Al(w r:Nat)(s:Sy)(l:Lay)(aw ev jo:Int)(en:Bool)(ao:Int)(node:Int)(has:Bool)(nx out:List Int)(x:List Int)(base ag words:Int)(eC:Bool)(at_:Nat)(ld:Bool)(z:Int)(σ:Hp)(hf:Fit s)(hx:bJ x)(lx:x.length≤10000):ACalls Tryz.prog 359 [.ptr w 0] ((w,cF s l aw ev jo en ao (.iface 380 (.ptr r 0)) node has nx out)::(r,gO (.af (.int .u64) x) base ag words eC at_ ld z)::σ) (aB (.int .i64 (uS s node)) ((w,cF s l aw (wr (ev+1)) jo en ao (.iface 380 (.ptr r 0)) node has (au s.n s.bQ node) (pI (nj s node x) (ni s x node.toNat)))::(r,gO (.af (.int .u64) x) base ag words eC at_ ld z)::σ)):=by
 refine okF Tryz.func359 (by kernel_rfl) ?_
 refine aa.mk 0 _ _ rfl rfl ?_
 refine aa.mk 1 _ _ rfl rfl ?_
 refine az [] (Vw w s l aw ev jo en ao (.iface 380 (.ptr r 0)) node has nx out x _ hf hx lx) ?_
 exact .done ⟨rfl,rfl⟩
theorem IN(w r:Nat)(s:Sy)(l:Lay)(aw ev jo:Int)(en:Bool)(ao:Int)(node:Int)(has:Bool)(nx out:List Int)(base ag words:Int)(a:List Int)(eC:Bool)(tr:Int)(at_:Nat)(ld:Bool)(x:Int)(σ:Hp):ACalls Tryz.prog 359 [.ptr w 0] ((w,cF s l aw ev jo en ao (.iface 385 (.ptr r 0)) node has nx out)::(r,tT ⟨base,ag,words,a,true,eC,tr,at_,ld,x⟩)::σ) (aB (.int .i64 6) ((w,cF s l aw ev (wr (jo+1)) en ao (.iface 385 (.ptr r 0)) node has nx out)::(r,tT ⟨base,ag,words,a,true,eC,tr,at_,ld,x⟩)::σ)):=by
 refine okF Tryz.func359 (by kernel_rfl) ?_
 refine aa.mk 0 _ _ rfl rfl ?_
 refine aa.mk 1 _ _ rfl rfl ?_
 refine aa.mk 0 _ _ rfl rfl ?_
 refine ai.mk 0 _ _ rfl rfl ?_
 exact .done ⟨rfl,rfl⟩
theorem IP(w r:Nat)(s:Sy)(l:Lay)(aw ev jo:Int)(en:Bool)(ao:Int)(node:Int)(has:Bool)(nx out:List Int)(base ag words:Int)(a:List Int)(eC:Bool)(tr:Int)(at_:Nat)(ld:Bool)(x:Int)(σ:Hp)(hx:0<nx.length):ACalls Tryz.prog 359 [.ptr w 0] ((w,cF s l aw ev jo en ao (.iface 385 (.ptr r 0)) node has nx out)::(r,tT ⟨base,ag,words,a,false,eC,tr,at_,ld,x⟩)::σ) (aB (.int .i64 (mX nx)) ((w,cF s l aw ev jo en ao (.iface 385 (.ptr r 0)) node has nx.tail out)::(r,tT ⟨base,ag,words,a,false,eC,tr,at_,ld,x⟩)::σ)):=by
 refine okF Tryz.func359 (by kernel_rfl) ?_
 refine aa.mk 0 _ _ rfl rfl ?_
 refine aa.mk 1 _ _ rfl rfl ?_
 refine az [] (DY w s l aw ev jo en ao (.iface 385 (.ptr r 0)) node has nx out _ hx) ?_
 exact .done ⟨rfl,rfl⟩
theorem IL(w r:Nat)(s:Sy)(l:Lay)(aw ev jo:Int)(en:Bool)(ao:Int)(node:Int)(has:Bool)(nx out:List Int)(f c0 v:Int)(eC iN:Bool)(σ:Hp):ACalls Tryz.prog 359 [.ptr w 0] ((w,cF s l aw ev jo en ao (.iface 388 (.ptr r 0)) node has nx out)::(r,tO ⟨f,c0,v,true,eC,iN⟩)::σ) (aB (.int .i64 7) ((w,cF s l aw ev jo en ao (.iface 388 (.ptr r 0)) node has nx out)::(r,tO ⟨f,c0,v,true,eC,iN⟩)::σ)):=by
 refine okF Tryz.func359 (by kernel_rfl) ?_
 refine aa.mk 0 _ _ rfl rfl ?_
 refine aa.mk 1 _ _ rfl rfl ?_
 exact .done ⟨rfl,rfl⟩
theorem IM(w r:Nat)(s:Sy)(l:Lay)(aw ev jo:Int)(en:Bool)(ao:Int)(node:Int)(has:Bool)(nx out:List Int)(f c0 v:Int)(eC iN:Bool)(σ:Hp)(hx:0<nx.length):ACalls Tryz.prog 359 [.ptr w 0] ((w,cF s l aw ev jo en ao (.iface 388 (.ptr r 0)) node has nx out)::(r,tO ⟨f,c0,v,false,eC,iN⟩)::σ) (aB (.int .i64 (mX nx)) ((w,cF s l aw ev jo en ao (.iface 388 (.ptr r 0)) node has nx.tail out)::(r,tO ⟨f,c0,v,false,eC,iN⟩)::σ)):=by
 refine okF Tryz.func359 (by kernel_rfl) ?_
 refine aa.mk 0 _ _ rfl rfl ?_
 refine aa.mk 1 _ _ rfl rfl ?_
 refine az [] (DY w s l aw ev jo en ao (.iface 388 (.ptr r 0)) node has nx out _ hx) ?_
 exact .done ⟨rfl,rfl⟩
theorem JS(w r:Nat)(s:Sy)(l:Lay)(aw ev jo:Int)(en:Bool)(ao:Int)(node:Int)(has:Bool)(nx out:List Int)(q:DQ)(σ:Hp)(hx:0<nx.length):ACalls Tryz.prog 359 [.ptr w 0] ((w,cF s l aw ev jo en ao (.iface 393 (.ptr r 0)) node has nx out)::(r,jh q)::σ) (aB (.int .i64 (mX nx)) ((w,cF s l aw ev jo en ao (.iface 393 (.ptr r 0)) node has nx.tail out)::(r,jh q)::σ)):=by
 refine okF Tryz.func359 (by kernel_rfl) ?_
 refine aa.mk 0 _ _ rfl rfl ?_
 refine az [] (DY w s l aw ev jo en ao (.iface 393 (.ptr r 0)) node has nx out _ hx) ?_
 exact .done ⟨rfl,rfl⟩
theorem HS(w r:Nat)(s:Sy)(l:Lay)(aw ev jo:Int)(en:Bool)(ao:Int)(node:Int)(has:Bool)(nx out:List Int)(t:Rk)(σ:Hp):ACalls Tryz.prog 359 [.ptr w 0] ((w,cF s l aw ev jo en ao (.iface 395 (.ptr r 0)) node has nx out)::(r,yo t)::σ) (aB (.int .i64 0) ((w,cF s l aw ev jo en ao (.iface 395 (.ptr r 0)) node false nx out)::(r,yo t)::σ)):=by
 refine okF Tryz.func359 (by kernel_rfl) ?_
 refine aa.mk 0 _ _ rfl rfl ?_
 refine ai.mk 0 _ _ rfl rfl ?_
 exact .done ⟨rfl,rfl⟩
set_option maxRecDepth 100000
set_option maxHeartbeats 4000000
theorem Um(M:AMem)(r:Nat)(m:M.S)(base ag words x:Int)(at_:Nat)(gG:Bool)(l:List Int)(c:AV)(acc:Hp)(d:Int)(σ:Hp)(hf:M.O.free (M.abs m))(dO:at_<cw words)(hv:ir c acc l)(hl:l.length≤2000):
  ACalls Tryz.prog 373 [.ptr r 0,M.v,.int .i64 d] ((r,gO c base ag words false at_ gG x)::(acc++(M.B m++σ))) (fun z σ'=>∃m' c' aP,ir c' aP (l++[(M.O.ld (M.abs m) (wr (base+at_))).1])∧M.abs m'=(M.O.ld (M.abs m) (wr (base+at_))).2∧z=.bool (decide (at_+1=cw words))∧σ'=(r,gO c' base ag words (decide (at_+1=cw words)) (at_+1) gG x)::(aP++(M.B m'++σ))):=by
 have hc:=tq words
 have hw:IntKind.i64.wrap ((at_:Int)+1)=((at_+1:Nat):Int):=by rw[IntKind.wrap_i64];omega
 have ab:decide ((at_:Int)<(cw words:Nat))=true:=decide_eq_true (by omega)
 cases hv with
 | nil =>
  refine okF Tryz.func373 (by kernel_rfl) ?_
  refine aa.mk 0 _ _ rfl rfl ?_
  refine .quiet (by kernel_rfl) ?_
  refine aa.mk 0 _ _ rfl rfl ?_
  refine aa.mk 0 _ _ rfl rfl ?_
  refine aJ [] (kG _ _ _ _) ?_
  refine CK ab ?_
  refine .sched [5,7] (upto [5,7] 28 0) (by kernel_rfl) ?_
  refine aa.mk 0 _ _ rfl rfl ?_
  refine aJ [] (QN _) ?_
  refine aJ [] (cu _ _ _) ?_
  refine aa.mk 0 _ _ rfl rfl ?_
  refine aa.mk 0 _ _ rfl rfl ?_
  refine dL.mk M.hL ?_
  refine M.aLoad [_] hf fun m' hm =>?_
  intro aC
  refine AppendAt.fresh 1 _ (.inl rfl) (.ae 0 _ 0 1 _ rfl (Nat.le_of_ble_eq_true rfl)) (by decide) (by decide) (by decide) (fun _ bn =>?_) (fun h=>absurd h (by decide))
  refine ai.mk 2 _ _ rfl rfl ?_
  refine aa.mk 2 _ _ rfl rfl ?_
  refine ai.mk 2 _ _ rfl rfl ?_
  refine .sched [10] (upto [10] 15 0) (by kernel_rfl) ?_
  refine aa.mk 2 _ _ rfl rfl ?_
  refine aa.mk 2 _ _ rfl rfl ?_
  refine aJ [] (kG _ _ _ _) ?_
  refine an (fun c2 =>?_) (fun c2 =>?_)
  ·have c2:IntKind.i64.wrap ((↑at_:Int)+1)=(↑(cw words):Int):=c2
   refine ai.mk 2 _ _ rfl rfl ?_
   refine aa.mk 2 _ _ rfl rfl ?_
   exact .drop 1 1 ((.pull [1] (.done ⟨m',_,_,.ae bn [_],hm,by rw[decide_eq_true (show at_+1=cw words by omega)];rfl,by unfold gO;rw[decide_eq_true (show at_+1=cw words by omega),← hw];rfl⟩)))
  ·have c2:¬(IntKind.i64.wrap ((↑at_:Int)+1)=(↑(cw words):Int)):=c2
   refine ai.mk 2 _ _ rfl rfl ?_
   refine aa.mk 2 _ _ rfl rfl ?_
   exact .drop 1 1 ((.pull [1] (.done ⟨m',_,_,.ae bn [_],hm,by rw[decide_eq_false (show ¬at_+1=cw words by omega)];rfl,by unfold gO;rw[decide_eq_false (show ¬at_+1=cw words by omega),← hw];rfl⟩)))
 | ae b l =>
  have hlen:(aL l).length=l.length*1:=by simp[aL]
  refine okF Tryz.func373 (by kernel_rfl) ?_
  refine aa.mk 0 _ _ rfl rfl ?_
  refine .quiet (by kernel_rfl) ?_
  refine aa.mk 0 _ _ rfl rfl ?_
  refine aa.mk 0 _ _ rfl rfl ?_
  refine aJ [] (kG _ _ _ _) ?_
  refine CK ab ?_
  refine .sched [7] (.one 0 false (.one 1 false (.one 2 false (.one 3 false (.one 4 false (.one 6 false (.one 8 false (.one 9 false (.one 10 false (.one 11 false (.one 13 false (.one 14 false (.one 15 false (.one 16 false (.alt 5 (.one 7 true (.one 12 false (.one 17 false (.one 18 false (.one 19 false (.one 20 false (.one 21 false (.one 22 false (.one 23 false (.one 24 false (.one 25 false (.one 26 false (.one 27 false .stop))))))))))))) (.alt 12 (.alt 5 (.one 7 true (.one 17 false (.one 18 false (.one 19 false (.one 20 false (.one 21 false (.one 22 false (.one 23 false (.one 24 false (.one 25 false (.one 26 false (.one 27 false .stop)))))))))))) (.one 17 false (.one 18 false (.one 5 false (.one 7 true (.one 19 false (.one 20 false (.one 21 false (.one 22 false (.one 23 false (.one 24 false (.one 25 false (.one 26 false (.one 27 false .stop)))))))))))))) (.one 17 false (.alt 5 (.one 7 true (.one 12 false (.one 18 false (.one 19 false (.one 20 false (.one 21 false (.one 22 false (.one 23 false (.one 24 false (.one 25 false (.one 26 false (.one 27 false .stop)))))))))))) (.one 12 false (.one 18 false (.one 5 false (.one 7 true (.one 19 false (.one 20 false (.one 21 false (.one 22 false (.one 23 false (.one 24 false (.one 25 false (.one 26 false (.one 27 false .stop))))))))))))))))))))))))))))))) (by kernel_rfl) ?_
  refine aa.mk 0 _ _ rfl rfl ?_
  refine And.intro ?_ ?_
  ·(refine .mk [] _ (wN b l.length (aL l) _ (List.mem_cons_of_mem _ (List.mem_cons_self ..)) hlen (by omega)) ?_;rintro _ _ ⟨b',rfl,rfl⟩)
   refine aJ [] (cu _ _ _) ?_
   refine aa.mk 1 _ _ rfl rfl ?_
   refine aa.mk 1 _ _ rfl rfl ?_
   refine dL.mk M.hL ?_
   refine M.aLoad [_,_,_] hf fun m' hm =>?_
   intro aC
   refine AppendAt.more 1 b' l.length 1 (aL l) _ rfl rfl (by show l.length*1≤(aL l).length;omega) (.ae 0 _ 0 1 _ rfl (Nat.le_of_ble_eq_true rfl)) (by omega) (by decide) (by decide) (fun bn =>?_)
   refine ai.mk 2 _ _ rfl rfl ?_
   refine aa.mk 2 _ _ rfl rfl ?_
   refine ai.mk 2 _ _ rfl rfl ?_
   refine .sched [10] (upto [10] 15 0) (by kernel_rfl) ?_
   refine aa.mk 2 _ _ rfl rfl ?_
   refine aa.mk 2 _ _ rfl rfl ?_
   refine aJ [] (kG _ _ _ _) ?_
   refine an (fun c2 =>?_) (fun c2 =>?_)
   ·have c2:IntKind.i64.wrap ((↑at_:Int)+1)=(↑(cw words):Int):=c2
    refine ai.mk 2 _ _ rfl rfl ?_
    refine aa.mk 2 _ _ rfl rfl ?_
    exact .drop 1 1 (.drop 2 1 ((.pull [1] (.done ⟨m',_,_,ir.push bn l _,hm,by rw[decide_eq_true (show at_+1=cw words by omega)];rfl,by unfold gO;rw[decide_eq_true (show at_+1=cw words by omega),← hw];rfl⟩))))
   ·have c2:¬(IntKind.i64.wrap ((↑at_:Int)+1)=(↑(cw words):Int)):=c2
    refine ai.mk 2 _ _ rfl rfl ?_
    refine aa.mk 2 _ _ rfl rfl ?_
    exact .drop 1 1 (.drop 2 1 ((.pull [1] (.done ⟨m',_,_,ir.push bn l _,hm,by rw[decide_eq_false (show ¬at_+1=cw words by omega)];rfl,by unfold gO;rw[decide_eq_false (show ¬at_+1=cw words by omega),← hw];rfl⟩))))
  ·refine And.intro ?_ ?_
   ·refine aa.mk 0 _ _ rfl rfl ?_
    refine And.intro ?_ ?_
    ·(refine .mk [] _ (wN b l.length (aL l) _ (List.mem_cons_of_mem _ (List.mem_cons_self ..)) hlen (by omega)) ?_;rintro _ _ ⟨b',rfl,rfl⟩)
     refine aJ [] (cu _ _ _) ?_
     refine aa.mk 1 _ _ rfl rfl ?_
     refine dL.mk M.hL ?_
     refine M.aLoad [_,_,_] hf fun m' hm =>?_
     intro rq
     refine AppendAt.more 1 b' l.length 1 (aL l) _ rfl rfl (by show l.length*1≤(aL l).length;omega) (.ae 0 _ 0 1 _ rfl (Nat.le_of_ble_eq_true rfl)) (by omega) (by decide) (by decide) (fun bn =>?_)
     refine ai.mk 2 _ _ rfl rfl ?_
     refine aa.mk 2 _ _ rfl rfl ?_
     refine ai.mk 2 _ _ rfl rfl ?_
     refine .sched [10] (upto [10] 15 0) (by kernel_rfl) ?_
     refine aa.mk 2 _ _ rfl rfl ?_
     refine aa.mk 2 _ _ rfl rfl ?_
     refine aJ [] (kG _ _ _ _) ?_
     refine an (fun c4 =>?_) (fun c4 =>?_)
     ·have c4:IntKind.i64.wrap ((↑at_:Int)+1)=(↑(cw words):Int):=c4
      refine ai.mk 2 _ _ rfl rfl ?_
      refine aa.mk 2 _ _ rfl rfl ?_
      exact .drop 1 1 (.drop 2 1 ((.pull [1] (.done ⟨m',_,_,ir.push bn l _,hm,by rw[decide_eq_true (show at_+1=cw words by omega)];rfl,by unfold gO;rw[decide_eq_true (show at_+1=cw words by omega),← hw];rfl⟩))))
     ·have c4:¬(IntKind.i64.wrap ((↑at_:Int)+1)=(↑(cw words):Int)):=c4
      refine ai.mk 2 _ _ rfl rfl ?_
      refine aa.mk 2 _ _ rfl rfl ?_
      exact .drop 1 1 (.drop 2 1 ((.pull [1] (.done ⟨m',_,_,ir.push bn l _,hm,by rw[decide_eq_false (show ¬at_+1=cw words by omega)];rfl,by unfold gO;rw[decide_eq_false (show ¬at_+1=cw words by omega),← hw];rfl⟩))))
    ·refine aa.mk 0 _ _ rfl rfl ?_
     (refine .mk [] _ (wN b l.length (aL l) _ (List.mem_cons_of_mem _ (List.mem_cons_self ..)) hlen (by omega)) ?_;rintro _ _ ⟨b',rfl,rfl⟩)
     refine aJ [] (cu _ _ _) ?_
     refine dL.mk M.hL ?_
     refine M.aLoad [_,_,_] hf fun m' hm =>?_
     intro pS
     refine AppendAt.more 1 b' l.length 1 (aL l) _ rfl rfl (by show l.length*1≤(aL l).length;omega) (.ae 0 _ 0 1 _ rfl (Nat.le_of_ble_eq_true rfl)) (by omega) (by decide) (by decide) (fun bn =>?_)
     refine ai.mk 2 _ _ rfl rfl ?_
     refine aa.mk 2 _ _ rfl rfl ?_
     refine ai.mk 2 _ _ rfl rfl ?_
     refine .sched [10] (upto [10] 15 0) (by kernel_rfl) ?_
     refine aa.mk 2 _ _ rfl rfl ?_
     refine aa.mk 2 _ _ rfl rfl ?_
     refine aJ [] (kG _ _ _ _) ?_
     refine an (fun c6 =>?_) (fun c6 =>?_)
     ·have c6:IntKind.i64.wrap ((↑at_:Int)+1)=(↑(cw words):Int):=c6
      refine ai.mk 2 _ _ rfl rfl ?_
      refine aa.mk 2 _ _ rfl rfl ?_
      exact .drop 1 1 (.drop 2 1 ((.pull [1] (.done ⟨m',_,_,ir.push bn l _,hm,by rw[decide_eq_true (show at_+1=cw words by omega)];rfl,by unfold gO;rw[decide_eq_true (show at_+1=cw words by omega),← hw];rfl⟩))))
     ·have c6:¬(IntKind.i64.wrap ((↑at_:Int)+1)=(↑(cw words):Int)):=c6
      refine ai.mk 2 _ _ rfl rfl ?_
      refine aa.mk 2 _ _ rfl rfl ?_
      exact .drop 1 1 (.drop 2 1 ((.pull [1] (.done ⟨m',_,_,ir.push bn l _,hm,by rw[decide_eq_false (show ¬at_+1=cw words by omega)];rfl,by unfold gO;rw[decide_eq_false (show ¬at_+1=cw words by omega),← hw];rfl⟩))))
   ·refine aa.mk 0 _ _ rfl rfl ?_
    refine And.intro ?_ ?_
    ·(refine .mk [] _ (wN b l.length (aL l) _ (List.mem_cons_of_mem _ (List.mem_cons_self ..)) hlen (by omega)) ?_;rintro _ _ ⟨b',rfl,rfl⟩)
     refine aJ [] (cu _ _ _) ?_
     refine aa.mk 1 _ _ rfl rfl ?_
     refine dL.mk M.hL ?_
     refine M.aLoad [_,_,_] hf fun m' hm =>?_
     intro bl7
     refine AppendAt.more 1 b' l.length 1 (aL l) _ rfl rfl (by show l.length*1≤(aL l).length;omega) (.ae 0 _ 0 1 _ rfl (Nat.le_of_ble_eq_true rfl)) (by omega) (by decide) (by decide) (fun bn =>?_)
     refine ai.mk 2 _ _ rfl rfl ?_
     refine aa.mk 2 _ _ rfl rfl ?_
     refine ai.mk 2 _ _ rfl rfl ?_
     refine .sched [10] (upto [10] 15 0) (by kernel_rfl) ?_
     refine aa.mk 2 _ _ rfl rfl ?_
     refine aa.mk 2 _ _ rfl rfl ?_
     refine aJ [] (kG _ _ _ _) ?_
     refine an (fun c8 =>?_) (fun c8 =>?_)
     ·have c8:IntKind.i64.wrap ((↑at_:Int)+1)=(↑(cw words):Int):=c8
      refine ai.mk 2 _ _ rfl rfl ?_
      refine aa.mk 2 _ _ rfl rfl ?_
      exact .drop 1 1 (.drop 2 1 ((.pull [1] (.done ⟨m',_,_,ir.push bn l _,hm,by rw[decide_eq_true (show at_+1=cw words by omega)];rfl,by unfold gO;rw[decide_eq_true (show at_+1=cw words by omega),← hw];rfl⟩))))
     ·have c8:¬(IntKind.i64.wrap ((↑at_:Int)+1)=(↑(cw words):Int)):=c8
      refine ai.mk 2 _ _ rfl rfl ?_
      refine aa.mk 2 _ _ rfl rfl ?_
      exact .drop 1 1 (.drop 2 1 ((.pull [1] (.done ⟨m',_,_,ir.push bn l _,hm,by rw[decide_eq_false (show ¬at_+1=cw words by omega)];rfl,by unfold gO;rw[decide_eq_false (show ¬at_+1=cw words by omega),← hw];rfl⟩))))
    ·refine aa.mk 0 _ _ rfl rfl ?_
     (refine .mk [] _ (wN b l.length (aL l) _ (List.mem_cons_of_mem _ (List.mem_cons_self ..)) hlen (by omega)) ?_;rintro _ _ ⟨b',rfl,rfl⟩)
     refine aJ [] (cu _ _ _) ?_
     refine dL.mk M.hL ?_
     refine M.aLoad [_,_,_] hf fun m' hm =>?_
     intro bl9
     refine AppendAt.more 1 b' l.length 1 (aL l) _ rfl rfl (by show l.length*1≤(aL l).length;omega) (.ae 0 _ 0 1 _ rfl (Nat.le_of_ble_eq_true rfl)) (by omega) (by decide) (by decide) (fun bn =>?_)
     refine ai.mk 2 _ _ rfl rfl ?_
     refine aa.mk 2 _ _ rfl rfl ?_
     refine ai.mk 2 _ _ rfl rfl ?_
     refine .sched [10] (upto [10] 15 0) (by kernel_rfl) ?_
     refine aa.mk 2 _ _ rfl rfl ?_
     refine aa.mk 2 _ _ rfl rfl ?_
     refine aJ [] (kG _ _ _ _) ?_
     refine an (fun fY =>?_) (fun fY =>?_)
     ·have fY:IntKind.i64.wrap ((↑at_:Int)+1)=(↑(cw words):Int):=fY
      refine ai.mk 2 _ _ rfl rfl ?_
      refine aa.mk 2 _ _ rfl rfl ?_
      exact .drop 1 1 (.drop 2 1 ((.pull [1] (.done ⟨m',_,_,ir.push bn l _,hm,by rw[decide_eq_true (show at_+1=cw words by omega)];rfl,by unfold gO;rw[decide_eq_true (show at_+1=cw words by omega),← hw];rfl⟩))))
     ·have fY:¬(IntKind.i64.wrap ((↑at_:Int)+1)=(↑(cw words):Int)):=fY
      refine ai.mk 2 _ _ rfl rfl ?_
      refine aa.mk 2 _ _ rfl rfl ?_
      exact .drop 1 1 (.drop 2 1 ((.pull [1] (.done ⟨m',_,_,ir.push bn l _,hm,by rw[decide_eq_false (show ¬at_+1=cw words by omega)];rfl,by unfold gO;rw[decide_eq_false (show ¬at_+1=cw words by omega),← hw];rfl⟩))))
theorem KB(M:AMem)(r:Nat)(base ag words x:Int)(gG:Bool)(c:AV)(d:Int)(σ:Hp)(dO:cw words=0):
  ACalls Tryz.prog 373 [.ptr r 0,M.v,.int .i64 d] ((r,gO c base ag words false 0 gG x)::σ) (aB (.bool true) ((r,gO c base ag words true 0 gG x)::σ)):=by
 have ab:decide ((0:Int)<(cw words:Nat))=false:=decide_eq_false (by omega)
 have heq:decide ((0:Int)=(cw words:Nat))=true:=decide_eq_true (by omega)
 refine okF Tryz.func373 (by kernel_rfl) ?_
 refine aa.mk 0 _ _ rfl rfl ?_
 refine .quiet (by kernel_rfl) ?_
 refine aa.mk 0 _ _ rfl rfl ?_
 refine aa.mk 0 _ _ rfl rfl ?_
 refine aJ [] (kG _ _ _ _) ?_
 refine N9 ab ?_
 refine .sched [10] (upto [10] 15 0) (by kernel_rfl) ?_
 refine aa.mk 0 _ _ rfl rfl ?_
 refine aa.mk 0 _ _ rfl rfl ?_
 refine aJ [] (kG _ _ _ _) ?_
 refine CK heq ?_
 refine ai.mk 0 _ _ rfl rfl ?_
 refine aa.mk 0 _ _ rfl rfl ?_
 exact .done ⟨rfl,rfl⟩
set_option maxRecDepth 100000
set_option maxHeartbeats 4000000
theorem wPop_ : Meth Tryz.prog 367 "Step" 368 := fun a w => by kernel_rfl
theorem wSteal_ : Meth Tryz.prog 372 "Step" 370 := fun a w => by kernel_rfl
theorem wPush_ : Meth Tryz.prog 393 "Step" 376 := fun a w => by kernel_rfl
theorem wQuiet_ : Meth Tryz.prog 374 "Step" 371 := fun a w => by kernel_rfl
theorem wClear_ : Meth Tryz.prog 377 "Step" 372 := fun a w => by kernel_rfl
theorem wTake_ : Meth Tryz.prog 388 "Step" 375 := fun a w => by kernel_rfl
theorem wRetire_ : Meth Tryz.prog 395 "Step" 377 := fun a w => by kernel_rfl
theorem wRead_ : Meth Tryz.prog 380 "Step" 373 := fun a w => by kernel_rfl
theorem wJoin_ : Meth Tryz.prog 385 "Step" 374 := fun a w => by kernel_rfl
theorem Wt{M:AMem}{f:FuncId}{xs:List AV}{X:Type}{B:X→List AV}{r:Nat}{cs:List AV}{res:X×M.O.A×Bool}{m:M.S}(fr:Hp){σ:Hp}{K:AV→Hp→Prop}(h:∀σ,ACalls Tryz.prog f xs ((r,cs)::(M.B m++σ)) (mg M σ B r res))
  (k1:∀m',M.abs m'=res.2.1→res.2.2=true→K (.bool true) (fr++((r,B res.1)::(M.B m'++σ)))) (k2:∀m',M.abs m'=res.2.1→res.2.2=false→K (.bool false) (fr++((r,B res.1)::(M.B m'++σ)))):CallAt Tryz.prog f K xs (fr++((r,cs)::(M.B m++σ))):=by
 have hp:∀(c:List AV) (b:Hp),((r,c)::(b++(fr++σ))).Perm (fr++((r,c)::(b++σ))):=fun c b=>dJ fr ((r,c)::b) σ
 refine .perm _ (hp cs (M.B m)) (h (fr++σ)) ?_
 rintro x σ' ⟨m',h1,rfl,rfl⟩
 refine⟨_,(hp (B res.1) (M.B m')).symm,?_⟩
 cases hb:res.2.2 with
 | true=>exact k1 m' h1 hb
 | false=>exact k2 m' h1 hb
def mS(O:gM)(l:Lay)(base:Int)(x:List Int)(a:O.A):List Int×O.A×Bool:=
 if x.length<cw l.words then (x++[(O.ld a (wr (base+(x.length:Nat)))).1],(O.ld a (wr (base+(x.length:Nat)))).2,decide (x.length+1=cw l.words)) else (x,a,true)
def iO(O:gM)(l:Lay)(node:Int):Nw→O.A→Nw×O.A×Bool
 | .none,a=>(.none,a,false)
 | .pop q,a=>(.pop (gT O q a).1,(gT O q a).2)
 | .dT q,a=>(.dT (jq O q a).1,(jq O q a).2)
 | .quiet t,a=>(.quiet (nT O t a).1,(nT O t a).2)
 | .clear t,a=>(.clear (nU O t a).1,(nU O t a).2)
 | .read x,a=>(.read (mS O l (cy l node) x a).1,(mS O l (cy l node) x a).2)
 | .join j,a=>(.join (iQ O j a).1,(iQ O j a).2)
 | .take t,a=>(.take (kI O t a).1,(kI O t a).2)
 | .push q,a=>(.push (jQ O q a).1,(jQ O q a).2)
 | .fB t,a=>(.fB (o7 O t a).1,(o7 O t a).2)
def fq(s:Sy)(l:Lay)(x:WS):Nw→WS
 | .none=>x
 | .pop q=>if q.ok=true then ⟨x.ev,x.jo,x.en,oZ l q.n,.none,mW l q.n,true,x.nx,x.out⟩ else ⟨x.ev,x.jo,x.en,s6 l,.none,x.node,x.has,x.nx,x.out⟩
 | .dT q=>if q.ok=true then ⟨x.ev,x.jo,x.en,oZ l q.n,.none,mW l q.n,true,x.nx,x.out⟩ else ⟨x.ev,x.jo,x.en,2,.none,x.node,x.has,x.nx,x.out⟩
 | .quiet t=>⟨x.ev,x.jo,t.is,w7 l,.none,x.node,x.has,x.nx,x.out⟩
 | .clear _=>⟨x.ev,x.jo,x.en,4,.none,x.node,x.has,x.nx,x.out⟩
 | .read y=>⟨wr (x.ev+1),x.jo,x.en,uS s x.node,.none,x.node,x.has,au s.n s.bQ x.node,pI (nj s x.node y) (ni s y x.node.toNat)⟩
 | .join j=>if j.changed=true then ⟨x.ev,wr (x.jo+1),x.en,6,.none,x.node,x.has,x.nx,x.out⟩ else ⟨x.ev,x.jo,x.en,mX x.nx,.none,x.node,x.has,x.nx.tail,x.out⟩
 | .take t=>if t.new=true then ⟨x.ev,x.jo,x.en,7,.none,x.node,x.has,x.nx,x.out⟩ else ⟨x.ev,x.jo,x.en,mX x.nx,.none,x.node,x.has,x.nx.tail,x.out⟩
 | .push _=>⟨x.ev,x.jo,x.en,mX x.nx,.none,x.node,x.has,x.nx.tail,x.out⟩
 | .fB _=>⟨x.ev,x.jo,x.en,0,.none,x.node,false,x.nx,x.out⟩
def nH(l:Lay)(aw:Int)(x:WS)(d:Int):Nw:=match x.now with
 | .none=>gw l aw x.ao x.node x.nx x.out d
 | n=>n
def dq(O:gM)(s:Sy)(l:Lay)(aw:Int)(x:WS)(d:Int)(a:O.A):WS×O.A×Bool:=
 if x.en=true then (x,a,true)
 else if (iO O l x.node (nH l aw x d) a).2.2=true then (fq s l x (iO O l x.node (nH l aw x d) a).1,(iO O l x.node (nH l aw x d) a).2.1,(fq s l x (iO O l x.node (nH l aw x d) a).1).en)
 else (⟨x.ev,x.jo,x.en,x.ao,(iO O l x.node (nH l aw x d) a).1,x.node,x.has,x.nx,x.out⟩,(iO O l x.node (nH l aw x d) a).2.1,false)
def qT(l:Lay)(nx:List Int):Nw→Prop
 | .none=>True
 | .pop q=>q.at_≤5∧0≤q.b
 | .dT q=>q.at_≤3∧0≤q.t
 | .quiet _=>True
 | .clear _=>True
 | .read x=>(x.length<cw l.words∨(cw l.words=0∧x=[]))∧bJ x
 | .join j=>j.at_≤1024∧0<nx.length
 | .take _=>0<nx.length
 | .push q=>(q.at_≤3∧0≤q.b)∧0<nx.length
 | .fB _=>True
def EX(l:Lay)(x:WS):Prop:=(x.ao=5∨x.ao=6∨x.ao=7→0<x.nx.length)∧(x.ao=1→nK l≠0∧l.k≠0)∧qT l x.nx x.now
def tA(c:AV)(acc:Hp):Nw→Prop
 | .read x=>ir c acc x∧(x=[]→c=.aj)
 | _=>True
def WB(s:Sy)(l:Lay)(aw:Int)(w r:Nat)(c:AV)(acc:Hp)(x:WS):Hp:=(w,cF s l aw x.ev x.jo x.en x.ao (BP r x.now) x.node x.has x.nx x.out)::BQ l x.node r c acc x.now
end Go.Proofs.YtnpidbjdilnhlaaGreat
