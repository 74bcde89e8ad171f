import Derived.Test.YtnikdflhefijbaaGreatBn27
namespace Go.Proofs.YtnikdflhefijbaaGreat
open Go.RowKit
set_option maxRecDepth 100000
def Ih(r:Nat):Nw→AV
 |.none=>.nilif
 |.pop _=>.iface 399 (.ptr r 0)
 |.cu _=>.iface 404 (.ptr r 0)
 |.quiet _=>.iface 406 (.ptr r 0)
 |.clear _=>.iface 409 (.ptr r 0)
 |.read _=>.iface 412 (.ptr r 0)
 |.join _=>.iface 417 (.ptr r 0)
 |.take _=>.iface 420 (.ptr r 0)
 |.push _=>.iface 425 (.ptr r 0)
 |.dT _=>.iface 427 (.ptr r 0)
def Ii(l:Lay)(node:Int)(r:Nat)(c:AV)(acc:Hp):Nw→Hp
 |.none=>[]
 |.pop q=>[(r,lQ q)]
 |.cu q=>[(r,lQ q)]
 |.quiet t=>[(r,DU t)]
 |.clear t=>[(r,EV t)]
 |.read x=>(r,j9 c (aS l node) l.what l.words false x.length false 0)::acc
 |.join j=>[(r,y5 j)]
 |.take t=>[(r,yW t)]
 |.push q=>[(r,lQ q)]
 |.dT t=>[(r,DS t)]
def tZ(base cap n:Int):DQ:=⟨base,cap,n,false,false,0,0,0,0⟩
def iF(l:Lay)(who does node:Int)(nx out:List Int)(d:Int):Nw:=
 if does=0 then .pop (tZ (gh l who) (ef l) 0)
 else if does=1 then .cu (tZ (gh l (Ci l who d)) (ef l) 0)
 else if does=2 then .quiet ⟨cO l,cF l,false,false⟩
 else if does=3 then .clear ⟨cO l,cF l,node,false⟩
 else if does=4 then .read []
 else if does=5 then .join ⟨aS l (nx.headD 0),l.what,l.words,out,false,false,0,0,false,0⟩
 else if does=6 then .take ⟨cO l,cF l,nx.headD 0,false,false,false⟩
 else if does=7 then .push (tZ (gh l who) (ef l) (wu (nx.headD 0)))
 else .dT ⟨cO l,cF l,0,false⟩
theorem H2{l:Lay}{who does node d:Int}{nx out:List Int}(h:does=0):iF l who does node nx out d=.pop (tZ (gh l who) (ef l) 0):=by subst h;rfl
theorem H0{l:Lay}{who does node d:Int}{nx out:List Int}(h:does=1):iF l who does node nx out d=.cu (tZ (gh l (Ci l who d)) (ef l) 0):=by subst h;rfl
theorem HZ{l:Lay}{who does node d:Int}{nx out:List Int}(h:does=2):iF l who does node nx out d=.quiet ⟨cO l,cF l,false,false⟩:=by subst h;rfl
theorem HY{l:Lay}{who does node d:Int}{nx out:List Int}(h:does=3):iF l who does node nx out d=.clear ⟨cO l,cF l,node,false⟩:=by subst h;rfl
theorem HX{l:Lay}{who does node d:Int}{nx out:List Int}(h:does=4):iF l who does node nx out d=.read []:=by subst h;rfl
theorem HW{l:Lay}{who does node d:Int}{nx out:List Int}(h:does=5):iF l who does node nx out d=.join ⟨aS l (nx.headD 0),l.what,l.words,out,false,false,0,0,false,0⟩:=by subst h;rfl
theorem HV{l:Lay}{who does node d:Int}{nx out:List Int}(h:does=6):iF l who does node nx out d=.take ⟨cO l,cF l,nx.headD 0,false,false,false⟩:=by subst h;rfl
theorem HU{l:Lay}{who does node d:Int}{nx out:List Int}(h:does=7):iF l who does node nx out d=.push (tZ (gh l who) (ef l) (wu (nx.headD 0))):=by subst h;rfl
theorem HT{l:Lay}{who does node d:Int}{nx out:List Int}(h0:¬does=0)(h1:¬does=1)(h2:¬does=2)(h3:¬does=3)(h4:¬does=4)(h5:¬does=5)(h6:¬does=6)(h7:¬does=7):iF l who does node nx out d=.dT ⟨cO l,cF l,0,false⟩:=by
 unfold iF;rw[ah h0,ah h1,ah h2,ah h3,ah h4,ah h5,ah h6,ah h7]
theorem Kb{nx:List Int}(h:0<nx.length):nx[((0:Int)).toNat]?=some (nx.headD 0):=by
 cases nx with
 |nil=>simp at h
 |cons z nx=>rfl
theorem aeA(w:Nat)(s:Sy)(l:Lay)(who ev jo:Int)(en:Bool)(does:Int)(nv:AV)(node:Int)(has:Bool)(nx out:List Int)(d:Int)(σ:Hp)(hx:does=5∨does=6∨does=7→0<nx.length)(h1:does=1→nK l≠0∧l.k≠0):ACalls Tryz.prog 391 [.ptr w 0,.int .i64 d] ((w,dO s l who ev jo en does nv node has nx out)::σ) (fun x σ'=>∃r,x=Ih r (iF l who does node nx out d)∧σ'=Ii l node r .aj [] (iF l who does node nx out d)++((w,dO s l who ev jo en does nv node has nx out)::σ)):=by
 refine ay Tryz.func391 ?_
 refine aa 0 ?_
 refine az [] (zU l _) ?_
 intro aD
 refine ak 0 ?_
 refine aa 1 ?_
 refine an (fun c2=>?_) (fun c2=>?_)
 ·have c2:does=0:=c2
  refine .sched [8] (upto [8] 13 0) (by kernel_rfl) ?_
  refine aa 1 ?_
  refine aa 1 ?_
  refine aH [] (yc l _ _) ?_
  intro sJ
  exact .drop 1 1 (.done ⟨_,by rw[H2 (by assumption)];rfl,by rw[H2 (by assumption)];rfl⟩)
 ·have c2:¬(does=0):=c2
  refine an (fun c4=>?_) (fun c4=>?_)
  ·have c4:does=1:=c4
   refine .sched [6,7] (upto [6,7] 12 0) (by kernel_rfl) ?_
   refine aa 1 ?_
   refine aH [1] (acR w s l who ev jo en does nv node has nx out d _ (h1 (by assumption)).1 (h1 (by assumption)).2) ?_
   refine aH [] (yc l _ _) ?_
   intro Bu
   exact .drop 1 1 (.done ⟨_,by rw[H0 (by assumption)];rfl,by rw[H0 (by assumption)];rfl⟩)
  ·have c4:¬(does=1):=c4
   refine an (fun c6=>?_) (fun c6=>?_)
   ·have c6:does=2:=c6
    refine aa 0 ?_
    intro bl7
    exact .drop 1 1 (.done ⟨_,by rw[HZ (by assumption)];rfl,by rw[HZ (by assumption)];rfl⟩)
   ·have c6:¬(does=2):=c6
    refine an (fun c8=>?_) (fun c8=>?_)
    ·have c8:does=3:=c8
     refine .sched [] (upto [] 9 0) (by kernel_rfl) ?_
     refine aa 0 ?_
     refine aa 1 ?_
     intro bl9
     exact .drop 1 1 (.done ⟨_,by rw[HY (by assumption)];rfl,by rw[HY (by assumption)];rfl⟩)
    ·have c8:¬(does=3):=c8
     refine an (fun jR=>?_) (fun jR=>?_)
     ·have jR:does=4:=jR
      refine .sched [8] (upto [8] 13 0) (by kernel_rfl) ?_
      refine aa 1 ?_
      refine aa 1 ?_
      refine aH [] (G7 l _ _) ?_
      intro bl11
      exact .drop 1 1 (.done ⟨_,by rw[HX (by assumption)];rfl,by rw[HX (by assumption)];rfl⟩)
     ·have jR:¬(does=4):=jR
      refine an (fun vP=>?_) (fun vP=>?_)
      ·have vP:does=5:=vP
       refine .sched [10] (upto [10] 19 0) (by kernel_rfl) ?_
       refine aa 1 ?_
       refine aa 1 ?_
       refine ag.mk rfl ?_
       refine bG.mk (nx.headD 0) (by decide) (Kb (hx (by omega))) ?_
       refine aH [] (G7 l _ _) ?_
       refine aa 1 ?_
       intro bl13
       exact .drop 1 1 (.done ⟨_,by rw[HW (by assumption)];rfl,by rw[HW (by assumption)];rfl⟩)
      ·have vP:¬(does=5):=vP
       refine an (fun sI=>?_) (fun sI=>?_)
       ·have sI:does=6:=sI
        refine .sched [] (upto [] 11 0) (by kernel_rfl) ?_
        refine aa 0 ?_
        refine aa 1 ?_
        refine ag.mk rfl ?_
        refine bG.mk (nx.headD 0) (by decide) (Kb (hx (by omega))) ?_
        intro bl15
        exact .drop 1 1 (.done ⟨_,by rw[HV (by assumption)];rfl,by rw[HV (by assumption)];rfl⟩)
       ·have sI:¬(does=6):=sI
        refine an (fun vO=>?_) (fun vO=>?_)
        ·have vO:does=7:=vO
         refine .sched [8] (upto [8] 20 0) (by kernel_rfl) ?_
         refine aa 1 ?_
         refine aa 1 ?_
         refine aH [] (yc l _ _) ?_
         refine aa 1 ?_
         refine ag.mk rfl ?_
         refine bG.mk (nx.headD 0) (by decide) (Kb (hx (by omega))) ?_
         intro bl17
         exact .drop 1 1 (.done ⟨_,by rw[HU (by assumption)];rfl,by rw[HU (by assumption)];rfl⟩)
        ·have vO:¬(does=7):=vO
         refine aa 0 ?_
         intro bl18
         exact .drop 1 1 (.done ⟨_,by rw[HT (by assumption) (by assumption) (by assumption) (by assumption) (by assumption) (by assumption) (by assumption) (by assumption)];rfl,by rw[HT (by assumption) (by assumption) (by assumption) (by assumption) (by assumption) (by assumption) (by assumption) (by assumption)];rfl⟩)
theorem Sq(w r:Nat)(s:Sy)(l:Lay)(who ev jo:Int)(en:Bool)(does:Int)(node:Int)(has:Bool)(nx out:List Int)(base cap n:Int)(gg:Bool)(at_:Nat)(b t x:Int)(σ:Hp):ACalls Tryz.prog 392 [.ptr w 0] ((w,dO s l who ev jo en does (.iface 399 (.ptr r 0)) node has nx out)::(r,lQ ⟨base,cap,n,true,gg,at_,b,t,x⟩)::σ) (aE (.int .i64 (qQ l n)) ((w,dO s l who ev jo en does (.iface 399 (.ptr r 0)) (oY l n) true nx out)::(r,lQ ⟨base,cap,n,true,gg,at_,b,t,x⟩)::σ)):=by
 refine ay Tryz.func392 ?_
 refine aa 0 ?_
 refine aa 1 ?_
 refine aa 1 ?_
 refine az [] (VH w s l who ev jo en does (.iface 399 (.ptr r 0)) node has nx out n _) ?_
 exact .done ⟨rfl,rfl⟩
theorem Sr(w r:Nat)(s:Sy)(l:Lay)(who ev jo:Int)(en:Bool)(does:Int)(node:Int)(has:Bool)(nx out:List Int)(base cap n:Int)(gg:Bool)(at_:Nat)(b t x:Int)(σ:Hp):ACalls Tryz.prog 392 [.ptr w 0] ((w,dO s l who ev jo en does (.iface 399 (.ptr r 0)) node has nx out)::(r,lQ ⟨base,cap,n,false,gg,at_,b,t,x⟩)::σ) (aE (.int .i64 (qM l)) ((w,dO s l who ev jo en does (.iface 399 (.ptr r 0)) node has nx out)::(r,lQ ⟨base,cap,n,false,gg,at_,b,t,x⟩)::σ)):=by
 refine ay Tryz.func392 ?_
 refine aa 0 ?_
 refine aa 1 ?_
 refine az [] (aen w s l who ev jo en does (.iface 399 (.ptr r 0)) node has nx out _) ?_
 exact .done ⟨rfl,rfl⟩
theorem Qa(w r:Nat)(s:Sy)(l:Lay)(who ev jo:Int)(en:Bool)(does:Int)(node:Int)(has:Bool)(nx out:List Int)(base cap n:Int)(gg:Bool)(at_:Nat)(b t x:Int)(σ:Hp):ACalls Tryz.prog 392 [.ptr w 0] ((w,dO s l who ev jo en does (.iface 404 (.ptr r 0)) node has nx out)::(r,lQ ⟨base,cap,n,true,gg,at_,b,t,x⟩)::σ) (aE (.int .i64 (qQ l n)) ((w,dO s l who ev jo en does (.iface 404 (.ptr r 0)) (oY l n) true nx out)::(r,lQ ⟨base,cap,n,true,gg,at_,b,t,x⟩)::σ)):=by
 refine ay Tryz.func392 ?_
 refine aa 0 ?_
 refine aa 1 ?_
 refine aa 1 ?_
 refine az [] (VH w s l who ev jo en does (.iface 404 (.ptr r 0)) node has nx out n _) ?_
 exact .done ⟨rfl,rfl⟩
theorem Qb(w r:Nat)(s:Sy)(l:Lay)(who ev jo:Int)(en:Bool)(does:Int)(node:Int)(has:Bool)(nx out:List Int)(base cap n:Int)(gg:Bool)(at_:Nat)(b t x:Int)(σ:Hp):ACalls Tryz.prog 392 [.ptr w 0] ((w,dO s l who ev jo en does (.iface 404 (.ptr r 0)) node has nx out)::(r,lQ ⟨base,cap,n,false,gg,at_,b,t,x⟩)::σ) (aE (.int .i64 2) ((w,dO s l who ev jo en does (.iface 404 (.ptr r 0)) node has nx out)::(r,lQ ⟨base,cap,n,false,gg,at_,b,t,x⟩)::σ)):=by
 refine ay Tryz.func392 ?_
 refine aa 0 ?_
 refine aa 1 ?_
 exact .done ⟨rfl,rfl⟩
def uj(l:Lay):Int:=if l.k<2 then 0 else 1
theorem FP(w r:Nat)(s:Sy)(l:Lay)(who ev jo:Int)(en:Bool)(does:Int)(node:Int)(has:Bool)(nx out:List Int)(f c0:Int)(is gg:Bool)(σ:Hp):ACalls Tryz.prog 392 [.ptr w 0] ((w,dO s l who ev jo en does (.iface 406 (.ptr r 0)) node has nx out)::(r,DU ⟨f,c0,is,gg⟩)::σ) (aE (.int .i64 (uj l)) ((w,dO s l who ev jo is does (.iface 406 (.ptr r 0)) node has nx out)::(r,DU ⟨f,c0,is,gg⟩)::σ)):=by
 refine ay Tryz.func392 ?_
 cases is with
 |true=>
  refine aa 0 ?_
  refine aa 1 ?_
  refine ak 0 ?_
  refine eb [] (LN w s l who ev jo true does (.iface 406 (.ptr r 0)) node has nx out _) (fun c=>?_) (fun c=>?_)
  ·exact .done ⟨aQ (ai (fm (by assumption))).symm,by subst_vars;rfl⟩
  ·exact .done ⟨aQ (ah (pH (by assumption))).symm,by subst_vars;rfl⟩
 |false=>
  refine aa 0 ?_
  refine aa 1 ?_
  refine ak 0 ?_
  refine eb [] (LN w s l who ev jo false does (.iface 406 (.ptr r 0)) node has nx out _) (fun c=>?_) (fun c=>?_)
  ·exact .done ⟨aQ (ai (fm (by assumption))).symm,by subst_vars;rfl⟩
  ·exact .done ⟨aQ (ah (pH (by assumption))).symm,by subst_vars;rfl⟩
theorem Re(w r:Nat)(s:Sy)(l:Lay)(who ev jo:Int)(en:Bool)(does:Int)(node:Int)(has:Bool)(nx out:List Int)(f c0 v:Int)(gg:Bool)(σ:Hp):ACalls Tryz.prog 392 [.ptr w 0] ((w,dO s l who ev jo en does (.iface 409 (.ptr r 0)) node has nx out)::(r,EV ⟨f,c0,v,gg⟩)::σ) (aE (.int .i64 4) ((w,dO s l who ev jo en does (.iface 409 (.ptr r 0)) node has nx out)::(r,EV ⟨f,c0,v,gg⟩)::σ)):=by
 refine ay Tryz.func392 ?_
 refine aa 0 ?_
 exact .done ⟨rfl,rfl⟩
theorem Gd(w r:Nat)(s:Sy)(l:Lay)(who ev jo:Int)(en:Bool)(does:Int)(node:Int)(has:Bool)(nx out:List Int)(x:List Int)(base what words:Int)(gg:Bool)(at_:Nat)(ld:Bool)(z:Int)(σ:Hp)(hf:Fit s)(hx:aR x)(lx:x.length≤10000):ACalls Tryz.prog 392 [.ptr w 0] ((w,dO s l who ev jo en does (.iface 412 (.ptr r 0)) node has nx out)::(r,j9 (.af (.int .u64) x) base what words gg at_ ld z)::σ) (aE (.int .i64 (uz s node)) ((w,dO s l who (wr (ev+1)) jo en does (.iface 412 (.ptr r 0)) node has (au s.n s.bf node) (sh (pr s node x) (iD s x node.toNat)))::(r,j9 (.af (.int .u64) x) base what words gg at_ ld z)::σ)):=by
 refine ay Tryz.func392 ?_
 refine aa 0 ?_
 refine aa 1 ?_
 refine az [] (aeg w s l who ev jo en does (.iface 412 (.ptr r 0)) node has nx out x _ hf hx lx) ?_
 exact .done ⟨rfl,rfl⟩
theorem Rb(w r:Nat)(s:Sy)(l:Lay)(who ev jo:Int)(en:Bool)(does:Int)(node:Int)(has:Bool)(nx out:List Int)(base what words:Int)(a:List Int)(gg:Bool)(tr:Int)(at_:Nat)(ld:Bool)(x:Int)(σ:Hp):ACalls Tryz.prog 392 [.ptr w 0] ((w,dO s l who ev jo en does (.iface 417 (.ptr r 0)) node has nx out)::(r,y5 ⟨base,what,words,a,true,gg,tr,at_,ld,x⟩)::σ) (aE (.int .i64 6) ((w,dO s l who ev (wr (jo+1)) en does (.iface 417 (.ptr r 0)) node has nx out)::(r,y5 ⟨base,what,words,a,true,gg,tr,at_,ld,x⟩)::σ)):=by
 refine ay Tryz.func392 ?_
 refine aa 0 ?_
 refine aa 1 ?_
 refine aa 0 ?_
 refine ak 0 ?_
 exact .done ⟨rfl,rfl⟩
theorem Rc(w r:Nat)(s:Sy)(l:Lay)(who ev jo:Int)(en:Bool)(does:Int)(node:Int)(has:Bool)(nx out:List Int)(base what words:Int)(a:List Int)(gg:Bool)(tr:Int)(at_:Nat)(ld:Bool)(x:Int)(σ:Hp)(hx:0<nx.length):ACalls Tryz.prog 392 [.ptr w 0] ((w,dO s l who ev jo en does (.iface 417 (.ptr r 0)) node has nx out)::(r,y5 ⟨base,what,words,a,false,gg,tr,at_,ld,x⟩)::σ) (aE (.int .i64 (kj nx)) ((w,dO s l who ev jo en does (.iface 417 (.ptr r 0)) node has nx.tail out)::(r,y5 ⟨base,what,words,a,false,gg,tr,at_,ld,x⟩)::σ)):=by
 refine ay Tryz.func392 ?_
 refine aa 0 ?_
 refine aa 1 ?_
 refine az [] (Lm w s l who ev jo en does (.iface 417 (.ptr r 0)) node has nx out _ hx) ?_
 exact .done ⟨rfl,rfl⟩
theorem Q9(w r:Nat)(s:Sy)(l:Lay)(who ev jo:Int)(en:Bool)(does:Int)(node:Int)(has:Bool)(nx out:List Int)(f c0 v:Int)(gg jQ:Bool)(σ:Hp):ACalls Tryz.prog 392 [.ptr w 0] ((w,dO s l who ev jo en does (.iface 420 (.ptr r 0)) node has nx out)::(r,yW ⟨f,c0,v,true,gg,jQ⟩)::σ) (aE (.int .i64 7) ((w,dO s l who ev jo en does (.iface 420 (.ptr r 0)) node has nx out)::(r,yW ⟨f,c0,v,true,gg,jQ⟩)::σ)):=by
 refine ay Tryz.func392 ?_
 refine aa 0 ?_
 refine aa 1 ?_
 exact .done ⟨rfl,rfl⟩
theorem Ra(w r:Nat)(s:Sy)(l:Lay)(who ev jo:Int)(en:Bool)(does:Int)(node:Int)(has:Bool)(nx out:List Int)(f c0 v:Int)(gg jQ:Bool)(σ:Hp)(hx:0<nx.length):ACalls Tryz.prog 392 [.ptr w 0] ((w,dO s l who ev jo en does (.iface 420 (.ptr r 0)) node has nx out)::(r,yW ⟨f,c0,v,false,gg,jQ⟩)::σ) (aE (.int .i64 (kj nx)) ((w,dO s l who ev jo en does (.iface 420 (.ptr r 0)) node has nx.tail out)::(r,yW ⟨f,c0,v,false,gg,jQ⟩)::σ)):=by
 refine ay Tryz.func392 ?_
 refine aa 0 ?_
 refine aa 1 ?_
 refine az [] (Lm w s l who ev jo en does (.iface 420 (.ptr r 0)) node has nx out _ hx) ?_
 exact .done ⟨rfl,rfl⟩
theorem Sp(w r:Nat)(s:Sy)(l:Lay)(who ev jo:Int)(en:Bool)(does:Int)(node:Int)(has:Bool)(nx out:List Int)(q:DQ)(σ:Hp)(hx:0<nx.length):ACalls Tryz.prog 392 [.ptr w 0] ((w,dO s l who ev jo en does (.iface 425 (.ptr r 0)) node has nx out)::(r,lQ q)::σ) (aE (.int .i64 (kj nx)) ((w,dO s l who ev jo en does (.iface 425 (.ptr r 0)) node has nx.tail out)::(r,lQ q)::σ)):=by
 refine ay Tryz.func392 ?_
 refine aa 0 ?_
 refine az [] (Lm w s l who ev jo en does (.iface 425 (.ptr r 0)) node has nx out _ hx) ?_
 exact .done ⟨rfl,rfl⟩
theorem Qc(w r:Nat)(s:Sy)(l:Lay)(who ev jo:Int)(en:Bool)(does:Int)(node:Int)(has:Bool)(nx out:List Int)(t:Rk)(σ:Hp):ACalls Tryz.prog 392 [.ptr w 0] ((w,dO s l who ev jo en does (.iface 427 (.ptr r 0)) node has nx out)::(r,DS t)::σ) (aE (.int .i64 0) ((w,dO s l who ev jo en does (.iface 427 (.ptr r 0)) node false nx out)::(r,DS t)::σ)):=by
 refine ay Tryz.func392 ?_
 refine aa 0 ?_
 refine ak 0 ?_
 exact .done ⟨rfl,rfl⟩
set_option maxHeartbeats 4000000
theorem ad1(M:AMem)(r:Nat)(m:M.S)(base what words x:Int)(at_:Nat)(ff:Bool)(l:List Int)(c:AV)(acc:Hp)(d:Int)(σ:Hp)(hf:M.O.free (M.abs m))(dR:at_<cw words)(hv:kG c acc l)(hl:l.length≤2000):
  ACalls Tryz.prog 406 [.ptr r 0,M.v,.int .i64 d] ((r,j9 c base what words false at_ ff x)::(acc++(M.B m++σ))) (fun z σ'=>∃m' c' bu,kG c' bu (l++[(M.O.ld (M.abs m) (wr (base+at_))).1])∧M.abs m'=(M.O.ld (M.abs m) (wr (base+at_))).2∧z=.bool (decide (at_+1=cw words))∧σ'=(r,j9 c' base what words (decide (at_+1=cw words)) (at_+1) ff x)::(bu++(M.B m'++σ))):=by
 have hc:=Ar words
 have hw:IntKind.i64.wrap ((at_:Int)+1)=((at_+1:Nat):Int):=by rw[IntKind.wrap_i64];omega
 have ab:decide ((at_:Int)<(cw words:Nat))=true:=aV (by omega)
 cases hv with
 |nil=>
  refine ay Tryz.func406 ?_
  refine aa 0 ?_
  refine .quiet (by kernel_rfl) ?_
  refine aa 0 ?_
  refine aa 0 ?_
  refine aH [] (nO _ _ _ _) ?_
  refine JQ ab ?_
  refine .sched [5,7] (upto [5,7] 28 0) (by kernel_rfl) ?_
  refine aa 0 ?_
  refine aH [] (ZA _) ?_
  refine aH [] (du _ _ _) ?_
  refine aa 0 ?_
  refine aa 0 ?_
  refine eS.mk M.hL ?_
  refine M.aLoad [_] hf fun m' hm=>?_
  intro aD
  refine AppendAt.fresh 1 _ (.inl rfl) (.ae 0 _ 0 1 _ rfl (cH rfl)) (by decide) (by decide) (by decide) (fun _ bn=>?_) (fun h=>absurd h (by decide))
  refine ak 2 ?_
  refine aa 2 ?_
  refine ak 2 ?_
  refine .sched [10] (upto [10] 15 0) (by kernel_rfl) ?_
  refine aa 2 ?_
  refine aa 2 ?_
  refine aH [] (nO _ _ _ _) ?_
  refine an (fun c2=>?_) (fun c2=>?_)
  ·have c2:IntKind.i64.wrap ((↑at_:Int)+1)=(↑(cw words):Int):=c2
   refine ak 2 ?_
   refine aa 2 ?_
   exact .drop 1 1 ((.pull [1] (.done ⟨m',_,_,.ae bn [_],hm,by rw[aV (show at_+1=cw words by omega)];rfl,by unfold j9;rw[aV (show at_+1=cw words by omega),← hw];rfl⟩)))
  ·have c2:¬(IntKind.i64.wrap ((↑at_:Int)+1)=(↑(cw words):Int)):=c2
   refine ak 2 ?_
   refine aa 2 ?_
   exact .drop 1 1 ((.pull [1] (.done ⟨m',_,_,.ae bn [_],hm,by rw[bR (show ¬at_+1=cw words by omega)];rfl,by unfold j9;rw[bR (show ¬at_+1=cw words by omega),← hw];rfl⟩)))
 |ae b l=>
  have hlen:(aM l).length=l.length*1:=by simp[aM]
  refine ay Tryz.func406 ?_
  refine aa 0 ?_
  refine .quiet (by kernel_rfl) ?_
  refine aa 0 ?_
  refine aa 0 ?_
  refine aH [] (nO _ _ _ _) ?_
  refine JQ ab ?_
  refine .sched [7] (.one 0 false (.one 1 false (.one 2 false (.one 3 false (.one 4 false (.one 6 false (.one 8 false (.one 9 false (.one 10 false (.one 11 false (.one 13 false (.one 14 false (.one 15 false (.one 16 false (.alt 5 (.one 7 true (.one 12 false (.one 17 false (.one 18 false (.one 19 false (.one 20 false (.one 21 false (.one 22 false (.one 23 false (.one 24 false (.one 25 false (.one 26 false (.one 27 false .stop))))))))))))) (.alt 12 (.alt 5 (.one 7 true (.one 17 false (.one 18 false (.one 19 false (.one 20 false (.one 21 false (.one 22 false (.one 23 false (.one 24 false (.one 25 false (.one 26 false (.one 27 false .stop)))))))))))) (.one 17 false (.one 18 false (.one 5 false (.one 7 true (.one 19 false (.one 20 false (.one 21 false (.one 22 false (.one 23 false (.one 24 false (.one 25 false (.one 26 false (.one 27 false .stop)))))))))))))) (.one 17 false (.alt 5 (.one 7 true (.one 12 false (.one 18 false (.one 19 false (.one 20 false (.one 21 false (.one 22 false (.one 23 false (.one 24 false (.one 25 false (.one 26 false (.one 27 false .stop)))))))))))) (.one 12 false (.one 18 false (.one 5 false (.one 7 true (.one 19 false (.one 20 false (.one 21 false (.one 22 false (.one 23 false (.one 24 false (.one 25 false (.one 26 false (.one 27 false .stop))))))))))))))))))))))))))))))) (by kernel_rfl) ?_
  refine aa 0 ?_
  refine And.intro ?_ ?_
  ·(refine .mk [] _ (B0 b l.length (aM l) _ (cY _ (cm ..)) hlen (by omega)) ?_;rintro _ _ ⟨b',rfl,rfl⟩)
   refine aH [] (du _ _ _) ?_
   refine aa 1 ?_
   refine aa 1 ?_
   refine eS.mk M.hL ?_
   refine M.aLoad [_,_,_] hf fun m' hm=>?_
   intro aD
   refine AppendAt.more 1 b' l.length 1 (aM l) _ rfl rfl (by show l.length*1≤(aM l).length;omega) (.ae 0 _ 0 1 _ rfl (cH rfl)) (by omega) (by decide) (by decide) (fun bn=>?_)
   refine ak 2 ?_
   refine aa 2 ?_
   refine ak 2 ?_
   refine .sched [10] (upto [10] 15 0) (by kernel_rfl) ?_
   refine aa 2 ?_
   refine aa 2 ?_
   refine aH [] (nO _ _ _ _) ?_
   refine an (fun c2=>?_) (fun c2=>?_)
   ·have c2:IntKind.i64.wrap ((↑at_:Int)+1)=(↑(cw words):Int):=c2
    refine ak 2 ?_
    refine aa 2 ?_
    exact .drop 1 1 (.drop 2 1 ((.pull [1] (.done ⟨m',_,_,kG.push bn l _,hm,by rw[aV (show at_+1=cw words by omega)];rfl,by unfold j9;rw[aV (show at_+1=cw words by omega),← hw];rfl⟩))))
   ·have c2:¬(IntKind.i64.wrap ((↑at_:Int)+1)=(↑(cw words):Int)):=c2
    refine ak 2 ?_
    refine aa 2 ?_
    exact .drop 1 1 (.drop 2 1 ((.pull [1] (.done ⟨m',_,_,kG.push bn l _,hm,by rw[bR (show ¬at_+1=cw words by omega)];rfl,by unfold j9;rw[bR (show ¬at_+1=cw words by omega),← hw];rfl⟩))))
  ·refine And.intro ?_ ?_
   ·refine aa 0 ?_
    refine And.intro ?_ ?_
    ·(refine .mk [] _ (B0 b l.length (aM l) _ (cY _ (cm ..)) hlen (by omega)) ?_;rintro _ _ ⟨b',rfl,rfl⟩)
     refine aH [] (du _ _ _) ?_
     refine aa 1 ?_
     refine eS.mk M.hL ?_
     refine M.aLoad [_,_,_] hf fun m' hm=>?_
     intro sJ
     refine AppendAt.more 1 b' l.length 1 (aM l) _ rfl rfl (by show l.length*1≤(aM l).length;omega) (.ae 0 _ 0 1 _ rfl (cH rfl)) (by omega) (by decide) (by decide) (fun bn=>?_)
     refine ak 2 ?_
     refine aa 2 ?_
     refine ak 2 ?_
     refine .sched [10] (upto [10] 15 0) (by kernel_rfl) ?_
     refine aa 2 ?_
     refine aa 2 ?_
     refine aH [] (nO _ _ _ _) ?_
     refine an (fun c4=>?_) (fun c4=>?_)
     ·have c4:IntKind.i64.wrap ((↑at_:Int)+1)=(↑(cw words):Int):=c4
      refine ak 2 ?_
      refine aa 2 ?_
      exact .drop 1 1 (.drop 2 1 ((.pull [1] (.done ⟨m',_,_,kG.push bn l _,hm,by rw[aV (show at_+1=cw words by omega)];rfl,by unfold j9;rw[aV (show at_+1=cw words by omega),← hw];rfl⟩))))
     ·have c4:¬(IntKind.i64.wrap ((↑at_:Int)+1)=(↑(cw words):Int)):=c4
      refine ak 2 ?_
      refine aa 2 ?_
      exact .drop 1 1 (.drop 2 1 ((.pull [1] (.done ⟨m',_,_,kG.push bn l _,hm,by rw[bR (show ¬at_+1=cw words by omega)];rfl,by unfold j9;rw[bR (show ¬at_+1=cw words by omega),← hw];rfl⟩))))
    ·refine aa 0 ?_
     (refine .mk [] _ (B0 b l.length (aM l) _ (cY _ (cm ..)) hlen (by omega)) ?_;rintro _ _ ⟨b',rfl,rfl⟩)
     refine aH [] (du _ _ _) ?_
     refine eS.mk M.hL ?_
     refine M.aLoad [_,_,_] hf fun m' hm=>?_
     intro Bu
     refine AppendAt.more 1 b' l.length 1 (aM l) _ rfl rfl (by show l.length*1≤(aM l).length;omega) (.ae 0 _ 0 1 _ rfl (cH rfl)) (by omega) (by decide) (by decide) (fun bn=>?_)
     refine ak 2 ?_
     refine aa 2 ?_
     refine ak 2 ?_
     refine .sched [10] (upto [10] 15 0) (by kernel_rfl) ?_
     refine aa 2 ?_
     refine aa 2 ?_
     refine aH [] (nO _ _ _ _) ?_
     refine an (fun c6=>?_) (fun c6=>?_)
     ·have c6:IntKind.i64.wrap ((↑at_:Int)+1)=(↑(cw words):Int):=c6
      refine ak 2 ?_
      refine aa 2 ?_
      exact .drop 1 1 (.drop 2 1 ((.pull [1] (.done ⟨m',_,_,kG.push bn l _,hm,by rw[aV (show at_+1=cw words by omega)];rfl,by unfold j9;rw[aV (show at_+1=cw words by omega),← hw];rfl⟩))))
     ·have c6:¬(IntKind.i64.wrap ((↑at_:Int)+1)=(↑(cw words):Int)):=c6
      refine ak 2 ?_
      refine aa 2 ?_
      exact .drop 1 1 (.drop 2 1 ((.pull [1] (.done ⟨m',_,_,kG.push bn l _,hm,by rw[bR (show ¬at_+1=cw words by omega)];rfl,by unfold j9;rw[bR (show ¬at_+1=cw words by omega),← hw];rfl⟩))))
   ·refine aa 0 ?_
    refine And.intro ?_ ?_
    ·(refine .mk [] _ (B0 b l.length (aM l) _ (cY _ (cm ..)) hlen (by omega)) ?_;rintro _ _ ⟨b',rfl,rfl⟩)
     refine aH [] (du _ _ _) ?_
     refine aa 1 ?_
     refine eS.mk M.hL ?_
     refine M.aLoad [_,_,_] hf fun m' hm=>?_
     intro bl7
     refine AppendAt.more 1 b' l.length 1 (aM l) _ rfl rfl (by show l.length*1≤(aM l).length;omega) (.ae 0 _ 0 1 _ rfl (cH rfl)) (by omega) (by decide) (by decide) (fun bn=>?_)
     refine ak 2 ?_
     refine aa 2 ?_
     refine ak 2 ?_
     refine .sched [10] (upto [10] 15 0) (by kernel_rfl) ?_
     refine aa 2 ?_
     refine aa 2 ?_
     refine aH [] (nO _ _ _ _) ?_
     refine an (fun c8=>?_) (fun c8=>?_)
     ·have c8:IntKind.i64.wrap ((↑at_:Int)+1)=(↑(cw words):Int):=c8
      refine ak 2 ?_
      refine aa 2 ?_
      exact .drop 1 1 (.drop 2 1 ((.pull [1] (.done ⟨m',_,_,kG.push bn l _,hm,by rw[aV (show at_+1=cw words by omega)];rfl,by unfold j9;rw[aV (show at_+1=cw words by omega),← hw];rfl⟩))))
     ·have c8:¬(IntKind.i64.wrap ((↑at_:Int)+1)=(↑(cw words):Int)):=c8
      refine ak 2 ?_
      refine aa 2 ?_
      exact .drop 1 1 (.drop 2 1 ((.pull [1] (.done ⟨m',_,_,kG.push bn l _,hm,by rw[bR (show ¬at_+1=cw words by omega)];rfl,by unfold j9;rw[bR (show ¬at_+1=cw words by omega),← hw];rfl⟩))))
    ·refine aa 0 ?_
     (refine .mk [] _ (B0 b l.length (aM l) _ (cY _ (cm ..)) hlen (by omega)) ?_;rintro _ _ ⟨b',rfl,rfl⟩)
     refine aH [] (du _ _ _) ?_
     refine eS.mk M.hL ?_
     refine M.aLoad [_,_,_] hf fun m' hm=>?_
     intro bl9
     refine AppendAt.more 1 b' l.length 1 (aM l) _ rfl rfl (by show l.length*1≤(aM l).length;omega) (.ae 0 _ 0 1 _ rfl (cH rfl)) (by omega) (by decide) (by decide) (fun bn=>?_)
     refine ak 2 ?_
     refine aa 2 ?_
     refine ak 2 ?_
     refine .sched [10] (upto [10] 15 0) (by kernel_rfl) ?_
     refine aa 2 ?_
     refine aa 2 ?_
     refine aH [] (nO _ _ _ _) ?_
     refine an (fun jR=>?_) (fun jR=>?_)
     ·have jR:IntKind.i64.wrap ((↑at_:Int)+1)=(↑(cw words):Int):=jR
      refine ak 2 ?_
      refine aa 2 ?_
      exact .drop 1 1 (.drop 2 1 ((.pull [1] (.done ⟨m',_,_,kG.push bn l _,hm,by rw[aV (show at_+1=cw words by omega)];rfl,by unfold j9;rw[aV (show at_+1=cw words by omega),← hw];rfl⟩))))
     ·have jR:¬(IntKind.i64.wrap ((↑at_:Int)+1)=(↑(cw words):Int)):=jR
      refine ak 2 ?_
      refine aa 2 ?_
      exact .drop 1 1 (.drop 2 1 ((.pull [1] (.done ⟨m',_,_,kG.push bn l _,hm,by rw[bR (show ¬at_+1=cw words by omega)];rfl,by unfold j9;rw[bR (show ¬at_+1=cw words by omega),← hw];rfl⟩))))
theorem Tp(M:AMem)(r:Nat)(base what words x:Int)(ff:Bool)(c:AV)(d:Int)(σ:Hp)(dR:cw words=0):
  ACalls Tryz.prog 406 [.ptr r 0,M.v,.int .i64 d] ((r,j9 c base what words false 0 ff x)::σ) (aE (.bool true) ((r,j9 c base what words true 0 ff x)::σ)):=by
 have ab:decide ((0:Int)<(cw words:Nat))=false:=bR (by omega)
 have heq:decide ((0:Int)=(cw words:Nat))=true:=aV (by omega)
 refine ay Tryz.func406 ?_
 refine aa 0 ?_
 refine .quiet (by kernel_rfl) ?_
 refine aa 0 ?_
 refine aa 0 ?_
 refine aH [] (nO _ _ _ _) ?_
 refine W7 ab ?_
 refine .sched [10] (upto [10] 15 0) (by kernel_rfl) ?_
 refine aa 0 ?_
 refine aa 0 ?_
 refine aH [] (nO _ _ _ _) ?_
 refine JQ heq ?_
 refine ak 0 ?_
 refine aa 0 ?_
 exact .done ⟨rfl,rfl⟩
set_option maxHeartbeats 4000000
theorem wPop_ : Meth Tryz.prog 399 "Step" 401 := fun a w => by kernel_rfl
theorem wSteal_ : Meth Tryz.prog 404 "Step" 403 := fun a w => by kernel_rfl
theorem wPush_ : Meth Tryz.prog 425 "Step" 409 := fun a w => by kernel_rfl
theorem wQuiet_ : Meth Tryz.prog 406 "Step" 404 := fun a w => by kernel_rfl
theorem wClear_ : Meth Tryz.prog 409 "Step" 405 := fun a w => by kernel_rfl
theorem wTake_ : Meth Tryz.prog 420 "Step" 408 := fun a w => by kernel_rfl
theorem wRetire_ : Meth Tryz.prog 427 "Step" 410 := fun a w => by kernel_rfl
theorem wRead_ : Meth Tryz.prog 412 "Step" 406 := fun a w => by kernel_rfl
theorem wJoin_ : Meth Tryz.prog 417 "Step" 407 := fun a w => by kernel_rfl
theorem af5{M:AMem}{f:FuncId}{xs:List AV}{X:Type}{B:X→List AV}{r:Nat}{cs:List AV}{res:X×M.O.A×Bool}{m:M.S}(fr:Hp){σ:Hp}{K:AV→Hp→Prop}(h:∀σ,ACalls Tryz.prog f xs ((r,cs)::(M.B m++σ)) (qa M σ B r res))
  (k1:∀m',M.abs m'=res.2.1→res.2.2=true→K (.bool true) (fr++((r,B res.1)::(M.B m'++σ)))) (k2:∀m',M.abs m'=res.2.1→res.2.2=false→K (.bool false) (fr++((r,B res.1)::(M.B m'++σ)))):CallAt Tryz.prog f K xs (fr++((r,cs)::(M.B m++σ))):=by
 have hp:∀(c:List AV) (b:Hp),((r,c)::(b++(fr++σ))).Perm (fr++((r,c)::(b++σ))):=fun c b=>eO fr ((r,c)::b) σ
 refine .perm _ (hp cs (M.B m)) (h (fr++σ)) ?_
 rintro x σ' ⟨m',h1,rfl,rfl⟩
 refine⟨_,(hp (B res.1) (M.B m')).symm,?_⟩
 cases hb:res.2.2 with
 |true=>exact k1 m' h1 hb
 |false=>exact k2 m' h1 hb
def mm(O:j6)(l:Lay)(base:Int)(x:List Int)(a:O.A):List Int×O.A×Bool:=
 if x.length<cw l.words then (x++[(O.ld a (wr (base+(x.length:Nat)))).1],(O.ld a (wr (base+(x.length:Nat)))).2,decide (x.length+1=cw l.words)) else (x,a,true)
def fT(O:j6)(l:Lay)(node:Int):Nw→O.A→Nw×O.A×Bool
 |.none,a=>(.none,a,false)
 |.pop q,a=>(.pop (e9 O q a).1,(e9 O q a).2)
 |.cu q,a=>(.cu (gx O q a).1,(gx O q a).2)
 |.quiet t,a=>(.quiet (rO O t a).1,(rO O t a).2)
 |.clear t,a=>(.clear (rP O t a).1,(rP O t a).2)
 |.read x,a=>(.read (mm O l (aS l node) x a).1,(mm O l (aS l node) x a).2)
 |.join j,a=>(.join (ij O j a).1,(ij O j a).2)
 |.take t,a=>(.take (kM O t a).1,(kM O t a).2)
 |.push q,a=>(.push (gj O q a).1,(gj O q a).2)
 |.dT t,a=>(.dT (sY O t a).1,(sY O t a).2)
def eg(s:Sy)(l:Lay)(x:WS):Nw→WS
 |.none=>x
 |.pop q=>if q.ok=true then ⟨x.ev,x.jo,x.en,qQ l q.n,.none,oY l q.n,true,x.nx,x.out⟩ else ⟨x.ev,x.jo,x.en,qM l,.none,x.node,x.has,x.nx,x.out⟩
 |.cu q=>if q.ok=true then ⟨x.ev,x.jo,x.en,qQ l q.n,.none,oY l q.n,true,x.nx,x.out⟩ else ⟨x.ev,x.jo,x.en,2,.none,x.node,x.has,x.nx,x.out⟩
 |.quiet t=>⟨x.ev,x.jo,t.is,uj l,.none,x.node,x.has,x.nx,x.out⟩
 |.clear _=>⟨x.ev,x.jo,x.en,4,.none,x.node,x.has,x.nx,x.out⟩
 |.read y=>⟨wr (x.ev+1),x.jo,x.en,uz s x.node,.none,x.node,x.has,au s.n s.bf x.node,sh (pr s x.node y) (iD s y x.node.toNat)⟩
 |.join j=>if j.changed=true then ⟨x.ev,wr (x.jo+1),x.en,6,.none,x.node,x.has,x.nx,x.out⟩ else ⟨x.ev,x.jo,x.en,kj x.nx,.none,x.node,x.has,x.nx.tail,x.out⟩
 |.take t=>if t.new=true then ⟨x.ev,x.jo,x.en,7,.none,x.node,x.has,x.nx,x.out⟩ else ⟨x.ev,x.jo,x.en,kj x.nx,.none,x.node,x.has,x.nx.tail,x.out⟩
 |.push _=>⟨x.ev,x.jo,x.en,kj x.nx,.none,x.node,x.has,x.nx.tail,x.out⟩
 |.dT _=>⟨x.ev,x.jo,x.en,0,.none,x.node,false,x.nx,x.out⟩
def kh(l:Lay)(who:Int)(x:WS)(d:Int):Nw:=match x.now with
 |.none=>iF l who x.does x.node x.nx x.out d
 |n=>n
def dw(O:j6)(s:Sy)(l:Lay)(who:Int)(x:WS)(d:Int)(a:O.A):WS×O.A×Bool:=
 if x.en=true then (x,a,true)
 else if (fT O l x.node (kh l who x d) a).2.2=true then (eg s l x (fT O l x.node (kh l who x d) a).1,(fT O l x.node (kh l who x d) a).2.1,(eg s l x (fT O l x.node (kh l who x d) a).1).en)
 else (⟨x.ev,x.jo,x.en,x.does,(fT O l x.node (kh l who x d) a).1,x.node,x.has,x.nx,x.out⟩,(fT O l x.node (kh l who x d) a).2.1,false)
def vr(l:Lay)(nx:List Int):Nw→Prop
 |.none=>True
 |.pop q=>q.at_≤5∧0≤q.b
 |.cu q=>q.at_≤3∧0≤q.t
 |.quiet _=>True
 |.clear _=>True
 |.read x=>(x.length<cw l.words∨(cw l.words=0∧x=[]))∧aR x
 |.join j=>j.at_≤1024∧0<nx.length
 |.take _=>0<nx.length
 |.push q=>(q.at_≤3∧0≤q.b)∧0<nx.length
 |.dT _=>True
def Mu(l:Lay)(x:WS):Prop:=(x.does=5∨x.does=6∨x.does=7→0<x.nx.length)∧(x.does=1→nK l≠0∧l.k≠0)∧vr l x.nx x.now
def yH(c:AV)(acc:Hp):Nw→Prop
 |.read x=>kG c acc x∧(x=[]→c=.aj)
 |_=>True
def WB(s:Sy)(l:Lay)(who:Int)(w r:Nat)(c:AV)(acc:Hp)(x:WS):Hp:=(w,dO s l who x.ev x.jo x.en x.does (Ih r x.now) x.node x.has x.nx x.out)::Ii l x.node r c acc x.now
end Go.Proofs.YtnikdflhefijbaaGreat
