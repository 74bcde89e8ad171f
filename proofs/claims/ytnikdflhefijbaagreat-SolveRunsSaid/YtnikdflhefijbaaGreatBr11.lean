import Derived.Test.YtnikdflhefijbaaGreatBr10
namespace Go.Proofs.YtnikdflhefijbaaGreat
open Go.RowKit
set_option maxRecDepth 100000
def Gj(r:Nat):Nw→AV
 |.none=>.nilif
 |.pop _=>.iface 399 (.ptr r 0)
 |.dO _=>.iface 404 (.ptr r 0)
 |.quiet _=>.iface 406 (.ptr r 0)
 |.clear _=>.iface 409 (.ptr r 0)
 |.read _=>.iface 412 (.ptr r 0)
 |.join _=>.iface 417 (.ptr r 0)
 |.take _=>.iface 420 (.ptr r 0)
 |.push _=>.iface 425 (.ptr r 0)
 |.fU _=>.iface 427 (.ptr r 0)
def Gk(l:Lay)(node:Int)(r:Nat)(c:AV)(acc:Hp):Nw→Hp
 |.none=>[]
 |.pop q=>[(r,lK q)]
 |.dO q=>[(r,lK q)]
 |.quiet t=>[(r,CD t)]
 |.clear t=>[(r,DB t)]
 |.read x=>(r,kb c (df l node) l.ai l.words false x.length false 0)::acc
 |.join j=>[(r,xZ j)]
 |.take t=>[(r,xW t)]
 |.push q=>[(r,lK q)]
 |.fU t=>[(r,CC t)]
def mM(base cap n:Int):DQ:=⟨base,cap,n,false,false,0,0,0,0⟩
def jy(l:Lay)(who ae node:Int)(nx out:List Int)(d:Int):Nw:=
 if ae=0 then .pop (mM (dY l who) (fB l) 0)
 else if ae=1 then .dO (mM (dY l (vz l who d)) (fB l) 0)
 else if ae=2 then .quiet ⟨de l,da l,false,false⟩
 else if ae=3 then .clear ⟨de l,da l,node,false⟩
 else if ae=4 then .read []
 else if ae=5 then .join ⟨df l (nx.headD 0),l.ai,l.words,out,false,false,0,0,false,0⟩
 else if ae=6 then .take ⟨de l,da l,nx.headD 0,false,false,false⟩
 else if ae=7 then .push (mM (dY l who) (fB l) (wu (nx.headD 0)))
 else .fU ⟨de l,da l,0,false⟩
theorem xR{l:Lay}{who ae node d:Int}{nx out:List Int}(h:ae=0):jy l who ae node nx out d=.pop (mM (dY l who) (fB l) 0):=by subst h;rfl
theorem xQ{l:Lay}{who ae node d:Int}{nx out:List Int}(h:ae=1):jy l who ae node nx out d=.dO (mM (dY l (vz l who d)) (fB l) 0):=by subst h;rfl
theorem zH{l:Lay}{who ae node d:Int}{nx out:List Int}(h:ae=2):jy l who ae node nx out d=.quiet ⟨de l,da l,false,false⟩:=by subst h;rfl
theorem F8{l:Lay}{who ae node d:Int}{nx out:List Int}(h:ae=3):jy l who ae node nx out d=.clear ⟨de l,da l,node,false⟩:=by subst h;rfl
theorem Kv{l:Lay}{who ae node d:Int}{nx out:List Int}(h:ae=4):jy l who ae node nx out d=.read []:=by subst h;rfl
theorem xP{l:Lay}{who ae node d:Int}{nx out:List Int}(h:ae=5):jy l who ae node nx out d=.join ⟨df l (nx.headD 0),l.ai,l.words,out,false,false,0,0,false,0⟩:=by subst h;rfl
theorem Cs{l:Lay}{who ae node d:Int}{nx out:List Int}(h:ae=6):jy l who ae node nx out d=.take ⟨de l,da l,nx.headD 0,false,false,false⟩:=by subst h;rfl
theorem Cr{l:Lay}{who ae node d:Int}{nx out:List Int}(h:ae=7):jy l who ae node nx out d=.push (mM (dY l who) (fB l) (wu (nx.headD 0))):=by subst h;rfl
theorem Ku{l:Lay}{who ae node d:Int}{nx out:List Int}(h0:¬ae=0)(h1:¬ae=1)(h2:¬ae=2)(h3:¬ae=3)(h4:¬ae=4)(h5:¬ae=5)(h6:¬ae=6)(h7:¬ae=7):jy l who ae node nx out d=.fU ⟨de l,da l,0,false⟩:=by
 unfold jy;rw[aA h0,aA h1,aA h2,aA h3,aA h4,aA h5,aA h6,aA h7]
theorem H0{nx:List Int}(h:0<nx.length):nx[((0:Int)).toNat]?=some (nx.headD 0):=by
 cases nx with
 |nil=>simp at h
 |cons z nx=>rfl
theorem acn(w:Nat)(s:Sy)(l:Lay)(who ev jo:Int)(en:Bool)(ae:Int)(nv:AV)(node:Int)(has:Bool)(nx out:List Int)(d:Int)(σ:Hp)(hx:ae=5∨ae=6∨ae=7→0<nx.length)(h1:ae=1→nK l≠0∧l.k≠0):ACalls Tryz.prog 391 [.ptr w 0,.int .i64 d] ((w,dP s l who ev jo en ae nv node has nx out)::σ) (fun x σ'=>∃r,x=Gj r (jy l who ae node nx out d)∧σ'=Gk l node r .ak [] (jy l who ae node nx out d)++((w,dP s l who ev jo en ae nv node has nx out)::σ)):=by
 refine au Tryz.func391 ?_
 refine aa 0 ?_
 refine ar [] (yZ l _) ?_
 intro aB
 refine ag 0 ?_
 refine aa 1 ?_
 refine aj (fun c2=>?_) (fun c2=>?_)
 ·have c2:ae=0:=c2
  refine .sched [8] (upto [8] 13 0) (by kernel_rfl) ?_
  refine aa 1 ?_
  refine aa 1 ?_
  refine aK [] (xr l _ _) ?_
  intro qg
  exact .drop 1 1 (.done ⟨_,by rw[xR (by assumption)];rfl,by rw[xR (by assumption)];rfl⟩)
 ·have c2:¬(ae=0):=c2
  refine aj (fun c4=>?_) (fun c4=>?_)
  ·have c4:ae=1:=c4
   refine .sched [6,7] (upto [6,7] 12 0) (by kernel_rfl) ?_
   refine aa 1 ?_
   refine aK [1] (aaj w s l who ev jo en ae nv node has nx out d _ (h1 (by assumption)).1 (h1 (by assumption)).2) ?_
   refine aK [] (xr l _ _) ?_
   intro td
   exact .drop 1 1 (.done ⟨_,by rw[xQ (by assumption)];rfl,by rw[xQ (by assumption)];rfl⟩)
  ·have c4:¬(ae=1):=c4
   refine aj (fun c6=>?_) (fun c6=>?_)
   ·have c6:ae=2:=c6
    refine aa 0 ?_
    intro bl7
    exact .drop 1 1 (.done ⟨_,by rw[zH (by assumption)];rfl,by rw[zH (by assumption)];rfl⟩)
   ·have c6:¬(ae=2):=c6
    refine aj (fun c8=>?_) (fun c8=>?_)
    ·have c8:ae=3:=c8
     refine .sched [] (upto [] 9 0) (by kernel_rfl) ?_
     refine aa 0 ?_
     refine aa 1 ?_
     intro bl9
     exact .drop 1 1 (.done ⟨_,by rw[F8 (by assumption)];rfl,by rw[F8 (by assumption)];rfl⟩)
    ·have c8:¬(ae=3):=c8
     refine aj (fun jX=>?_) (fun jX=>?_)
     ·have jX:ae=4:=jX
      refine .sched [8] (upto [8] 13 0) (by kernel_rfl) ?_
      refine aa 1 ?_
      refine aa 1 ?_
      refine aK [] (Fc l _ _) ?_
      intro bl11
      exact .drop 1 1 (.done ⟨_,by rw[Kv (by assumption)];rfl,by rw[Kv (by assumption)];rfl⟩)
     ·have jX:¬(ae=4):=jX
      refine aj (fun uW=>?_) (fun uW=>?_)
      ·have uW:ae=5:=uW
       refine .sched [10] (upto [10] 19 0) (by kernel_rfl) ?_
       refine aa 1 ?_
       refine aa 1 ?_
       refine aw.mk rfl ?_
       refine aX.mk (nx.headD 0) (by decide) (H0 (hx (by omega))) ?_
       refine aK [] (Fc l _ _) ?_
       refine aa 1 ?_
       intro bl13
       exact .drop 1 1 (.done ⟨_,by rw[xP (by assumption)];rfl,by rw[xP (by assumption)];rfl⟩)
      ·have uW:¬(ae=5):=uW
       refine aj (fun sc=>?_) (fun sc=>?_)
       ·have sc:ae=6:=sc
        refine .sched [] (upto [] 11 0) (by kernel_rfl) ?_
        refine aa 0 ?_
        refine aa 1 ?_
        refine aw.mk rfl ?_
        refine aX.mk (nx.headD 0) (by decide) (H0 (hx (by omega))) ?_
        intro bl15
        exact .drop 1 1 (.done ⟨_,by rw[Cs (by assumption)];rfl,by rw[Cs (by assumption)];rfl⟩)
       ·have sc:¬(ae=6):=sc
        refine aj (fun uV=>?_) (fun uV=>?_)
        ·have uV:ae=7:=uV
         refine .sched [8] (upto [8] 20 0) (by kernel_rfl) ?_
         refine aa 1 ?_
         refine aa 1 ?_
         refine aK [] (xr l _ _) ?_
         refine aa 1 ?_
         refine aw.mk rfl ?_
         refine aX.mk (nx.headD 0) (by decide) (H0 (hx (by omega))) ?_
         intro bl17
         exact .drop 1 1 (.done ⟨_,by rw[Cr (by assumption)];rfl,by rw[Cr (by assumption)];rfl⟩)
        ·have uV:¬(ae=7):=uV
         refine aa 0 ?_
         intro bl18
         exact .drop 1 1 (.done ⟨_,by rw[Ku (by assumption) (by assumption) (by assumption) (by assumption) (by assumption) (by assumption) (by assumption) (by assumption)];rfl,by rw[Ku (by assumption) (by assumption) (by assumption) (by assumption) (by assumption) (by assumption) (by assumption) (by assumption)];rfl⟩)
theorem PU(w r:Nat)(s:Sy)(l:Lay)(who ev jo:Int)(en:Bool)(ae:Int)(node:Int)(has:Bool)(nx out:List Int)(base cap n:Int)(gu:Bool)(at_:Nat)(b t x:Int)(σ:Hp):ACalls Tryz.prog 392 [.ptr w 0] ((w,dP s l who ev jo en ae (.iface 399 (.ptr r 0)) node has nx out)::(r,lK ⟨base,cap,n,true,gu,at_,b,t,x⟩)::σ) (aD (.int .i64 (jM l n)) ((w,dP s l who ev jo en ae (.iface 399 (.ptr r 0)) (iR l n) true nx out)::(r,lK ⟨base,cap,n,true,gu,at_,b,t,x⟩)::σ)):=by
 refine au Tryz.func392 ?_
 refine aa 0 ?_
 refine aa 1 ?_
 refine aa 1 ?_
 refine ar [] (Tg w s l who ev jo en ae (.iface 399 (.ptr r 0)) node has nx out n _) ?_
 exact .done ⟨rfl,rfl⟩
theorem PV(w r:Nat)(s:Sy)(l:Lay)(who ev jo:Int)(en:Bool)(ae:Int)(node:Int)(has:Bool)(nx out:List Int)(base cap n:Int)(gu:Bool)(at_:Nat)(b t x:Int)(σ:Hp):ACalls Tryz.prog 392 [.ptr w 0] ((w,dP s l who ev jo en ae (.iface 399 (.ptr r 0)) node has nx out)::(r,lK ⟨base,cap,n,false,gu,at_,b,t,x⟩)::σ) (aD (.int .i64 (qm l)) ((w,dP s l who ev jo en ae (.iface 399 (.ptr r 0)) node has nx out)::(r,lK ⟨base,cap,n,false,gu,at_,b,t,x⟩)::σ)):=by
 refine au Tryz.func392 ?_
 refine aa 0 ?_
 refine aa 1 ?_
 refine ar [] (ac9 w s l who ev jo en ae (.iface 399 (.ptr r 0)) node has nx out _) ?_
 exact .done ⟨rfl,rfl⟩
theorem NH(w r:Nat)(s:Sy)(l:Lay)(who ev jo:Int)(en:Bool)(ae:Int)(node:Int)(has:Bool)(nx out:List Int)(base cap n:Int)(gu:Bool)(at_:Nat)(b t x:Int)(σ:Hp):ACalls Tryz.prog 392 [.ptr w 0] ((w,dP s l who ev jo en ae (.iface 404 (.ptr r 0)) node has nx out)::(r,lK ⟨base,cap,n,true,gu,at_,b,t,x⟩)::σ) (aD (.int .i64 (jM l n)) ((w,dP s l who ev jo en ae (.iface 404 (.ptr r 0)) (iR l n) true nx out)::(r,lK ⟨base,cap,n,true,gu,at_,b,t,x⟩)::σ)):=by
 refine au Tryz.func392 ?_
 refine aa 0 ?_
 refine aa 1 ?_
 refine aa 1 ?_
 refine ar [] (Tg w s l who ev jo en ae (.iface 404 (.ptr r 0)) node has nx out n _) ?_
 exact .done ⟨rfl,rfl⟩
theorem NI(w r:Nat)(s:Sy)(l:Lay)(who ev jo:Int)(en:Bool)(ae:Int)(node:Int)(has:Bool)(nx out:List Int)(base cap n:Int)(gu:Bool)(at_:Nat)(b t x:Int)(σ:Hp):ACalls Tryz.prog 392 [.ptr w 0] ((w,dP s l who ev jo en ae (.iface 404 (.ptr r 0)) node has nx out)::(r,lK ⟨base,cap,n,false,gu,at_,b,t,x⟩)::σ) (aD (.int .i64 2) ((w,dP s l who ev jo en ae (.iface 404 (.ptr r 0)) node has nx out)::(r,lK ⟨base,cap,n,false,gu,at_,b,t,x⟩)::σ)):=by
 refine au Tryz.func392 ?_
 refine aa 0 ?_
 refine aa 1 ?_
 exact .done ⟨rfl,rfl⟩
def tz(l:Lay):Int:=if l.k<2 then 0 else 1
theorem Eh(w r:Nat)(s:Sy)(l:Lay)(who ev jo:Int)(en:Bool)(ae:Int)(node:Int)(has:Bool)(nx out:List Int)(f c0:Int)(is gu:Bool)(σ:Hp):ACalls Tryz.prog 392 [.ptr w 0] ((w,dP s l who ev jo en ae (.iface 406 (.ptr r 0)) node has nx out)::(r,CD ⟨f,c0,is,gu⟩)::σ) (aD (.int .i64 (tz l)) ((w,dP s l who ev jo is ae (.iface 406 (.ptr r 0)) node has nx out)::(r,CD ⟨f,c0,is,gu⟩)::σ)):=by
 refine au Tryz.func392 ?_
 cases is with
 |true=>
  refine aa 0 ?_
  refine aa 1 ?_
  refine ag 0 ?_
  refine dr [] (Jo w s l who ev jo true ae (.iface 406 (.ptr r 0)) node has nx out _) (fun c=>?_) (fun c=>?_)
  ·exact .done ⟨aR (az (fk (by assumption))).symm,by subst_vars;rfl⟩
  ·exact .done ⟨aR (aA (pc (by assumption))).symm,by subst_vars;rfl⟩
 |false=>
  refine aa 0 ?_
  refine aa 1 ?_
  refine ag 0 ?_
  refine dr [] (Jo w s l who ev jo false ae (.iface 406 (.ptr r 0)) node has nx out _) (fun c=>?_) (fun c=>?_)
  ·exact .done ⟨aR (az (fk (by assumption))).symm,by subst_vars;rfl⟩
  ·exact .done ⟨aR (aA (pc (by assumption))).symm,by subst_vars;rfl⟩
theorem ON(w r:Nat)(s:Sy)(l:Lay)(who ev jo:Int)(en:Bool)(ae:Int)(node:Int)(has:Bool)(nx out:List Int)(f c0 v:Int)(gu:Bool)(σ:Hp):ACalls Tryz.prog 392 [.ptr w 0] ((w,dP s l who ev jo en ae (.iface 409 (.ptr r 0)) node has nx out)::(r,DB ⟨f,c0,v,gu⟩)::σ) (aD (.int .i64 4) ((w,dP s l who ev jo en ae (.iface 409 (.ptr r 0)) node has nx out)::(r,DB ⟨f,c0,v,gu⟩)::σ)):=by
 refine au Tryz.func392 ?_
 refine aa 0 ?_
 exact .done ⟨rfl,rfl⟩
theorem Ez(w r:Nat)(s:Sy)(l:Lay)(who ev jo:Int)(en:Bool)(ae:Int)(node:Int)(has:Bool)(nx out:List Int)(x:List Int)(base ai words:Int)(gu:Bool)(at_:Nat)(ld:Bool)(z:Int)(σ:Hp)(hf:Fit s)(hx:bX x)(lx:x.length≤10000):ACalls Tryz.prog 392 [.ptr w 0] ((w,dP s l who ev jo en ae (.iface 412 (.ptr r 0)) node has nx out)::(r,kb (.af (.int .u64) x) base ai words gu at_ ld z)::σ) (aD (.int .i64 (tH s node)) ((w,dP s l who (wr (ev+1)) jo en ae (.iface 412 (.ptr r 0)) node has (ax s.n s.cI node) (rN (nS s node x) (kJ s x node.toNat)))::(r,kb (.af (.int .u64) x) base ai words gu at_ ld z)::σ)):=by
 refine au Tryz.func392 ?_
 refine aa 0 ?_
 refine aa 1 ?_
 refine ar [] (abW w s l who ev jo en ae (.iface 412 (.ptr r 0)) node has nx out x _ hf hx lx) ?_
 exact .done ⟨rfl,rfl⟩
theorem OL(w r:Nat)(s:Sy)(l:Lay)(who ev jo:Int)(en:Bool)(ae:Int)(node:Int)(has:Bool)(nx out:List Int)(base ai words:Int)(a:List Int)(gu:Bool)(tr:Int)(at_:Nat)(ld:Bool)(x:Int)(σ:Hp):ACalls Tryz.prog 392 [.ptr w 0] ((w,dP s l who ev jo en ae (.iface 417 (.ptr r 0)) node has nx out)::(r,xZ ⟨base,ai,words,a,true,gu,tr,at_,ld,x⟩)::σ) (aD (.int .i64 6) ((w,dP s l who ev (wr (jo+1)) en ae (.iface 417 (.ptr r 0)) node has nx out)::(r,xZ ⟨base,ai,words,a,true,gu,tr,at_,ld,x⟩)::σ)):=by
 refine au Tryz.func392 ?_
 refine aa 0 ?_
 refine aa 1 ?_
 refine aa 0 ?_
 refine ag 0 ?_
 exact .done ⟨rfl,rfl⟩
theorem OM(w r:Nat)(s:Sy)(l:Lay)(who ev jo:Int)(en:Bool)(ae:Int)(node:Int)(has:Bool)(nx out:List Int)(base ai words:Int)(a:List Int)(gu:Bool)(tr:Int)(at_:Nat)(ld:Bool)(x:Int)(σ:Hp)(hx:0<nx.length):ACalls Tryz.prog 392 [.ptr w 0] ((w,dP s l who ev jo en ae (.iface 417 (.ptr r 0)) node has nx out)::(r,xZ ⟨base,ai,words,a,false,gu,tr,at_,ld,x⟩)::σ) (aD (.int .i64 (jq nx)) ((w,dP s l who ev jo en ae (.iface 417 (.ptr r 0)) node has nx.tail out)::(r,xZ ⟨base,ai,words,a,false,gu,tr,at_,ld,x⟩)::σ)):=by
 refine au Tryz.func392 ?_
 refine aa 0 ?_
 refine aa 1 ?_
 refine ar [] (I1 w s l who ev jo en ae (.iface 417 (.ptr r 0)) node has nx out _ hx) ?_
 exact .done ⟨rfl,rfl⟩
theorem OJ(w r:Nat)(s:Sy)(l:Lay)(who ev jo:Int)(en:Bool)(ae:Int)(node:Int)(has:Bool)(nx out:List Int)(f c0 v:Int)(gu jH:Bool)(σ:Hp):ACalls Tryz.prog 392 [.ptr w 0] ((w,dP s l who ev jo en ae (.iface 420 (.ptr r 0)) node has nx out)::(r,xW ⟨f,c0,v,true,gu,jH⟩)::σ) (aD (.int .i64 7) ((w,dP s l who ev jo en ae (.iface 420 (.ptr r 0)) node has nx out)::(r,xW ⟨f,c0,v,true,gu,jH⟩)::σ)):=by
 refine au Tryz.func392 ?_
 refine aa 0 ?_
 refine aa 1 ?_
 exact .done ⟨rfl,rfl⟩
theorem OK(w r:Nat)(s:Sy)(l:Lay)(who ev jo:Int)(en:Bool)(ae:Int)(node:Int)(has:Bool)(nx out:List Int)(f c0 v:Int)(gu jH:Bool)(σ:Hp)(hx:0<nx.length):ACalls Tryz.prog 392 [.ptr w 0] ((w,dP s l who ev jo en ae (.iface 420 (.ptr r 0)) node has nx out)::(r,xW ⟨f,c0,v,false,gu,jH⟩)::σ) (aD (.int .i64 (jq nx)) ((w,dP s l who ev jo en ae (.iface 420 (.ptr r 0)) node has nx.tail out)::(r,xW ⟨f,c0,v,false,gu,jH⟩)::σ)):=by
 refine au Tryz.func392 ?_
 refine aa 0 ?_
 refine aa 1 ?_
 refine ar [] (I1 w s l who ev jo en ae (.iface 420 (.ptr r 0)) node has nx out _ hx) ?_
 exact .done ⟨rfl,rfl⟩
theorem PT(w r:Nat)(s:Sy)(l:Lay)(who ev jo:Int)(en:Bool)(ae:Int)(node:Int)(has:Bool)(nx out:List Int)(q:DQ)(σ:Hp)(hx:0<nx.length):ACalls Tryz.prog 392 [.ptr w 0] ((w,dP s l who ev jo en ae (.iface 425 (.ptr r 0)) node has nx out)::(r,lK q)::σ) (aD (.int .i64 (jq nx)) ((w,dP s l who ev jo en ae (.iface 425 (.ptr r 0)) node has nx.tail out)::(r,lK q)::σ)):=by
 refine au Tryz.func392 ?_
 refine aa 0 ?_
 refine ar [] (I1 w s l who ev jo en ae (.iface 425 (.ptr r 0)) node has nx out _ hx) ?_
 exact .done ⟨rfl,rfl⟩
theorem NJ(w r:Nat)(s:Sy)(l:Lay)(who ev jo:Int)(en:Bool)(ae:Int)(node:Int)(has:Bool)(nx out:List Int)(t:Rk)(σ:Hp):ACalls Tryz.prog 392 [.ptr w 0] ((w,dP s l who ev jo en ae (.iface 427 (.ptr r 0)) node has nx out)::(r,CC t)::σ) (aD (.int .i64 0) ((w,dP s l who ev jo en ae (.iface 427 (.ptr r 0)) node false nx out)::(r,CC t)::σ)):=by
 refine au Tryz.func392 ?_
 refine aa 0 ?_
 refine ag 0 ?_
 exact .done ⟨rfl,rfl⟩
set_option maxHeartbeats 4000000
theorem aaz(M:AMem)(r:Nat)(m:M.S)(base ai words x:Int)(at_:Nat)(eV:Bool)(l:List Int)(c:AV)(acc:Hp)(d:Int)(σ:Hp)(hf:M.O.free (M.abs m))(eP:at_<cw words)(hv:kA c acc l)(hl:l.length≤2000):
  ACalls Tryz.prog 406 [.ptr r 0,M.v,.int .i64 d] ((r,kb c base ai words false at_ eV x)::(acc++(M.B m++σ))) (fun z σ'=>∃m' c' aU,kA c' aU (l++[(M.O.ld (M.abs m) (wr (base+at_))).1])∧M.abs m'=(M.O.ld (M.abs m) (wr (base+at_))).2∧z=.bool (decide (at_+1=cw words))∧σ'=(r,kb c' base ai words (decide (at_+1=cw words)) (at_+1) eV x)::(aU++(M.B m'++σ))):=by
 have hc:=vN words
 have hw:IntKind.i64.wrap ((at_:Int)+1)=((at_+1:Nat):Int):=by rw[IntKind.wrap_i64];omega
 have ab:decide ((at_:Int)<(cw words:Nat))=true:=bj (by omega)
 cases hv with
 |nil=>
  refine au Tryz.func406 ?_
  refine aa 0 ?_
  refine .quiet (by kernel_rfl) ?_
  refine aa 0 ?_
  refine aa 0 ?_
  refine aK [] (nD _ _ _ _) ?_
  refine HI ab ?_
  refine .sched [5,7] (upto [5,7] 28 0) (by kernel_rfl) ?_
  refine aa 0 ?_
  refine aK [] (Xm _) ?_
  refine aK [] (dF _ _ _) ?_
  refine aa 0 ?_
  refine aa 0 ?_
  refine eY.mk M.hL ?_
  refine M.aLoad [_] hf fun m' hm=>?_
  intro aB
  refine AppendAt.fresh 1 _ (.inl rfl) (.ah 0 _ 0 1 _ rfl (cp rfl)) (by decide) (by decide) (by decide) (fun _ bn=>?_) (fun h=>absurd h (by decide))
  refine ag 2 ?_
  refine aa 2 ?_
  refine ag 2 ?_
  refine .sched [10] (upto [10] 15 0) (by kernel_rfl) ?_
  refine aa 2 ?_
  refine aa 2 ?_
  refine aK [] (nD _ _ _ _) ?_
  refine aj (fun c2=>?_) (fun c2=>?_)
  ·have c2:IntKind.i64.wrap ((↑at_:Int)+1)=(↑(cw words):Int):=c2
   refine ag 2 ?_
   refine aa 2 ?_
   exact .drop 1 1 ((.pull [1] (.done ⟨m',_,_,.ah bn [_],hm,by rw[bj (show at_+1=cw words by omega)];rfl,by unfold kb;rw[bj (show at_+1=cw words by omega),← hw];rfl⟩)))
  ·have c2:¬(IntKind.i64.wrap ((↑at_:Int)+1)=(↑(cw words):Int)):=c2
   refine ag 2 ?_
   refine aa 2 ?_
   exact .drop 1 1 ((.pull [1] (.done ⟨m',_,_,.ah bn [_],hm,by rw[cy (show ¬at_+1=cw words by omega)];rfl,by unfold kb;rw[cy (show ¬at_+1=cw words by omega),← hw];rfl⟩)))
 |ah b l=>
  have hlen:(aP l).length=l.length*1:=by simp[aP]
  refine au Tryz.func406 ?_
  refine aa 0 ?_
  refine .quiet (by kernel_rfl) ?_
  refine aa 0 ?_
  refine aa 0 ?_
  refine aK [] (nD _ _ _ _) ?_
  refine HI ab ?_
  refine .sched [7] (.one 0 false (.one 1 false (.one 2 false (.one 3 false (.one 4 false (.one 6 false (.one 8 false (.one 9 false (.one 10 false (.one 11 false (.one 13 false (.one 14 false (.one 15 false (.one 16 false (.alt 5 (.one 7 true (.one 12 false (.one 17 false (.one 18 false (.one 19 false (.one 20 false (.one 21 false (.one 22 false (.one 23 false (.one 24 false (.one 25 false (.one 26 false (.one 27 false .stop))))))))))))) (.alt 12 (.alt 5 (.one 7 true (.one 17 false (.one 18 false (.one 19 false (.one 20 false (.one 21 false (.one 22 false (.one 23 false (.one 24 false (.one 25 false (.one 26 false (.one 27 false .stop)))))))))))) (.one 17 false (.one 18 false (.one 5 false (.one 7 true (.one 19 false (.one 20 false (.one 21 false (.one 22 false (.one 23 false (.one 24 false (.one 25 false (.one 26 false (.one 27 false .stop)))))))))))))) (.one 17 false (.alt 5 (.one 7 true (.one 12 false (.one 18 false (.one 19 false (.one 20 false (.one 21 false (.one 22 false (.one 23 false (.one 24 false (.one 25 false (.one 26 false (.one 27 false .stop)))))))))))) (.one 12 false (.one 18 false (.one 5 false (.one 7 true (.one 19 false (.one 20 false (.one 21 false (.one 22 false (.one 23 false (.one 24 false (.one 25 false (.one 26 false (.one 27 false .stop))))))))))))))))))))))))))))))) (by kernel_rfl) ?_
  refine aa 0 ?_
  refine And.intro ?_ ?_
  ·(refine .mk [] _ (A4 b l.length (aP l) _ (dy _ (cF ..)) hlen (by omega)) ?_;rintro _ _ ⟨b',rfl,rfl⟩)
   refine aK [] (dF _ _ _) ?_
   refine aa 1 ?_
   refine aa 1 ?_
   refine eY.mk M.hL ?_
   refine M.aLoad [_,_,_] hf fun m' hm=>?_
   intro aB
   refine AppendAt.more 1 b' l.length 1 (aP l) _ rfl rfl (by show l.length*1≤(aP l).length;omega) (.ah 0 _ 0 1 _ rfl (cp rfl)) (by omega) (by decide) (by decide) (fun bn=>?_)
   refine ag 2 ?_
   refine aa 2 ?_
   refine ag 2 ?_
   refine .sched [10] (upto [10] 15 0) (by kernel_rfl) ?_
   refine aa 2 ?_
   refine aa 2 ?_
   refine aK [] (nD _ _ _ _) ?_
   refine aj (fun c2=>?_) (fun c2=>?_)
   ·have c2:IntKind.i64.wrap ((↑at_:Int)+1)=(↑(cw words):Int):=c2
    refine ag 2 ?_
    refine aa 2 ?_
    exact .drop 1 1 (.drop 2 1 ((.pull [1] (.done ⟨m',_,_,kA.push bn l _,hm,by rw[bj (show at_+1=cw words by omega)];rfl,by unfold kb;rw[bj (show at_+1=cw words by omega),← hw];rfl⟩))))
   ·have c2:¬(IntKind.i64.wrap ((↑at_:Int)+1)=(↑(cw words):Int)):=c2
    refine ag 2 ?_
    refine aa 2 ?_
    exact .drop 1 1 (.drop 2 1 ((.pull [1] (.done ⟨m',_,_,kA.push bn l _,hm,by rw[cy (show ¬at_+1=cw words by omega)];rfl,by unfold kb;rw[cy (show ¬at_+1=cw words by omega),← hw];rfl⟩))))
  ·refine And.intro ?_ ?_
   ·refine aa 0 ?_
    refine And.intro ?_ ?_
    ·(refine .mk [] _ (A4 b l.length (aP l) _ (dy _ (cF ..)) hlen (by omega)) ?_;rintro _ _ ⟨b',rfl,rfl⟩)
     refine aK [] (dF _ _ _) ?_
     refine aa 1 ?_
     refine eY.mk M.hL ?_
     refine M.aLoad [_,_,_] hf fun m' hm=>?_
     intro qg
     refine AppendAt.more 1 b' l.length 1 (aP l) _ rfl rfl (by show l.length*1≤(aP l).length;omega) (.ah 0 _ 0 1 _ rfl (cp rfl)) (by omega) (by decide) (by decide) (fun bn=>?_)
     refine ag 2 ?_
     refine aa 2 ?_
     refine ag 2 ?_
     refine .sched [10] (upto [10] 15 0) (by kernel_rfl) ?_
     refine aa 2 ?_
     refine aa 2 ?_
     refine aK [] (nD _ _ _ _) ?_
     refine aj (fun c4=>?_) (fun c4=>?_)
     ·have c4:IntKind.i64.wrap ((↑at_:Int)+1)=(↑(cw words):Int):=c4
      refine ag 2 ?_
      refine aa 2 ?_
      exact .drop 1 1 (.drop 2 1 ((.pull [1] (.done ⟨m',_,_,kA.push bn l _,hm,by rw[bj (show at_+1=cw words by omega)];rfl,by unfold kb;rw[bj (show at_+1=cw words by omega),← hw];rfl⟩))))
     ·have c4:¬(IntKind.i64.wrap ((↑at_:Int)+1)=(↑(cw words):Int)):=c4
      refine ag 2 ?_
      refine aa 2 ?_
      exact .drop 1 1 (.drop 2 1 ((.pull [1] (.done ⟨m',_,_,kA.push bn l _,hm,by rw[cy (show ¬at_+1=cw words by omega)];rfl,by unfold kb;rw[cy (show ¬at_+1=cw words by omega),← hw];rfl⟩))))
    ·refine aa 0 ?_
     (refine .mk [] _ (A4 b l.length (aP l) _ (dy _ (cF ..)) hlen (by omega)) ?_;rintro _ _ ⟨b',rfl,rfl⟩)
     refine aK [] (dF _ _ _) ?_
     refine eY.mk M.hL ?_
     refine M.aLoad [_,_,_] hf fun m' hm=>?_
     intro td
     refine AppendAt.more 1 b' l.length 1 (aP l) _ rfl rfl (by show l.length*1≤(aP l).length;omega) (.ah 0 _ 0 1 _ rfl (cp rfl)) (by omega) (by decide) (by decide) (fun bn=>?_)
     refine ag 2 ?_
     refine aa 2 ?_
     refine ag 2 ?_
     refine .sched [10] (upto [10] 15 0) (by kernel_rfl) ?_
     refine aa 2 ?_
     refine aa 2 ?_
     refine aK [] (nD _ _ _ _) ?_
     refine aj (fun c6=>?_) (fun c6=>?_)
     ·have c6:IntKind.i64.wrap ((↑at_:Int)+1)=(↑(cw words):Int):=c6
      refine ag 2 ?_
      refine aa 2 ?_
      exact .drop 1 1 (.drop 2 1 ((.pull [1] (.done ⟨m',_,_,kA.push bn l _,hm,by rw[bj (show at_+1=cw words by omega)];rfl,by unfold kb;rw[bj (show at_+1=cw words by omega),← hw];rfl⟩))))
     ·have c6:¬(IntKind.i64.wrap ((↑at_:Int)+1)=(↑(cw words):Int)):=c6
      refine ag 2 ?_
      refine aa 2 ?_
      exact .drop 1 1 (.drop 2 1 ((.pull [1] (.done ⟨m',_,_,kA.push bn l _,hm,by rw[cy (show ¬at_+1=cw words by omega)];rfl,by unfold kb;rw[cy (show ¬at_+1=cw words by omega),← hw];rfl⟩))))
   ·refine aa 0 ?_
    refine And.intro ?_ ?_
    ·(refine .mk [] _ (A4 b l.length (aP l) _ (dy _ (cF ..)) hlen (by omega)) ?_;rintro _ _ ⟨b',rfl,rfl⟩)
     refine aK [] (dF _ _ _) ?_
     refine aa 1 ?_
     refine eY.mk M.hL ?_
     refine M.aLoad [_,_,_] hf fun m' hm=>?_
     intro bl7
     refine AppendAt.more 1 b' l.length 1 (aP l) _ rfl rfl (by show l.length*1≤(aP l).length;omega) (.ah 0 _ 0 1 _ rfl (cp rfl)) (by omega) (by decide) (by decide) (fun bn=>?_)
     refine ag 2 ?_
     refine aa 2 ?_
     refine ag 2 ?_
     refine .sched [10] (upto [10] 15 0) (by kernel_rfl) ?_
     refine aa 2 ?_
     refine aa 2 ?_
     refine aK [] (nD _ _ _ _) ?_
     refine aj (fun c8=>?_) (fun c8=>?_)
     ·have c8:IntKind.i64.wrap ((↑at_:Int)+1)=(↑(cw words):Int):=c8
      refine ag 2 ?_
      refine aa 2 ?_
      exact .drop 1 1 (.drop 2 1 ((.pull [1] (.done ⟨m',_,_,kA.push bn l _,hm,by rw[bj (show at_+1=cw words by omega)];rfl,by unfold kb;rw[bj (show at_+1=cw words by omega),← hw];rfl⟩))))
     ·have c8:¬(IntKind.i64.wrap ((↑at_:Int)+1)=(↑(cw words):Int)):=c8
      refine ag 2 ?_
      refine aa 2 ?_
      exact .drop 1 1 (.drop 2 1 ((.pull [1] (.done ⟨m',_,_,kA.push bn l _,hm,by rw[cy (show ¬at_+1=cw words by omega)];rfl,by unfold kb;rw[cy (show ¬at_+1=cw words by omega),← hw];rfl⟩))))
    ·refine aa 0 ?_
     (refine .mk [] _ (A4 b l.length (aP l) _ (dy _ (cF ..)) hlen (by omega)) ?_;rintro _ _ ⟨b',rfl,rfl⟩)
     refine aK [] (dF _ _ _) ?_
     refine eY.mk M.hL ?_
     refine M.aLoad [_,_,_] hf fun m' hm=>?_
     intro bl9
     refine AppendAt.more 1 b' l.length 1 (aP l) _ rfl rfl (by show l.length*1≤(aP l).length;omega) (.ah 0 _ 0 1 _ rfl (cp rfl)) (by omega) (by decide) (by decide) (fun bn=>?_)
     refine ag 2 ?_
     refine aa 2 ?_
     refine ag 2 ?_
     refine .sched [10] (upto [10] 15 0) (by kernel_rfl) ?_
     refine aa 2 ?_
     refine aa 2 ?_
     refine aK [] (nD _ _ _ _) ?_
     refine aj (fun jX=>?_) (fun jX=>?_)
     ·have jX:IntKind.i64.wrap ((↑at_:Int)+1)=(↑(cw words):Int):=jX
      refine ag 2 ?_
      refine aa 2 ?_
      exact .drop 1 1 (.drop 2 1 ((.pull [1] (.done ⟨m',_,_,kA.push bn l _,hm,by rw[bj (show at_+1=cw words by omega)];rfl,by unfold kb;rw[bj (show at_+1=cw words by omega),← hw];rfl⟩))))
     ·have jX:¬(IntKind.i64.wrap ((↑at_:Int)+1)=(↑(cw words):Int)):=jX
      refine ag 2 ?_
      refine aa 2 ?_
      exact .drop 1 1 (.drop 2 1 ((.pull [1] (.done ⟨m',_,_,kA.push bn l _,hm,by rw[cy (show ¬at_+1=cw words by omega)];rfl,by unfold kb;rw[cy (show ¬at_+1=cw words by omega),← hw];rfl⟩))))
theorem QH(M:AMem)(r:Nat)(base ai words x:Int)(eV:Bool)(c:AV)(d:Int)(σ:Hp)(eP:cw words=0):
  ACalls Tryz.prog 406 [.ptr r 0,M.v,.int .i64 d] ((r,kb c base ai words false 0 eV x)::σ) (aD (.bool true) ((r,kb c base ai words true 0 eV x)::σ)):=by
 have ab:decide ((0:Int)<(cw words:Nat))=false:=cy (by omega)
 have heq:decide ((0:Int)=(cw words:Nat))=true:=bj (by omega)
 refine au Tryz.func406 ?_
 refine aa 0 ?_
 refine .quiet (by kernel_rfl) ?_
 refine aa 0 ?_
 refine aa 0 ?_
 refine aK [] (nD _ _ _ _) ?_
 refine UG ab ?_
 refine .sched [10] (upto [10] 15 0) (by kernel_rfl) ?_
 refine aa 0 ?_
 refine aa 0 ?_
 refine aK [] (nD _ _ _ _) ?_
 refine HI heq ?_
 refine ag 0 ?_
 refine aa 0 ?_
 exact .done ⟨rfl,rfl⟩
set_option maxHeartbeats 4000000
theorem wPop_ : Meth Tryz.prog 399 "Step" 401 := fun a w => by kernel_rfl
theorem wSteal_ : Meth Tryz.prog 404 "Step" 403 := fun a w => by kernel_rfl
theorem wPush_ : Meth Tryz.prog 425 "Step" 409 := fun a w => by kernel_rfl
theorem wQuiet_ : Meth Tryz.prog 406 "Step" 404 := fun a w => by kernel_rfl
theorem wClear_ : Meth Tryz.prog 409 "Step" 405 := fun a w => by kernel_rfl
theorem wTake_ : Meth Tryz.prog 420 "Step" 408 := fun a w => by kernel_rfl
theorem wRetire_ : Meth Tryz.prog 427 "Step" 410 := fun a w => by kernel_rfl
theorem wRead_ : Meth Tryz.prog 412 "Step" 406 := fun a w => by kernel_rfl
theorem wJoin_ : Meth Tryz.prog 417 "Step" 407 := fun a w => by kernel_rfl
theorem acX{M:AMem}{f:FuncId}{xs:List AV}{X:Type}{B:X→List AV}{r:Nat}{cs:List AV}{res:X×M.O.A×Bool}{m:M.S}(fr:Hp){σ:Hp}{K:AV→Hp→Prop}(h:∀σ,ACalls Tryz.prog f xs ((r,cs)::(M.B m++σ)) (pF M σ B r res))
  (k1:∀m',M.abs m'=res.2.1→res.2.2=true→K (.bool true) (fr++((r,B res.1)::(M.B m'++σ)))) (k2:∀m',M.abs m'=res.2.1→res.2.2=false→K (.bool false) (fr++((r,B res.1)::(M.B m'++σ)))):CallAt Tryz.prog f K xs (fr++((r,cs)::(M.B m++σ))):=by
 have hp:∀(c:List AV) (b:Hp),((r,c)::(b++(fr++σ))).Perm (fr++((r,c)::(b++σ))):=fun c b=>ez fr ((r,c)::b) σ
 refine .perm _ (hp cs (M.B m)) (h (fr++σ)) ?_
 rintro x σ' ⟨m',h1,rfl,rfl⟩
 refine⟨_,(hp (B res.1) (M.B m')).symm,?_⟩
 cases hb:res.2.2 with
 |true=>exact k1 m' h1 hb
 |false=>exact k2 m' h1 hb
def nA(O:jz)(l:Lay)(base:Int)(x:List Int)(a:O.A):List Int×O.A×Bool:=
 if x.length<cw l.words then (x++[(O.ld a (wr (base+(x.length:Nat)))).1],(O.ld a (wr (base+(x.length:Nat)))).2,decide (x.length+1=cw l.words)) else (x,a,true)
def kf(O:jz)(l:Lay)(node:Int):Nw→O.A→Nw×O.A×Bool
 |.none,a=>(.none,a,false)
 |.pop q,a=>(.pop (dZ O q a).1,(dZ O q a).2)
 |.dO q,a=>(.dO (fx O q a).1,(fx O q a).2)
 |.quiet t,a=>(.quiet (qt O t a).1,(qt O t a).2)
 |.clear t,a=>(.clear (rh O t a).1,(rh O t a).2)
 |.read x,a=>(.read (nA O l (df l node) x a).1,(nA O l (df l node) x a).2)
 |.join j,a=>(.join (fo O j a).1,(fo O j a).2)
 |.take t,a=>(.take (mr O t a).1,(mr O t a).2)
 |.push q,a=>(.push (fT O q a).1,(fT O q a).2)
 |.fU t,a=>(.fU (so O t a).1,(so O t a).2)
def ft(s:Sy)(l:Lay)(x:WS):Nw→WS
 |.none=>x
 |.pop q=>if q.ok=true then ⟨x.ev,x.jo,x.en,jM l q.n,.none,iR l q.n,true,x.nx,x.out⟩ else ⟨x.ev,x.jo,x.en,qm l,.none,x.node,x.has,x.nx,x.out⟩
 |.dO q=>if q.ok=true then ⟨x.ev,x.jo,x.en,jM l q.n,.none,iR l q.n,true,x.nx,x.out⟩ else ⟨x.ev,x.jo,x.en,2,.none,x.node,x.has,x.nx,x.out⟩
 |.quiet t=>⟨x.ev,x.jo,t.is,tz l,.none,x.node,x.has,x.nx,x.out⟩
 |.clear _=>⟨x.ev,x.jo,x.en,4,.none,x.node,x.has,x.nx,x.out⟩
 |.read y=>⟨wr (x.ev+1),x.jo,x.en,tH s x.node,.none,x.node,x.has,ax s.n s.cI x.node,rN (nS s x.node y) (kJ s y x.node.toNat)⟩
 |.join j=>if j.changed=true then ⟨x.ev,wr (x.jo+1),x.en,6,.none,x.node,x.has,x.nx,x.out⟩ else ⟨x.ev,x.jo,x.en,jq x.nx,.none,x.node,x.has,x.nx.tail,x.out⟩
 |.take t=>if t.new=true then ⟨x.ev,x.jo,x.en,7,.none,x.node,x.has,x.nx,x.out⟩ else ⟨x.ev,x.jo,x.en,jq x.nx,.none,x.node,x.has,x.nx.tail,x.out⟩
 |.push _=>⟨x.ev,x.jo,x.en,jq x.nx,.none,x.node,x.has,x.nx.tail,x.out⟩
 |.fU _=>⟨x.ev,x.jo,x.en,0,.none,x.node,false,x.nx,x.out⟩
def oo(l:Lay)(who:Int)(x:WS)(d:Int):Nw:=match x.now with
 |.none=>jy l who x.ae x.node x.nx x.out d
 |n=>n
def cW(O:jz)(s:Sy)(l:Lay)(who:Int)(x:WS)(d:Int)(a:O.A):WS×O.A×Bool:=
 if x.en=true then (x,a,true)
 else if (kf O l x.node (oo l who x d) a).2.2=true then (ft s l x (kf O l x.node (oo l who x d) a).1,(kf O l x.node (oo l who x d) a).2.1,(ft s l x (kf O l x.node (oo l who x d) a).1).en)
 else (⟨x.ev,x.jo,x.en,x.ae,(kf O l x.node (oo l who x d) a).1,x.node,x.has,x.nx,x.out⟩,(kf O l x.node (oo l who x d) a).2.1,false)
def ur(l:Lay)(nx:List Int):Nw→Prop
 |.none=>True
 |.pop q=>q.at_≤5∧0≤q.b
 |.dO q=>q.at_≤3∧0≤q.t
 |.quiet _=>True
 |.clear _=>True
 |.read x=>(x.length<cw l.words∨(cw l.words=0∧x=[]))∧bX x
 |.join j=>j.at_≤1024∧0<nx.length
 |.take _=>0<nx.length
 |.push q=>(q.at_≤3∧0≤q.b)∧0<nx.length
 |.fU _=>True
def J3(l:Lay)(x:WS):Prop:=(x.ae=5∨x.ae=6∨x.ae=7→0<x.nx.length)∧(x.ae=1→nK l≠0∧l.k≠0)∧ur l x.nx x.now
def xH(c:AV)(acc:Hp):Nw→Prop
 |.read x=>kA c acc x∧(x=[]→c=.ak)
 |_=>True
def WB(s:Sy)(l:Lay)(who:Int)(w r:Nat)(c:AV)(acc:Hp)(x:WS):Hp:=(w,dP s l who x.ev x.jo x.en x.ae (Gj r x.now) x.node x.has x.nx x.out)::Gk l x.node r c acc x.now
set_option maxHeartbeats 4000000
def oO(M:AMem)(s:Sy)(l:Lay)(who:Int)(w:Nat)(res:WS×M.O.A×Bool)(σ:Hp):AV→Hp→Prop:=fun z σ'=>∃m' r c acc,xH c acc res.1.now∧M.abs m'=res.2.1∧z=.bool res.2.2∧σ'=WB s l who w r c acc res.1++(M.B m'++σ)
theorem Xq{M:AMem}{s:Sy}{l:Lay}{who:Int}{w:Nat}{σ:Hp}{x:WS}{a:M.O.A}{d:Int}(h:x.en=true){m:M.S}(hm:M.abs m=a){r:Nat}{c:AV}{acc:Hp}(rd:xH c acc x.now):oO M s l who w (cW M.O s l who x d a) σ (.bool true) (WB s l who w r c acc x++(M.B m++σ)):=by
 unfold cW
 rw[az h]
 exact⟨m,r,c,acc,rd,hm,rfl,rfl⟩
theorem gG{M:AMem}{s:Sy}{l:Lay}{who:Int}{w:Nat}{σ:Hp}{x:WS}{a a':M.O.A}{d:Int}{n n':Nw}{b:Bool}{m':M.S}{y:WS}(he:x.en=false)(eP:oo l who x d=n)(hn:kf M.O l x.node n a=(n',a',b))(hb:b=true)(hm:M.abs m'=a')(hy:ft s l x n'=y)(h0:y.now=.none)(r:Nat):oO M s l who w (cW M.O s l who x d a) σ (.bool y.en) (WB s l who w r .ak [] y++(M.B m'++σ)):=by
 unfold cW
 rw[aA (by rw[he];decide),eP,hn]
 dsimp only
 rw[az hb,hy]
 exact⟨m',r,.ak,[],by rw[h0];trivial,hm,rfl,rfl⟩
theorem ia{M:AMem}{s:Sy}{l:Lay}{who:Int}{w:Nat}{σ:Hp}{x:WS}{a a':M.O.A}{d:Int}{n n':Nw}{b:Bool}{m':M.S}(he:x.en=false)(eP:oo l who x d=n)(hn:kf M.O l x.node n a=(n',a',b))(hb:b=false)(hm:M.abs m'=a')(r:Nat)(c:AV)(acc:Hp)(rd:xH c acc n'):oO M s l who w (cW M.O s l who x d a) σ (.bool false) (WB s l who w r c acc ⟨x.ev,x.jo,x.en,x.ae,n',x.node,x.has,x.nx,x.out⟩++(M.B m'++σ)):=by
 unfold cW
 rw[aA (by rw[he];decide),eP,hn]
 dsimp only
 rw[aA (by rw[hb];decide)]
 exact⟨m',r,c,acc,rd,hm,rfl,rfl⟩
theorem iG{M:AMem}{f:FuncId}{xs:List AV}{X:Type}{B:X→List AV}{r:Nat}{cs:List AV}{res:X×M.O.A×Bool}{x':X}{a':M.O.A}{b':Bool}{m:M.S}(fr:Hp){σ:Hp}{K:AV→Hp→Prop}(ao:res=(x',a',b'))(h:∀σ,ACalls Tryz.prog f xs ((r,cs)::(M.B m++σ)) (pF M σ B r res))
  (k1:∀m',M.abs m'=a'→b'=true→K (.bool true) (fr++((r,B x')::(M.B m'++σ)))) (k2:∀m',M.abs m'=a'→b'=false→K (.bool false) (fr++((r,B x')::(M.B m'++σ)))):CallAt Tryz.prog f K xs (fr++((r,cs)::(M.B m++σ))):=by
 subst ao
 exact acX fr h k1 k2
theorem k8{O:jz}{l:Lay}{node:Int}{q q':DQ}{a a':O.A}{b:Bool}(h:dZ O q a=(q',a',b)):kf O l node (.pop q) a=(.pop q',a',b):=by show (Nw.pop (dZ O q a).1,(dZ O q a).2)=_;rw[h]
theorem kX{O:jz}{l:Lay}{node:Int}{q q':DQ}{a a':O.A}{b:Bool}(h:fx O q a=(q',a',b)):kf O l node (.dO q) a=(.dO q',a',b):=by show (Nw.dO (fx O q a).1,(fx O q a).2)=_;rw[h]
theorem ql{O:jz}{l:Lay}{node:Int}{q q':Qk}{a a':O.A}{b:Bool}(h:qt O q a=(q',a',b)):kf O l node (.quiet q) a=(.quiet q',a',b):=by show (Nw.quiet (qt O q a).1,(qt O q a).2)=_;rw[h]
theorem yK{O:jz}{l:Lay}{node:Int}{q q':Ck}{a a':O.A}{b:Bool}(h:rh O q a=(q',a',b)):kf O l node (.clear q) a=(.clear q',a',b):=by show (Nw.clear (rh O q a).1,(rh O q a).2)=_;rw[h]
theorem oz{O:jz}{l:Lay}{node:Int}{q q':Tk}{a a':O.A}{b:Bool}(h:mr O q a=(q',a',b)):kf O l node (.take q) a=(.take q',a',b):=by show (Nw.take (mr O q a).1,(mr O q a).2)=_;rw[h]
theorem q8{O:jz}{l:Lay}{node:Int}{q q':DQ}{a a':O.A}{b:Bool}(h:fT O q a=(q',a',b)):kf O l node (.push q) a=(.push q',a',b):=by show (Nw.push (fT O q a).1,(fT O q a).2)=_;rw[h]
theorem yG{O:jz}{l:Lay}{node:Int}{q q':Rk}{a a':O.A}{b:Bool}(h:so O q a=(q',a',b)):kf O l node (.fU q) a=(.fU q',a',b):=by show (Nw.fU (so O q a).1,(so O q a).2)=_;rw[h]
theorem kY{O:jz}{l:Lay}{node:Int}{q q':Jn}{a a':O.A}{b:Bool}(h:fo O q a=(q',a',b)):kf O l node (.join q) a=(.join q',a',b):=by show (Nw.join (fo O q a).1,(fo O q a).2)=_;rw[h]
theorem tB{O:jz}{l:Lay}{node:Int}{q q':List Int}{a a':O.A}{b:Bool}(h:nA O l (df l node) q a=(q',a',b)):kf O l node (.read q) a=(.read q',a',b):=by show (Nw.read (nA O l (df l node) q a).1,(nA O l (df l node) q a).2)=_;rw[h]
theorem YF(l:Lay)(who ae node:Int)(nx out:List Int)(d:Int):jy l who ae node nx out d≠.none:=by
 unfold jy;repeat' (first | split | (intro h;cases h))
theorem ZT{l:Lay}{who ae node:Int}{nx out:List Int}{d:Int}(h:ae=5∨ae=6∨ae=7→0<nx.length):ur l nx (jy l who ae node nx out d):=by
 unfold jy
 repeat' split
 ·exact⟨aY _,dA _⟩
 ·exact⟨aY _,dA _⟩
 ·trivial
 ·trivial
 ·refine⟨?_,fun _ h=>by cases h⟩
  rcases r8 (cw l.words) with h | h
  ·exact .inr ⟨h,rfl⟩
  ·exact .inl h
 ·exact⟨aY _,h (by omega)⟩
 ·exact h (by omega)
 ·exact⟨⟨aY _,dA _⟩,h (by omega)⟩
 ·trivial
theorem Ru{M:AMem}{r w:Nat}{wc:List AV}{m:M.S}{base ai words x d:Int}{l:List Int}{c:AV}{acc σ:Hp}{K:AV→Hp→Prop}(hf:M.O.free (M.abs m))(eP:l.length<cw words)(hv:kA c acc l)
  (k1:∀m' b,M.abs m'=(M.O.ld (M.abs m) (wr (base+(l.length:Nat)))).2→l.length+1=cw words→K (.bool true) ((w,wc)::(r,kb (.ah b 0 (l++[(M.O.ld (M.abs m) (wr (base+(l.length:Nat)))).1]).length 1) base ai words true (l++[(M.O.ld (M.abs m) (wr (base+(l.length:Nat)))).1]).length false x)::(b,aP (l++[(M.O.ld (M.abs m) (wr (base+(l.length:Nat)))).1]))::(M.B m'++σ)))
  (k2:∀m' b,M.abs m'=(M.O.ld (M.abs m) (wr (base+(l.length:Nat)))).2→¬l.length+1=cw words→K (.bool false) ((w,wc)::(r,kb (.ah b 0 (l++[(M.O.ld (M.abs m) (wr (base+(l.length:Nat)))).1]).length 1) base ai words false (l++[(M.O.ld (M.abs m) (wr (base+(l.length:Nat)))).1]).length false x)::(b,aP (l++[(M.O.ld (M.abs m) (wr (base+(l.length:Nat)))).1]))::(M.B m'++σ))):CallAt Tryz.prog 406 K [.ptr r 0,M.v,.int .i64 d] ((w,wc)::(r,kb c base ai words false l.length false x)::(acc++(M.B m++σ))):=by
 have GA:=vN words
 have hp:∀(cs:List AV) (a b:Hp),((r,cs)::(a++(b++((w,wc)::σ)))).Perm ((w,wc)::(r,cs)::(a++(b++σ))):=fun cs a b=>by
  have:=ez [(w,wc)] ((r,cs)::(a++b)) σ
  simpa using this
 refine .perm _ (hp _ acc (M.B m)) (aaz M r m base ai words x l.length false l c acc d ((w,wc)::σ) hf eP hv (by omega)) ?_
 rintro z σ' ⟨m',c',aU,h1,h2,rfl,rfl⟩
 refine⟨_,(hp _ aU (M.B m')).symm,?_⟩
 have hlen:(l++[(M.O.ld (M.abs m) (wr (base+(l.length:Nat)))).1]).length=l.length+1:=by simp
 generalize hg:l++[(M.O.ld (M.abs m) (wr (base+(l.length:Nat)))).1]=g at h1 k1 k2 hlen
 rw[← hlen]
 rw[← hlen]at k1 k2
 cases h1 with
 |nil=>simp at hlen
 |ah b g=>
  by_cases he:g.length=cw words
  ·rw[bj he];exact k1 m' b h2 he
  ·rw[cy he];exact k2 m' b h2 he
theorem aah(M:AMem)(w r:Nat)(c:AV)(acc:Hp)(s:Sy)(l:Lay)(who:Int)(ev jo:Int)(ae:Int)(q:DQ)(node:Int)(has:Bool)(nx out:List Int)(d:Int)(m:M.S)(σ:Hp)(hm:M.O.free (M.abs m))(o3:ur l nx (.pop q)):
  ACalls Tryz.prog 390 [.ptr w 0,M.v,.int .i64 d] (WB s l who w r c acc ⟨ev,jo,false,ae,.pop q,node,has,nx,out⟩++(M.B m++σ)) (oO M s l who w (cW M.O s l who ⟨ev,jo,false,ae,.pop q,node,has,nx,out⟩ d (M.abs m)) σ):=by
 refine au Tryz.func390 ?_
 refine aa 0 ?_
 refine aa 0 ?_
 refine aa 0 ?_
 obtain⟨q',a',b',ao⟩:∃q' a' b',dZ M.O q (M.abs m)=(q',a',b'):=⟨_,_,_,rfl⟩
 obtain⟨u1,u2,u3,u4,u5,u6,u7,u8,u9⟩:=q'
 cases u4 with
 |true=>
  refine .fwd 1 ?_
  refine .sched [5] (upto [5] 11 0) (by kernel_rfl) ?_
  refine aa 0 ?_
  refine aK [] (dF _ _ _) ?_
  refine InvAt.mk _ wPop_ ?_
  refine iG [_] ao (fun σ=>F9 M r q m d σ hm (by have:=o3.1;omega) o3.2) (fun m' aZ hb=>?_) (fun m' aZ hb=>?_)
  ·refine ar [] (PU w r s l who ev jo false ae node has nx out _ _ _ _ _ _ _ _ _) ?_
   refine ag 0 ?_
   refine ag 0 ?_
   refine aa 0 ?_
   exact .drop 1 1 (.done (gG (x:=⟨ev,jo,false,ae,.pop q,node,has,nx,out⟩) (n:=.pop q) rfl rfl (k8 ao) hb aZ rfl rfl r))
  ·exact .done (ia (x:=⟨ev,jo,false,ae,.pop q,node,has,nx,out⟩) (n:=.pop q) rfl rfl (k8 ao) hb aZ r .ak [] trivial)
 |false=>
  refine .fwd 1 ?_
  refine .sched [5] (upto [5] 11 0) (by kernel_rfl) ?_
  refine aa 0 ?_
  refine aK [] (dF _ _ _) ?_
  refine InvAt.mk _ wPop_ ?_
  refine iG [_] ao (fun σ=>F9 M r q m d σ hm (by have:=o3.1;omega) o3.2) (fun m' aZ hb=>?_) (fun m' aZ hb=>?_)
  ·refine ar [] (PV w r s l who ev jo false ae node has nx out _ _ _ _ _ _ _ _ _) ?_
   refine ag 0 ?_
   refine ag 0 ?_
   refine aa 0 ?_
   exact .drop 1 1 (.done (gG (x:=⟨ev,jo,false,ae,.pop q,node,has,nx,out⟩) (n:=.pop q) rfl rfl (k8 ao) hb aZ rfl rfl r))
  ·exact .done (ia (x:=⟨ev,jo,false,ae,.pop q,node,has,nx,out⟩) (n:=.pop q) rfl rfl (k8 ao) hb aZ r .ak [] trivial)
theorem W8(M:AMem)(w r:Nat)(c:AV)(acc:Hp)(s:Sy)(l:Lay)(who:Int)(ev jo:Int)(ae:Int)(q:DQ)(node:Int)(has:Bool)(nx out:List Int)(d:Int)(m:M.S)(σ:Hp)(hm:M.O.free (M.abs m))(o3:ur l nx (.dO q)):
  ACalls Tryz.prog 390 [.ptr w 0,M.v,.int .i64 d] (WB s l who w r c acc ⟨ev,jo,false,ae,.dO q,node,has,nx,out⟩++(M.B m++σ)) (oO M s l who w (cW M.O s l who ⟨ev,jo,false,ae,.dO q,node,has,nx,out⟩ d (M.abs m)) σ):=by
 refine au Tryz.func390 ?_
 refine aa 0 ?_
 refine aa 0 ?_
 refine aa 0 ?_
 obtain⟨q',a',b',ao⟩:∃q' a' b',fx M.O q (M.abs m)=(q',a',b'):=⟨_,_,_,rfl⟩
 obtain⟨u1,u2,u3,u4,u5,u6,u7,u8,u9⟩:=q'
 cases u4 with
 |true=>
  refine .fwd 1 ?_
  refine .sched [5] (upto [5] 11 0) (by kernel_rfl) ?_
  refine aa 0 ?_
  refine aK [] (dF _ _ _) ?_
  refine InvAt.mk _ wSteal_ ?_
  refine iG [_] ao (fun σ=>E8 M r q m d σ hm (by have:=o3.1;omega) o3.2) (fun m' aZ hb=>?_) (fun m' aZ hb=>?_)
  ·refine ar [] (NH w r s l who ev jo false ae node has nx out _ _ _ _ _ _ _ _ _) ?_
   refine ag 0 ?_
   refine ag 0 ?_
   refine aa 0 ?_
   exact .drop 1 1 (.done (gG (x:=⟨ev,jo,false,ae,.dO q,node,has,nx,out⟩) (n:=.dO q) rfl rfl (kX ao) hb aZ rfl rfl r))
  ·exact .done (ia (x:=⟨ev,jo,false,ae,.dO q,node,has,nx,out⟩) (n:=.dO q) rfl rfl (kX ao) hb aZ r .ak [] trivial)
 |false=>
  refine .fwd 1 ?_
  refine .sched [5] (upto [5] 11 0) (by kernel_rfl) ?_
  refine aa 0 ?_
  refine aK [] (dF _ _ _) ?_
  refine InvAt.mk _ wSteal_ ?_
  refine iG [_] ao (fun σ=>E8 M r q m d σ hm (by have:=o3.1;omega) o3.2) (fun m' aZ hb=>?_) (fun m' aZ hb=>?_)
  ·refine ar [] (NI w r s l who ev jo false ae node has nx out _ _ _ _ _ _ _ _ _) ?_
   refine ag 0 ?_
   refine ag 0 ?_
   refine aa 0 ?_
   exact .drop 1 1 (.done (gG (x:=⟨ev,jo,false,ae,.dO q,node,has,nx,out⟩) (n:=.dO q) rfl rfl (kX ao) hb aZ rfl rfl r))
  ·exact .done (ia (x:=⟨ev,jo,false,ae,.dO q,node,has,nx,out⟩) (n:=.dO q) rfl rfl (kX ao) hb aZ r .ak [] trivial)
theorem W9(M:AMem)(w r:Nat)(c:AV)(acc:Hp)(s:Sy)(l:Lay)(who:Int)(ev jo:Int)(ae:Int)(q:Qk)(node:Int)(has:Bool)(nx out:List Int)(d:Int)(m:M.S)(σ:Hp)(hm:M.O.free (M.abs m)):
  ACalls Tryz.prog 390 [.ptr w 0,M.v,.int .i64 d] (WB s l who w r c acc ⟨ev,jo,false,ae,.quiet q,node,has,nx,out⟩++(M.B m++σ)) (oO M s l who w (cW M.O s l who ⟨ev,jo,false,ae,.quiet q,node,has,nx,out⟩ d (M.abs m)) σ):=by
 refine au Tryz.func390 ?_
 refine aa 0 ?_
 refine aa 0 ?_
 refine aa 0 ?_
 obtain⟨q',a',b',ao⟩:∃q' a' b',qt M.O q (M.abs m)=(q',a',b'):=⟨_,_,_,rfl⟩
 obtain⟨u1,u2,u3,u4⟩:=q'
 cases u3 with
 |true=>
  refine .fwd 1 ?_
  refine .sched [5] (upto [5] 11 0) (by kernel_rfl) ?_
  refine aa 0 ?_
  refine aK [] (dF _ _ _) ?_
  refine InvAt.mk _ wQuiet_ ?_
  refine iG [_] ao (fun σ=>Fa M r q m d σ hm) (fun m' aZ hb=>?_) (fun m' aZ hb=>?_)
  ·refine ar [] (Eh w r s l who ev jo false ae node has nx out _ _ _ _ _) ?_
   refine ag 0 ?_
   refine ag 0 ?_
   refine aa 0 ?_
   exact .drop 1 1 (.done (gG (x:=⟨ev,jo,false,ae,.quiet q,node,has,nx,out⟩) (n:=.quiet q) rfl rfl (ql ao) hb aZ rfl rfl r))
  ·exact .done (ia (x:=⟨ev,jo,false,ae,.quiet q,node,has,nx,out⟩) (n:=.quiet q) rfl rfl (ql ao) hb aZ r .ak [] trivial)
 |false=>
  refine .fwd 1 ?_
  refine .sched [5] (upto [5] 11 0) (by kernel_rfl) ?_
  refine aa 0 ?_
  refine aK [] (dF _ _ _) ?_
  refine InvAt.mk _ wQuiet_ ?_
  refine iG [_] ao (fun σ=>Fa M r q m d σ hm) (fun m' aZ hb=>?_) (fun m' aZ hb=>?_)
  ·refine ar [] (Eh w r s l who ev jo false ae node has nx out _ _ _ _ _) ?_
   refine ag 0 ?_
   refine ag 0 ?_
   refine aa 0 ?_
   exact .drop 1 1 (.done (gG (x:=⟨ev,jo,false,ae,.quiet q,node,has,nx,out⟩) (n:=.quiet q) rfl rfl (ql ao) hb aZ rfl rfl r))
  ·exact .done (ia (x:=⟨ev,jo,false,ae,.quiet q,node,has,nx,out⟩) (n:=.quiet q) rfl rfl (ql ao) hb aZ r .ak [] trivial)
theorem Xa(M:AMem)(w r:Nat)(c:AV)(acc:Hp)(s:Sy)(l:Lay)(who:Int)(ev jo:Int)(ae:Int)(q:Ck)(node:Int)(has:Bool)(nx out:List Int)(d:Int)(m:M.S)(σ:Hp)(hm:M.O.free (M.abs m)):
  ACalls Tryz.prog 390 [.ptr w 0,M.v,.int .i64 d] (WB s l who w r c acc ⟨ev,jo,false,ae,.clear q,node,has,nx,out⟩++(M.B m++σ)) (oO M s l who w (cW M.O s l who ⟨ev,jo,false,ae,.clear q,node,has,nx,out⟩ d (M.abs m)) σ):=by
 refine au Tryz.func390 ?_
 refine aa 0 ?_
 refine aa 0 ?_
 refine aa 0 ?_
 obtain⟨q',a',b',ao⟩:∃q' a' b',rh M.O q (M.abs m)=(q',a',b'):=⟨_,_,_,rfl⟩
 obtain⟨u1,u2,u3,u4⟩:=q'
 refine .fwd 1 ?_
 refine .sched [5] (upto [5] 11 0) (by kernel_rfl) ?_
 refine aa 0 ?_
 refine aK [] (dF _ _ _) ?_
 refine InvAt.mk _ wClear_ ?_
 refine iG [_] ao (fun σ=>RP M r q m d σ hm) (fun m' aZ hb=>?_) (fun m' aZ hb=>?_)
 ·refine ar [] (ON w r s l who ev jo false ae node has nx out _ _ _ _ _) ?_
  refine ag 0 ?_
  refine ag 0 ?_
  refine aa 0 ?_
  exact .drop 1 1 (.done (gG (x:=⟨ev,jo,false,ae,.clear q,node,has,nx,out⟩) (n:=.clear q) rfl rfl (yK ao) hb aZ rfl rfl r))
 ·exact .done (ia (x:=⟨ev,jo,false,ae,.clear q,node,has,nx,out⟩) (n:=.clear q) rfl rfl (yK ao) hb aZ r .ak [] trivial)
theorem YI(M:AMem)(w r:Nat)(c:AV)(acc:Hp)(s:Sy)(l:Lay)(who:Int)(ev jo:Int)(ae:Int)(q:Tk)(node:Int)(has:Bool)(nx out:List Int)(d:Int)(m:M.S)(σ:Hp)(hm:M.O.free (M.abs m))(o3:ur l nx (.take q)):
  ACalls Tryz.prog 390 [.ptr w 0,M.v,.int .i64 d] (WB s l who w r c acc ⟨ev,jo,false,ae,.take q,node,has,nx,out⟩++(M.B m++σ)) (oO M s l who w (cW M.O s l who ⟨ev,jo,false,ae,.take q,node,has,nx,out⟩ d (M.abs m)) σ):=by
 refine au Tryz.func390 ?_
 refine aa 0 ?_
 refine aa 0 ?_
 refine aa 0 ?_
 obtain⟨q',a',b',ao⟩:∃q' a' b',mr M.O q (M.abs m)=(q',a',b'):=⟨_,_,_,rfl⟩
 obtain⟨u1,u2,u3,u4,u5,u6⟩:=q'
 cases u4 with
 |true=>
  refine .fwd 1 ?_
  refine .sched [5] (upto [5] 11 0) (by kernel_rfl) ?_
  refine aa 0 ?_
  refine aK [] (dF _ _ _) ?_
  refine InvAt.mk _ wTake_ ?_
  refine iG [_] ao (fun σ=>Fy M r q m d σ hm) (fun m' aZ hb=>?_) (fun m' aZ hb=>?_)
  ·refine ar [] (OJ w r s l who ev jo false ae node has nx out _ _ _ _ _ _) ?_
   refine ag 0 ?_
   refine ag 0 ?_
   refine aa 0 ?_
   exact .drop 1 1 (.done (gG (x:=⟨ev,jo,false,ae,.take q,node,has,nx,out⟩) (n:=.take q) rfl rfl (oz ao) hb aZ rfl rfl r))
  ·exact .done (ia (x:=⟨ev,jo,false,ae,.take q,node,has,nx,out⟩) (n:=.take q) rfl rfl (oz ao) hb aZ r .ak [] trivial)
 |false=>
  refine .fwd 1 ?_
  refine .sched [5] (upto [5] 11 0) (by kernel_rfl) ?_
  refine aa 0 ?_
  refine aK [] (dF _ _ _) ?_
  refine InvAt.mk _ wTake_ ?_
  refine iG [_] ao (fun σ=>Fy M r q m d σ hm) (fun m' aZ hb=>?_) (fun m' aZ hb=>?_)
  ·refine ar [] (OK w r s l who ev jo false ae node has nx out _ _ _ _ _ _ o3) ?_
   refine ag 0 ?_
   refine ag 0 ?_
   refine aa 0 ?_
   exact .drop 1 1 (.done (gG (x:=⟨ev,jo,false,ae,.take q,node,has,nx,out⟩) (n:=.take q) rfl rfl (oz ao) hb aZ rfl rfl r))
  ·exact .done (ia (x:=⟨ev,jo,false,ae,.take q,node,has,nx,out⟩) (n:=.take q) rfl rfl (oz ao) hb aZ r .ak [] trivial)
theorem YK(M:AMem)(w r:Nat)(c:AV)(acc:Hp)(s:Sy)(l:Lay)(who:Int)(ev jo:Int)(ae:Int)(q:DQ)(node:Int)(has:Bool)(nx out:List Int)(d:Int)(m:M.S)(σ:Hp)(hm:M.O.free (M.abs m))(o3:ur l nx (.push q)):
  ACalls Tryz.prog 390 [.ptr w 0,M.v,.int .i64 d] (WB s l who w r c acc ⟨ev,jo,false,ae,.push q,node,has,nx,out⟩++(M.B m++σ)) (oO M s l who w (cW M.O s l who ⟨ev,jo,false,ae,.push q,node,has,nx,out⟩ d (M.abs m)) σ):=by
 refine au Tryz.func390 ?_
 refine aa 0 ?_
 refine aa 0 ?_
 refine aa 0 ?_
 obtain⟨q',a',b',ao⟩:∃q' a' b',fT M.O q (M.abs m)=(q',a',b'):=⟨_,_,_,rfl⟩
 refine .fwd 1 ?_
 refine .sched [5] (upto [5] 11 0) (by kernel_rfl) ?_
 refine aa 0 ?_
 refine aK [] (dF _ _ _) ?_
 refine InvAt.mk _ wPush_ ?_
 refine iG [_] ao (fun σ=>Sz M r q m d σ hm (by have:=o3.1.1;omega) o3.1.2) (fun m' aZ hb=>?_) (fun m' aZ hb=>?_)
 ·refine ar [] (PT w r s l who ev jo false ae node has nx out _ _ o3.2) ?_
  refine ag 0 ?_
  refine ag 0 ?_
  refine aa 0 ?_
  exact .drop 1 1 (.done (gG (x:=⟨ev,jo,false,ae,.push q,node,has,nx,out⟩) (n:=.push q) rfl rfl (q8 ao) hb aZ rfl rfl r))
 ·exact .done (ia (x:=⟨ev,jo,false,ae,.push q,node,has,nx,out⟩) (n:=.push q) rfl rfl (q8 ao) hb aZ r .ak [] trivial)
theorem VG(M:AMem)(w r:Nat)(c:AV)(acc:Hp)(s:Sy)(l:Lay)(who:Int)(ev jo:Int)(ae:Int)(q:Rk)(node:Int)(has:Bool)(nx out:List Int)(d:Int)(m:M.S)(σ:Hp)(hm:M.O.free (M.abs m)):
  ACalls Tryz.prog 390 [.ptr w 0,M.v,.int .i64 d] (WB s l who w r c acc ⟨ev,jo,false,ae,.fU q,node,has,nx,out⟩++(M.B m++σ)) (oO M s l who w (cW M.O s l who ⟨ev,jo,false,ae,.fU q,node,has,nx,out⟩ d (M.abs m)) σ):=by
 refine au Tryz.func390 ?_
 refine aa 0 ?_
 refine aa 0 ?_
 refine aa 0 ?_
 obtain⟨q',a',b',ao⟩:∃q' a' b',so M.O q (M.abs m)=(q',a',b'):=⟨_,_,_,rfl⟩
 refine .fwd 1 ?_
 refine .sched [5] (upto [5] 11 0) (by kernel_rfl) ?_
 refine aa 0 ?_
 refine aK [] (dF _ _ _) ?_
 refine InvAt.mk _ wRetire_ ?_
 refine iG [_] ao (fun σ=>QG M r q m d σ hm) (fun m' aZ hb=>?_) (fun m' aZ hb=>?_)
 ·refine ar [] (NJ w r s l who ev jo false ae node has nx out _ _) ?_
  refine ag 0 ?_
  refine ag 0 ?_
  refine aa 0 ?_
  exact .drop 1 1 (.done (gG (x:=⟨ev,jo,false,ae,.fU q,node,has,nx,out⟩) (n:=.fU q) rfl rfl (yG ao) hb aZ rfl rfl r))
 ·exact .done (ia (x:=⟨ev,jo,false,ae,.fU q,node,has,nx,out⟩) (n:=.fU q) rfl rfl (yG ao) hb aZ r .ak [] trivial)
theorem YM(M:AMem)(w r:Nat)(c:AV)(acc:Hp)(s:Sy)(l:Lay)(who:Int)(ev jo:Int)(ae:Int)(q:Jn)(node:Int)(has:Bool)(nx out:List Int)(d:Int)(m:M.S)(σ:Hp)(hm:M.O.free (M.abs m))(o3:ur l nx (.join q)):
  ACalls Tryz.prog 390 [.ptr w 0,M.v,.int .i64 d] (WB s l who w r c acc ⟨ev,jo,false,ae,.join q,node,has,nx,out⟩++(M.B m++σ)) (oO M s l who w (cW M.O s l who ⟨ev,jo,false,ae,.join q,node,has,nx,out⟩ d (M.abs m)) σ):=by
 refine au Tryz.func390 ?_
 refine aa 0 ?_
 refine aa 0 ?_
 refine aa 0 ?_
 obtain⟨q',a',b',ao⟩:∃q' a' b',fo M.O q (M.abs m)=(q',a',b'):=⟨_,_,_,rfl⟩
 obtain⟨u1,u2,u3,u4,u5,u6,u7,u8,u9,KD⟩:=q'
 cases u5 with
 |true=>
  refine .fwd 1 ?_
  refine .sched [5] (upto [5] 11 0) (by kernel_rfl) ?_
  refine aa 0 ?_
  refine aK [] (dF _ _ _) ?_
  refine InvAt.mk _ wJoin_ ?_
  refine iG [_] ao (fun σ=>FD M r q m d σ hm (by have:=o3.1;omega)) (fun m' aZ hb=>?_) (fun m' aZ hb=>?_)
  ·refine ar [] (OL w r s l who ev jo false ae node has nx out _ _ _ _ _ _ _ _ _ _) ?_
   refine ag 0 ?_
   refine ag 0 ?_
   refine aa 0 ?_
   exact .drop 1 1 (.done (gG (x:=⟨ev,jo,false,ae,.join q,node,has,nx,out⟩) (n:=.join q) rfl rfl (kY ao) hb aZ rfl rfl r))
  ·exact .done (ia (x:=⟨ev,jo,false,ae,.join q,node,has,nx,out⟩) (n:=.join q) rfl rfl (kY ao) hb aZ r .ak [] trivial)
 |false=>
  refine .fwd 1 ?_
  refine .sched [5] (upto [5] 11 0) (by kernel_rfl) ?_
  refine aa 0 ?_
  refine aK [] (dF _ _ _) ?_
  refine InvAt.mk _ wJoin_ ?_
  refine iG [_] ao (fun σ=>FD M r q m d σ hm (by have:=o3.1;omega)) (fun m' aZ hb=>?_) (fun m' aZ hb=>?_)
  ·refine ar [] (OM w r s l who ev jo false ae node has nx out _ _ _ _ _ _ _ _ _ _ o3.2) ?_
   refine ag 0 ?_
   refine ag 0 ?_
   refine aa 0 ?_
   exact .drop 1 1 (.done (gG (x:=⟨ev,jo,false,ae,.join q,node,has,nx,out⟩) (n:=.join q) rfl rfl (kY ao) hb aZ rfl rfl r))
  ·exact .done (ia (x:=⟨ev,jo,false,ae,.join q,node,has,nx,out⟩) (n:=.join q) rfl rfl (kY ao) hb aZ r .ak [] trivial)
theorem YJ(M:AMem)(w r:Nat)(c:AV)(acc:Hp)(s:Sy)(l:Lay)(who:Int)(ev jo:Int)(ae:Int)(x:List Int)(node:Int)(has:Bool)(nx out:List Int)(d:Int)(m:M.S)(σ:Hp)(hm:M.O.free (M.abs m))(hf:Fit s)(hv:∀a,bP (M.O.ld (M.abs m) a).1)(o3:ur l nx (.read x))(J7:kA c acc x∧(x=[]→c=.ak)):
  ACalls Tryz.prog 390 [.ptr w 0,M.v,.int .i64 d] (WB s l who w r c acc ⟨ev,jo,false,ae,.read x,node,has,nx,out⟩++(M.B m++σ)) (oO M s l who w (cW M.O s l who ⟨ev,jo,false,ae,.read x,node,has,nx,out⟩ d (M.abs m)) σ):=by
 refine au Tryz.func390 ?_
 refine aa 0 ?_
 refine aa 0 ?_
 refine aa 0 ?_
 obtain⟨o4,o5⟩:=o3
 obtain⟨mb,SU⟩:=J7
 by_cases ab:x.length<cw l.words
 ·have GA:=vN l.words
  have ao:nA M.O l (df l node) x (M.abs m)=(x++[(M.O.ld (M.abs m) (wr (df l node+(x.length:Nat)))).1],(M.O.ld (M.abs m) (wr (df l node+(x.length:Nat)))).2,decide (x.length+1=cw l.words)):=az ab
  have pT:bX (x++[(M.O.ld (M.abs m) (wr (df l node+(x.length:Nat)))).1]):=fun z hz=>by rcases bU.1 hz with h | h;exact o5 z h;rw[bE.1 h];exact hv _
  have hx3:(x++[(M.O.ld (M.abs m) (wr (df l node+(x.length:Nat)))).1]).length=x.length+1:=by simp
  refine .fwd 1 ?_
  refine .sched [5] (upto [5] 11 0) (by kernel_rfl) ?_
  refine aa 0 ?_
  refine aK [] (dF _ _ _) ?_
  refine InvAt.mk _ wRead_ ?_
  refine Ru hm ab mb (fun m' b aZ he=>?_) (fun m' b aZ he=>?_)
  ·refine .kj 2 b 0 (x++[(M.O.ld (M.abs m) (wr (df l node+(x.length:Nat)))).1]).length 1 _ (.int .u64) (x++[(M.O.ld (M.abs m) (wr (df l node+(x.length:Nat)))).1]) rfl ?_ ⟨rfl,rfl,by decide⟩ 1 3 r _ rfl rfl ?_
   ·rw[List.drop_zero,← jK];exact List.take_of_length_le (by simp[aP])
   refine ar [] (Ez w r s l who ev jo false ae node has nx out (x++[(M.O.ld (M.abs m) (wr (df l node+(x.length:Nat)))).1]) _ _ _ _ _ _ _ _ hf pT (by omega)) ?_
   refine ag 0 ?_
   refine ag 0 ?_
   refine aa 0 ?_
   exact .drop 1 1 (.done (gG (x:=⟨ev,jo,false,ae,.read x,node,has,nx,out⟩) (n:=.read x) rfl rfl (tB ao) (bj he) aZ rfl rfl r))
  ·exact .done (ia (x:=⟨ev,jo,false,ae,.read x,node,has,nx,out⟩) (n:=.read x) rfl rfl (tB ao) (decide_eq_false he) aZ r (.ah b 0 (x++[(M.O.ld (M.abs m) (wr (df l node+(x.length:Nat)))).1]).length 1) [(b,aP (x++[(M.O.ld (M.abs m) (wr (df l node+(x.length:Nat)))).1]))] ⟨.ah b (x++[(M.O.ld (M.abs m) (wr (df l node+(x.length:Nat)))).1]),fun h=>absurd h (by simp)⟩)
 ·obtain⟨h0,rfl⟩:=o4.resolve_left ab
  generalize hz:([]:List Int)=z0 at mb
  cases mb with
  |ah b z=>exact absurd (SU rfl) (by simp)
  |nil=>
  have ao:nA M.O l (df l node) [] (M.abs m)=([],M.abs m,true):=aA ab
  refine .fwd 1 ?_
  refine .sched [5] (upto [5] 11 0) (by kernel_rfl) ?_
  refine aa 0 ?_
  refine aK [] (dF _ _ _) ?_
  refine InvAt.mk _ wRead_ ?_
  refine ar [1] (QH M r _ _ _ _ _ _ d _ h0) ?_
  refine Bq 0 3 r _ (.int .u64) rfl rfl ?_
  refine ar [1] (Ez w r s l who ev jo false ae node has nx out [] _ _ _ _ _ _ _ _ hf o5 (aY _)) ?_
  refine ag 0 ?_
  refine ag 0 ?_
  refine aa 0 ?_
  exact .drop 1 1 (.done (gG (x:=⟨ev,jo,false,ae,.read [],node,has,nx,out⟩) (n:=.read []) rfl rfl (tB ao) rfl rfl rfl rfl r))
set_option maxHeartbeats 4000000
theorem YG{l:Lay}{who ae node:Int}{nx out:List Int}{d:Int}{x:List Int}(h:jy l who ae node nx out d=.read x):x=[]:=by
 unfold jy at h
 repeat' (first | (cases h;rfl) | cases h | split at h)
theorem YL(M:AMem)(w r0:Nat)(c:AV)(acc:Hp)(s:Sy)(l:Lay)(who:Int)(ev jo:Int)(ae:Int)(node:Int)(has:Bool)(nx out:List Int)(d:Int)(m:M.S)(σ:Hp)(hm:M.O.free (M.abs m))(hf:Fit s)(hv:∀a,bP (M.O.ld (M.abs m) a).1)(o1:ae=5∨ae=6∨ae=7→0<nx.length)(o2:ae=1→nK l≠0∧l.k≠0):
  ACalls Tryz.prog 390 [.ptr w 0,M.v,.int .i64 d] (WB s l who w r0 c acc ⟨ev,jo,false,ae,.none,node,has,nx,out⟩++(M.B m++σ)) (oO M s l who w (cW M.O s l who ⟨ev,jo,false,ae,.none,node,has,nx,out⟩ d (M.abs m)) σ):=by
 refine au Tryz.func390 ?_
 refine aa 0 ?_
 refine aa 0 ?_
 refine aa 0 ?_
 refine .mk [] _ (acn w s l who ev jo false ae .nilif node has nx out d _ o1 o2) ?_
 rintro _ _ ⟨r,rfl,rfl⟩
 have o3:ur l nx (jy l who ae node nx out d):=ZT o1
 have h0:=YF l who ae node nx out d
 generalize gO:jy l who ae node nx out d=n at o3 h0
 cases n with
 |none=>exact absurd rfl h0
 |pop q=>
  obtain⟨q',a',b',ao⟩:∃q' a' b',dZ M.O q (M.abs m)=(q',a',b'):=⟨_,_,_,rfl⟩
  obtain⟨u1,u2,u3,u4,u5,u6,u7,u8,u9⟩:=q'
  cases u4 with
  |true=>
   refine ag 1 ?_
   refine fX.dL (.pull [1] (.refl _)) ?_
   refine .sched [5] (upto [5] 11 0) (by kernel_rfl) ?_
   refine aa 0 ?_
   refine aK [] (dF _ _ _) ?_
   refine InvAt.mk _ wPop_ ?_
   refine iG [_] ao (fun σ=>F9 M r q m d σ hm (by have:=o3.1;omega) o3.2) (fun m' aZ hb=>?_) (fun m' aZ hb=>?_)
   ·refine ar [] (PU w r s l who ev jo false ae node has nx out _ _ _ _ _ _ _ _ _) ?_
    refine ag 0 ?_
    refine ag 0 ?_
    refine aa 0 ?_
    exact .drop 1 1 (.done (gG (x:=⟨ev,jo,false,ae,.none,node,has,nx,out⟩) (n:=.pop q) rfl gO (k8 ao) hb aZ rfl rfl r))
   ·exact .done (ia (x:=⟨ev,jo,false,ae,.none,node,has,nx,out⟩) (n:=.pop q) rfl gO (k8 ao) hb aZ r .ak [] trivial)
  |false=>
   refine ag 1 ?_
   refine fX.dL (.pull [1] (.refl _)) ?_
   refine .sched [5] (upto [5] 11 0) (by kernel_rfl) ?_
   refine aa 0 ?_
   refine aK [] (dF _ _ _) ?_
   refine InvAt.mk _ wPop_ ?_
   refine iG [_] ao (fun σ=>F9 M r q m d σ hm (by have:=o3.1;omega) o3.2) (fun m' aZ hb=>?_) (fun m' aZ hb=>?_)
   ·refine ar [] (PV w r s l who ev jo false ae node has nx out _ _ _ _ _ _ _ _ _) ?_
    refine ag 0 ?_
    refine ag 0 ?_
    refine aa 0 ?_
    exact .drop 1 1 (.done (gG (x:=⟨ev,jo,false,ae,.none,node,has,nx,out⟩) (n:=.pop q) rfl gO (k8 ao) hb aZ rfl rfl r))
   ·exact .done (ia (x:=⟨ev,jo,false,ae,.none,node,has,nx,out⟩) (n:=.pop q) rfl gO (k8 ao) hb aZ r .ak [] trivial)
 |dO q=>
  obtain⟨q',a',b',ao⟩:∃q' a' b',fx M.O q (M.abs m)=(q',a',b'):=⟨_,_,_,rfl⟩
  obtain⟨u1,u2,u3,u4,u5,u6,u7,u8,u9⟩:=q'
  cases u4 with
  |true=>
   refine ag 1 ?_
   refine fX.dL (.pull [1] (.refl _)) ?_
   refine .sched [5] (upto [5] 11 0) (by kernel_rfl) ?_
   refine aa 0 ?_
   refine aK [] (dF _ _ _) ?_
   refine InvAt.mk _ wSteal_ ?_
   refine iG [_] ao (fun σ=>E8 M r q m d σ hm (by have:=o3.1;omega) o3.2) (fun m' aZ hb=>?_) (fun m' aZ hb=>?_)
   ·refine ar [] (NH w r s l who ev jo false ae node has nx out _ _ _ _ _ _ _ _ _) ?_
    refine ag 0 ?_
    refine ag 0 ?_
    refine aa 0 ?_
    exact .drop 1 1 (.done (gG (x:=⟨ev,jo,false,ae,.none,node,has,nx,out⟩) (n:=.dO q) rfl gO (kX ao) hb aZ rfl rfl r))
   ·exact .done (ia (x:=⟨ev,jo,false,ae,.none,node,has,nx,out⟩) (n:=.dO q) rfl gO (kX ao) hb aZ r .ak [] trivial)
  |false=>
   refine ag 1 ?_
   refine fX.dL (.pull [1] (.refl _)) ?_
   refine .sched [5] (upto [5] 11 0) (by kernel_rfl) ?_
   refine aa 0 ?_
   refine aK [] (dF _ _ _) ?_
   refine InvAt.mk _ wSteal_ ?_
   refine iG [_] ao (fun σ=>E8 M r q m d σ hm (by have:=o3.1;omega) o3.2) (fun m' aZ hb=>?_) (fun m' aZ hb=>?_)
   ·refine ar [] (NI w r s l who ev jo false ae node has nx out _ _ _ _ _ _ _ _ _) ?_
    refine ag 0 ?_
    refine ag 0 ?_
    refine aa 0 ?_
    exact .drop 1 1 (.done (gG (x:=⟨ev,jo,false,ae,.none,node,has,nx,out⟩) (n:=.dO q) rfl gO (kX ao) hb aZ rfl rfl r))
   ·exact .done (ia (x:=⟨ev,jo,false,ae,.none,node,has,nx,out⟩) (n:=.dO q) rfl gO (kX ao) hb aZ r .ak [] trivial)
 |quiet q=>
  obtain⟨q',a',b',ao⟩:∃q' a' b',qt M.O q (M.abs m)=(q',a',b'):=⟨_,_,_,rfl⟩
  obtain⟨u1,u2,u3,u4⟩:=q'
  cases u3 with
  |true=>
   refine ag 1 ?_
   refine fX.dL (.pull [1] (.refl _)) ?_
   refine .sched [5] (upto [5] 11 0) (by kernel_rfl) ?_
   refine aa 0 ?_
   refine aK [] (dF _ _ _) ?_
   refine InvAt.mk _ wQuiet_ ?_
   refine iG [_] ao (fun σ=>Fa M r q m d σ hm) (fun m' aZ hb=>?_) (fun m' aZ hb=>?_)
   ·refine ar [] (Eh w r s l who ev jo false ae node has nx out _ _ _ _ _) ?_
    refine ag 0 ?_
    refine ag 0 ?_
    refine aa 0 ?_
    exact .drop 1 1 (.done (gG (x:=⟨ev,jo,false,ae,.none,node,has,nx,out⟩) (n:=.quiet q) rfl gO (ql ao) hb aZ rfl rfl r))
   ·exact .done (ia (x:=⟨ev,jo,false,ae,.none,node,has,nx,out⟩) (n:=.quiet q) rfl gO (ql ao) hb aZ r .ak [] trivial)
  |false=>
   refine ag 1 ?_
   refine fX.dL (.pull [1] (.refl _)) ?_
   refine .sched [5] (upto [5] 11 0) (by kernel_rfl) ?_
   refine aa 0 ?_
   refine aK [] (dF _ _ _) ?_
   refine InvAt.mk _ wQuiet_ ?_
   refine iG [_] ao (fun σ=>Fa M r q m d σ hm) (fun m' aZ hb=>?_) (fun m' aZ hb=>?_)
   ·refine ar [] (Eh w r s l who ev jo false ae node has nx out _ _ _ _ _) ?_
    refine ag 0 ?_
    refine ag 0 ?_
    refine aa 0 ?_
    exact .drop 1 1 (.done (gG (x:=⟨ev,jo,false,ae,.none,node,has,nx,out⟩) (n:=.quiet q) rfl gO (ql ao) hb aZ rfl rfl r))
   ·exact .done (ia (x:=⟨ev,jo,false,ae,.none,node,has,nx,out⟩) (n:=.quiet q) rfl gO (ql ao) hb aZ r .ak [] trivial)
 |clear q=>
  obtain⟨q',a',b',ao⟩:∃q' a' b',rh M.O q (M.abs m)=(q',a',b'):=⟨_,_,_,rfl⟩
  obtain⟨u1,u2,u3,u4⟩:=q'
  refine ag 1 ?_
  refine fX.dL (.pull [1] (.refl _)) ?_
  refine .sched [5] (upto [5] 11 0) (by kernel_rfl) ?_
  refine aa 0 ?_
  refine aK [] (dF _ _ _) ?_
  refine InvAt.mk _ wClear_ ?_
  refine iG [_] ao (fun σ=>RP M r q m d σ hm) (fun m' aZ hb=>?_) (fun m' aZ hb=>?_)
  ·refine ar [] (ON w r s l who ev jo false ae node has nx out _ _ _ _ _) ?_
   refine ag 0 ?_
   refine ag 0 ?_
   refine aa 0 ?_
   exact .drop 1 1 (.done (gG (x:=⟨ev,jo,false,ae,.none,node,has,nx,out⟩) (n:=.clear q) rfl gO (yK ao) hb aZ rfl rfl r))
  ·exact .done (ia (x:=⟨ev,jo,false,ae,.none,node,has,nx,out⟩) (n:=.clear q) rfl gO (yK ao) hb aZ r .ak [] trivial)
 |read x=>
  obtain rfl:x=[]:=YG gO
  have J7:kA .ak [] []∧(([]:List Int)=[]→AV.ak=.ak):=⟨.nil,fun _=>rfl⟩
  obtain⟨o4,o5⟩:=o3
  obtain⟨mb,SU⟩:=J7
  by_cases ab:([]:List Int).length<cw l.words
  ·have GA:=vN l.words
   have ao:nA M.O l (df l node) ([]:List Int) (M.abs m)=(([]:List Int)++[(M.O.ld (M.abs m) (wr (df l node+(([]:List Int).length:Nat)))).1],(M.O.ld (M.abs m) (wr (df l node+(([]:List Int).length:Nat)))).2,decide (([]:List Int).length+1=cw l.words)):=az ab
   have pT:bX (([]:List Int)++[(M.O.ld (M.abs m) (wr (df l node+(([]:List Int).length:Nat)))).1]):=fun z hz=>by rcases bU.1 hz with h | h;exact o5 z h;rw[bE.1 h];exact hv _
   have hx3:(([]:List Int)++[(M.O.ld (M.abs m) (wr (df l node+(([]:List Int).length:Nat)))).1]).length=([]:List Int).length+1:=by simp
   refine ag 1 ?_
   refine fX.dL (.pull [1] (.refl _)) ?_
   refine .sched [5] (upto [5] 11 0) (by kernel_rfl) ?_
   refine aa 0 ?_
   refine aK [] (dF _ _ _) ?_
   refine InvAt.mk _ wRead_ ?_
   refine Ru hm ab mb (fun m' b aZ he=>?_) (fun m' b aZ he=>?_)
   ·refine .kj 2 b 0 (([]:List Int)++[(M.O.ld (M.abs m) (wr (df l node+(([]:List Int).length:Nat)))).1]).length 1 _ (.int .u64) (([]:List Int)++[(M.O.ld (M.abs m) (wr (df l node+(([]:List Int).length:Nat)))).1]) rfl ?_ ⟨rfl,rfl,by decide⟩ 1 3 r _ rfl rfl ?_
    ·rw[List.drop_zero,← jK];exact List.take_of_length_le (by simp[aP])
    refine ar [] (Ez w r s l who ev jo false ae node has nx out (([]:List Int)++[(M.O.ld (M.abs m) (wr (df l node+(([]:List Int).length:Nat)))).1]) _ _ _ _ _ _ _ _ hf pT (by omega)) ?_
    refine ag 0 ?_
    refine ag 0 ?_
    refine aa 0 ?_
    exact .drop 1 1 (.done (gG (x:=⟨ev,jo,false,ae,.none,node,has,nx,out⟩) (n:=.read ([]:List Int)) rfl gO (tB ao) (bj he) aZ rfl rfl r))
   ·exact .done (ia (x:=⟨ev,jo,false,ae,.none,node,has,nx,out⟩) (n:=.read ([]:List Int)) rfl gO (tB ao) (decide_eq_false he) aZ r (.ah b 0 (([]:List Int)++[(M.O.ld (M.abs m) (wr (df l node+(([]:List Int).length:Nat)))).1]).length 1) [(b,aP (([]:List Int)++[(M.O.ld (M.abs m) (wr (df l node+(([]:List Int).length:Nat)))).1]))] ⟨.ah b (([]:List Int)++[(M.O.ld (M.abs m) (wr (df l node+(([]:List Int).length:Nat)))).1]),fun h=>absurd h (by simp)⟩)
  ·obtain⟨h0,-⟩:=o4.resolve_left ab
   generalize hz:([]:List Int)=z0 at mb
   cases mb with
   |nil=>
   have ao:nA M.O l (df l node) [] (M.abs m)=([],M.abs m,true):=aA ab
   refine ag 1 ?_
   refine fX.dL (.pull [1] (.refl _)) ?_
   refine .sched [5] (upto [5] 11 0) (by kernel_rfl) ?_
   refine aa 0 ?_
   refine aK [] (dF _ _ _) ?_
   refine InvAt.mk _ wRead_ ?_
   refine ar [1] (QH M r _ _ _ _ _ _ d _ h0) ?_
   refine Bq 0 3 r _ (.int .u64) rfl rfl ?_
   refine ar [1] (Ez w r s l who ev jo false ae node has nx out [] _ _ _ _ _ _ _ _ hf o5 (aY _)) ?_
   refine ag 0 ?_
   refine ag 0 ?_
   refine aa 0 ?_
   exact .drop 1 1 (.done (gG (x:=⟨ev,jo,false,ae,.none,node,has,nx,out⟩) (n:=.read []) rfl gO (tB ao) rfl rfl rfl rfl r))
 |join q=>
  obtain⟨q',a',b',ao⟩:∃q' a' b',fo M.O q (M.abs m)=(q',a',b'):=⟨_,_,_,rfl⟩
  obtain⟨u1,u2,u3,u4,u5,u6,u7,u8,u9,KD⟩:=q'
  cases u5 with
  |true=>
   refine ag 1 ?_
   refine fX.dL (.pull [1] (.refl _)) ?_
   refine .sched [5] (upto [5] 11 0) (by kernel_rfl) ?_
   refine aa 0 ?_
   refine aK [] (dF _ _ _) ?_
   refine InvAt.mk _ wJoin_ ?_
   refine iG [_] ao (fun σ=>FD M r q m d σ hm (by have:=o3.1;omega)) (fun m' aZ hb=>?_) (fun m' aZ hb=>?_)
   ·refine ar [] (OL w r s l who ev jo false ae node has nx out _ _ _ _ _ _ _ _ _ _) ?_
    refine ag 0 ?_
    refine ag 0 ?_
    refine aa 0 ?_
    exact .drop 1 1 (.done (gG (x:=⟨ev,jo,false,ae,.none,node,has,nx,out⟩) (n:=.join q) rfl gO (kY ao) hb aZ rfl rfl r))
   ·exact .done (ia (x:=⟨ev,jo,false,ae,.none,node,has,nx,out⟩) (n:=.join q) rfl gO (kY ao) hb aZ r .ak [] trivial)
  |false=>
   refine ag 1 ?_
   refine fX.dL (.pull [1] (.refl _)) ?_
   refine .sched [5] (upto [5] 11 0) (by kernel_rfl) ?_
   refine aa 0 ?_
   refine aK [] (dF _ _ _) ?_
   refine InvAt.mk _ wJoin_ ?_
   refine iG [_] ao (fun σ=>FD M r q m d σ hm (by have:=o3.1;omega)) (fun m' aZ hb=>?_) (fun m' aZ hb=>?_)
   ·refine ar [] (OM w r s l who ev jo false ae node has nx out _ _ _ _ _ _ _ _ _ _ o3.2) ?_
    refine ag 0 ?_
    refine ag 0 ?_
    refine aa 0 ?_
    exact .drop 1 1 (.done (gG (x:=⟨ev,jo,false,ae,.none,node,has,nx,out⟩) (n:=.join q) rfl gO (kY ao) hb aZ rfl rfl r))
   ·exact .done (ia (x:=⟨ev,jo,false,ae,.none,node,has,nx,out⟩) (n:=.join q) rfl gO (kY ao) hb aZ r .ak [] trivial)
 |take q=>
  obtain⟨q',a',b',ao⟩:∃q' a' b',mr M.O q (M.abs m)=(q',a',b'):=⟨_,_,_,rfl⟩
  obtain⟨u1,u2,u3,u4,u5,u6⟩:=q'
  cases u4 with
  |true=>
   refine ag 1 ?_
   refine fX.dL (.pull [1] (.refl _)) ?_
   refine .sched [5] (upto [5] 11 0) (by kernel_rfl) ?_
   refine aa 0 ?_
   refine aK [] (dF _ _ _) ?_
   refine InvAt.mk _ wTake_ ?_
   refine iG [_] ao (fun σ=>Fy M r q m d σ hm) (fun m' aZ hb=>?_) (fun m' aZ hb=>?_)
   ·refine ar [] (OJ w r s l who ev jo false ae node has nx out _ _ _ _ _ _) ?_
    refine ag 0 ?_
    refine ag 0 ?_
    refine aa 0 ?_
    exact .drop 1 1 (.done (gG (x:=⟨ev,jo,false,ae,.none,node,has,nx,out⟩) (n:=.take q) rfl gO (oz ao) hb aZ rfl rfl r))
   ·exact .done (ia (x:=⟨ev,jo,false,ae,.none,node,has,nx,out⟩) (n:=.take q) rfl gO (oz ao) hb aZ r .ak [] trivial)
  |false=>
   refine ag 1 ?_
   refine fX.dL (.pull [1] (.refl _)) ?_
   refine .sched [5] (upto [5] 11 0) (by kernel_rfl) ?_
   refine aa 0 ?_
   refine aK [] (dF _ _ _) ?_
   refine InvAt.mk _ wTake_ ?_
   refine iG [_] ao (fun σ=>Fy M r q m d σ hm) (fun m' aZ hb=>?_) (fun m' aZ hb=>?_)
   ·refine ar [] (OK w r s l who ev jo false ae node has nx out _ _ _ _ _ _ o3) ?_
    refine ag 0 ?_
    refine ag 0 ?_
    refine aa 0 ?_
    exact .drop 1 1 (.done (gG (x:=⟨ev,jo,false,ae,.none,node,has,nx,out⟩) (n:=.take q) rfl gO (oz ao) hb aZ rfl rfl r))
   ·exact .done (ia (x:=⟨ev,jo,false,ae,.none,node,has,nx,out⟩) (n:=.take q) rfl gO (oz ao) hb aZ r .ak [] trivial)
 |push q=>
  obtain⟨q',a',b',ao⟩:∃q' a' b',fT M.O q (M.abs m)=(q',a',b'):=⟨_,_,_,rfl⟩
  refine ag 1 ?_
  refine fX.dL (.pull [1] (.refl _)) ?_
  refine .sched [5] (upto [5] 11 0) (by kernel_rfl) ?_
  refine aa 0 ?_
  refine aK [] (dF _ _ _) ?_
  refine InvAt.mk _ wPush_ ?_
  refine iG [_] ao (fun σ=>Sz M r q m d σ hm (by have:=o3.1.1;omega) o3.1.2) (fun m' aZ hb=>?_) (fun m' aZ hb=>?_)
  ·refine ar [] (PT w r s l who ev jo false ae node has nx out _ _ o3.2) ?_
   refine ag 0 ?_
   refine ag 0 ?_
   refine aa 0 ?_
   exact .drop 1 1 (.done (gG (x:=⟨ev,jo,false,ae,.none,node,has,nx,out⟩) (n:=.push q) rfl gO (q8 ao) hb aZ rfl rfl r))
  ·exact .done (ia (x:=⟨ev,jo,false,ae,.none,node,has,nx,out⟩) (n:=.push q) rfl gO (q8 ao) hb aZ r .ak [] trivial)
 |fU q=>
  obtain⟨q',a',b',ao⟩:∃q' a' b',so M.O q (M.abs m)=(q',a',b'):=⟨_,_,_,rfl⟩
  refine ag 1 ?_
  refine fX.dL (.pull [1] (.refl _)) ?_
  refine .sched [5] (upto [5] 11 0) (by kernel_rfl) ?_
  refine aa 0 ?_
  refine aK [] (dF _ _ _) ?_
  refine InvAt.mk _ wRetire_ ?_
  refine iG [_] ao (fun σ=>QG M r q m d σ hm) (fun m' aZ hb=>?_) (fun m' aZ hb=>?_)
  ·refine ar [] (NJ w r s l who ev jo false ae node has nx out _ _) ?_
   refine ag 0 ?_
   refine ag 0 ?_
   refine aa 0 ?_
   exact .drop 1 1 (.done (gG (x:=⟨ev,jo,false,ae,.none,node,has,nx,out⟩) (n:=.fU q) rfl gO (yG ao) hb aZ rfl rfl r))
  ·exact .done (ia (x:=⟨ev,jo,false,ae,.none,node,has,nx,out⟩) (n:=.fU q) rfl gO (yG ao) hb aZ r .ak [] trivial)
theorem abN(M:AMem)(w r:Nat)(c:AV)(acc:Hp)(s:Sy)(l:Lay)(who:Int)(x:WS)(d:Int)(m:M.S)(σ:Hp)(hf:Fit s)(hm:M.O.free (M.abs m))(hv:∀a,bP (M.O.ld (M.abs m) a).1)(ok:J3 l x)(rd:xH c acc x.now):
  ACalls Tryz.prog 390 [.ptr w 0,M.v,.int .i64 d] (WB s l who w r c acc x++(M.B m++σ)) (oO M s l who w (cW M.O s l who x d (M.abs m)) σ):=by
 obtain⟨ev,jo,en,ae,n,node,has,nx,out⟩:=x
 obtain⟨o1,o2,o3⟩:=ok
 cases en with
 |true=>
  refine au Tryz.func390 ?_
  refine aa 0 ?_
  refine aa 0 ?_
  exact .done (Xq rfl rfl rd)
 |false=>
  cases n with
  |none=>exact YL M w r c acc s l who ev jo ae node has nx out d m σ hm hf hv o1 o2
  |pop q=>exact aah M w r c acc s l who ev jo ae q node has nx out d m σ hm o3
  |dO q=>exact W8 M w r c acc s l who ev jo ae q node has nx out d m σ hm o3
  |quiet q=>exact W9 M w r c acc s l who ev jo ae q node has nx out d m σ hm
  |clear q=>exact Xa M w r c acc s l who ev jo ae q node has nx out d m σ hm
  |read q=>exact YJ M w r c acc s l who ev jo ae q node has nx out d m σ hm hf hv o3 rd
  |join q=>exact YM M w r c acc s l who ev jo ae q node has nx out d m σ hm o3
  |take q=>exact YI M w r c acc s l who ev jo ae q node has nx out d m σ hm o3
  |push q=>exact YK M w r c acc s l who ev jo ae q node has nx out d m σ hm o3
  |fU q=>exact VG M w r c acc s l who ev jo ae q node has nx out d m σ hm
end Go.Proofs.YtnikdflhefijbaaGreat
