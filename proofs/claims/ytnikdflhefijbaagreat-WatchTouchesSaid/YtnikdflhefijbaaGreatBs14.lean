import Derived.Test.YtnikdflhefijbaaGreatBs13
namespace Go.Proofs.YtnikdflhefijbaaGreat
open Go.RowKit
set_option maxRecDepth 100000
def He(r:Nat):Nw→AV
 |.none=>.nilif
 |.pop _=>.iface 399 (.ptr r 0)
 |.ft _=>.iface 404 (.ptr r 0)
 |.quiet _=>.iface 406 (.ptr r 0)
 |.clear _=>.iface 409 (.ptr r 0)
 |.read _=>.iface 412 (.ptr r 0)
 |.join _=>.iface 417 (.ptr r 0)
 |.take _=>.iface 420 (.ptr r 0)
 |.push _=>.iface 425 (.ptr r 0)
 |.ib _=>.iface 427 (.ptr r 0)
def Hf(l:Lay)(node:Int)(r:Nat)(c:AV)(acc:Hp):Nw→Hp
 |.none=>[]
 |.pop q=>[(r,lA q)]
 |.ft q=>[(r,lA q)]
 |.quiet t=>[(r,Dd t)]
 |.clear t=>[(r,Ei t)]
 |.read x=>(r,j4 c (dX l node) l.what l.words false x.length false 0)::acc
 |.join j=>[(r,yD j)]
 |.take t=>[(r,yz t)]
 |.push q=>[(r,lA q)]
 |.ib t=>[(r,Dc t)]
def y8(base cap n:Int):DQ:=⟨base,cap,n,false,false,0,0,0,0⟩
def jE(l:Lay)(who an node:Int)(nx out:List Int)(d:Int):Nw:=
 if an=0 then .pop (y8 (fF l who) (fH l) 0)
 else if an=1 then .ft (y8 (fF l (BJ l who d)) (fH l) 0)
 else if an=2 then .quiet ⟨gK l,fL l,false,false⟩
 else if an=3 then .clear ⟨gK l,fL l,node,false⟩
 else if an=4 then .read []
 else if an=5 then .join ⟨dX l (nx.headD 0),l.what,l.words,out,false,false,0,0,false,0⟩
 else if an=6 then .take ⟨gK l,fL l,nx.headD 0,false,false,false⟩
 else if an=7 then .push (y8 (fF l who) (fH l) (wu (nx.headD 0)))
 else .ib ⟨gK l,fL l,0,false⟩
theorem UP{l:Lay}{who an node d:Int}{nx out:List Int}(h:an=0):jE l who an node nx out d=.pop (y8 (fF l who) (fH l) 0):=by subst h;rfl
theorem UO{l:Lay}{who an node d:Int}{nx out:List Int}(h:an=1):jE l who an node nx out d=.ft (y8 (fF l (BJ l who d)) (fH l) 0):=by subst h;rfl
theorem UN{l:Lay}{who an node d:Int}{nx out:List Int}(h:an=2):jE l who an node nx out d=.quiet ⟨gK l,fL l,false,false⟩:=by subst h;rfl
theorem UM{l:Lay}{who an node d:Int}{nx out:List Int}(h:an=3):jE l who an node nx out d=.clear ⟨gK l,fL l,node,false⟩:=by subst h;rfl
theorem UL{l:Lay}{who an node d:Int}{nx out:List Int}(h:an=4):jE l who an node nx out d=.read []:=by subst h;rfl
theorem UK{l:Lay}{who an node d:Int}{nx out:List Int}(h:an=5):jE l who an node nx out d=.join ⟨dX l (nx.headD 0),l.what,l.words,out,false,false,0,0,false,0⟩:=by subst h;rfl
theorem UJ{l:Lay}{who an node d:Int}{nx out:List Int}(h:an=6):jE l who an node nx out d=.take ⟨gK l,fL l,nx.headD 0,false,false,false⟩:=by subst h;rfl
theorem UI{l:Lay}{who an node d:Int}{nx out:List Int}(h:an=7):jE l who an node nx out d=.push (y8 (fF l who) (fH l) (wu (nx.headD 0))):=by subst h;rfl
theorem UH{l:Lay}{who an node d:Int}{nx out:List Int}(h0:¬an=0)(h1:¬an=1)(h2:¬an=2)(h3:¬an=3)(h4:¬an=4)(h5:¬an=5)(h6:¬an=6)(h7:¬an=7):jE l who an node nx out d=.ib ⟨gK l,fL l,0,false⟩:=by
 unfold jE;rw[aB h0,aB h1,aB h2,aB h3,aB h4,aB h5,aB h6,aB h7]
theorem I8{nx:List Int}(h:0<nx.length):nx[((0:Int)).toNat]?=some (nx.headD 0):=by
 cases nx with
 |nil=>simp at h
 |cons z nx=>rfl
theorem aeN(w:Nat)(s:Sy)(l:Lay)(who ev jo:Int)(en:Bool)(an:Int)(nv:AV)(node:Int)(has:Bool)(nx out:List Int)(d:Int)(σ:Hp)(hx:an=5∨an=6∨an=7→0<nx.length)(h1:an=1→nK l≠0∧l.k≠0):ACalls Tryz.prog 391 [.ptr w 0,.int .i64 d] ((w,ei s l who ev jo en an nv node has nx out)::σ) (fun x σ'=>∃r,x=He r (jE l who an node nx out d)∧σ'=Hf l node r .ag [] (jE l who an node nx out d)++((w,ei s l who ev jo en an nv node has nx out)::σ)):=by
 refine ao Tryz.func391 ?_;refine aa 0 ?_;refine aw [] (zC l _) ?_;intro ax;refine ah 0 ?_;refine aa 1 ?_;refine ai (fun c2=>?_) (fun c2=>?_)
 ·have c2:an=0:=c2;refine .sched [8] (upto [8] 13 0) (by kernel_rfl) ?_;refine aa 1 ?_;refine aa 1 ?_;refine aN [] (x6 l _ _) ?_;intro kX;exact .drop 1 1 (.done ⟨_,by rw[UP (by assumption)];rfl,by rw[UP (by assumption)];rfl⟩)
 ·have c2:¬(an=0):=c2;refine ai (fun c4=>?_) (fun c4=>?_)
  ·have c4:an=1:=c4;refine .sched [6,7] (upto [6,7] 12 0) (by kernel_rfl) ?_;refine aa 1 ?_;refine aN [1] (acI w s l who ev jo en an nv node has nx out d _ (h1 (by assumption)).1 (h1 (by assumption)).2) ?_;refine aN [] (x6 l _ _) ?_;intro tR;exact .drop 1 1 (.done ⟨_,by rw[UO (by assumption)];rfl,by rw[UO (by assumption)];rfl⟩)
  ·have c4:¬(an=1):=c4;refine ai (fun c6=>?_) (fun c6=>?_)
   ·have c6:an=2:=c6;refine aa 0 ?_;intro bl7;exact .drop 1 1 (.done ⟨_,by rw[UN (by assumption)];rfl,by rw[UN (by assumption)];rfl⟩)
   ·have c6:¬(an=2):=c6;refine ai (fun c8=>?_) (fun c8=>?_)
    ·have c8:an=3:=c8;refine .sched [] (upto [] 9 0) (by kernel_rfl) ?_;refine aa 0 ?_;refine aa 1 ?_;intro bl9;exact .drop 1 1 (.done ⟨_,by rw[UM (by assumption)];rfl,by rw[UM (by assumption)];rfl⟩)
    ·have c8:¬(an=3):=c8;refine ai (fun jL=>?_) (fun jL=>?_)
     ·have jL:an=4:=jL;refine .sched [8] (upto [8] 13 0) (by kernel_rfl) ?_;refine aa 1 ?_;refine aa 1 ?_;refine aN [] (Gc l _ _) ?_;intro bl11;exact .drop 1 1 (.done ⟨_,by rw[UL (by assumption)];rfl,by rw[UL (by assumption)];rfl⟩)
     ·have jL:¬(an=4):=jL;refine ai (fun vN=>?_) (fun vN=>?_)
      ·have vN:an=5:=vN;refine .sched [10] (upto [10] 19 0) (by kernel_rfl) ?_;refine aa 1 ?_;refine aa 1 ?_;refine aF.mk rfl ?_;refine aY.mk (nx.headD 0) (by decide) (I8 (hx (by omega))) ?_;refine aN [] (Gc l _ _) ?_;refine aa 1 ?_;intro bl13;exact .drop 1 1 (.done ⟨_,by rw[UK (by assumption)];rfl,by rw[UK (by assumption)];rfl⟩)
      ·have vN:¬(an=5):=vN;refine ai (fun sH=>?_) (fun sH=>?_)
       ·have sH:an=6:=sH;refine .sched [] (upto [] 11 0) (by kernel_rfl) ?_;refine aa 0 ?_;refine aa 1 ?_;refine aF.mk rfl ?_;refine aY.mk (nx.headD 0) (by decide) (I8 (hx (by omega))) ?_;intro bl15;exact .drop 1 1 (.done ⟨_,by rw[UJ (by assumption)];rfl,by rw[UJ (by assumption)];rfl⟩)
       ·have sH:¬(an=6):=sH;refine ai (fun vM=>?_) (fun vM=>?_)
        ·have vM:an=7:=vM;refine .sched [8] (upto [8] 20 0) (by kernel_rfl) ?_;refine aa 1 ?_;refine aa 1 ?_;refine aN [] (x6 l _ _) ?_;refine aa 1 ?_;refine aF.mk rfl ?_;refine aY.mk (nx.headD 0) (by decide) (I8 (hx (by omega))) ?_;intro bl17;exact .drop 1 1 (.done ⟨_,by rw[UI (by assumption)];rfl,by rw[UI (by assumption)];rfl⟩)
        ·have vM:¬(an=7):=vM;refine aa 0 ?_;intro bl18;exact .drop 1 1 (.done ⟨_,by rw[UH (by assumption) (by assumption) (by assumption) (by assumption) (by assumption) (by assumption) (by assumption) (by assumption)];rfl,by rw[UH (by assumption) (by assumption) (by assumption) (by assumption) (by assumption) (by assumption) (by assumption) (by assumption)];rfl⟩)
theorem Ry(w r:Nat)(s:Sy)(l:Lay)(who ev jo:Int)(en:Bool)(an:Int)(node:Int)(has:Bool)(nx out:List Int)(base cap n:Int)(gj:Bool)(at_:Nat)(b t x:Int)(σ:Hp):ACalls Tryz.prog 392 [.ptr w 0] ((w,ei s l who ev jo en an (.iface 399 (.ptr r 0)) node has nx out)::(r,lA ⟨base,cap,n,true,gj,at_,b,t,x⟩)::σ) (ay (.int .i64 (sT l n)) ((w,ei s l who ev jo en an (.iface 399 (.ptr r 0)) (qG l n) true nx out)::(r,lA ⟨base,cap,n,true,gj,at_,b,t,x⟩)::σ)):=by
 refine ao Tryz.func392 ?_;refine aa 0 ?_;refine aa 1 ?_;refine aa 1 ?_;refine aw [] (UT w s l who ev jo en an (.iface 399 (.ptr r 0)) node has nx out n _) ?_;exact .done ⟨rfl,rfl⟩
theorem Rz(w r:Nat)(s:Sy)(l:Lay)(who ev jo:Int)(en:Bool)(an:Int)(node:Int)(has:Bool)(nx out:List Int)(base cap n:Int)(gj:Bool)(at_:Nat)(b t x:Int)(σ:Hp):ACalls Tryz.prog 392 [.ptr w 0] ((w,ei s l who ev jo en an (.iface 399 (.ptr r 0)) node has nx out)::(r,lA ⟨base,cap,n,false,gj,at_,b,t,x⟩)::σ) (ay (.int .i64 (xV l)) ((w,ei s l who ev jo en an (.iface 399 (.ptr r 0)) node has nx out)::(r,lA ⟨base,cap,n,false,gj,at_,b,t,x⟩)::σ)):=by
 refine ao Tryz.func392 ?_;refine aa 0 ?_;refine aa 1 ?_;refine aw [] (aeB w s l who ev jo en an (.iface 399 (.ptr r 0)) node has nx out _) ?_;exact .done ⟨rfl,rfl⟩
theorem O7(w r:Nat)(s:Sy)(l:Lay)(who ev jo:Int)(en:Bool)(an:Int)(node:Int)(has:Bool)(nx out:List Int)(base cap n:Int)(gj:Bool)(at_:Nat)(b t x:Int)(σ:Hp):ACalls Tryz.prog 392 [.ptr w 0] ((w,ei s l who ev jo en an (.iface 404 (.ptr r 0)) node has nx out)::(r,lA ⟨base,cap,n,true,gj,at_,b,t,x⟩)::σ) (ay (.int .i64 (sT l n)) ((w,ei s l who ev jo en an (.iface 404 (.ptr r 0)) (qG l n) true nx out)::(r,lA ⟨base,cap,n,true,gj,at_,b,t,x⟩)::σ)):=by
 refine ao Tryz.func392 ?_;refine aa 0 ?_;refine aa 1 ?_;refine aa 1 ?_;refine aw [] (UT w s l who ev jo en an (.iface 404 (.ptr r 0)) node has nx out n _) ?_;exact .done ⟨rfl,rfl⟩
theorem O8(w r:Nat)(s:Sy)(l:Lay)(who ev jo:Int)(en:Bool)(an:Int)(node:Int)(has:Bool)(nx out:List Int)(base cap n:Int)(gj:Bool)(at_:Nat)(b t x:Int)(σ:Hp):ACalls Tryz.prog 392 [.ptr w 0] ((w,ei s l who ev jo en an (.iface 404 (.ptr r 0)) node has nx out)::(r,lA ⟨base,cap,n,false,gj,at_,b,t,x⟩)::σ) (ay (.int .i64 2) ((w,ei s l who ev jo en an (.iface 404 (.ptr r 0)) node has nx out)::(r,lA ⟨base,cap,n,false,gj,at_,b,t,x⟩)::σ)):=by
 refine ao Tryz.func392 ?_;refine aa 0 ?_;refine aa 1 ?_;exact .done ⟨rfl,rfl⟩
def BM(l:Lay):Int:=if l.k<2 then 0 else 1
theorem E2(w r:Nat)(s:Sy)(l:Lay)(who ev jo:Int)(en:Bool)(an:Int)(node:Int)(has:Bool)(nx out:List Int)(f c0:Int)(is gj:Bool)(σ:Hp):ACalls Tryz.prog 392 [.ptr w 0] ((w,ei s l who ev jo en an (.iface 406 (.ptr r 0)) node has nx out)::(r,Dd ⟨f,c0,is,gj⟩)::σ) (ay (.int .i64 (BM l)) ((w,ei s l who ev jo is an (.iface 406 (.ptr r 0)) node has nx out)::(r,Dd ⟨f,c0,is,gj⟩)::σ)):=by
 refine ao Tryz.func392 ?_;cases is with
 |true=>
  refine aa 0 ?_;refine aa 1 ?_;refine ah 0 ?_;refine dc [] (KB w s l who ev jo true an (.iface 406 (.ptr r 0)) node has nx out _) (fun c=>?_) (fun c=>?_)
  ·exact .done ⟨aQ (az (eX (by assumption))).symm,by subst_vars;rfl⟩
  ·exact .done ⟨aQ (aB (py (by assumption))).symm,by subst_vars;rfl⟩
 |false=>
  refine aa 0 ?_;refine aa 1 ?_;refine ah 0 ?_;refine dc [] (KB w s l who ev jo false an (.iface 406 (.ptr r 0)) node has nx out _) (fun c=>?_) (fun c=>?_)
  ·exact .done ⟨aQ (az (eX (by assumption))).symm,by subst_vars;rfl⟩
  ·exact .done ⟨aQ (aB (py (by assumption))).symm,by subst_vars;rfl⟩
theorem Qg(w r:Nat)(s:Sy)(l:Lay)(who ev jo:Int)(en:Bool)(an:Int)(node:Int)(has:Bool)(nx out:List Int)(f c0 v:Int)(gj:Bool)(σ:Hp):ACalls Tryz.prog 392 [.ptr w 0] ((w,ei s l who ev jo en an (.iface 409 (.ptr r 0)) node has nx out)::(r,Ei ⟨f,c0,v,gj⟩)::σ) (ay (.int .i64 4) ((w,ei s l who ev jo en an (.iface 409 (.ptr r 0)) node has nx out)::(r,Ei ⟨f,c0,v,gj⟩)::σ)):=by
 refine ao Tryz.func392 ?_;refine aa 0 ?_;exact .done ⟨rfl,rfl⟩
theorem Fl(w r:Nat)(s:Sy)(l:Lay)(who ev jo:Int)(en:Bool)(an:Int)(node:Int)(has:Bool)(nx out:List Int)(x:List Int)(base what words:Int)(gj:Bool)(at_:Nat)(ld:Bool)(z:Int)(σ:Hp)(hf:Fit s)(hx:bC x)(lx:x.length≤10000):ACalls Tryz.prog 392 [.ptr w 0] ((w,ei s l who ev jo en an (.iface 412 (.ptr r 0)) node has nx out)::(r,j4 (.ae (.int .u64) x) base what words gj at_ ld z)::σ) (ay (.int .i64 (zF s node)) ((w,ei s l who (wr (ev+1)) jo en an (.iface 412 (.ptr r 0)) node has (au s.n s.cd node) (sj (qW s node x) (lf s x node.toNat)))::(r,j4 (.ae (.int .u64) x) base what words gj at_ ld z)::σ)):=by
 refine ao Tryz.func392 ?_;refine aa 0 ?_;refine aa 1 ?_;refine aw [] (aer w s l who ev jo en an (.iface 412 (.ptr r 0)) node has nx out x _ hf hx lx) ?_;exact .done ⟨rfl,rfl⟩
theorem Qe(w r:Nat)(s:Sy)(l:Lay)(who ev jo:Int)(en:Bool)(an:Int)(node:Int)(has:Bool)(nx out:List Int)(base what words:Int)(a:List Int)(gj:Bool)(tr:Int)(at_:Nat)(ld:Bool)(x:Int)(σ:Hp):ACalls Tryz.prog 392 [.ptr w 0] ((w,ei s l who ev jo en an (.iface 417 (.ptr r 0)) node has nx out)::(r,yD ⟨base,what,words,a,true,gj,tr,at_,ld,x⟩)::σ) (ay (.int .i64 6) ((w,ei s l who ev (wr (jo+1)) en an (.iface 417 (.ptr r 0)) node has nx out)::(r,yD ⟨base,what,words,a,true,gj,tr,at_,ld,x⟩)::σ)):=by
 refine ao Tryz.func392 ?_;refine aa 0 ?_;refine aa 1 ?_;refine aa 0 ?_;refine ah 0 ?_;exact .done ⟨rfl,rfl⟩
theorem Qf(w r:Nat)(s:Sy)(l:Lay)(who ev jo:Int)(en:Bool)(an:Int)(node:Int)(has:Bool)(nx out:List Int)(base what words:Int)(a:List Int)(gj:Bool)(tr:Int)(at_:Nat)(ld:Bool)(x:Int)(σ:Hp)(hx:0<nx.length):ACalls Tryz.prog 392 [.ptr w 0] ((w,ei s l who ev jo en an (.iface 417 (.ptr r 0)) node has nx out)::(r,yD ⟨base,what,words,a,false,gj,tr,at_,ld,x⟩)::σ) (ay (.int .i64 (qH nx)) ((w,ei s l who ev jo en an (.iface 417 (.ptr r 0)) node has nx.tail out)::(r,yD ⟨base,what,words,a,false,gj,tr,at_,ld,x⟩)::σ)):=by
 refine ao Tryz.func392 ?_;refine aa 0 ?_;refine aa 1 ?_;refine aw [] (Kd w s l who ev jo en an (.iface 417 (.ptr r 0)) node has nx out _ hx) ?_;exact .done ⟨rfl,rfl⟩
theorem Qc(w r:Nat)(s:Sy)(l:Lay)(who ev jo:Int)(en:Bool)(an:Int)(node:Int)(has:Bool)(nx out:List Int)(f c0 v:Int)(gj kv:Bool)(σ:Hp):ACalls Tryz.prog 392 [.ptr w 0] ((w,ei s l who ev jo en an (.iface 420 (.ptr r 0)) node has nx out)::(r,yz ⟨f,c0,v,true,gj,kv⟩)::σ) (ay (.int .i64 7) ((w,ei s l who ev jo en an (.iface 420 (.ptr r 0)) node has nx out)::(r,yz ⟨f,c0,v,true,gj,kv⟩)::σ)):=by
 refine ao Tryz.func392 ?_;refine aa 0 ?_;refine aa 1 ?_;exact .done ⟨rfl,rfl⟩
theorem Qd(w r:Nat)(s:Sy)(l:Lay)(who ev jo:Int)(en:Bool)(an:Int)(node:Int)(has:Bool)(nx out:List Int)(f c0 v:Int)(gj kv:Bool)(σ:Hp)(hx:0<nx.length):ACalls Tryz.prog 392 [.ptr w 0] ((w,ei s l who ev jo en an (.iface 420 (.ptr r 0)) node has nx out)::(r,yz ⟨f,c0,v,false,gj,kv⟩)::σ) (ay (.int .i64 (qH nx)) ((w,ei s l who ev jo en an (.iface 420 (.ptr r 0)) node has nx.tail out)::(r,yz ⟨f,c0,v,false,gj,kv⟩)::σ)):=by
 refine ao Tryz.func392 ?_;refine aa 0 ?_;refine aa 1 ?_;refine aw [] (Kd w s l who ev jo en an (.iface 420 (.ptr r 0)) node has nx out _ hx) ?_;exact .done ⟨rfl,rfl⟩
theorem Rw(w r:Nat)(s:Sy)(l:Lay)(who ev jo:Int)(en:Bool)(an:Int)(node:Int)(has:Bool)(nx out:List Int)(q:DQ)(σ:Hp)(hx:0<nx.length):ACalls Tryz.prog 392 [.ptr w 0] ((w,ei s l who ev jo en an (.iface 425 (.ptr r 0)) node has nx out)::(r,lA q)::σ) (ay (.int .i64 (qH nx)) ((w,ei s l who ev jo en an (.iface 425 (.ptr r 0)) node has nx.tail out)::(r,lA q)::σ)):=by
 refine ao Tryz.func392 ?_;refine aa 0 ?_;refine aw [] (Kd w s l who ev jo en an (.iface 425 (.ptr r 0)) node has nx out _ hx) ?_;exact .done ⟨rfl,rfl⟩
theorem O9(w r:Nat)(s:Sy)(l:Lay)(who ev jo:Int)(en:Bool)(an:Int)(node:Int)(has:Bool)(nx out:List Int)(t:Rk)(σ:Hp):ACalls Tryz.prog 392 [.ptr w 0] ((w,ei s l who ev jo en an (.iface 427 (.ptr r 0)) node has nx out)::(r,Dc t)::σ) (ay (.int .i64 0) ((w,ei s l who ev jo en an (.iface 427 (.ptr r 0)) node false nx out)::(r,Dc t)::σ)):=by
 refine ao Tryz.func392 ?_;refine aa 0 ?_;refine ah 0 ?_;exact .done ⟨rfl,rfl⟩
set_option maxHeartbeats 4000000
theorem acT(M:AMem)(r:Nat)(m:M.S)(base what words x:Int)(at_:Nat)(jR:Bool)(l:List Int)(c:AV)(acc:Hp)(d:Int)(σ:Hp)(hf:M.O.free (M.abs m))(eQ:at_<cw words)(hv:ky c acc l)(hl:l.length≤2000):
  ACalls Tryz.prog 406 [.ptr r 0,M.v,.int .i64 d] ((r,j4 c base what words false at_ jR x)::(acc++(M.B m++σ))) (fun z σ'=>∃m' c' aJ,ky c' aJ (l++[(M.O.ld (M.abs m) (wr (base+at_))).1])∧M.abs m'=(M.O.ld (M.abs m) (wr (base+at_))).2∧z=.bool (decide (at_+1=cw words))∧σ'=(r,j4 c' base what words (decide (at_+1=cw words)) (at_+1) jR x)::(aJ++(M.B m'++σ))):=by
 have hc:=z8 words;have hw:IntKind.i64.wrap ((at_:Int)+1)=((at_+1:Nat):Int):=by rw[IntKind.wrap_i64];omega
 have ab:decide ((at_:Int)<(cw words:Nat))=true:=aX (by omega);cases hv with
 |nil=>
  refine ao Tryz.func406 ?_;refine aa 0 ?_;refine .quiet (by kernel_rfl) ?_;refine aa 0 ?_;refine aa 0 ?_;refine aN [] (nB _ _ _ _) ?_;refine IP ab ?_;refine .sched [5,7] (upto [5,7] 28 0) (by kernel_rfl) ?_;refine aa 0 ?_;refine aN [] (Ze _) ?_;refine aN [] (dI _ _ _) ?_;refine aa 0 ?_;refine aa 0 ?_;refine eY.mk M.hL ?_;refine M.aLoad [_] hf fun m' hm=>?_;intro ax;refine AppendAt.fresh 1 _ (.inl rfl) (.af 0 _ 0 1 _ rfl (cj rfl)) (by decide) (by decide) (by decide) (fun _ bn=>?_) (fun h=>absurd h (by decide));refine ah 2 ?_;refine aa 2 ?_;refine ah 2 ?_;refine .sched [10] (upto [10] 15 0) (by kernel_rfl) ?_;refine aa 2 ?_;refine aa 2 ?_;refine aN [] (nB _ _ _ _) ?_;refine ai (fun c2=>?_) (fun c2=>?_)
  ·have c2:IntKind.i64.wrap ((↑at_:Int)+1)=(↑(cw words):Int):=c2;refine ah 2 ?_;refine aa 2 ?_;exact .drop 1 1 ((.pull [1] (.done ⟨m',_,_,.af bn [_],hm,by rw[aX (show at_+1=cw words by omega)];rfl,by unfold j4;rw[aX (show at_+1=cw words by omega),← hw];rfl⟩)))
  ·have c2:¬(IntKind.i64.wrap ((↑at_:Int)+1)=(↑(cw words):Int)):=c2;refine ah 2 ?_;refine aa 2 ?_;exact .drop 1 1 ((.pull [1] (.done ⟨m',_,_,.af bn [_],hm,by rw[cp (show ¬at_+1=cw words by omega)];rfl,by unfold j4;rw[cp (show ¬at_+1=cw words by omega),← hw];rfl⟩)))
 |af b l=>
  have hlen:(aU l).length=l.length*1:=by simp[aU]
  refine ao Tryz.func406 ?_;refine aa 0 ?_;refine .quiet (by kernel_rfl) ?_;refine aa 0 ?_;refine aa 0 ?_;refine aN [] (nB _ _ _ _) ?_;refine IP ab ?_;refine .sched [7] (kl [0,1,2,3,4,6,8,9,10,11,13,14,15,16] (.alt 5 (.one 7 true (ca [12,17,18,19,20,21,22,23,24,25,26,27])) (.alt 12 (.alt 5 (.one 7 true (ca [17,18,19,20,21,22,23,24,25,26,27])) (kl [17,18,5] (.one 7 true (ca [19,20,21,22,23,24,25,26,27])))) (.one 17 false (.alt 5 (.one 7 true (ca [12,18,19,20,21,22,23,24,25,26,27])) (kl [12,18,5] (.one 7 true (ca [19,20,21,22,23,24,25,26,27])))))))) (by kernel_rfl) ?_;refine aa 0 ?_;refine And.intro ?_ ?_
  ·(refine .mk [] _ (Bz b l.length (aU l) _ (dq _ (cF ..)) hlen (by omega)) ?_;rintro _ _ ⟨b',rfl,rfl⟩)
   refine aN [] (dI _ _ _) ?_;refine aa 1 ?_;refine aa 1 ?_;refine eY.mk M.hL ?_;refine M.aLoad [_,_,_] hf fun m' hm=>?_;intro ax;refine AppendAt.more 1 b' l.length 1 (aU l) _ rfl rfl (by show l.length*1≤(aU l).length;omega) (.af 0 _ 0 1 _ rfl (cj rfl)) (by omega) (by decide) (by decide) (fun bn=>?_);refine ah 2 ?_;refine aa 2 ?_;refine ah 2 ?_;refine .sched [10] (upto [10] 15 0) (by kernel_rfl) ?_;refine aa 2 ?_;refine aa 2 ?_;refine aN [] (nB _ _ _ _) ?_;refine ai (fun c2=>?_) (fun c2=>?_)
   ·have c2:IntKind.i64.wrap ((↑at_:Int)+1)=(↑(cw words):Int):=c2;refine ah 2 ?_;refine aa 2 ?_;exact .drop 1 1 (.drop 2 1 ((.pull [1] (.done ⟨m',_,_,ky.push bn l _,hm,by rw[aX (show at_+1=cw words by omega)];rfl,by unfold j4;rw[aX (show at_+1=cw words by omega),← hw];rfl⟩))))
   ·have c2:¬(IntKind.i64.wrap ((↑at_:Int)+1)=(↑(cw words):Int)):=c2;refine ah 2 ?_;refine aa 2 ?_;exact .drop 1 1 (.drop 2 1 ((.pull [1] (.done ⟨m',_,_,ky.push bn l _,hm,by rw[cp (show ¬at_+1=cw words by omega)];rfl,by unfold j4;rw[cp (show ¬at_+1=cw words by omega),← hw];rfl⟩))))
  ·refine And.intro ?_ ?_
   ·refine aa 0 ?_;refine And.intro ?_ ?_
    ·(refine .mk [] _ (Bz b l.length (aU l) _ (dq _ (cF ..)) hlen (by omega)) ?_;rintro _ _ ⟨b',rfl,rfl⟩)
     refine aN [] (dI _ _ _) ?_;refine aa 1 ?_;refine eY.mk M.hL ?_;refine M.aLoad [_,_,_] hf fun m' hm=>?_;intro kX;refine AppendAt.more 1 b' l.length 1 (aU l) _ rfl rfl (by show l.length*1≤(aU l).length;omega) (.af 0 _ 0 1 _ rfl (cj rfl)) (by omega) (by decide) (by decide) (fun bn=>?_);refine ah 2 ?_;refine aa 2 ?_;refine ah 2 ?_;refine .sched [10] (upto [10] 15 0) (by kernel_rfl) ?_;refine aa 2 ?_;refine aa 2 ?_;refine aN [] (nB _ _ _ _) ?_;refine ai (fun c4=>?_) (fun c4=>?_)
     ·have c4:IntKind.i64.wrap ((↑at_:Int)+1)=(↑(cw words):Int):=c4;refine ah 2 ?_;refine aa 2 ?_;exact .drop 1 1 (.drop 2 1 ((.pull [1] (.done ⟨m',_,_,ky.push bn l _,hm,by rw[aX (show at_+1=cw words by omega)];rfl,by unfold j4;rw[aX (show at_+1=cw words by omega),← hw];rfl⟩))))
     ·have c4:¬(IntKind.i64.wrap ((↑at_:Int)+1)=(↑(cw words):Int)):=c4;refine ah 2 ?_;refine aa 2 ?_;exact .drop 1 1 (.drop 2 1 ((.pull [1] (.done ⟨m',_,_,ky.push bn l _,hm,by rw[cp (show ¬at_+1=cw words by omega)];rfl,by unfold j4;rw[cp (show ¬at_+1=cw words by omega),← hw];rfl⟩))))
    ·refine aa 0 ?_
     (refine .mk [] _ (Bz b l.length (aU l) _ (dq _ (cF ..)) hlen (by omega)) ?_;rintro _ _ ⟨b',rfl,rfl⟩)
     refine aN [] (dI _ _ _) ?_;refine eY.mk M.hL ?_;refine M.aLoad [_,_,_] hf fun m' hm=>?_;intro tR;refine AppendAt.more 1 b' l.length 1 (aU l) _ rfl rfl (by show l.length*1≤(aU l).length;omega) (.af 0 _ 0 1 _ rfl (cj rfl)) (by omega) (by decide) (by decide) (fun bn=>?_);refine ah 2 ?_;refine aa 2 ?_;refine ah 2 ?_;refine .sched [10] (upto [10] 15 0) (by kernel_rfl) ?_;refine aa 2 ?_;refine aa 2 ?_;refine aN [] (nB _ _ _ _) ?_;refine ai (fun c6=>?_) (fun c6=>?_)
     ·have c6:IntKind.i64.wrap ((↑at_:Int)+1)=(↑(cw words):Int):=c6;refine ah 2 ?_;refine aa 2 ?_;exact .drop 1 1 (.drop 2 1 ((.pull [1] (.done ⟨m',_,_,ky.push bn l _,hm,by rw[aX (show at_+1=cw words by omega)];rfl,by unfold j4;rw[aX (show at_+1=cw words by omega),← hw];rfl⟩))))
     ·have c6:¬(IntKind.i64.wrap ((↑at_:Int)+1)=(↑(cw words):Int)):=c6;refine ah 2 ?_;refine aa 2 ?_;exact .drop 1 1 (.drop 2 1 ((.pull [1] (.done ⟨m',_,_,ky.push bn l _,hm,by rw[cp (show ¬at_+1=cw words by omega)];rfl,by unfold j4;rw[cp (show ¬at_+1=cw words by omega),← hw];rfl⟩))))
   ·refine aa 0 ?_;refine And.intro ?_ ?_
    ·(refine .mk [] _ (Bz b l.length (aU l) _ (dq _ (cF ..)) hlen (by omega)) ?_;rintro _ _ ⟨b',rfl,rfl⟩)
     refine aN [] (dI _ _ _) ?_;refine aa 1 ?_;refine eY.mk M.hL ?_;refine M.aLoad [_,_,_] hf fun m' hm=>?_;intro bl7;refine AppendAt.more 1 b' l.length 1 (aU l) _ rfl rfl (by show l.length*1≤(aU l).length;omega) (.af 0 _ 0 1 _ rfl (cj rfl)) (by omega) (by decide) (by decide) (fun bn=>?_);refine ah 2 ?_;refine aa 2 ?_;refine ah 2 ?_;refine .sched [10] (upto [10] 15 0) (by kernel_rfl) ?_;refine aa 2 ?_;refine aa 2 ?_;refine aN [] (nB _ _ _ _) ?_;refine ai (fun c8=>?_) (fun c8=>?_)
     ·have c8:IntKind.i64.wrap ((↑at_:Int)+1)=(↑(cw words):Int):=c8;refine ah 2 ?_;refine aa 2 ?_;exact .drop 1 1 (.drop 2 1 ((.pull [1] (.done ⟨m',_,_,ky.push bn l _,hm,by rw[aX (show at_+1=cw words by omega)];rfl,by unfold j4;rw[aX (show at_+1=cw words by omega),← hw];rfl⟩))))
     ·have c8:¬(IntKind.i64.wrap ((↑at_:Int)+1)=(↑(cw words):Int)):=c8;refine ah 2 ?_;refine aa 2 ?_;exact .drop 1 1 (.drop 2 1 ((.pull [1] (.done ⟨m',_,_,ky.push bn l _,hm,by rw[cp (show ¬at_+1=cw words by omega)];rfl,by unfold j4;rw[cp (show ¬at_+1=cw words by omega),← hw];rfl⟩))))
    ·refine aa 0 ?_
     (refine .mk [] _ (Bz b l.length (aU l) _ (dq _ (cF ..)) hlen (by omega)) ?_;rintro _ _ ⟨b',rfl,rfl⟩)
     refine aN [] (dI _ _ _) ?_;refine eY.mk M.hL ?_;refine M.aLoad [_,_,_] hf fun m' hm=>?_;intro bl9;refine AppendAt.more 1 b' l.length 1 (aU l) _ rfl rfl (by show l.length*1≤(aU l).length;omega) (.af 0 _ 0 1 _ rfl (cj rfl)) (by omega) (by decide) (by decide) (fun bn=>?_);refine ah 2 ?_;refine aa 2 ?_;refine ah 2 ?_;refine .sched [10] (upto [10] 15 0) (by kernel_rfl) ?_;refine aa 2 ?_;refine aa 2 ?_;refine aN [] (nB _ _ _ _) ?_;refine ai (fun jL=>?_) (fun jL=>?_)
     ·have jL:IntKind.i64.wrap ((↑at_:Int)+1)=(↑(cw words):Int):=jL;refine ah 2 ?_;refine aa 2 ?_;exact .drop 1 1 (.drop 2 1 ((.pull [1] (.done ⟨m',_,_,ky.push bn l _,hm,by rw[aX (show at_+1=cw words by omega)];rfl,by unfold j4;rw[aX (show at_+1=cw words by omega),← hw];rfl⟩))))
     ·have jL:¬(IntKind.i64.wrap ((↑at_:Int)+1)=(↑(cw words):Int)):=jL;refine ah 2 ?_;refine aa 2 ?_;exact .drop 1 1 (.drop 2 1 ((.pull [1] (.done ⟨m',_,_,ky.push bn l _,hm,by rw[cp (show ¬at_+1=cw words by omega)];rfl,by unfold j4;rw[cp (show ¬at_+1=cw words by omega),← hw];rfl⟩))))
theorem Sk(M:AMem)(r:Nat)(base what words x:Int)(jR:Bool)(c:AV)(d:Int)(σ:Hp)(eQ:cw words=0):
  ACalls Tryz.prog 406 [.ptr r 0,M.v,.int .i64 d] ((r,j4 c base what words false 0 jR x)::σ) (ay (.bool true) ((r,j4 c base what words true 0 jR x)::σ)):=by
 have ab:decide ((0:Int)<(cw words:Nat))=false:=cp (by omega);have heq:decide ((0:Int)=(cw words:Nat))=true:=aX (by omega);refine ao Tryz.func406 ?_;refine aa 0 ?_;refine .quiet (by kernel_rfl) ?_;refine aa 0 ?_;refine aa 0 ?_;refine aN [] (nB _ _ _ _) ?_;refine Wd ab ?_;refine .sched [10] (upto [10] 15 0) (by kernel_rfl) ?_;refine aa 0 ?_;refine aa 0 ?_;refine aN [] (nB _ _ _ _) ?_;refine IP heq ?_;refine ah 0 ?_;refine aa 0 ?_;exact .done ⟨rfl,rfl⟩
set_option maxHeartbeats 4000000
theorem wPop_ : Meth Tryz.prog 399 "Step" 401 := fun a w => by kernel_rfl
theorem wSteal_ : Meth Tryz.prog 404 "Step" 403 := fun a w => by kernel_rfl
theorem wPush_ : Meth Tryz.prog 425 "Step" 409 := fun a w => by kernel_rfl
theorem wQuiet_ : Meth Tryz.prog 406 "Step" 404 := fun a w => by kernel_rfl
theorem wClear_ : Meth Tryz.prog 409 "Step" 405 := fun a w => by kernel_rfl
theorem wTake_ : Meth Tryz.prog 420 "Step" 408 := fun a w => by kernel_rfl
theorem wRetire_ : Meth Tryz.prog 427 "Step" 410 := fun a w => by kernel_rfl
theorem wRead_ : Meth Tryz.prog 412 "Step" 406 := fun a w => by kernel_rfl
theorem wJoin_ : Meth Tryz.prog 417 "Step" 407 := fun a w => by kernel_rfl
theorem afn{M:AMem}{f:FuncId}{xs:List AV}{X:Type}{B:X→List AV}{r:Nat}{cs:List AV}{res:X×M.O.A×Bool}{m:M.S}(fr:Hp){σ:Hp}{K:AV→Hp→Prop}(h:∀σ,ACalls Tryz.prog f xs ((r,cs)::(M.B m++σ)) (pS M σ B r res))
  (k1:∀m',M.abs m'=res.2.1→res.2.2=true→K (.bool true) (fr++((r,B res.1)::(M.B m'++σ)))) (k2:∀m',M.abs m'=res.2.1→res.2.2=false→K (.bool false) (fr++((r,B res.1)::(M.B m'++σ)))):CallAt Tryz.prog f K xs (fr++((r,cs)::(M.B m++σ))):=by
 have hp:∀(c:List AV) (b:Hp),((r,c)::(b++(fr++σ))).Perm (fr++((r,c)::(b++σ))):=fun c b=>ew fr ((r,c)::b) σ;refine .perm _ (hp cs (M.B m)) (h (fr++σ)) ?_;rintro x σ' ⟨m',h1,rfl,rfl⟩;refine⟨_,(hp (B res.1) (M.B m')).symm,?_⟩;cases hb:res.2.2 with
 |true=>exact k1 m' h1 hb
 |false=>exact k2 m' h1 hb
def nA(O:ja)(l:Lay)(base:Int)(x:List Int)(a:O.A):List Int×O.A×Bool:=
 if x.length<cw l.words then (x++[(O.ld a (wr (base+(x.length:Nat)))).1],(O.ld a (wr (base+(x.length:Nat)))).2,decide (x.length+1=cw l.words)) else (x,a,true)
def ka(O:ja)(l:Lay)(node:Int):Nw→O.A→Nw×O.A×Bool
 |.none,a=>(.none,a,false)
 |.pop q,a=>(.pop (jf O q a).1,(jf O q a).2)
 |.ft q,a=>(.ft (j8 O q a).1,(j8 O q a).2)
 |.quiet t,a=>(.quiet (oz O t a).1,(oz O t a).2)
 |.clear t,a=>(.clear (oG O t a).1,(oG O t a).2)
 |.read x,a=>(.read (nA O l (dX l node) x a).1,(nA O l (dX l node) x a).2)
 |.join j,a=>(.join (jS O j a).1,(jS O j a).2)
 |.take t,a=>(.take (lJ O t a).1,(lJ O t a).2)
 |.push q,a=>(.push (kz O q a).1,(kz O q a).2)
 |.ib t,a=>(.ib (pJ O t a).1,(pJ O t a).2)
def ir(s:Sy)(l:Lay)(x:WS):Nw→WS
 |.none=>x
 |.pop q=>if q.ok=true then ⟨x.ev,x.jo,x.en,sT l q.n,.none,qG l q.n,true,x.nx,x.out⟩ else ⟨x.ev,x.jo,x.en,xV l,.none,x.node,x.has,x.nx,x.out⟩
 |.ft q=>if q.ok=true then ⟨x.ev,x.jo,x.en,sT l q.n,.none,qG l q.n,true,x.nx,x.out⟩ else ⟨x.ev,x.jo,x.en,2,.none,x.node,x.has,x.nx,x.out⟩
 |.quiet t=>⟨x.ev,x.jo,t.is,BM l,.none,x.node,x.has,x.nx,x.out⟩
 |.clear _=>⟨x.ev,x.jo,x.en,4,.none,x.node,x.has,x.nx,x.out⟩
 |.read y=>⟨wr (x.ev+1),x.jo,x.en,zF s x.node,.none,x.node,x.has,au s.n s.cd x.node,sj (qW s x.node y) (lf s y x.node.toNat)⟩
 |.join j=>if j.changed=true then ⟨x.ev,wr (x.jo+1),x.en,6,.none,x.node,x.has,x.nx,x.out⟩ else ⟨x.ev,x.jo,x.en,qH x.nx,.none,x.node,x.has,x.nx.tail,x.out⟩
 |.take t=>if t.new=true then ⟨x.ev,x.jo,x.en,7,.none,x.node,x.has,x.nx,x.out⟩ else ⟨x.ev,x.jo,x.en,qH x.nx,.none,x.node,x.has,x.nx.tail,x.out⟩
 |.push _=>⟨x.ev,x.jo,x.en,qH x.nx,.none,x.node,x.has,x.nx.tail,x.out⟩
 |.ib _=>⟨x.ev,x.jo,x.en,0,.none,x.node,false,x.nx,x.out⟩
def rG(l:Lay)(who:Int)(x:WS)(d:Int):Nw:=match x.now with
 |.none=>jE l who x.an x.node x.nx x.out d
 |n=>n
def de(O:ja)(s:Sy)(l:Lay)(who:Int)(x:WS)(d:Int)(a:O.A):WS×O.A×Bool:=
 if x.en=true then (x,a,true)
 else if (ka O l x.node (rG l who x d) a).2.2=true then (ir s l x (ka O l x.node (rG l who x d) a).1,(ka O l x.node (rG l who x d) a).2.1,(ir s l x (ka O l x.node (rG l who x d) a).1).en)
 else (⟨x.ev,x.jo,x.en,x.an,(ka O l x.node (rG l who x d) a).1,x.node,x.has,x.nx,x.out⟩,(ka O l x.node (rG l who x d) a).2.1,false)
def vc(l:Lay)(nx:List Int):Nw→Prop
 |.none=>True
 |.pop q=>q.at_≤5∧0≤q.b
 |.ft q=>q.at_≤3∧0≤q.t
 |.quiet _=>True
 |.clear _=>True
 |.read x=>(x.length<cw l.words∨(cw l.words=0∧x=[]))∧bC x
 |.join j=>j.at_≤1024∧0<nx.length
 |.take _=>0<nx.length
 |.push q=>(q.at_≤3∧0≤q.b)∧0<nx.length
 |.ib _=>True
def Ld(l:Lay)(x:WS):Prop:=(x.an=5∨x.an=6∨x.an=7→0<x.nx.length)∧(x.an=1→nK l≠0∧l.k≠0)∧vc l x.nx x.now
def yj(c:AV)(acc:Hp):Nw→Prop
 |.read x=>ky c acc x∧(x=[]→c=.ag)
 |_=>True
def WB(s:Sy)(l:Lay)(who:Int)(w r:Nat)(c:AV)(acc:Hp)(x:WS):Hp:=(w,ei s l who x.ev x.jo x.en x.an (He r x.now) x.node x.has x.nx x.out)::Hf l x.node r c acc x.now
set_option maxHeartbeats 4000000
def oQ(M:AMem)(s:Sy)(l:Lay)(who:Int)(w:Nat)(res:WS×M.O.A×Bool)(σ:Hp):AV→Hp→Prop:=fun z σ'=>∃m' r c acc,yj c acc res.1.now∧M.abs m'=res.2.1∧z=.bool res.2.2∧σ'=WB s l who w r c acc res.1++(M.B m'++σ)
theorem Zi{M:AMem}{s:Sy}{l:Lay}{who:Int}{w:Nat}{σ:Hp}{x:WS}{a:M.O.A}{d:Int}(h:x.en=true){m:M.S}(hm:M.abs m=a){r:Nat}{c:AV}{acc:Hp}(rd:yj c acc x.now):oQ M s l who w (de M.O s l who x d a) σ (.bool true) (WB s l who w r c acc x++(M.B m++σ)):=by
 unfold de;rw[az h];exact⟨m,r,c,acc,rd,hm,rfl,rfl⟩
theorem gB{M:AMem}{s:Sy}{l:Lay}{who:Int}{w:Nat}{σ:Hp}{x:WS}{a a':M.O.A}{d:Int}{n n':Nw}{b:Bool}{m':M.S}{y:WS}(he:x.en=false)(eQ:rG l who x d=n)(hn:ka M.O l x.node n a=(n',a',b))(hb:b=true)(hm:M.abs m'=a')(hy:ir s l x n'=y)(h0:y.now=.none)(r:Nat):oQ M s l who w (de M.O s l who x d a) σ (.bool y.en) (WB s l who w r .ag [] y++(M.B m'++σ)):=by
 unfold de;rw[aB (by rw[he];decide),eQ,hn];dsimp only;rw[az hb,hy];exact⟨m',r,.ag,[],by rw[h0];trivial,hm,rfl,rfl⟩
theorem gU{M:AMem}{s:Sy}{l:Lay}{who:Int}{w:Nat}{σ:Hp}{x:WS}{a a':M.O.A}{d:Int}{n n':Nw}{b:Bool}{m':M.S}(he:x.en=false)(eQ:rG l who x d=n)(hn:ka M.O l x.node n a=(n',a',b))(hb:b=false)(hm:M.abs m'=a')(r:Nat)(c:AV)(acc:Hp)(rd:yj c acc n'):oQ M s l who w (de M.O s l who x d a) σ (.bool false) (WB s l who w r c acc ⟨x.ev,x.jo,x.en,x.an,n',x.node,x.has,x.nx,x.out⟩++(M.B m'++σ)):=by
 unfold de;rw[aB (by rw[he];decide),eQ,hn];dsimp only;rw[aB (by rw[hb];decide)];exact⟨m',r,c,acc,rd,hm,rfl,rfl⟩
theorem iC{M:AMem}{f:FuncId}{xs:List AV}{X:Type}{B:X→List AV}{r:Nat}{cs:List AV}{res:X×M.O.A×Bool}{x':X}{a':M.O.A}{b':Bool}{m:M.S}(fr:Hp){σ:Hp}{K:AV→Hp→Prop}(aq:res=(x',a',b'))(h:∀σ,ACalls Tryz.prog f xs ((r,cs)::(M.B m++σ)) (pS M σ B r res))
  (k1:∀m',M.abs m'=a'→b'=true→K (.bool true) (fr++((r,B x')::(M.B m'++σ)))) (k2:∀m',M.abs m'=a'→b'=false→K (.bool false) (fr++((r,B x')::(M.B m'++σ)))):CallAt Tryz.prog f K xs (fr++((r,cs)::(M.B m++σ))):=by
 subst aq;exact afn fr h k1 k2
theorem uv{O:ja}{l:Lay}{node:Int}{q q':DQ}{a a':O.A}{b:Bool}(h:jf O q a=(q',a',b)):ka O l node (.pop q) a=(.pop q',a',b):=by show (Nw.pop (jf O q a).1,(jf O q a).2)=_;rw[h]
theorem uc{O:ja}{l:Lay}{node:Int}{q q':DQ}{a a':O.A}{b:Bool}(h:j8 O q a=(q',a',b)):ka O l node (.ft q) a=(.ft q',a',b):=by show (Nw.ft (j8 O q a).1,(j8 O q a).2)=_;rw[h]
theorem v8{O:ja}{l:Lay}{node:Int}{q q':Qk}{a a':O.A}{b:Bool}(h:oz O q a=(q',a',b)):ka O l node (.quiet q) a=(.quiet q',a',b):=by show (Nw.quiet (oz O q a).1,(oz O q a).2)=_;rw[h]
theorem E7{O:ja}{l:Lay}{node:Int}{q q':Ck}{a a':O.A}{b:Bool}(h:oG O q a=(q',a',b)):ka O l node (.clear q) a=(.clear q',a',b):=by show (Nw.clear (oG O q a).1,(oG O q a).2)=_;rw[h]
theorem uj{O:ja}{l:Lay}{node:Int}{q q':Tk}{a a':O.A}{b:Bool}(h:lJ O q a=(q',a',b)):ka O l node (.take q) a=(.take q',a',b):=by show (Nw.take (lJ O q a).1,(lJ O q a).2)=_;rw[h]
theorem BP{O:ja}{l:Lay}{node:Int}{q q':DQ}{a a':O.A}{b:Bool}(h:kz O q a=(q',a',b)):ka O l node (.push q) a=(.push q',a',b):=by show (Nw.push (kz O q a).1,(kz O q a).2)=_;rw[h]
theorem ET{O:ja}{l:Lay}{node:Int}{q q':Rk}{a a':O.A}{b:Bool}(h:pJ O q a=(q',a',b)):ka O l node (.ib q) a=(.ib q',a',b):=by show (Nw.ib (pJ O q a).1,(pJ O q a).2)=_;rw[h]
theorem uk{O:ja}{l:Lay}{node:Int}{q q':Jn}{a a':O.A}{b:Bool}(h:jS O q a=(q',a',b)):ka O l node (.join q) a=(.join q',a',b):=by show (Nw.join (jS O q a).1,(jS O q a).2)=_;rw[h]
theorem xZ{O:ja}{l:Lay}{node:Int}{q q':List Int}{a a':O.A}{b:Bool}(h:nA O l (dX l node) q a=(q',a',b)):ka O l node (.read q) a=(.read q',a',b):=by show (Nw.read (nA O l (dX l node) q a).1,(nA O l (dX l node) q a).2)=_;rw[h]
theorem aat(l:Lay)(who an node:Int)(nx out:List Int)(d:Int):jE l who an node nx out d≠.none:=by
 unfold jE;repeat' (first | split | (intro h;cases h))
theorem abT{l:Lay}{who an node:Int}{nx out:List Int}{d:Int}(h:an=5∨an=6∨an=7→0<nx.length):vc l nx (jE l who an node nx out d):=by
 unfold jE
 repeat' split
 ·exact⟨aV _,kU _⟩
 ·exact⟨aV _,kU _⟩
 ·trivial
 ·trivial
 ·refine⟨?_,fun _ h=>by cases h⟩
  rcases px (cw l.words) with h | h
  ·exact .inr ⟨h,rfl⟩
  ·exact .inl h
 ·exact⟨aV _,h (by omega)⟩
 ·exact h (by omega)
 ·exact⟨⟨aV _,kU _⟩,h (by omega)⟩
 ·trivial
theorem Ta{M:AMem}{r w:Nat}{wc:List AV}{m:M.S}{base what words x d:Int}{l:List Int}{c:AV}{acc σ:Hp}{K:AV→Hp→Prop}(hf:M.O.free (M.abs m))(eQ:l.length<cw words)(hv:ky c acc l)
  (k1:∀m' b,M.abs m'=(M.O.ld (M.abs m) (wr (base+(l.length:Nat)))).2→l.length+1=cw words→K (.bool true) ((w,wc)::(r,j4 (.af b 0 (l++[(M.O.ld (M.abs m) (wr (base+(l.length:Nat)))).1]).length 1) base what words true (l++[(M.O.ld (M.abs m) (wr (base+(l.length:Nat)))).1]).length false x)::(b,aU (l++[(M.O.ld (M.abs m) (wr (base+(l.length:Nat)))).1]))::(M.B m'++σ)))
  (k2:∀m' b,M.abs m'=(M.O.ld (M.abs m) (wr (base+(l.length:Nat)))).2→¬l.length+1=cw words→K (.bool false) ((w,wc)::(r,j4 (.af b 0 (l++[(M.O.ld (M.abs m) (wr (base+(l.length:Nat)))).1]).length 1) base what words false (l++[(M.O.ld (M.abs m) (wr (base+(l.length:Nat)))).1]).length false x)::(b,aU (l++[(M.O.ld (M.abs m) (wr (base+(l.length:Nat)))).1]))::(M.B m'++σ))):CallAt Tryz.prog 406 K [.ptr r 0,M.v,.int .i64 d] ((w,wc)::(r,j4 c base what words false l.length false x)::(acc++(M.B m++σ))):=by
 have HC:=z8 words
 have hp:∀(cs:List AV) (a b:Hp),((r,cs)::(a++(b++((w,wc)::σ)))).Perm ((w,wc)::(r,cs)::(a++(b++σ))):=fun cs a b=>by
  have:=ew [(w,wc)] ((r,cs)::(a++b)) σ;simpa using this
 refine .perm _ (hp _ acc (M.B m)) (acT M r m base what words x l.length false l c acc d ((w,wc)::σ) hf eQ hv (by omega)) ?_;rintro z σ' ⟨m',c',aJ,h1,h2,rfl,rfl⟩;refine⟨_,(hp _ aJ (M.B m')).symm,?_⟩;have hlen:(l++[(M.O.ld (M.abs m) (wr (base+(l.length:Nat)))).1]).length=l.length+1:=by simp
 generalize hg:l++[(M.O.ld (M.abs m) (wr (base+(l.length:Nat)))).1]=g at h1 k1 k2 hlen;rw[← hlen];rw[← hlen]at k1 k2;cases h1 with
 |nil=>simp at hlen
 |af b g=>
  by_cases he:g.length=cw words
  ·rw[aX he];exact k1 m' b h2 he
  ·rw[cp he];exact k2 m' b h2 he
theorem acF(M:AMem)(w r:Nat)(c:AV)(acc:Hp)(s:Sy)(l:Lay)(who:Int)(ev jo:Int)(an:Int)(q:DQ)(node:Int)(has:Bool)(nx out:List Int)(d:Int)(m:M.S)(σ:Hp)(hm:M.O.free (M.abs m))(o3:vc l nx (.pop q)):
  ACalls Tryz.prog 390 [.ptr w 0,M.v,.int .i64 d] (WB s l who w r c acc ⟨ev,jo,false,an,.pop q,node,has,nx,out⟩++(M.B m++σ)) (oQ M s l who w (de M.O s l who ⟨ev,jo,false,an,.pop q,node,has,nx,out⟩ d (M.abs m)) σ):=by
 refine ao Tryz.func390 ?_;refine aa 0 ?_;refine aa 0 ?_;refine aa 0 ?_;obtain⟨q',a',b',aq⟩:∃q' a' b',jf M.O q (M.abs m)=(q',a',b'):=⟨_,_,_,rfl⟩
 obtain⟨u1,u2,u3,u4,u5,u6,u7,u8,u9⟩:=q';cases u4 with
 |true=>
  refine .fwd 1 ?_;refine .sched [5] (upto [5] 11 0) (by kernel_rfl) ?_;refine aa 0 ?_;refine aN [] (dI _ _ _) ?_;refine InvAt.mk _ wPop_ ?_;refine iC [_] aq (fun σ=>G4 M r q m d σ hm (by have:=o3.1;omega) o3.2) (fun m' aW hb=>?_) (fun m' aW hb=>?_)
  ·refine aw [] (Ry w r s l who ev jo false an node has nx out _ _ _ _ _ _ _ _ _) ?_;refine ah 0 ?_;refine ah 0 ?_;refine aa 0 ?_;exact .drop 1 1 (.done (gB (x:=⟨ev,jo,false,an,.pop q,node,has,nx,out⟩) (n:=.pop q) rfl rfl (uv aq) hb aW rfl rfl r))
  ·exact .done (gU (x:=⟨ev,jo,false,an,.pop q,node,has,nx,out⟩) (n:=.pop q) rfl rfl (uv aq) hb aW r .ag [] trivial)
 |false=>
  refine .fwd 1 ?_;refine .sched [5] (upto [5] 11 0) (by kernel_rfl) ?_;refine aa 0 ?_;refine aN [] (dI _ _ _) ?_;refine InvAt.mk _ wPop_ ?_;refine iC [_] aq (fun σ=>G4 M r q m d σ hm (by have:=o3.1;omega) o3.2) (fun m' aW hb=>?_) (fun m' aW hb=>?_)
  ·refine aw [] (Rz w r s l who ev jo false an node has nx out _ _ _ _ _ _ _ _ _) ?_;refine ah 0 ?_;refine ah 0 ?_;refine aa 0 ?_;exact .drop 1 1 (.done (gB (x:=⟨ev,jo,false,an,.pop q,node,has,nx,out⟩) (n:=.pop q) rfl rfl (uv aq) hb aW rfl rfl r))
  ·exact .done (gU (x:=⟨ev,jo,false,an,.pop q,node,has,nx,out⟩) (n:=.pop q) rfl rfl (uv aq) hb aW r .ag [] trivial)
theorem YX(M:AMem)(w r:Nat)(c:AV)(acc:Hp)(s:Sy)(l:Lay)(who:Int)(ev jo:Int)(an:Int)(q:DQ)(node:Int)(has:Bool)(nx out:List Int)(d:Int)(m:M.S)(σ:Hp)(hm:M.O.free (M.abs m))(o3:vc l nx (.ft q)):
  ACalls Tryz.prog 390 [.ptr w 0,M.v,.int .i64 d] (WB s l who w r c acc ⟨ev,jo,false,an,.ft q,node,has,nx,out⟩++(M.B m++σ)) (oQ M s l who w (de M.O s l who ⟨ev,jo,false,an,.ft q,node,has,nx,out⟩ d (M.abs m)) σ):=by
 refine ao Tryz.func390 ?_;refine aa 0 ?_;refine aa 0 ?_;refine aa 0 ?_;obtain⟨q',a',b',aq⟩:∃q' a' b',j8 M.O q (M.abs m)=(q',a',b'):=⟨_,_,_,rfl⟩
 obtain⟨u1,u2,u3,u4,u5,u6,u7,u8,u9⟩:=q';cases u4 with
 |true=>
  refine .fwd 1 ?_;refine .sched [5] (upto [5] 11 0) (by kernel_rfl) ?_;refine aa 0 ?_;refine aN [] (dI _ _ _) ?_;refine InvAt.mk _ wSteal_ ?_;refine iC [_] aq (fun σ=>F9 M r q m d σ hm (by have:=o3.1;omega) o3.2) (fun m' aW hb=>?_) (fun m' aW hb=>?_)
  ·refine aw [] (O7 w r s l who ev jo false an node has nx out _ _ _ _ _ _ _ _ _) ?_;refine ah 0 ?_;refine ah 0 ?_;refine aa 0 ?_;exact .drop 1 1 (.done (gB (x:=⟨ev,jo,false,an,.ft q,node,has,nx,out⟩) (n:=.ft q) rfl rfl (uc aq) hb aW rfl rfl r))
  ·exact .done (gU (x:=⟨ev,jo,false,an,.ft q,node,has,nx,out⟩) (n:=.ft q) rfl rfl (uc aq) hb aW r .ag [] trivial)
 |false=>
  refine .fwd 1 ?_;refine .sched [5] (upto [5] 11 0) (by kernel_rfl) ?_;refine aa 0 ?_;refine aN [] (dI _ _ _) ?_;refine InvAt.mk _ wSteal_ ?_;refine iC [_] aq (fun σ=>F9 M r q m d σ hm (by have:=o3.1;omega) o3.2) (fun m' aW hb=>?_) (fun m' aW hb=>?_)
  ·refine aw [] (O8 w r s l who ev jo false an node has nx out _ _ _ _ _ _ _ _ _) ?_;refine ah 0 ?_;refine ah 0 ?_;refine aa 0 ?_;exact .drop 1 1 (.done (gB (x:=⟨ev,jo,false,an,.ft q,node,has,nx,out⟩) (n:=.ft q) rfl rfl (uc aq) hb aW rfl rfl r))
  ·exact .done (gU (x:=⟨ev,jo,false,an,.ft q,node,has,nx,out⟩) (n:=.ft q) rfl rfl (uc aq) hb aW r .ag [] trivial)
theorem YY(M:AMem)(w r:Nat)(c:AV)(acc:Hp)(s:Sy)(l:Lay)(who:Int)(ev jo:Int)(an:Int)(q:Qk)(node:Int)(has:Bool)(nx out:List Int)(d:Int)(m:M.S)(σ:Hp)(hm:M.O.free (M.abs m)):
  ACalls Tryz.prog 390 [.ptr w 0,M.v,.int .i64 d] (WB s l who w r c acc ⟨ev,jo,false,an,.quiet q,node,has,nx,out⟩++(M.B m++σ)) (oQ M s l who w (de M.O s l who ⟨ev,jo,false,an,.quiet q,node,has,nx,out⟩ d (M.abs m)) σ):=by
 refine ao Tryz.func390 ?_;refine aa 0 ?_;refine aa 0 ?_;refine aa 0 ?_;obtain⟨q',a',b',aq⟩:∃q' a' b',oz M.O q (M.abs m)=(q',a',b'):=⟨_,_,_,rfl⟩
 obtain⟨u1,u2,u3,u4⟩:=q';cases u3 with
 |true=>
  refine .fwd 1 ?_;refine .sched [5] (upto [5] 11 0) (by kernel_rfl) ?_;refine aa 0 ?_;refine aN [] (dI _ _ _) ?_;refine InvAt.mk _ wQuiet_ ?_;refine iC [_] aq (fun σ=>Ga M r q m d σ hm) (fun m' aW hb=>?_) (fun m' aW hb=>?_)
  ·refine aw [] (E2 w r s l who ev jo false an node has nx out _ _ _ _ _) ?_;refine ah 0 ?_;refine ah 0 ?_;refine aa 0 ?_;exact .drop 1 1 (.done (gB (x:=⟨ev,jo,false,an,.quiet q,node,has,nx,out⟩) (n:=.quiet q) rfl rfl (v8 aq) hb aW rfl rfl r))
  ·exact .done (gU (x:=⟨ev,jo,false,an,.quiet q,node,has,nx,out⟩) (n:=.quiet q) rfl rfl (v8 aq) hb aW r .ag [] trivial)
 |false=>
  refine .fwd 1 ?_;refine .sched [5] (upto [5] 11 0) (by kernel_rfl) ?_;refine aa 0 ?_;refine aN [] (dI _ _ _) ?_;refine InvAt.mk _ wQuiet_ ?_;refine iC [_] aq (fun σ=>Ga M r q m d σ hm) (fun m' aW hb=>?_) (fun m' aW hb=>?_)
  ·refine aw [] (E2 w r s l who ev jo false an node has nx out _ _ _ _ _) ?_;refine ah 0 ?_;refine ah 0 ?_;refine aa 0 ?_;exact .drop 1 1 (.done (gB (x:=⟨ev,jo,false,an,.quiet q,node,has,nx,out⟩) (n:=.quiet q) rfl rfl (v8 aq) hb aW rfl rfl r))
  ·exact .done (gU (x:=⟨ev,jo,false,an,.quiet q,node,has,nx,out⟩) (n:=.quiet q) rfl rfl (v8 aq) hb aW r .ag [] trivial)
theorem YZ(M:AMem)(w r:Nat)(c:AV)(acc:Hp)(s:Sy)(l:Lay)(who:Int)(ev jo:Int)(an:Int)(q:Ck)(node:Int)(has:Bool)(nx out:List Int)(d:Int)(m:M.S)(σ:Hp)(hm:M.O.free (M.abs m)):
  ACalls Tryz.prog 390 [.ptr w 0,M.v,.int .i64 d] (WB s l who w r c acc ⟨ev,jo,false,an,.clear q,node,has,nx,out⟩++(M.B m++σ)) (oQ M s l who w (de M.O s l who ⟨ev,jo,false,an,.clear q,node,has,nx,out⟩ d (M.abs m)) σ):=by
 refine ao Tryz.func390 ?_;refine aa 0 ?_;refine aa 0 ?_;refine aa 0 ?_;obtain⟨q',a',b',aq⟩:∃q' a' b',oG M.O q (M.abs m)=(q',a',b'):=⟨_,_,_,rfl⟩
 obtain⟨u1,u2,u3,u4⟩:=q';refine .fwd 1 ?_;refine .sched [5] (upto [5] 11 0) (by kernel_rfl) ?_;refine aa 0 ?_;refine aN [] (dI _ _ _) ?_;refine InvAt.mk _ wClear_ ?_;refine iC [_] aq (fun σ=>Tv M r q m d σ hm) (fun m' aW hb=>?_) (fun m' aW hb=>?_)
 ·refine aw [] (Qg w r s l who ev jo false an node has nx out _ _ _ _ _) ?_;refine ah 0 ?_;refine ah 0 ?_;refine aa 0 ?_;exact .drop 1 1 (.done (gB (x:=⟨ev,jo,false,an,.clear q,node,has,nx,out⟩) (n:=.clear q) rfl rfl (E7 aq) hb aW rfl rfl r))
 ·exact .done (gU (x:=⟨ev,jo,false,an,.clear q,node,has,nx,out⟩) (n:=.clear q) rfl rfl (E7 aq) hb aW r .ag [] trivial)
theorem aax(M:AMem)(w r:Nat)(c:AV)(acc:Hp)(s:Sy)(l:Lay)(who:Int)(ev jo:Int)(an:Int)(q:Tk)(node:Int)(has:Bool)(nx out:List Int)(d:Int)(m:M.S)(σ:Hp)(hm:M.O.free (M.abs m))(o3:vc l nx (.take q)):
  ACalls Tryz.prog 390 [.ptr w 0,M.v,.int .i64 d] (WB s l who w r c acc ⟨ev,jo,false,an,.take q,node,has,nx,out⟩++(M.B m++σ)) (oQ M s l who w (de M.O s l who ⟨ev,jo,false,an,.take q,node,has,nx,out⟩ d (M.abs m)) σ):=by
 refine ao Tryz.func390 ?_;refine aa 0 ?_;refine aa 0 ?_;refine aa 0 ?_;obtain⟨q',a',b',aq⟩:∃q' a' b',lJ M.O q (M.abs m)=(q',a',b'):=⟨_,_,_,rfl⟩
 obtain⟨u1,u2,u3,u4,u5,u6⟩:=q';cases u4 with
 |true=>
  refine .fwd 1 ?_;refine .sched [5] (upto [5] 11 0) (by kernel_rfl) ?_;refine aa 0 ?_;refine aN [] (dI _ _ _) ?_;refine InvAt.mk _ wTake_ ?_;refine iC [_] aq (fun σ=>GB M r q m d σ hm) (fun m' aW hb=>?_) (fun m' aW hb=>?_)
  ·refine aw [] (Qc w r s l who ev jo false an node has nx out _ _ _ _ _ _) ?_;refine ah 0 ?_;refine ah 0 ?_;refine aa 0 ?_;exact .drop 1 1 (.done (gB (x:=⟨ev,jo,false,an,.take q,node,has,nx,out⟩) (n:=.take q) rfl rfl (uj aq) hb aW rfl rfl r))
  ·exact .done (gU (x:=⟨ev,jo,false,an,.take q,node,has,nx,out⟩) (n:=.take q) rfl rfl (uj aq) hb aW r .ag [] trivial)
 |false=>
  refine .fwd 1 ?_;refine .sched [5] (upto [5] 11 0) (by kernel_rfl) ?_;refine aa 0 ?_;refine aN [] (dI _ _ _) ?_;refine InvAt.mk _ wTake_ ?_;refine iC [_] aq (fun σ=>GB M r q m d σ hm) (fun m' aW hb=>?_) (fun m' aW hb=>?_)
  ·refine aw [] (Qd w r s l who ev jo false an node has nx out _ _ _ _ _ _ o3) ?_;refine ah 0 ?_;refine ah 0 ?_;refine aa 0 ?_;exact .drop 1 1 (.done (gB (x:=⟨ev,jo,false,an,.take q,node,has,nx,out⟩) (n:=.take q) rfl rfl (uj aq) hb aW rfl rfl r))
  ·exact .done (gU (x:=⟨ev,jo,false,an,.take q,node,has,nx,out⟩) (n:=.take q) rfl rfl (uj aq) hb aW r .ag [] trivial)
theorem aaz(M:AMem)(w r:Nat)(c:AV)(acc:Hp)(s:Sy)(l:Lay)(who:Int)(ev jo:Int)(an:Int)(q:DQ)(node:Int)(has:Bool)(nx out:List Int)(d:Int)(m:M.S)(σ:Hp)(hm:M.O.free (M.abs m))(o3:vc l nx (.push q)):
  ACalls Tryz.prog 390 [.ptr w 0,M.v,.int .i64 d] (WB s l who w r c acc ⟨ev,jo,false,an,.push q,node,has,nx,out⟩++(M.B m++σ)) (oQ M s l who w (de M.O s l who ⟨ev,jo,false,an,.push q,node,has,nx,out⟩ d (M.abs m)) σ):=by
 refine ao Tryz.func390 ?_;refine aa 0 ?_;refine aa 0 ?_;refine aa 0 ?_;obtain⟨q',a',b',aq⟩:∃q' a' b',kz M.O q (M.abs m)=(q',a',b'):=⟨_,_,_,rfl⟩
 refine .fwd 1 ?_;refine .sched [5] (upto [5] 11 0) (by kernel_rfl) ?_;refine aa 0 ?_;refine aN [] (dI _ _ _) ?_;refine InvAt.mk _ wPush_ ?_;refine iC [_] aq (fun σ=>Ud M r q m d σ hm (by have:=o3.1.1;omega) o3.1.2) (fun m' aW hb=>?_) (fun m' aW hb=>?_)
 ·refine aw [] (Rw w r s l who ev jo false an node has nx out _ _ o3.2) ?_;refine ah 0 ?_;refine ah 0 ?_;refine aa 0 ?_;exact .drop 1 1 (.done (gB (x:=⟨ev,jo,false,an,.push q,node,has,nx,out⟩) (n:=.push q) rfl rfl (BP aq) hb aW rfl rfl r))
 ·exact .done (gU (x:=⟨ev,jo,false,an,.push q,node,has,nx,out⟩) (n:=.push q) rfl rfl (BP aq) hb aW r .ag [] trivial)
theorem Xs(M:AMem)(w r:Nat)(c:AV)(acc:Hp)(s:Sy)(l:Lay)(who:Int)(ev jo:Int)(an:Int)(q:Rk)(node:Int)(has:Bool)(nx out:List Int)(d:Int)(m:M.S)(σ:Hp)(hm:M.O.free (M.abs m)):
  ACalls Tryz.prog 390 [.ptr w 0,M.v,.int .i64 d] (WB s l who w r c acc ⟨ev,jo,false,an,.ib q,node,has,nx,out⟩++(M.B m++σ)) (oQ M s l who w (de M.O s l who ⟨ev,jo,false,an,.ib q,node,has,nx,out⟩ d (M.abs m)) σ):=by
 refine ao Tryz.func390 ?_;refine aa 0 ?_;refine aa 0 ?_;refine aa 0 ?_;obtain⟨q',a',b',aq⟩:∃q' a' b',pJ M.O q (M.abs m)=(q',a',b'):=⟨_,_,_,rfl⟩
 refine .fwd 1 ?_;refine .sched [5] (upto [5] 11 0) (by kernel_rfl) ?_;refine aa 0 ?_;refine aN [] (dI _ _ _) ?_;refine InvAt.mk _ wRetire_ ?_;refine iC [_] aq (fun σ=>Sj M r q m d σ hm) (fun m' aW hb=>?_) (fun m' aW hb=>?_)
 ·refine aw [] (O9 w r s l who ev jo false an node has nx out _ _) ?_;refine ah 0 ?_;refine ah 0 ?_;refine aa 0 ?_;exact .drop 1 1 (.done (gB (x:=⟨ev,jo,false,an,.ib q,node,has,nx,out⟩) (n:=.ib q) rfl rfl (ET aq) hb aW rfl rfl r))
 ·exact .done (gU (x:=⟨ev,jo,false,an,.ib q,node,has,nx,out⟩) (n:=.ib q) rfl rfl (ET aq) hb aW r .ag [] trivial)
theorem aaB(M:AMem)(w r:Nat)(c:AV)(acc:Hp)(s:Sy)(l:Lay)(who:Int)(ev jo:Int)(an:Int)(q:Jn)(node:Int)(has:Bool)(nx out:List Int)(d:Int)(m:M.S)(σ:Hp)(hm:M.O.free (M.abs m))(o3:vc l nx (.join q)):
  ACalls Tryz.prog 390 [.ptr w 0,M.v,.int .i64 d] (WB s l who w r c acc ⟨ev,jo,false,an,.join q,node,has,nx,out⟩++(M.B m++σ)) (oQ M s l who w (de M.O s l who ⟨ev,jo,false,an,.join q,node,has,nx,out⟩ d (M.abs m)) σ):=by
 refine ao Tryz.func390 ?_;refine aa 0 ?_;refine aa 0 ?_;refine aa 0 ?_;obtain⟨q',a',b',aq⟩:∃q' a' b',jS M.O q (M.abs m)=(q',a',b'):=⟨_,_,_,rfl⟩
 obtain⟨u1,u2,u3,u4,u5,u6,u7,u8,u9,u10⟩:=q';cases u5 with
 |true=>
  refine .fwd 1 ?_;refine .sched [5] (upto [5] 11 0) (by kernel_rfl) ?_;refine aa 0 ?_;refine aN [] (dI _ _ _) ?_;refine InvAt.mk _ wJoin_ ?_;refine iC [_] aq (fun σ=>GG M r q m d σ hm (by have:=o3.1;omega)) (fun m' aW hb=>?_) (fun m' aW hb=>?_)
  ·refine aw [] (Qe w r s l who ev jo false an node has nx out _ _ _ _ _ _ _ _ _ _) ?_;refine ah 0 ?_;refine ah 0 ?_;refine aa 0 ?_;exact .drop 1 1 (.done (gB (x:=⟨ev,jo,false,an,.join q,node,has,nx,out⟩) (n:=.join q) rfl rfl (uk aq) hb aW rfl rfl r))
  ·exact .done (gU (x:=⟨ev,jo,false,an,.join q,node,has,nx,out⟩) (n:=.join q) rfl rfl (uk aq) hb aW r .ag [] trivial)
 |false=>
  refine .fwd 1 ?_;refine .sched [5] (upto [5] 11 0) (by kernel_rfl) ?_;refine aa 0 ?_;refine aN [] (dI _ _ _) ?_;refine InvAt.mk _ wJoin_ ?_;refine iC [_] aq (fun σ=>GG M r q m d σ hm (by have:=o3.1;omega)) (fun m' aW hb=>?_) (fun m' aW hb=>?_)
  ·refine aw [] (Qf w r s l who ev jo false an node has nx out _ _ _ _ _ _ _ _ _ _ o3.2) ?_;refine ah 0 ?_;refine ah 0 ?_;refine aa 0 ?_;exact .drop 1 1 (.done (gB (x:=⟨ev,jo,false,an,.join q,node,has,nx,out⟩) (n:=.join q) rfl rfl (uk aq) hb aW rfl rfl r))
  ·exact .done (gU (x:=⟨ev,jo,false,an,.join q,node,has,nx,out⟩) (n:=.join q) rfl rfl (uk aq) hb aW r .ag [] trivial)
theorem aay(M:AMem)(w r:Nat)(c:AV)(acc:Hp)(s:Sy)(l:Lay)(who:Int)(ev jo:Int)(an:Int)(x:List Int)(node:Int)(has:Bool)(nx out:List Int)(d:Int)(m:M.S)(σ:Hp)(hm:M.O.free (M.abs m))(hf:Fit s)(hv:∀a,bO (M.O.ld (M.abs m) a).1)(o3:vc l nx (.read x))(Lf:ky c acc x∧(x=[]→c=.ag)):
  ACalls Tryz.prog 390 [.ptr w 0,M.v,.int .i64 d] (WB s l who w r c acc ⟨ev,jo,false,an,.read x,node,has,nx,out⟩++(M.B m++σ)) (oQ M s l who w (de M.O s l who ⟨ev,jo,false,an,.read x,node,has,nx,out⟩ d (M.abs m)) σ):=by
 refine ao Tryz.func390 ?_;refine aa 0 ?_;refine aa 0 ?_;refine aa 0 ?_;obtain⟨o4,o5⟩:=o3;obtain⟨my,Ut⟩:=Lf
 by_cases ab:x.length<cw l.words
 ·have HC:=z8 l.words;have aq:nA M.O l (dX l node) x (M.abs m)=(x++[(M.O.ld (M.abs m) (wr (dX l node+(x.length:Nat)))).1],(M.O.ld (M.abs m) (wr (dX l node+(x.length:Nat)))).2,decide (x.length+1=cw l.words)):=az ab;have qg:bC (x++[(M.O.ld (M.abs m) (wr (dX l node+(x.length:Nat)))).1]):=fun z hz=>by rcases bQ.1 hz with h | h;exact o5 z h;rw[bj.1 h];exact hv _
  have hx3:(x++[(M.O.ld (M.abs m) (wr (dX l node+(x.length:Nat)))).1]).length=x.length+1:=by simp
  refine .fwd 1 ?_;refine .sched [5] (upto [5] 11 0) (by kernel_rfl) ?_;refine aa 0 ?_;refine aN [] (dI _ _ _) ?_;refine InvAt.mk _ wRead_ ?_;refine Ta hm ab my (fun m' b aW he=>?_) (fun m' b aW he=>?_)
  ·refine .jZ 2 b 0 (x++[(M.O.ld (M.abs m) (wr (dX l node+(x.length:Nat)))).1]).length 1 _ (.int .u64) (x++[(M.O.ld (M.abs m) (wr (dX l node+(x.length:Nat)))).1]) rfl ?_ ⟨rfl,rfl,by decide⟩ 1 3 r _ rfl rfl ?_
   ·rw[List.drop_zero,← nz];exact List.take_of_length_le (by simp[aU])
   refine aw [] (Fl w r s l who ev jo false an node has nx out (x++[(M.O.ld (M.abs m) (wr (dX l node+(x.length:Nat)))).1]) _ _ _ _ _ _ _ _ hf qg (by omega)) ?_;refine ah 0 ?_;refine ah 0 ?_;refine aa 0 ?_;exact .drop 1 1 (.done (gB (x:=⟨ev,jo,false,an,.read x,node,has,nx,out⟩) (n:=.read x) rfl rfl (xZ aq) (aX he) aW rfl rfl r))
  ·exact .done (gU (x:=⟨ev,jo,false,an,.read x,node,has,nx,out⟩) (n:=.read x) rfl rfl (xZ aq) (decide_eq_false he) aW r (.af b 0 (x++[(M.O.ld (M.abs m) (wr (dX l node+(x.length:Nat)))).1]).length 1) [(b,aU (x++[(M.O.ld (M.abs m) (wr (dX l node+(x.length:Nat)))).1]))] ⟨.af b (x++[(M.O.ld (M.abs m) (wr (dX l node+(x.length:Nat)))).1]),fun h=>absurd h (by simp)⟩)
 ·obtain⟨h0,rfl⟩:=o4.resolve_left ab;generalize hz:([]:List Int)=z0 at my;cases my with
  |af b z=>exact absurd (Ut rfl) (by simp)
  |nil=>
  have aq:nA M.O l (dX l node) [] (M.abs m)=([],M.abs m,true):=aB ab;refine .fwd 1 ?_;refine .sched [5] (upto [5] 11 0) (by kernel_rfl) ?_;refine aa 0 ?_;refine aN [] (dI _ _ _) ?_;refine InvAt.mk _ wRead_ ?_;refine aw [1] (Sk M r _ _ _ _ _ _ d _ h0) ?_;refine FK 0 3 r _ (.int .u64) rfl rfl ?_;refine aw [1] (Fl w r s l who ev jo false an node has nx out [] _ _ _ _ _ _ _ _ hf o5 (aV _)) ?_;refine ah 0 ?_;refine ah 0 ?_;refine aa 0 ?_;exact .drop 1 1 (.done (gB (x:=⟨ev,jo,false,an,.read [],node,has,nx,out⟩) (n:=.read []) rfl rfl (xZ aq) rfl rfl rfl rfl r))
set_option maxHeartbeats 4000000
theorem aau{l:Lay}{who an node:Int}{nx out:List Int}{d:Int}{x:List Int}(h:jE l who an node nx out d=.read x):x=[]:=by
 unfold jE at h
 repeat' (first | (cases h;rfl) | cases h | split at h)
theorem aaA(M:AMem)(w r0:Nat)(c:AV)(acc:Hp)(s:Sy)(l:Lay)(who:Int)(ev jo:Int)(an:Int)(node:Int)(has:Bool)(nx out:List Int)(d:Int)(m:M.S)(σ:Hp)(hm:M.O.free (M.abs m))(hf:Fit s)(hv:∀a,bO (M.O.ld (M.abs m) a).1)(o1:an=5∨an=6∨an=7→0<nx.length)(o2:an=1→nK l≠0∧l.k≠0):
  ACalls Tryz.prog 390 [.ptr w 0,M.v,.int .i64 d] (WB s l who w r0 c acc ⟨ev,jo,false,an,.none,node,has,nx,out⟩++(M.B m++σ)) (oQ M s l who w (de M.O s l who ⟨ev,jo,false,an,.none,node,has,nx,out⟩ d (M.abs m)) σ):=by
 refine ao Tryz.func390 ?_;refine aa 0 ?_;refine aa 0 ?_;refine aa 0 ?_;refine .mk [] _ (aeN w s l who ev jo false an .nilif node has nx out d _ o1 o2) ?_;rintro _ _ ⟨r,rfl,rfl⟩;have o3:vc l nx (jE l who an node nx out d):=abT o1;have h0:=aat l who an node nx out d;generalize gG:jE l who an node nx out d=n at o3 h0;cases n with
 |none=>exact absurd rfl h0
 |pop q=>
  obtain⟨q',a',b',aq⟩:∃q' a' b',jf M.O q (M.abs m)=(q',a',b'):=⟨_,_,_,rfl⟩
  obtain⟨u1,u2,u3,u4,u5,u6,u7,u8,u9⟩:=q';cases u4 with
  |true=>
   refine ah 1 ?_;refine gn.dT (.pull [1] (.refl _)) ?_;refine .sched [5] (upto [5] 11 0) (by kernel_rfl) ?_;refine aa 0 ?_;refine aN [] (dI _ _ _) ?_;refine InvAt.mk _ wPop_ ?_;refine iC [_] aq (fun σ=>G4 M r q m d σ hm (by have:=o3.1;omega) o3.2) (fun m' aW hb=>?_) (fun m' aW hb=>?_)
   ·refine aw [] (Ry w r s l who ev jo false an node has nx out _ _ _ _ _ _ _ _ _) ?_;refine ah 0 ?_;refine ah 0 ?_;refine aa 0 ?_;exact .drop 1 1 (.done (gB (x:=⟨ev,jo,false,an,.none,node,has,nx,out⟩) (n:=.pop q) rfl gG (uv aq) hb aW rfl rfl r))
   ·exact .done (gU (x:=⟨ev,jo,false,an,.none,node,has,nx,out⟩) (n:=.pop q) rfl gG (uv aq) hb aW r .ag [] trivial)
  |false=>
   refine ah 1 ?_;refine gn.dT (.pull [1] (.refl _)) ?_;refine .sched [5] (upto [5] 11 0) (by kernel_rfl) ?_;refine aa 0 ?_;refine aN [] (dI _ _ _) ?_;refine InvAt.mk _ wPop_ ?_;refine iC [_] aq (fun σ=>G4 M r q m d σ hm (by have:=o3.1;omega) o3.2) (fun m' aW hb=>?_) (fun m' aW hb=>?_)
   ·refine aw [] (Rz w r s l who ev jo false an node has nx out _ _ _ _ _ _ _ _ _) ?_;refine ah 0 ?_;refine ah 0 ?_;refine aa 0 ?_;exact .drop 1 1 (.done (gB (x:=⟨ev,jo,false,an,.none,node,has,nx,out⟩) (n:=.pop q) rfl gG (uv aq) hb aW rfl rfl r))
   ·exact .done (gU (x:=⟨ev,jo,false,an,.none,node,has,nx,out⟩) (n:=.pop q) rfl gG (uv aq) hb aW r .ag [] trivial)
 |ft q=>
  obtain⟨q',a',b',aq⟩:∃q' a' b',j8 M.O q (M.abs m)=(q',a',b'):=⟨_,_,_,rfl⟩
  obtain⟨u1,u2,u3,u4,u5,u6,u7,u8,u9⟩:=q';cases u4 with
  |true=>
   refine ah 1 ?_;refine gn.dT (.pull [1] (.refl _)) ?_;refine .sched [5] (upto [5] 11 0) (by kernel_rfl) ?_;refine aa 0 ?_;refine aN [] (dI _ _ _) ?_;refine InvAt.mk _ wSteal_ ?_;refine iC [_] aq (fun σ=>F9 M r q m d σ hm (by have:=o3.1;omega) o3.2) (fun m' aW hb=>?_) (fun m' aW hb=>?_)
   ·refine aw [] (O7 w r s l who ev jo false an node has nx out _ _ _ _ _ _ _ _ _) ?_;refine ah 0 ?_;refine ah 0 ?_;refine aa 0 ?_;exact .drop 1 1 (.done (gB (x:=⟨ev,jo,false,an,.none,node,has,nx,out⟩) (n:=.ft q) rfl gG (uc aq) hb aW rfl rfl r))
   ·exact .done (gU (x:=⟨ev,jo,false,an,.none,node,has,nx,out⟩) (n:=.ft q) rfl gG (uc aq) hb aW r .ag [] trivial)
  |false=>
   refine ah 1 ?_;refine gn.dT (.pull [1] (.refl _)) ?_;refine .sched [5] (upto [5] 11 0) (by kernel_rfl) ?_;refine aa 0 ?_;refine aN [] (dI _ _ _) ?_;refine InvAt.mk _ wSteal_ ?_;refine iC [_] aq (fun σ=>F9 M r q m d σ hm (by have:=o3.1;omega) o3.2) (fun m' aW hb=>?_) (fun m' aW hb=>?_)
   ·refine aw [] (O8 w r s l who ev jo false an node has nx out _ _ _ _ _ _ _ _ _) ?_;refine ah 0 ?_;refine ah 0 ?_;refine aa 0 ?_;exact .drop 1 1 (.done (gB (x:=⟨ev,jo,false,an,.none,node,has,nx,out⟩) (n:=.ft q) rfl gG (uc aq) hb aW rfl rfl r))
   ·exact .done (gU (x:=⟨ev,jo,false,an,.none,node,has,nx,out⟩) (n:=.ft q) rfl gG (uc aq) hb aW r .ag [] trivial)
 |quiet q=>
  obtain⟨q',a',b',aq⟩:∃q' a' b',oz M.O q (M.abs m)=(q',a',b'):=⟨_,_,_,rfl⟩
  obtain⟨u1,u2,u3,u4⟩:=q';cases u3 with
  |true=>
   refine ah 1 ?_;refine gn.dT (.pull [1] (.refl _)) ?_;refine .sched [5] (upto [5] 11 0) (by kernel_rfl) ?_;refine aa 0 ?_;refine aN [] (dI _ _ _) ?_;refine InvAt.mk _ wQuiet_ ?_;refine iC [_] aq (fun σ=>Ga M r q m d σ hm) (fun m' aW hb=>?_) (fun m' aW hb=>?_)
   ·refine aw [] (E2 w r s l who ev jo false an node has nx out _ _ _ _ _) ?_;refine ah 0 ?_;refine ah 0 ?_;refine aa 0 ?_;exact .drop 1 1 (.done (gB (x:=⟨ev,jo,false,an,.none,node,has,nx,out⟩) (n:=.quiet q) rfl gG (v8 aq) hb aW rfl rfl r))
   ·exact .done (gU (x:=⟨ev,jo,false,an,.none,node,has,nx,out⟩) (n:=.quiet q) rfl gG (v8 aq) hb aW r .ag [] trivial)
  |false=>
   refine ah 1 ?_;refine gn.dT (.pull [1] (.refl _)) ?_;refine .sched [5] (upto [5] 11 0) (by kernel_rfl) ?_;refine aa 0 ?_;refine aN [] (dI _ _ _) ?_;refine InvAt.mk _ wQuiet_ ?_;refine iC [_] aq (fun σ=>Ga M r q m d σ hm) (fun m' aW hb=>?_) (fun m' aW hb=>?_)
   ·refine aw [] (E2 w r s l who ev jo false an node has nx out _ _ _ _ _) ?_;refine ah 0 ?_;refine ah 0 ?_;refine aa 0 ?_;exact .drop 1 1 (.done (gB (x:=⟨ev,jo,false,an,.none,node,has,nx,out⟩) (n:=.quiet q) rfl gG (v8 aq) hb aW rfl rfl r))
   ·exact .done (gU (x:=⟨ev,jo,false,an,.none,node,has,nx,out⟩) (n:=.quiet q) rfl gG (v8 aq) hb aW r .ag [] trivial)
 |clear q=>
  obtain⟨q',a',b',aq⟩:∃q' a' b',oG M.O q (M.abs m)=(q',a',b'):=⟨_,_,_,rfl⟩
  obtain⟨u1,u2,u3,u4⟩:=q';refine ah 1 ?_;refine gn.dT (.pull [1] (.refl _)) ?_;refine .sched [5] (upto [5] 11 0) (by kernel_rfl) ?_;refine aa 0 ?_;refine aN [] (dI _ _ _) ?_;refine InvAt.mk _ wClear_ ?_;refine iC [_] aq (fun σ=>Tv M r q m d σ hm) (fun m' aW hb=>?_) (fun m' aW hb=>?_)
  ·refine aw [] (Qg w r s l who ev jo false an node has nx out _ _ _ _ _) ?_;refine ah 0 ?_;refine ah 0 ?_;refine aa 0 ?_;exact .drop 1 1 (.done (gB (x:=⟨ev,jo,false,an,.none,node,has,nx,out⟩) (n:=.clear q) rfl gG (E7 aq) hb aW rfl rfl r))
  ·exact .done (gU (x:=⟨ev,jo,false,an,.none,node,has,nx,out⟩) (n:=.clear q) rfl gG (E7 aq) hb aW r .ag [] trivial)
 |read x=>
  obtain rfl:x=[]:=aau gG;have Lf:ky .ag [] []∧(([]:List Int)=[]→AV.ag=.ag):=⟨.nil,fun _=>rfl⟩
  obtain⟨o4,o5⟩:=o3;obtain⟨my,Ut⟩:=Lf
  by_cases ab:([]:List Int).length<cw l.words
  ·have HC:=z8 l.words;have aq:nA M.O l (dX l node) ([]:List Int) (M.abs m)=(([]:List Int)++[(M.O.ld (M.abs m) (wr (dX l node+(([]:List Int).length:Nat)))).1],(M.O.ld (M.abs m) (wr (dX l node+(([]:List Int).length:Nat)))).2,decide (([]:List Int).length+1=cw l.words)):=az ab;have qg:bC (([]:List Int)++[(M.O.ld (M.abs m) (wr (dX l node+(([]:List Int).length:Nat)))).1]):=fun z hz=>by rcases bQ.1 hz with h | h;exact o5 z h;rw[bj.1 h];exact hv _
   have hx3:(([]:List Int)++[(M.O.ld (M.abs m) (wr (dX l node+(([]:List Int).length:Nat)))).1]).length=([]:List Int).length+1:=by simp
   refine ah 1 ?_;refine gn.dT (.pull [1] (.refl _)) ?_;refine .sched [5] (upto [5] 11 0) (by kernel_rfl) ?_;refine aa 0 ?_;refine aN [] (dI _ _ _) ?_;refine InvAt.mk _ wRead_ ?_;refine Ta hm ab my (fun m' b aW he=>?_) (fun m' b aW he=>?_)
   ·refine .jZ 2 b 0 (([]:List Int)++[(M.O.ld (M.abs m) (wr (dX l node+(([]:List Int).length:Nat)))).1]).length 1 _ (.int .u64) (([]:List Int)++[(M.O.ld (M.abs m) (wr (dX l node+(([]:List Int).length:Nat)))).1]) rfl ?_ ⟨rfl,rfl,by decide⟩ 1 3 r _ rfl rfl ?_
    ·rw[List.drop_zero,← nz];exact List.take_of_length_le (by simp[aU])
    refine aw [] (Fl w r s l who ev jo false an node has nx out (([]:List Int)++[(M.O.ld (M.abs m) (wr (dX l node+(([]:List Int).length:Nat)))).1]) _ _ _ _ _ _ _ _ hf qg (by omega)) ?_;refine ah 0 ?_;refine ah 0 ?_;refine aa 0 ?_;exact .drop 1 1 (.done (gB (x:=⟨ev,jo,false,an,.none,node,has,nx,out⟩) (n:=.read ([]:List Int)) rfl gG (xZ aq) (aX he) aW rfl rfl r))
   ·exact .done (gU (x:=⟨ev,jo,false,an,.none,node,has,nx,out⟩) (n:=.read ([]:List Int)) rfl gG (xZ aq) (decide_eq_false he) aW r (.af b 0 (([]:List Int)++[(M.O.ld (M.abs m) (wr (dX l node+(([]:List Int).length:Nat)))).1]).length 1) [(b,aU (([]:List Int)++[(M.O.ld (M.abs m) (wr (dX l node+(([]:List Int).length:Nat)))).1]))] ⟨.af b (([]:List Int)++[(M.O.ld (M.abs m) (wr (dX l node+(([]:List Int).length:Nat)))).1]),fun h=>absurd h (by simp)⟩)
  ·obtain⟨h0,-⟩:=o4.resolve_left ab;generalize hz:([]:List Int)=z0 at my;cases my with
   |nil=>
   have aq:nA M.O l (dX l node) [] (M.abs m)=([],M.abs m,true):=aB ab;refine ah 1 ?_;refine gn.dT (.pull [1] (.refl _)) ?_;refine .sched [5] (upto [5] 11 0) (by kernel_rfl) ?_;refine aa 0 ?_;refine aN [] (dI _ _ _) ?_;refine InvAt.mk _ wRead_ ?_;refine aw [1] (Sk M r _ _ _ _ _ _ d _ h0) ?_;refine FK 0 3 r _ (.int .u64) rfl rfl ?_;refine aw [1] (Fl w r s l who ev jo false an node has nx out [] _ _ _ _ _ _ _ _ hf o5 (aV _)) ?_;refine ah 0 ?_;refine ah 0 ?_;refine aa 0 ?_;exact .drop 1 1 (.done (gB (x:=⟨ev,jo,false,an,.none,node,has,nx,out⟩) (n:=.read []) rfl gG (xZ aq) rfl rfl rfl rfl r))
 |join q=>
  obtain⟨q',a',b',aq⟩:∃q' a' b',jS M.O q (M.abs m)=(q',a',b'):=⟨_,_,_,rfl⟩
  obtain⟨u1,u2,u3,u4,u5,u6,u7,u8,u9,u10⟩:=q';cases u5 with
  |true=>
   refine ah 1 ?_;refine gn.dT (.pull [1] (.refl _)) ?_;refine .sched [5] (upto [5] 11 0) (by kernel_rfl) ?_;refine aa 0 ?_;refine aN [] (dI _ _ _) ?_;refine InvAt.mk _ wJoin_ ?_;refine iC [_] aq (fun σ=>GG M r q m d σ hm (by have:=o3.1;omega)) (fun m' aW hb=>?_) (fun m' aW hb=>?_)
   ·refine aw [] (Qe w r s l who ev jo false an node has nx out _ _ _ _ _ _ _ _ _ _) ?_;refine ah 0 ?_;refine ah 0 ?_;refine aa 0 ?_;exact .drop 1 1 (.done (gB (x:=⟨ev,jo,false,an,.none,node,has,nx,out⟩) (n:=.join q) rfl gG (uk aq) hb aW rfl rfl r))
   ·exact .done (gU (x:=⟨ev,jo,false,an,.none,node,has,nx,out⟩) (n:=.join q) rfl gG (uk aq) hb aW r .ag [] trivial)
  |false=>
   refine ah 1 ?_;refine gn.dT (.pull [1] (.refl _)) ?_;refine .sched [5] (upto [5] 11 0) (by kernel_rfl) ?_;refine aa 0 ?_;refine aN [] (dI _ _ _) ?_;refine InvAt.mk _ wJoin_ ?_;refine iC [_] aq (fun σ=>GG M r q m d σ hm (by have:=o3.1;omega)) (fun m' aW hb=>?_) (fun m' aW hb=>?_)
   ·refine aw [] (Qf w r s l who ev jo false an node has nx out _ _ _ _ _ _ _ _ _ _ o3.2) ?_;refine ah 0 ?_;refine ah 0 ?_;refine aa 0 ?_;exact .drop 1 1 (.done (gB (x:=⟨ev,jo,false,an,.none,node,has,nx,out⟩) (n:=.join q) rfl gG (uk aq) hb aW rfl rfl r))
   ·exact .done (gU (x:=⟨ev,jo,false,an,.none,node,has,nx,out⟩) (n:=.join q) rfl gG (uk aq) hb aW r .ag [] trivial)
 |take q=>
  obtain⟨q',a',b',aq⟩:∃q' a' b',lJ M.O q (M.abs m)=(q',a',b'):=⟨_,_,_,rfl⟩
  obtain⟨u1,u2,u3,u4,u5,u6⟩:=q';cases u4 with
  |true=>
   refine ah 1 ?_;refine gn.dT (.pull [1] (.refl _)) ?_;refine .sched [5] (upto [5] 11 0) (by kernel_rfl) ?_;refine aa 0 ?_;refine aN [] (dI _ _ _) ?_;refine InvAt.mk _ wTake_ ?_;refine iC [_] aq (fun σ=>GB M r q m d σ hm) (fun m' aW hb=>?_) (fun m' aW hb=>?_)
   ·refine aw [] (Qc w r s l who ev jo false an node has nx out _ _ _ _ _ _) ?_;refine ah 0 ?_;refine ah 0 ?_;refine aa 0 ?_;exact .drop 1 1 (.done (gB (x:=⟨ev,jo,false,an,.none,node,has,nx,out⟩) (n:=.take q) rfl gG (uj aq) hb aW rfl rfl r))
   ·exact .done (gU (x:=⟨ev,jo,false,an,.none,node,has,nx,out⟩) (n:=.take q) rfl gG (uj aq) hb aW r .ag [] trivial)
  |false=>
   refine ah 1 ?_;refine gn.dT (.pull [1] (.refl _)) ?_;refine .sched [5] (upto [5] 11 0) (by kernel_rfl) ?_;refine aa 0 ?_;refine aN [] (dI _ _ _) ?_;refine InvAt.mk _ wTake_ ?_;refine iC [_] aq (fun σ=>GB M r q m d σ hm) (fun m' aW hb=>?_) (fun m' aW hb=>?_)
   ·refine aw [] (Qd w r s l who ev jo false an node has nx out _ _ _ _ _ _ o3) ?_;refine ah 0 ?_;refine ah 0 ?_;refine aa 0 ?_;exact .drop 1 1 (.done (gB (x:=⟨ev,jo,false,an,.none,node,has,nx,out⟩) (n:=.take q) rfl gG (uj aq) hb aW rfl rfl r))
   ·exact .done (gU (x:=⟨ev,jo,false,an,.none,node,has,nx,out⟩) (n:=.take q) rfl gG (uj aq) hb aW r .ag [] trivial)
 |push q=>
  obtain⟨q',a',b',aq⟩:∃q' a' b',kz M.O q (M.abs m)=(q',a',b'):=⟨_,_,_,rfl⟩
  refine ah 1 ?_;refine gn.dT (.pull [1] (.refl _)) ?_;refine .sched [5] (upto [5] 11 0) (by kernel_rfl) ?_;refine aa 0 ?_;refine aN [] (dI _ _ _) ?_;refine InvAt.mk _ wPush_ ?_;refine iC [_] aq (fun σ=>Ud M r q m d σ hm (by have:=o3.1.1;omega) o3.1.2) (fun m' aW hb=>?_) (fun m' aW hb=>?_)
  ·refine aw [] (Rw w r s l who ev jo false an node has nx out _ _ o3.2) ?_;refine ah 0 ?_;refine ah 0 ?_;refine aa 0 ?_;exact .drop 1 1 (.done (gB (x:=⟨ev,jo,false,an,.none,node,has,nx,out⟩) (n:=.push q) rfl gG (BP aq) hb aW rfl rfl r))
  ·exact .done (gU (x:=⟨ev,jo,false,an,.none,node,has,nx,out⟩) (n:=.push q) rfl gG (BP aq) hb aW r .ag [] trivial)
 |ib q=>
  obtain⟨q',a',b',aq⟩:∃q' a' b',pJ M.O q (M.abs m)=(q',a',b'):=⟨_,_,_,rfl⟩
  refine ah 1 ?_;refine gn.dT (.pull [1] (.refl _)) ?_;refine .sched [5] (upto [5] 11 0) (by kernel_rfl) ?_;refine aa 0 ?_;refine aN [] (dI _ _ _) ?_;refine InvAt.mk _ wRetire_ ?_;refine iC [_] aq (fun σ=>Sj M r q m d σ hm) (fun m' aW hb=>?_) (fun m' aW hb=>?_)
  ·refine aw [] (O9 w r s l who ev jo false an node has nx out _ _) ?_;refine ah 0 ?_;refine ah 0 ?_;refine aa 0 ?_;exact .drop 1 1 (.done (gB (x:=⟨ev,jo,false,an,.none,node,has,nx,out⟩) (n:=.ib q) rfl gG (ET aq) hb aW rfl rfl r))
  ·exact .done (gU (x:=⟨ev,jo,false,an,.none,node,has,nx,out⟩) (n:=.ib q) rfl gG (ET aq) hb aW r .ag [] trivial)
theorem Tc(M:AMem)(w r:Nat)(c:AV)(acc:Hp)(s:Sy)(l:Lay)(who:Int)(x:WS)(d:Int)(m:M.S)(σ:Hp)(hf:Fit s)(hm:M.O.free (M.abs m))(hv:∀a,bO (M.O.ld (M.abs m) a).1)(ok:Ld l x)(rd:yj c acc x.now):
  ACalls Tryz.prog 390 [.ptr w 0,M.v,.int .i64 d] (WB s l who w r c acc x++(M.B m++σ)) (oQ M s l who w (de M.O s l who x d (M.abs m)) σ):=by
 obtain⟨ev,jo,en,an,n,node,has,nx,out⟩:=x;obtain⟨o1,o2,o3⟩:=ok;cases en with
 |true=>
  refine ao Tryz.func390 ?_;refine aa 0 ?_;refine aa 0 ?_;exact .done (Zi rfl rfl rd)
 |false=>
  cases n with
  |none=>exact aaA M w r c acc s l who ev jo an node has nx out d m σ hm hf hv o1 o2
  |pop q=>exact acF M w r c acc s l who ev jo an q node has nx out d m σ hm o3
  |ft q=>exact YX M w r c acc s l who ev jo an q node has nx out d m σ hm o3
  |quiet q=>exact YY M w r c acc s l who ev jo an q node has nx out d m σ hm
  |clear q=>exact YZ M w r c acc s l who ev jo an q node has nx out d m σ hm
  |read q=>exact aay M w r c acc s l who ev jo an q node has nx out d m σ hm hf hv o3 rd
  |join q=>exact aaB M w r c acc s l who ev jo an q node has nx out d m σ hm o3
  |take q=>exact aax M w r c acc s l who ev jo an q node has nx out d m σ hm o3
  |push q=>exact aaz M w r c acc s l who ev jo an q node has nx out d m σ hm o3
  |ib q=>exact Xs M w r c acc s l who ev jo an q node has nx out d m σ hm
end Go.Proofs.YtnikdflhefijbaaGreat
