import Derived.Test.YtnikdflhefijbaaGreatBn5
import Derived.Test.YtnikdflhefijbaaGreatBn6
import Derived.Test.YtnikdflhefijbaaGreatBn10
import Derived.Test.YtnikdflhefijbaaGreatBn9
namespace Go.Proofs.YtnikdflhefijbaaGreat
open Go.RowKit
set_option maxRecDepth 100000
set_option maxHeartbeats 4000000
theorem Hm{ws:List Int}(h:aU ws)(a:Int):bK (cN ws a):=by
 unfold cN
 split
 ·exact⟨by decide,by decide⟩
 ·rw[aW]
  cases hq:ws[a.toNat]? with
  |none=>exact⟨by decide,by decide⟩
  |some x=>exact h x (cu hq)
theorem PQ(a:List Int)(i:Nat)(σ:Hp):ACalls Tryz.prog 213 [.ae (.int .u64) a,.int .i64 i] σ (aB (.int .u64 (wd a i)) σ):=by
 refine au Tryz.func213 ?_
 refine ak (fun h=>?_) (fun h=>?_)
 ·have h:(a.length:Int)≤i:=h
  exact .done ⟨aJ (by simp[wd,List.getElem?_eq_none (show a.length≤i by omega)]),rfl⟩
 ·have h:¬(a.length:Int)≤i:=h
  have hi:i<a.length:=by omega
  refine aG.mk rfl (bM.mk a[i] (by omega) (get_some hi) ?_)
  exact .done ⟨aJ (by simp[wd,hi]),rfl⟩
def cw(n:Int):Nat:=(min (max n 0) 1024).toNat
theorem Bk(n:Int):cw n≤1024:=by unfold cw;omega
theorem ag7(n:Int):(if (1024:Int)<(if n<0 then 0 else n) then (1024:Int) else (if n<0 then 0 else n))=((cw n:Nat):Int):=by
 unfold cw
 by_cases h:n<0
 ·simp only[ah h];omega
 ·simp only[ag h];split <;> omega
theorem oa(b w n:Int)(σ:Hp):ACalls Tryz.prog 163 [.agg [.int .i64 b,.int .i64 w,.int .i64 n]] σ (aB (.int .i64 (cw n)) σ):=by
 refine au Tryz.func163 ?_
 intro aD
 refine aa 0 ?_
 exact .drop 0 1 (.done ⟨aJ (ag7 n),rfl⟩)
structure Jn where
 base:Int
 what:Int
 words:Int
 a:List Int
 changed:Bool
 ended:Bool
 tries:Int
 at_:Nat
 fy:Bool
 x:Int
def zK(j:Jn):List AV:=[.int .i64 j.base,.int .i64 j.what,.int .i64 j.words,.ae (.int .u64) j.a,.bool j.changed,.bool j.ended,.int .i64 j.tries,.int .i64 j.at_,.bool j.fy,.int .u64 j.x]
def gO(j:Jn):Jn×Bool:=if j.at_+1<cw j.words then ({ j with at_:=j.at_+1 },false) else ({ j with at_:=j.at_+1,ended:=true },true)
def iq(O:j7)(j:Jn)(a:O.A):Jn×O.A×Bool:=
 if j.ended then (j,a,true)
 else if j.at_=cw j.words then ({ j with ended:=true },a,true)
 else if j.fy then
  (if (O.cs a (wr (j.base+j.at_)) j.x (dD j.what j.x (wd j.a j.at_))).1 then ((gO { j with fy:=false,changed:=true }).1,(O.cs a (wr (j.base+j.at_)) j.x (dD j.what j.x (wd j.a j.at_))).2,(gO { j with fy:=false,changed:=true }).2)
  else ({ j with fy:=false,tries:=wr (j.tries+1) },(O.cs a (wr (j.base+j.at_)) j.x (dD j.what j.x (wd j.a j.at_))).2,false))
 else if dD j.what (O.ld a (wr (j.base+j.at_))).1 (wd j.a j.at_)=(O.ld a (wr (j.base+j.at_))).1 then ((gO { j with x:=(O.ld a (wr (j.base+j.at_))).1 }).1,(O.ld a (wr (j.base+j.at_))).2,(gO { j with x:=(O.ld a (wr (j.base+j.at_))).1 }).2)
 else ({ j with x:=(O.ld a (wr (j.base+j.at_))).1,fy:=true },(O.ld a (wr (j.base+j.at_))).2,false)
theorem HL{M:AMem}{σ:Hp}{X:Type}{B:X→List AV}{r:Nat}{res:X×M.O.A×Bool}{x:X}{a:M.O.A}{b:Bool}{m':M.S}{cs:List AV}(h:res=(x,a,b))(hm:M.abs m'=a)(hc:cs=B x):qA M σ B r res (.bool b) ((r,cs)::(M.B m'++σ)):=by
 subst hc
 exact jY h hm
theorem Im(M:AMem)(r:Nat)(j:Jn)(m:M.S)(d:Int)(σ:Hp)(hf:M.O.free (M.abs m))(dV:j.at_≤2000):ACalls Tryz.prog 407 [.ptr r 0,M.v,.int .i64 d] ((r,zK j)::(M.B m++σ)) (qA M σ zK r (iq M.O j (M.abs m))):=by
 refine au Tryz.func407 ?_
 have hw:IntKind.i64.wrap ((j.at_:Int)+1)=((j.at_+1:Nat):Int):=by rw[IntKind.wrap_i64];omega
 refine eU.kC 0 _ _ rfl rfl (fun h0=>?_) (fun h0=>?_)
 ·exact .done (jY (x:=j) (by simp[iq,h0]) rfl)
 refine az [] (dF _ _ _) ?_
 refine .quiet (by kernel_rfl) ?_
 refine aa 0 ?_
 refine aa 0 ?_
 refine aH [] (oa _ _ _ _) ?_
 refine ak (fun c1=>?_) (fun c1=>?_)
 ·have c1:(j.at_:Int)=cw j.words:=c1
  have c1:j.at_=cw j.words:=by omega
  refine .fwd 1 ?_
  refine aj 0 ?_
  exact .done (jY (x:= { j with ended:=true }) (by simp[iq,h0,c1]) rfl)
 ·have c1:¬(j.at_:Int)=cw j.words:=c1
  have c1:¬j.at_=cw j.words:=by omega
  refine eU.kC 0 _ _ rfl rfl (fun c2=>?_) (fun c2=>?_)
  ·refine aj 0 ?_
   refine .sched [36,37] (upto [36,37] 43 0) (by kernel_rfl) ?_
   refine aa 0 ?_
   refine aa 0 ?_
   refine aa 0 ?_
   refine aa 0 ?_
   refine aa 0 ?_
   refine aa 0 ?_
   refine aa 0 ?_
   refine aH [] (PQ _ _ _) ?_
   refine aH [] (Ns _ _ _ _) ?_
   refine ff.mk M.hC ?_
   refine M.aCasB [_] hf (fun m' hm hb=>?_) (fun m' hm hb=>?_)
   ·refine aj 0 ?_
    refine .fwd 1 ?_
    refine aa 0 ?_
    refine aj 0 ?_
    refine .quiet (by kernel_rfl) ?_
    refine aa 0 ?_
    refine aa 0 ?_
    refine aH [] (oa _ _ _ _) ?_
    refine ak (fun c3=>?_) (fun c3=>?_)
    ·have c3:IntKind.i64.wrap (↑j.at_+1) < ↑(cw j.words):=c3
     exact .done (HL (x:= { j with fy:=false,changed:=true,at_:=j.at_+1 }) (by simp[iq,h0,c1,c2,hb,gO,show j.at_+1<cw j.words by omega]) hm (by rw[hw];rfl))
    ·have c3:¬(IntKind.i64.wrap (↑j.at_+1) < ↑(cw j.words)):=c3
     refine aj 0 ?_
     exact .done (HL (x:= { j with fy:=false,changed:=true,at_:=j.at_+1,ended:=true }) (by simp[iq,h0,c1,c2,hb,gO,show ¬j.at_+1<cw j.words by omega]) hm (by rw[hw];rfl))
   ·refine aa 0 ?_
    refine aj 0 ?_
    exact .done (jY (x:= { j with fy:=false,tries:=wr (j.tries+1) }) (by simp[iq,h0,c1,c2,hb]) hm)
  ·refine .sched [] (upto [] 21 0) (by kernel_rfl) ?_
   refine aa 0 ?_
   refine aa 0 ?_
   refine ff.mk M.hL ?_
   refine M.aLoad [_] hf fun m' hm=>?_
   refine aj 0 ?_
   refine .quiet (by kernel_rfl) ?_
   refine aa 0 ?_
   refine aa 0 ?_
   refine aa 0 ?_
   refine aa 0 ?_
   refine aH [] (PQ _ _ _) ?_
   refine aH [] (Ns _ _ _ _) ?_
   refine aa 0 ?_
   refine cI (fun c4=>?_) (fun c4=>?_)
   ·have c4:¬(dD j.what (M.O.ld (M.abs m) (IntKind.i64.wrap (j.base + ↑j.at_))).fst (wd j.a j.at_)=(M.O.ld (M.abs m) (IntKind.i64.wrap (j.base + ↑j.at_))).fst):=by simpa using c4
    refine aj 0 ?_
    exact .done (jY (x:= { j with x:=(M.O.ld (M.abs m) (wr (j.base+j.at_))).1,fy:=true }) (by simp[iq,h0,c1,c2,c4]) hm)
   ·have c4:dD j.what (M.O.ld (M.abs m) (IntKind.i64.wrap (j.base + ↑j.at_))).fst (wd j.a j.at_)=(M.O.ld (M.abs m) (IntKind.i64.wrap (j.base + ↑j.at_))).fst:=by simpa using c4
    refine aa 0 ?_
    refine aj 0 ?_
    refine .quiet (by kernel_rfl) ?_
    refine aa 0 ?_
    refine aa 0 ?_
    refine aH [] (oa _ _ _ _) ?_
    refine ak (fun c5=>?_) (fun c5=>?_)
    ·have c5:IntKind.i64.wrap (↑j.at_+1) < ↑(cw j.words):=c5
     exact .done (HL (x:= { j with x:=(M.O.ld (M.abs m) (wr (j.base+j.at_))).1,at_:=j.at_+1 }) (by simp[iq,h0,c1,c2,c4,gO,show j.at_+1<cw j.words by omega]) hm (by rw[hw];rfl))
    ·have c5:¬(IntKind.i64.wrap (↑j.at_+1) < ↑(cw j.words)):=c5
     refine aj 0 ?_
     exact .done (HL (x:= { j with x:=(M.O.ld (M.abs m) (wr (j.base+j.at_))).1,at_:=j.at_+1,ended:=true }) (by simp[iq,h0,c1,c2,c4,gO,show ¬j.at_+1<cw j.words by omega]) hm (by rw[hw];rfl))
def Bt(base:Int)(a:List Int)(ws:List Int):Nat→List Int
 | 0=>ws
 |k+1=>gZ (Bt base a ws k) (wr (base+k)) (wd a k)
theorem aix(p q:Nat)(ws:List Int)(b w n:Int)(a:List Int)(σ:Hp):ACalls Tryz.prog 159 [.agg [.int .i64 b,.int .i64 w,.int .i64 n],kB p,.ae (.int .u64) a] (bG p q ws σ) (aB (.tup []) (bG p q (Bt b a ws (cw n)) σ)):=by
 have hc:=Bk n
 refine au Tryz.func159 ?_
 intro aD
 refine az [] (dF _ _ _) ?_
 refine aa 0 ?_
 refine az [] (oa _ _ _ _) ?_
 refine cc (S:=Nat) (fun s=>[(1,kB p),(2,.ae (.int .u64) a),(3,.ptr aD 0),(10,.int .i64 (cw n)),(11,.int .i64 s)]) (fun s=>(aD,[.int .i64 b,.int .i64 w,.int .i64 n])::bG p q (Bt b a ws s) σ) (fun s=>s≤cw n) (fun s=>cw n-s) 0 ⟨bE _,⟨rfl,rfl,rfl,rfl,rfl,trivial⟩,rfl⟩ ?_
 intro k g hk
 refine ak (fun h=>?_) (fun h=>?_)
 ·have h:(k:Int)<cw n:=h
  refine .sched [7] (upto [7] 12 0) (by kernel_rfl) ?_
  refine aa 0 ?_
  refine aH [] (PQ _ _ _) ?_
  refine ff.mk hStore_ ?_
  refine⟨_,mStore_,?_⟩
  refine az [2,2] (aStore p q _ _ _ _) ?_
  refine bg (k+1) ?_ ?_ ⟨rfl,rfl,rfl,rfl,a8 (by omega),trivial⟩ (.pull [2] (aN rfl))
  ·show cw n-(k+1)<cw n-k;omega
  ·show k+1≤cw n;omega
 ·have h:¬(k:Int)<cw n:=h
  obtain rfl:k=cw n:=by omega
  exact .drop 0 1 (.done ⟨rfl,rfl⟩)
def pS(base:Int)(ws:List Int)(k:Nat):List Int:=(List.range k).map fun i=>cN ws (wr (base+(i:Nat)))
theorem Yl(base:Int)(ws:List Int)(k:Nat):(pS base ws k).length=k:=by unfold pS;rw[cj,l0]
theorem aal(base:Int)(ws:List Int)(k:Nat):pS base ws (k+1)=pS base ws k++[cN ws (wr (base+k))]:=by unfold pS;rw[wJ,dr];rfl
theorem aiC(p q:Nat)(ws:List Int)(b w n:Int)(σ:Hp):ACalls Tryz.prog 107 [.agg [.int .i64 b,.int .i64 w,.int .i64 n],kB p] (bG p q ws σ) (aB (.ae (.int .u64) (pS b ws (cw n))) (bG p q ws σ)):=by
 have hc:=Bk n
 refine au Tryz.func107 ?_
 intro aD
 refine az [] (dF _ _ _) ?_
 refine aa 0 ?_
 refine az [] (oa _ _ _ _) ?_
 refine .wrap 5 _ rfl rfl ?_
 refine cc (S:=Nat×AV×Hp) (fun s=>[(1,kB p),(2,.ptr aD 0),(5,.via s.2.1),(10,.int .i64 (cw n)),(11,.int .i64 s.1)]) (fun s=>(aD,[.int .i64 b,.int .i64 w,.int .i64 n])::(s.2.2++bG p q ws σ)) (fun s=>s.1≤cw n∧Acc 1 s.1 s.2.1 s.2.2 (bz (pS b ws s.1))) (fun s=>cw n-s.1) (0,.ai,[]) ⟨⟨bE _,.nil⟩,⟨rfl,rfl,rfl,rfl,rfl,trivial⟩,rfl⟩ ?_
 rintro⟨k,v,acc⟩ g ⟨hk,cH⟩
 have hk:k≤cw n:=hk
 have cH:Acc 1 k v acc (bz (pS b ws k)):=cH
 refine ak (fun h=>?_) (fun h=>?_)
 ·have h:(k:Int)<cw n:=h
  refine aa 0 ?_
  refine⟨_,mLoad_,?_⟩
  refine .perm (σ2:=bG p q ws ((aD,[.int .i64 b,.int .i64 w,.int .i64 n])::(acc++σ))) _ ?_ (aLoad p q ws _ _) ?_
  ·exact eS ((aD,[.int .i64 b,.int .i64 w,.int .i64 n])::acc) [_,_] σ
  rintro _ _ ⟨rfl,rfl⟩
  refine⟨_,(eS ((aD,[.int .i64 b,.int .i64 w,.int .i64 n])::acc) [_,_] σ).symm,?_⟩
  intro du
  refine l8 [_,_] cH (.af 0 du 0 1 _ rfl (cR rfl)) rfl (by omega) (by decide) (by decide) (fun v' bQ h'=>?_)
  refine bg (k+1,v',bQ) ?_ ⟨?_,?_⟩ ⟨rfl,rfl,rfl,rfl,a8 (by omega),trivial⟩ (.drop 0 1 (aN rfl))
  ·show cw n-(k+1)<cw n-k;omega
  ·show k+1≤cw n;omega
  ·show Acc 1 (k+1) v' bQ (bz (pS b ws (k+1)))
   rw[aal,bz,dr]
   exact h'
 ·have h:¬(k:Int)<cw n:=h
  obtain rfl:k=cw n:=by omega
  refine .drop 0 1 ?_
  exact tD (s:=.int .u64) (l:=pS b ws (cw n)) [] cH (Yl b ws _).symm (by rw[qh]) (by decide) (.done ⟨rfl,rfl⟩)
def ka(v:AV)(base what words:Int)(ended:Bool)(at_:Nat)(fy:Bool)(x:Int):List AV:=[.int .i64 base,.int .i64 what,.int .i64 words,v,.bool ended,.int .i64 at_,.bool fy,.int .u64 x]
inductive kN:AV→Hp→List Int→Prop where
 |nil:kN .ai [] []
 |af (b:Nat) (l:List Int):kN (.af b 0 l.length 1) [(b,bz l)] l
theorem kN.push(b:Nat)(l:List Int)(x:Int):kN (.af b 0 (l.length+1) 1) [(b,(bz l).take (l.length*1)++[.int .u64 x])] (l++[x]):=by
 have h:=kN.af b (l++[x])
 have e1:(l++[x]).length=l.length+1:=by simp
 have e2:bz (l++[x])=(bz l).take (l.length*1)++[.int .u64 x]:=by rw[List.take_of_length_le (by simp[bz])];simp[bz]
 rw[e1,e2]at h
 exact h
theorem ab2(σ:Hp):ACalls Tryz.prog 256 [.ai] σ (aB .ai σ):=by
 refine au Tryz.func256 ?_
 exact .done ⟨rfl,rfl⟩
theorem C1(b k:Nat)(cs:List AV)(σ:Hp)(hm:(b,cs)∈σ)(h:cs.length=k*1)(hl:k≤1000000):ACalls Tryz.prog 256 [.af b 0 k 1] σ (fun x σ'=>∃b',x=.af b' 0 k 1∧σ'=(b',cs)::σ):=by
 refine au Tryz.func256 ?_
 intro b2
 refine AppendAt.more 0 b2 0 k [] ((cs.drop 0).take (k*1)) rfl rfl (cR rfl) (.mem (cQ _ hm) (by show 0+k*1≤cs.length;omega)) (by omega) (by decide) (by decide) (fun b'=>?_)
 refine .done ⟨b',by rw[dM];rfl,?_⟩
 show (b',List.take (0*1) []++(cs.drop 0).take (k*1))::σ=_
 rw[show (cs.drop 0).take (k*1)=cs by rw[iP,fe (by omega)]];rfl
structure Lay where
 what:Int
 words:Int
 n:Int
 k:Int
def gR(l:Lay):List AV:=[.int .i64 l.what,.int .i64 l.words,.int .i64 l.n,.int .i64 l.k]
def cT(l:Lay):Int:=wr (l.n*l.words)
def cE(l:Lay):Int:=wr (cT l+l.n)
def eA(l:Lay):Int:=wr (l.n+1)
def eR(l:Lay)(w:Int):Int:=wr (wr (cE l+1)+wr (w*((2+rm (eA l):Nat):Int)))
def aX(l:Lay)(v:Int):Int:=wr (v*l.words)
def ir(s:Sy)(k:Int):Lay:=⟨qO (cP s k) s.what,qO (cP s k) (eX s.what s.w),qO (cP s k) s.n,qO (cP s k) k⟩
theorem aeN(n:Int)(σ:Hp):ACalls Tryz.prog 87 [.int .i64 n] σ (aB (.int .i64 ((2+rm n:Nat):Int)) σ):=by
 have h:=vq n
 refine au Tryz.func87 ?_
 refine az [] (Nt _ _) ?_
 exact .done ⟨aJ (by rw[IntKind.wrap_i64];omega),rfl⟩
theorem VP(l:Lay)(σ:Hp):ACalls Tryz.prog 108 [.agg (gR l)] σ (aB (.int .i64 (cT l)) σ):=by
 refine au Tryz.func108 ?_
 intro aD
 refine aa 0 ?_
 refine aa 0 ?_
 exact .drop 0 1 (.done ⟨rfl,rfl⟩)
theorem UT(l:Lay)(σ:Hp):ACalls Tryz.prog 109 [.agg (gR l)] σ (aB (.int .i64 (cE l)) σ):=by
 refine au Tryz.func109 ?_
 intro aD
 refine .quiet (by kernel_rfl) ?_
 refine aa 0 ?_
 refine aH [] (VP l _) ?_
 refine aa 0 ?_
 exact .drop 0 1 (.done ⟨rfl,rfl⟩)
theorem MY(l:Lay)(σ:Hp):ACalls Tryz.prog 88 [.agg (gR l)] σ (aB (.int .i64 (eA l)) σ):=by
 refine au Tryz.func88 ?_
 intro aD
 refine aa 0 ?_
 exact .drop 0 1 (.done ⟨rfl,rfl⟩)
theorem yR(l:Lay)(w:Int)(σ:Hp):ACalls Tryz.prog 52 [.agg (gR l),.int .i64 w] σ (aB (.agg [.int .i64 (eR l w),.int .i64 (eA l)]) σ):=by
 refine au Tryz.func52 ?_
 intro aD
 intro du
 refine .sched [1,5,6,10] (upto [1,5,6,10] 13 0) (by kernel_rfl) ?_
 refine aa 1 ?_
 refine aH [] (UT l _) ?_
 refine aa 1 ?_
 refine aH [] (MY l _) ?_
 refine aH [] (aeN _ _) ?_
 refine aa 1 ?_
 refine aH [] (MY l _) ?_
 refine aj 0 ?_
 refine aa 0 ?_
 exact .drop 0 2 (.done ⟨rfl,rfl⟩)
theorem AT(l:Lay)(σ:Hp):ACalls Tryz.prog 45 [.agg (gR l)] σ (aB (.agg [.int .i64 (cT l),.int .i64 (cE l)]) σ):=by
 refine au Tryz.func45 ?_
 intro aD
 intro du
 refine .sched [1,3] (upto [1,3] 6 0) (by kernel_rfl) ?_
 refine aa 1 ?_
 refine aH [] (VP l _) ?_
 refine aa 1 ?_
 refine aH [] (UT l _) ?_
 refine aj 0 ?_
 refine aa 0 ?_
 exact .drop 0 2 (.done ⟨rfl,rfl⟩)
theorem HX(l:Lay)(v:Int)(σ:Hp):ACalls Tryz.prog 106 [.agg (gR l),.int .i64 v] σ (aB (.agg [.int .i64 (aX l v),.int .i64 l.what,.int .i64 l.words]) σ):=by
 refine au Tryz.func106 ?_
 intro aD
 intro du
 refine aa 1 ?_
 refine aa 1 ?_
 refine aa 1 ?_
 refine aj 0 ?_
 refine aa 0 ?_
 exact .drop 0 2 (.done ⟨rfl,rfl⟩)
theorem VK(l:Lay)(σ:Hp):ACalls Tryz.prog 96 [.agg (gR l)] σ (aB (.int .i64 (eR l l.k)) σ):=by
 refine au Tryz.func96 ?_
 intro aD
 refine aa 0 ?_
 refine aa 0 ?_
 refine az [] (yR l _ _) ?_
 exact .drop 0 1 (.done ⟨rfl,rfl⟩)
theorem HW(s:Sy)(k:Int)(σ:Hp)(hf:Fit s):ACalls Tryz.prog 37 [.agg (aV s),.int .i64 k] σ (aB (.tup [.agg (gR (ir s k)),.int .i64 (cP s k)]) σ):=by
 refine au Tryz.func37 ?_
 intro aD
 intro du
 refine aa 1 ?_
 refine az [] (yI s _ hf) ?_
 refine cI (fun c3=>?_) (fun c3=>?_)
 ·have c3:¬(cb s=0):=by simpa using c3
  refine aj 0 ?_
  refine aa 0 ?_
  exact .drop 0 2 (.done ⟨SO (by assumption),rfl⟩)
 ·have c3:cb s=0:=by simpa using c3
  refine ak (fun c4=>?_) (fun c4=>?_)
  ·have c4:k<1:=c4
   refine aj 0 ?_
   refine aa 0 ?_
   exact .drop 0 2 (.done ⟨GV (by assumption) (by omega),rfl⟩)
  ·have c4:¬(k<1):=c4
   refine ak (fun c5=>?_) (fun c5=>?_)
   ·have c5:64<k:=c5
    refine aj 0 ?_
    refine aa 0 ?_
    exact .drop 0 2 (.done ⟨GV (by assumption) (by omega),rfl⟩)
   ·have c5:¬(64<k):=c5
    refine .sched [6] (upto [6] 13 0) (by kernel_rfl) ?_
    refine aa 1 ?_
    refine aa 1 ?_
    refine aa 1 ?_
    refine aH [] (Hz _ _ _) ?_
    refine aa 1 ?_
    refine aj 0 ?_
    refine aa 0 ?_
    exact .drop 0 2 (.done ⟨Ui (by assumption) (by omega),rfl⟩)
inductive Nw where
 |none
 |pop (q:DQ)
 |cx (q:DQ)
 |quiet (t:Qk)
 |clear (t:Ck)
 |read (l:List Int)
 |join (j:Jn)
 |take (t:Tk)
 |push (q:DQ)
 |dW (t:Rk)
structure WS where
 ev:Int
 jo:Int
 en:Bool
 does:Int
 now:Nw
 node:Int
 has:Bool
 nx:List Int
 out:List Int
abbrev dS(s:Sy)(l:Lay)(who ev jo:Int)(en:Bool)(does:Int)(nv:AV)(node:Int)(has:Bool)(nx out:List Int):List AV:=
 [.int .i64 ev,.int .i64 jo,.bool en,.int .i64 s.what,.int .i64 s.w,.int .i64 s.n,.ae dC s.aT,.ae (.int .i64) s.entry,.ae (.int .u64) s.init,.ae kn s.T,.int .i64 l.what,.int .i64 l.words,.int .i64 l.n,.int .i64 l.k,.int .i64 who,.int .i64 does,nv,.int .i64 node,.bool has,.ae (.int .i64) nx,.ae (.int .u64) out,.bool true]
theorem M0(w:Nat)(s:Sy)(l:Lay)(who ev jo:Int)(en:Bool)(does:Int)(nv:AV)(node:Int)(has:Bool)(nx out:List Int)(σ:Hp):ACalls Tryz.prog 396 [.ptr w 0] ((w,dS s l who ev jo en does nv node has nx out)::σ) (aB (.bool (decide (l.k<2))) ((w,dS s l who ev jo en does nv node has nx out)::σ)):=by
 refine au Tryz.func396 ?_
 refine aa 0 ?_
 refine ak (fun c1=>?_) (fun c1=>?_)
 ·have c1:l.k<2:=c1
  exact .done ⟨bY (aL (by assumption)).symm,rfl⟩
 ·have c1:¬(l.k<2):=c1
  exact .done ⟨bY (bH (by assumption)).symm,rfl⟩
def nK(l:Lay):Int:=wr (l.k-1)
def Dj(l:Lay)(who d:Int):Int:=(wr (wr (who+1)+(wr (d.tmod (nK l)+nK l)).tmod (nK l))).tmod l.k
theorem aeU(w:Nat)(s:Sy)(l:Lay)(who ev jo:Int)(en:Bool)(does:Int)(nv:AV)(node:Int)(has:Bool)(nx out:List Int)(d:Int)(σ:Hp)(h1:nK l≠0)(h2:l.k≠0):ACalls Tryz.prog 393 [.ptr w 0,.int .i64 d] ((w,dS s l who ev jo en does nv node has nx out)::σ) (aB (.int .i64 (Dj l who d)) ((w,dS s l who ev jo en does nv node has nx out)::σ)):=by
 refine au Tryz.func393 ?_
 refine aa 0 ?_
 refine .quiet (by kernel_rfl) ?_
 refine aa 0 ?_
 refine aG.mk h1 ?_
 refine aG.mk h1 ?_
 refine aa 0 ?_
 refine aG.mk h2 ?_
 exact .done ⟨rfl,rfl⟩
def pr(l:Lay)(n:Int):Int:=if wu l.n≤n then 0 else wr n
def rz(l:Lay)(n:Int):Int:=if wu l.n≤n then 8 else 3
theorem Xc(w:Nat)(s:Sy)(l:Lay)(who ev jo:Int)(en:Bool)(does:Int)(nv:AV)(node:Int)(has:Bool)(nx out:List Int)(n:Int)(σ:Hp):ACalls Tryz.prog 394 [.ptr w 0,.int .u64 n] ((w,dS s l who ev jo en does nv node has nx out)::σ) (aB (.int .i64 (rz l n)) ((w,dS s l who ev jo en does nv (pr l n) true nx out)::σ)):=by
 refine au Tryz.func394 ?_
 refine aj 0 ?_
 refine aj 0 ?_
 refine aa 0 ?_
 refine ak (fun c1=>?_) (fun c1=>?_)
 ·have c1:IntKind.u64.wrap l.n≤n:=c1
  exact .done ⟨aJ (ah c1).symm,congrArg (fun z=>(w,dS s l who ev jo en does nv z true nx out)::σ) (show _=pr l n from (ah c1).symm)⟩
 ·have c1:¬(IntKind.u64.wrap l.n≤n):=c1
  refine aj 0 ?_
  exact .done ⟨aJ (ag c1).symm,congrArg (fun z=>(w,dS s l who ev jo en does nv z true nx out)::σ) (show _=pr l n from (ag c1).symm)⟩
def rr(l:Lay):Int:=if l.k<2 then 2 else 1
theorem agt(w:Nat)(s:Sy)(l:Lay)(who ev jo:Int)(en:Bool)(does:Int)(nv:AV)(node:Int)(has:Bool)(nx out:List Int)(σ:Hp):ACalls Tryz.prog 395 [.ptr w 0] ((w,dS s l who ev jo en does nv node has nx out)::σ) (aB (.int .i64 (rr l)) ((w,dS s l who ev jo en does nv node has nx out)::σ)):=by
 refine au Tryz.func395 ?_
 refine dm [] (M0 w s l who ev jo en does nv node has nx out _) (fun c=>?_) (fun c=>?_)
 ·exact .done ⟨aJ (ah (fv c)).symm,rfl⟩
 ·exact .done ⟨aJ (ag (qd c)).symm,rfl⟩
def kp(nx:List Int):Int:=if nx.tail.length=0 then 8 else 5
theorem My(w:Nat)(s:Sy)(l:Lay)(who ev jo:Int)(en:Bool)(does:Int)(nv:AV)(node:Int)(has:Bool)(nx out:List Int)(σ:Hp)(hx:0<nx.length):ACalls Tryz.prog 398 [.ptr w 0] ((w,dS s l who ev jo en does nv node has nx out)::σ) (aB (.int .i64 (kp nx)) ((w,dS s l who ev jo en does nv node has nx.tail out)::σ)):=by
 refine au Tryz.func398 ?_
 cases nx with
 |nil=>simp at hx
 |cons z nx=>
  refine aa 0 ?_
  refine aG.mk ⟨by decide,Int.ofNat_le.2 (Nat.succ_le_succ (bE _)),jD _,rfl⟩ ?_
  have e:((z::nx).drop ((1:Int)).toNat).take ((((z::nx).length:Nat):Int).toNat-((1:Int)).toNat)=nx:=by simp
  refine aj 0 ?_
  refine aa 0 ?_
  refine ak (fun c1=>?_) (fun c1=>?_)
  ·have c1:(↑(List.take ((↑(z::nx).length:Int).toNat-Int.toNat 1) (List.drop (Int.toNat 1) (z::nx))).length:Int)=0:=c1
   have c2:(nx.length:Int)=0:=(congrArg (fun z:List Int=>(z.length:Int)) e).symm.trans c1
   exact .done ⟨aJ (ah (show nx.length=0 by omega)).symm,congrArg (fun z=>(w,dS s l who ev jo en does nv node has z out)::σ) e⟩
  ·have c1:¬((↑(List.take ((↑(z::nx).length:Int).toNat-Int.toNat 1) (List.drop (Int.toNat 1) (z::nx))).length:Int)=0):=c1
   have c2:¬(nx.length:Int)=0:=fun h=>c1 ((congrArg (fun z:List Int=>(z.length:Int)) e).trans h)
   exact .done ⟨aJ (ag (show ¬nx.length=0 by omega)).symm,congrArg (fun z=>(w,dS s l who ev jo en does nv node has z out)::σ) e⟩
def uY(s:Sy)(node:Int):Int:=if (ar s.n s.aT node).length=0 then 8 else 5
theorem agp(w:Nat)(s:Sy)(l:Lay)(who ev jo:Int)(en:Bool)(does:Int)(nv:AV)(node:Int)(has:Bool)(nx out x:List Int)(σ:Hp)(hf:Fit s)(hx:aU x)(lx:x.length≤10000):ACalls Tryz.prog 397 [.ptr w 0,.ae (.int .u64) x] ((w,dS s l who ev jo en does nv node has nx out)::σ) (aB (.int .i64 (uY s node)) ((w,dS s l who (wr (ev+1)) jo en does nv node has (ar s.n s.aT node) (rY (pM s node x) (ia s x node.toNat)))::σ)):=by
 refine au Tryz.func397 ?_
 refine aa 0 ?_
 refine aj 0 ?_
 refine .sched [10] (upto [10] 17 0) (by kernel_rfl) ?_
 refine aa 0 ?_
 refine aa 0 ?_
 refine aH [] (aeX s node x _ hf hx lx) ?_
 refine aj 0 ?_
 refine .sched [15] (upto [15] 19 0) (by kernel_rfl) ?_
 refine aa 0 ?_
 refine aa 0 ?_
 refine aa 0 ?_
 refine aH [] (Bq s.n s.aT node _ hf.xL) ?_
 refine aj 0 ?_
 refine aa 0 ?_
 refine ak (fun c1=>?_) (fun c1=>?_)
 ·have c1:(↑(ar s.n s.aT node).length:Int)=0:=c1
  exact .done ⟨aJ (ah (show (ar s.n s.aT node).length=0 by omega)).symm,rfl⟩
 ·have c1:¬((↑(ar s.n s.aT node).length:Int)=0):=c1
  exact .done ⟨aJ (ag (show ¬(ar s.n s.aT node).length=0 by omega)).symm,rfl⟩
def Jb(r:Nat):Nw→AV
 |.none=>.nilif
 |.pop _=>.iface 399 (.ptr r 0)
 |.cx _=>.iface 404 (.ptr r 0)
 |.quiet _=>.iface 406 (.ptr r 0)
 |.clear _=>.iface 409 (.ptr r 0)
 |.read _=>.iface 412 (.ptr r 0)
 |.join _=>.iface 417 (.ptr r 0)
 |.take _=>.iface 420 (.ptr r 0)
 |.push _=>.iface 425 (.ptr r 0)
 |.dW _=>.iface 427 (.ptr r 0)
def Jc(l:Lay)(node:Int)(r:Nat)(c:AV)(acc:Hp):Nw→Hp
 |.none=>[]
 |.pop q=>[(r,l5 q)]
 |.cx q=>[(r,l5 q)]
 |.quiet t=>[(r,EU t)]
 |.clear t=>[(r,FZ t)]
 |.read x=>(r,ka c (aX l node) l.what l.words false x.length false 0)::acc
 |.join j=>[(r,zK j)]
 |.take t=>[(r,zE t)]
 |.push q=>[(r,l5 q)]
 |.dW t=>[(r,ES t)]
def uG(base cap n:Int):DQ:=⟨base,cap,n,false,false,0,0,0,0⟩
def iK(l:Lay)(who does node:Int)(nx out:List Int)(d:Int):Nw:=
 if does=0 then .pop (uG (eR l who) (eA l) 0)
 else if does=1 then .cx (uG (eR l (Dj l who d)) (eA l) 0)
 else if does=2 then .quiet ⟨cT l,cE l,false,false⟩
 else if does=3 then .clear ⟨cT l,cE l,node,false⟩
 else if does=4 then .read []
 else if does=5 then .join ⟨aX l (nx.headD 0),l.what,l.words,out,false,false,0,0,false,0⟩
 else if does=6 then .take ⟨cT l,cE l,nx.headD 0,false,false,false⟩
 else if does=7 then .push (uG (eR l who) (eA l) (wu (nx.headD 0)))
 else .dW ⟨cT l,cE l,0,false⟩
theorem IY{l:Lay}{who does node d:Int}{nx out:List Int}(h:does=0):iK l who does node nx out d=.pop (uG (eR l who) (eA l) 0):=by subst h;rfl
theorem IX{l:Lay}{who does node d:Int}{nx out:List Int}(h:does=1):iK l who does node nx out d=.cx (uG (eR l (Dj l who d)) (eA l) 0):=by subst h;rfl
theorem IW{l:Lay}{who does node d:Int}{nx out:List Int}(h:does=2):iK l who does node nx out d=.quiet ⟨cT l,cE l,false,false⟩:=by subst h;rfl
theorem IV{l:Lay}{who does node d:Int}{nx out:List Int}(h:does=3):iK l who does node nx out d=.clear ⟨cT l,cE l,node,false⟩:=by subst h;rfl
theorem IU{l:Lay}{who does node d:Int}{nx out:List Int}(h:does=4):iK l who does node nx out d=.read []:=by subst h;rfl
theorem IT{l:Lay}{who does node d:Int}{nx out:List Int}(h:does=5):iK l who does node nx out d=.join ⟨aX l (nx.headD 0),l.what,l.words,out,false,false,0,0,false,0⟩:=by subst h;rfl
theorem IS{l:Lay}{who does node d:Int}{nx out:List Int}(h:does=6):iK l who does node nx out d=.take ⟨cT l,cE l,nx.headD 0,false,false,false⟩:=by subst h;rfl
theorem IQ{l:Lay}{who does node d:Int}{nx out:List Int}(h:does=7):iK l who does node nx out d=.push (uG (eR l who) (eA l) (wu (nx.headD 0))):=by subst h;rfl
theorem IP{l:Lay}{who does node d:Int}{nx out:List Int}(h0:¬does=0)(h1:¬does=1)(h2:¬does=2)(h3:¬does=3)(h4:¬does=4)(h5:¬does=5)(h6:¬does=6)(h7:¬does=7):iK l who does node nx out d=.dW ⟨cT l,cE l,0,false⟩:=by
 unfold iK;rw[ag h0,ag h1,ag h2,ag h3,ag h4,ag h5,ag h6,ag h7]
theorem Lk{nx:List Int}(h:0<nx.length):nx[((0:Int)).toNat]?=some (nx.headD 0):=by
 cases nx with
 |nil=>simp at h
 |cons z nx=>rfl
theorem agE(w:Nat)(s:Sy)(l:Lay)(who ev jo:Int)(en:Bool)(does:Int)(nv:AV)(node:Int)(has:Bool)(nx out:List Int)(d:Int)(σ:Hp)(hx:does=5∨does=6∨does=7→0<nx.length)(h1:does=1→nK l≠0∧l.k≠0):ACalls Tryz.prog 391 [.ptr w 0,.int .i64 d] ((w,dS s l who ev jo en does nv node has nx out)::σ) (fun x σ'=>∃r,x=Jb r (iK l who does node nx out d)∧σ'=Jc l node r .ai [] (iK l who does node nx out d)++((w,dS s l who ev jo en does nv node has nx out)::σ)):=by
 refine au Tryz.func391 ?_
 refine aa 0 ?_
 refine az [] (AT l _) ?_
 intro aD
 refine aj 0 ?_
 refine aa 1 ?_
 refine ak (fun c2=>?_) (fun c2=>?_)
 ·have c2:does=0:=c2
  refine .sched [8] (upto [8] 13 0) (by kernel_rfl) ?_
  refine aa 1 ?_
  refine aa 1 ?_
  refine aH [] (yR l _ _) ?_
  intro rb
  exact .drop 1 1 (.done ⟨_,by rw[IY (by assumption)];rfl,by rw[IY (by assumption)];rfl⟩)
 ·have c2:¬(does=0):=c2
  refine ak (fun c4=>?_) (fun c4=>?_)
  ·have c4:does=1:=c4
   refine .sched [6,7] (upto [6,7] 12 0) (by kernel_rfl) ?_
   refine aa 1 ?_
   refine aH [1] (aeU w s l who ev jo en does nv node has nx out d _ (h1 (by assumption)).1 (h1 (by assumption)).2) ?_
   refine aH [] (yR l _ _) ?_
   intro Cv
   exact .drop 1 1 (.done ⟨_,by rw[IX (by assumption)];rfl,by rw[IX (by assumption)];rfl⟩)
  ·have c4:¬(does=1):=c4
   refine ak (fun c6=>?_) (fun c6=>?_)
   ·have c6:does=2:=c6
    refine aa 0 ?_
    intro bl7
    exact .drop 1 1 (.done ⟨_,by rw[IW (by assumption)];rfl,by rw[IW (by assumption)];rfl⟩)
   ·have c6:¬(does=2):=c6
    refine ak (fun c8=>?_) (fun c8=>?_)
    ·have c8:does=3:=c8
     refine .sched [] (upto [] 9 0) (by kernel_rfl) ?_
     refine aa 0 ?_
     refine aa 1 ?_
     intro bl9
     exact .drop 1 1 (.done ⟨_,by rw[IV (by assumption)];rfl,by rw[IV (by assumption)];rfl⟩)
    ·have c8:¬(does=3):=c8
     refine ak (fun jT=>?_) (fun jT=>?_)
     ·have jT:does=4:=jT
      refine .sched [8] (upto [8] 13 0) (by kernel_rfl) ?_
      refine aa 1 ?_
      refine aa 1 ?_
      refine aH [] (HX l _ _) ?_
      intro bl11
      exact .drop 1 1 (.done ⟨_,by rw[IU (by assumption)];rfl,by rw[IU (by assumption)];rfl⟩)
     ·have jT:¬(does=4):=jT
      refine ak (fun wO=>?_) (fun wO=>?_)
      ·have wO:does=5:=wO
       refine .sched [10] (upto [10] 19 0) (by kernel_rfl) ?_
       refine aa 1 ?_
       refine aa 1 ?_
       refine aG.mk rfl ?_
       refine bM.mk (nx.headD 0) (by decide) (Lk (hx (by omega))) ?_
       refine aH [] (HX l _ _) ?_
       refine aa 1 ?_
       intro bl13
       exact .drop 1 1 (.done ⟨_,by rw[IT (by assumption)];rfl,by rw[IT (by assumption)];rfl⟩)
      ·have wO:¬(does=5):=wO
       refine ak (fun tf=>?_) (fun tf=>?_)
       ·have tf:does=6:=tf
        refine .sched [] (upto [] 11 0) (by kernel_rfl) ?_
        refine aa 0 ?_
        refine aa 1 ?_
        refine aG.mk rfl ?_
        refine bM.mk (nx.headD 0) (by decide) (Lk (hx (by omega))) ?_
        intro bl15
        exact .drop 1 1 (.done ⟨_,by rw[IS (by assumption)];rfl,by rw[IS (by assumption)];rfl⟩)
       ·have tf:¬(does=6):=tf
        refine ak (fun wN=>?_) (fun wN=>?_)
        ·have wN:does=7:=wN
         refine .sched [8] (upto [8] 20 0) (by kernel_rfl) ?_
         refine aa 1 ?_
         refine aa 1 ?_
         refine aH [] (yR l _ _) ?_
         refine aa 1 ?_
         refine aG.mk rfl ?_
         refine bM.mk (nx.headD 0) (by decide) (Lk (hx (by omega))) ?_
         intro bl17
         exact .drop 1 1 (.done ⟨_,by rw[IQ (by assumption)];rfl,by rw[IQ (by assumption)];rfl⟩)
        ·have wN:¬(does=7):=wN
         refine aa 0 ?_
         intro bl18
         exact .drop 1 1 (.done ⟨_,by rw[IP (by assumption) (by assumption) (by assumption) (by assumption) (by assumption) (by assumption) (by assumption) (by assumption)];rfl,by rw[IP (by assumption) (by assumption) (by assumption) (by assumption) (by assumption) (by assumption) (by assumption) (by assumption)];rfl⟩)
theorem TD(w r:Nat)(s:Sy)(l:Lay)(who ev jo:Int)(en:Bool)(does:Int)(node:Int)(has:Bool)(nx out:List Int)(base cap n:Int)(gu:Bool)(at_:Nat)(b t x:Int)(σ:Hp):ACalls Tryz.prog 392 [.ptr w 0] ((w,dS s l who ev jo en does (.iface 399 (.ptr r 0)) node has nx out)::(r,l5 ⟨base,cap,n,true,gu,at_,b,t,x⟩)::σ) (aB (.int .i64 (rz l n)) ((w,dS s l who ev jo en does (.iface 399 (.ptr r 0)) (pr l n) true nx out)::(r,l5 ⟨base,cap,n,true,gu,at_,b,t,x⟩)::σ)):=by
 refine au Tryz.func392 ?_
 refine aa 0 ?_
 refine aa 1 ?_
 refine aa 1 ?_
 refine az [] (Xc w s l who ev jo en does (.iface 399 (.ptr r 0)) node has nx out n _) ?_
 exact .done ⟨rfl,rfl⟩
theorem TE(w r:Nat)(s:Sy)(l:Lay)(who ev jo:Int)(en:Bool)(does:Int)(node:Int)(has:Bool)(nx out:List Int)(base cap n:Int)(gu:Bool)(at_:Nat)(b t x:Int)(σ:Hp):ACalls Tryz.prog 392 [.ptr w 0] ((w,dS s l who ev jo en does (.iface 399 (.ptr r 0)) node has nx out)::(r,l5 ⟨base,cap,n,false,gu,at_,b,t,x⟩)::σ) (aB (.int .i64 (rr l)) ((w,dS s l who ev jo en does (.iface 399 (.ptr r 0)) node has nx out)::(r,l5 ⟨base,cap,n,false,gu,at_,b,t,x⟩)::σ)):=by
 refine au Tryz.func392 ?_
 refine aa 0 ?_
 refine aa 1 ?_
 refine az [] (agt w s l who ev jo en does (.iface 399 (.ptr r 0)) node has nx out _) ?_
 exact .done ⟨rfl,rfl⟩
theorem Ra(w r:Nat)(s:Sy)(l:Lay)(who ev jo:Int)(en:Bool)(does:Int)(node:Int)(has:Bool)(nx out:List Int)(base cap n:Int)(gu:Bool)(at_:Nat)(b t x:Int)(σ:Hp):ACalls Tryz.prog 392 [.ptr w 0] ((w,dS s l who ev jo en does (.iface 404 (.ptr r 0)) node has nx out)::(r,l5 ⟨base,cap,n,true,gu,at_,b,t,x⟩)::σ) (aB (.int .i64 (rz l n)) ((w,dS s l who ev jo en does (.iface 404 (.ptr r 0)) (pr l n) true nx out)::(r,l5 ⟨base,cap,n,true,gu,at_,b,t,x⟩)::σ)):=by
 refine au Tryz.func392 ?_
 refine aa 0 ?_
 refine aa 1 ?_
 refine aa 1 ?_
 refine az [] (Xc w s l who ev jo en does (.iface 404 (.ptr r 0)) node has nx out n _) ?_
 exact .done ⟨rfl,rfl⟩
theorem Rb(w r:Nat)(s:Sy)(l:Lay)(who ev jo:Int)(en:Bool)(does:Int)(node:Int)(has:Bool)(nx out:List Int)(base cap n:Int)(gu:Bool)(at_:Nat)(b t x:Int)(σ:Hp):ACalls Tryz.prog 392 [.ptr w 0] ((w,dS s l who ev jo en does (.iface 404 (.ptr r 0)) node has nx out)::(r,l5 ⟨base,cap,n,false,gu,at_,b,t,x⟩)::σ) (aB (.int .i64 2) ((w,dS s l who ev jo en does (.iface 404 (.ptr r 0)) node has nx out)::(r,l5 ⟨base,cap,n,false,gu,at_,b,t,x⟩)::σ)):=by
 refine au Tryz.func392 ?_
 refine aa 0 ?_
 refine aa 1 ?_
 exact .done ⟨rfl,rfl⟩
def uQ(l:Lay):Int:=if l.k<2 then 0 else 1
theorem GP(w r:Nat)(s:Sy)(l:Lay)(who ev jo:Int)(en:Bool)(does:Int)(node:Int)(has:Bool)(nx out:List Int)(f c0:Int)(is gu:Bool)(σ:Hp):ACalls Tryz.prog 392 [.ptr w 0] ((w,dS s l who ev jo en does (.iface 406 (.ptr r 0)) node has nx out)::(r,EU ⟨f,c0,is,gu⟩)::σ) (aB (.int .i64 (uQ l)) ((w,dS s l who ev jo is does (.iface 406 (.ptr r 0)) node has nx out)::(r,EU ⟨f,c0,is,gu⟩)::σ)):=by
 refine au Tryz.func392 ?_
 cases is with
 |true=>
  refine aa 0 ?_
  refine aa 1 ?_
  refine aj 0 ?_
  refine dm [] (M0 w s l who ev jo true does (.iface 406 (.ptr r 0)) node has nx out _) (fun c=>?_) (fun c=>?_)
  ·exact .done ⟨aJ (ah (fv (by assumption))).symm,by subst_vars;rfl⟩
  ·exact .done ⟨aJ (ag (qd (by assumption))).symm,by subst_vars;rfl⟩
 |false=>
  refine aa 0 ?_
  refine aa 1 ?_
  refine aj 0 ?_
  refine dm [] (M0 w s l who ev jo false does (.iface 406 (.ptr r 0)) node has nx out _) (fun c=>?_) (fun c=>?_)
  ·exact .done ⟨aJ (ah (fv (by assumption))).symm,by subst_vars;rfl⟩
  ·exact .done ⟨aJ (ag (qd (by assumption))).symm,by subst_vars;rfl⟩
theorem Sf(w r:Nat)(s:Sy)(l:Lay)(who ev jo:Int)(en:Bool)(does:Int)(node:Int)(has:Bool)(nx out:List Int)(f c0 v:Int)(gu:Bool)(σ:Hp):ACalls Tryz.prog 392 [.ptr w 0] ((w,dS s l who ev jo en does (.iface 409 (.ptr r 0)) node has nx out)::(r,FZ ⟨f,c0,v,gu⟩)::σ) (aB (.int .i64 4) ((w,dS s l who ev jo en does (.iface 409 (.ptr r 0)) node has nx out)::(r,FZ ⟨f,c0,v,gu⟩)::σ)):=by
 refine au Tryz.func392 ?_
 refine aa 0 ?_
 exact .done ⟨rfl,rfl⟩
theorem G8(w r:Nat)(s:Sy)(l:Lay)(who ev jo:Int)(en:Bool)(does:Int)(node:Int)(has:Bool)(nx out:List Int)(x:List Int)(base what words:Int)(gu:Bool)(at_:Nat)(ld:Bool)(z:Int)(σ:Hp)(hf:Fit s)(hx:aU x)(lx:x.length≤10000):ACalls Tryz.prog 392 [.ptr w 0] ((w,dS s l who ev jo en does (.iface 412 (.ptr r 0)) node has nx out)::(r,ka (.ae (.int .u64) x) base what words gu at_ ld z)::σ) (aB (.int .i64 (uY s node)) ((w,dS s l who (wr (ev+1)) jo en does (.iface 412 (.ptr r 0)) node has (ar s.n s.aT node) (rY (pM s node x) (ia s x node.toNat)))::(r,ka (.ae (.int .u64) x) base what words gu at_ ld z)::σ)):=by
 refine au Tryz.func392 ?_
 refine aa 0 ?_
 refine aa 1 ?_
 refine az [] (agp w s l who ev jo en does (.iface 412 (.ptr r 0)) node has nx out x _ hf hx lx) ?_
 exact .done ⟨rfl,rfl⟩
theorem Sd(w r:Nat)(s:Sy)(l:Lay)(who ev jo:Int)(en:Bool)(does:Int)(node:Int)(has:Bool)(nx out:List Int)(base what words:Int)(a:List Int)(gu:Bool)(tr:Int)(at_:Nat)(ld:Bool)(x:Int)(σ:Hp):ACalls Tryz.prog 392 [.ptr w 0] ((w,dS s l who ev jo en does (.iface 417 (.ptr r 0)) node has nx out)::(r,zK ⟨base,what,words,a,true,gu,tr,at_,ld,x⟩)::σ) (aB (.int .i64 6) ((w,dS s l who ev (wr (jo+1)) en does (.iface 417 (.ptr r 0)) node has nx out)::(r,zK ⟨base,what,words,a,true,gu,tr,at_,ld,x⟩)::σ)):=by
 refine au Tryz.func392 ?_
 refine aa 0 ?_
 refine aa 1 ?_
 refine aa 0 ?_
 refine aj 0 ?_
 exact .done ⟨rfl,rfl⟩
theorem Se(w r:Nat)(s:Sy)(l:Lay)(who ev jo:Int)(en:Bool)(does:Int)(node:Int)(has:Bool)(nx out:List Int)(base what words:Int)(a:List Int)(gu:Bool)(tr:Int)(at_:Nat)(ld:Bool)(x:Int)(σ:Hp)(hx:0<nx.length):ACalls Tryz.prog 392 [.ptr w 0] ((w,dS s l who ev jo en does (.iface 417 (.ptr r 0)) node has nx out)::(r,zK ⟨base,what,words,a,false,gu,tr,at_,ld,x⟩)::σ) (aB (.int .i64 (kp nx)) ((w,dS s l who ev jo en does (.iface 417 (.ptr r 0)) node has nx.tail out)::(r,zK ⟨base,what,words,a,false,gu,tr,at_,ld,x⟩)::σ)):=by
 refine au Tryz.func392 ?_
 refine aa 0 ?_
 refine aa 1 ?_
 refine az [] (My w s l who ev jo en does (.iface 417 (.ptr r 0)) node has nx out _ hx) ?_
 exact .done ⟨rfl,rfl⟩
theorem Sb(w r:Nat)(s:Sy)(l:Lay)(who ev jo:Int)(en:Bool)(does:Int)(node:Int)(has:Bool)(nx out:List Int)(f c0 v:Int)(gu jS:Bool)(σ:Hp):ACalls Tryz.prog 392 [.ptr w 0] ((w,dS s l who ev jo en does (.iface 420 (.ptr r 0)) node has nx out)::(r,zE ⟨f,c0,v,true,gu,jS⟩)::σ) (aB (.int .i64 7) ((w,dS s l who ev jo en does (.iface 420 (.ptr r 0)) node has nx out)::(r,zE ⟨f,c0,v,true,gu,jS⟩)::σ)):=by
 refine au Tryz.func392 ?_
 refine aa 0 ?_
 refine aa 1 ?_
 exact .done ⟨rfl,rfl⟩
theorem Sc(w r:Nat)(s:Sy)(l:Lay)(who ev jo:Int)(en:Bool)(does:Int)(node:Int)(has:Bool)(nx out:List Int)(f c0 v:Int)(gu jS:Bool)(σ:Hp)(hx:0<nx.length):ACalls Tryz.prog 392 [.ptr w 0] ((w,dS s l who ev jo en does (.iface 420 (.ptr r 0)) node has nx out)::(r,zE ⟨f,c0,v,false,gu,jS⟩)::σ) (aB (.int .i64 (kp nx)) ((w,dS s l who ev jo en does (.iface 420 (.ptr r 0)) node has nx.tail out)::(r,zE ⟨f,c0,v,false,gu,jS⟩)::σ)):=by
 refine au Tryz.func392 ?_
 refine aa 0 ?_
 refine aa 1 ?_
 refine az [] (My w s l who ev jo en does (.iface 420 (.ptr r 0)) node has nx out _ hx) ?_
 exact .done ⟨rfl,rfl⟩
theorem TC(w r:Nat)(s:Sy)(l:Lay)(who ev jo:Int)(en:Bool)(does:Int)(node:Int)(has:Bool)(nx out:List Int)(q:DQ)(σ:Hp)(hx:0<nx.length):ACalls Tryz.prog 392 [.ptr w 0] ((w,dS s l who ev jo en does (.iface 425 (.ptr r 0)) node has nx out)::(r,l5 q)::σ) (aB (.int .i64 (kp nx)) ((w,dS s l who ev jo en does (.iface 425 (.ptr r 0)) node has nx.tail out)::(r,l5 q)::σ)):=by
 refine au Tryz.func392 ?_
 refine aa 0 ?_
 refine az [] (My w s l who ev jo en does (.iface 425 (.ptr r 0)) node has nx out _ hx) ?_
 exact .done ⟨rfl,rfl⟩
theorem Rc(w r:Nat)(s:Sy)(l:Lay)(who ev jo:Int)(en:Bool)(does:Int)(node:Int)(has:Bool)(nx out:List Int)(t:Rk)(σ:Hp):ACalls Tryz.prog 392 [.ptr w 0] ((w,dS s l who ev jo en does (.iface 427 (.ptr r 0)) node has nx out)::(r,ES t)::σ) (aB (.int .i64 0) ((w,dS s l who ev jo en does (.iface 427 (.ptr r 0)) node false nx out)::(r,ES t)::σ)):=by
 refine au Tryz.func392 ?_
 refine aa 0 ?_
 refine aj 0 ?_
 exact .done ⟨rfl,rfl⟩
set_option maxHeartbeats 4000000
theorem af4(M:AMem)(r:Nat)(m:M.S)(base what words x:Int)(at_:Nat)(fy:Bool)(l:List Int)(c:AV)(acc:Hp)(d:Int)(σ:Hp)(hf:M.O.free (M.abs m))(dV:at_<cw words)(hv:kN c acc l)(hl:l.length≤2000):
  ACalls Tryz.prog 406 [.ptr r 0,M.v,.int .i64 d] ((r,ka c base what words false at_ fy x)::(acc++(M.B m++σ))) (fun z σ'=>∃m' c' bQ,kN c' bQ (l++[(M.O.ld (M.abs m) (wr (base+at_))).1])∧M.abs m'=(M.O.ld (M.abs m) (wr (base+at_))).2∧z=.bool (decide (at_+1=cw words))∧σ'=(r,ka c' base what words (decide (at_+1=cw words)) (at_+1) fy x)::(bQ++(M.B m'++σ))):=by
 have hc:=Bk words
 have hw:IntKind.i64.wrap ((at_:Int)+1)=((at_+1:Nat):Int):=by rw[IntKind.wrap_i64];omega
 have ab:decide ((at_:Int)<(cw words:Nat))=true:=aL (by omega)
 cases hv with
 |nil=>
  refine au Tryz.func406 ?_
  refine aa 0 ?_
  refine .quiet (by kernel_rfl) ?_
  refine aa 0 ?_
  refine aa 0 ?_
  refine aH [] (oa _ _ _ _) ?_
  refine KV ab ?_
  refine .sched [5,7] (upto [5,7] 28 0) (by kernel_rfl) ?_
  refine aa 0 ?_
  refine aH [] (ab2 _) ?_
  refine aH [] (dF _ _ _) ?_
  refine aa 0 ?_
  refine aa 0 ?_
  refine ff.mk M.hL ?_
  refine M.aLoad [_] hf fun m' hm=>?_
  intro aD
  refine AppendAt.fresh 1 _ (.inl rfl) (.af 0 _ 0 1 _ rfl (cR rfl)) (by decide) (by decide) (by decide) (fun _ bn=>?_) (fun h=>absurd h (by decide))
  refine aj 2 ?_
  refine aa 2 ?_
  refine aj 2 ?_
  refine .sched [10] (upto [10] 15 0) (by kernel_rfl) ?_
  refine aa 2 ?_
  refine aa 2 ?_
  refine aH [] (oa _ _ _ _) ?_
  refine ak (fun c2=>?_) (fun c2=>?_)
  ·have c2:IntKind.i64.wrap ((↑at_:Int)+1)=(↑(cw words):Int):=c2
   refine aj 2 ?_
   refine aa 2 ?_
   exact .drop 1 1 ((.pull [1] (.done ⟨m',_,_,.af bn [_],hm,by rw[aL (show at_+1=cw words by omega)];rfl,by unfold ka;rw[aL (show at_+1=cw words by omega),← hw];rfl⟩)))
  ·have c2:¬(IntKind.i64.wrap ((↑at_:Int)+1)=(↑(cw words):Int)):=c2
   refine aj 2 ?_
   refine aa 2 ?_
   exact .drop 1 1 ((.pull [1] (.done ⟨m',_,_,.af bn [_],hm,by rw[bH (show ¬at_+1=cw words by omega)];rfl,by unfold ka;rw[bH (show ¬at_+1=cw words by omega),← hw];rfl⟩)))
 |af b l=>
  have hlen:(bz l).length=l.length*1:=by simp[bz]
  refine au Tryz.func406 ?_
  refine aa 0 ?_
  refine .quiet (by kernel_rfl) ?_
  refine aa 0 ?_
  refine aa 0 ?_
  refine aH [] (oa _ _ _ _) ?_
  refine KV ab ?_
  refine .sched [7] (.one 0 false (.one 1 false (.one 2 false (.one 3 false (.one 4 false (.one 6 false (.one 8 false (.one 9 false (.one 10 false (.one 11 false (.one 13 false (.one 14 false (.one 15 false (.one 16 false (.alt 5 (.one 7 true (.one 12 false (.one 17 false (.one 18 false (.one 19 false (.one 20 false (.one 21 false (.one 22 false (.one 23 false (.one 24 false (.one 25 false (.one 26 false (.one 27 false .stop))))))))))))) (.alt 12 (.alt 5 (.one 7 true (.one 17 false (.one 18 false (.one 19 false (.one 20 false (.one 21 false (.one 22 false (.one 23 false (.one 24 false (.one 25 false (.one 26 false (.one 27 false .stop)))))))))))) (.one 17 false (.one 18 false (.one 5 false (.one 7 true (.one 19 false (.one 20 false (.one 21 false (.one 22 false (.one 23 false (.one 24 false (.one 25 false (.one 26 false (.one 27 false .stop)))))))))))))) (.one 17 false (.alt 5 (.one 7 true (.one 12 false (.one 18 false (.one 19 false (.one 20 false (.one 21 false (.one 22 false (.one 23 false (.one 24 false (.one 25 false (.one 26 false (.one 27 false .stop)))))))))))) (.one 12 false (.one 18 false (.one 5 false (.one 7 true (.one 19 false (.one 20 false (.one 21 false (.one 22 false (.one 23 false (.one 24 false (.one 25 false (.one 26 false (.one 27 false .stop))))))))))))))))))))))))))))))) (by kernel_rfl) ?_
  refine aa 0 ?_
  refine And.intro ?_ ?_
  ·(refine .mk [] _ (C1 b l.length (bz l) _ (cQ _ (bU ..)) hlen (by omega)) ?_;rintro _ _ ⟨b',rfl,rfl⟩)
   refine aH [] (dF _ _ _) ?_
   refine aa 1 ?_
   refine aa 1 ?_
   refine ff.mk M.hL ?_
   refine M.aLoad [_,_,_] hf fun m' hm=>?_
   intro aD
   refine AppendAt.more 1 b' l.length 1 (bz l) _ rfl rfl (by show l.length*1≤(bz l).length;omega) (.af 0 _ 0 1 _ rfl (cR rfl)) (by omega) (by decide) (by decide) (fun bn=>?_)
   refine aj 2 ?_
   refine aa 2 ?_
   refine aj 2 ?_
   refine .sched [10] (upto [10] 15 0) (by kernel_rfl) ?_
   refine aa 2 ?_
   refine aa 2 ?_
   refine aH [] (oa _ _ _ _) ?_
   refine ak (fun c2=>?_) (fun c2=>?_)
   ·have c2:IntKind.i64.wrap ((↑at_:Int)+1)=(↑(cw words):Int):=c2
    refine aj 2 ?_
    refine aa 2 ?_
    exact .drop 1 1 (.drop 2 1 ((.pull [1] (.done ⟨m',_,_,kN.push bn l _,hm,by rw[aL (show at_+1=cw words by omega)];rfl,by unfold ka;rw[aL (show at_+1=cw words by omega),← hw];rfl⟩))))
   ·have c2:¬(IntKind.i64.wrap ((↑at_:Int)+1)=(↑(cw words):Int)):=c2
    refine aj 2 ?_
    refine aa 2 ?_
    exact .drop 1 1 (.drop 2 1 ((.pull [1] (.done ⟨m',_,_,kN.push bn l _,hm,by rw[bH (show ¬at_+1=cw words by omega)];rfl,by unfold ka;rw[bH (show ¬at_+1=cw words by omega),← hw];rfl⟩))))
  ·refine And.intro ?_ ?_
   ·refine aa 0 ?_
    refine And.intro ?_ ?_
    ·(refine .mk [] _ (C1 b l.length (bz l) _ (cQ _ (bU ..)) hlen (by omega)) ?_;rintro _ _ ⟨b',rfl,rfl⟩)
     refine aH [] (dF _ _ _) ?_
     refine aa 1 ?_
     refine ff.mk M.hL ?_
     refine M.aLoad [_,_,_] hf fun m' hm=>?_
     intro rb
     refine AppendAt.more 1 b' l.length 1 (bz l) _ rfl rfl (by show l.length*1≤(bz l).length;omega) (.af 0 _ 0 1 _ rfl (cR rfl)) (by omega) (by decide) (by decide) (fun bn=>?_)
     refine aj 2 ?_
     refine aa 2 ?_
     refine aj 2 ?_
     refine .sched [10] (upto [10] 15 0) (by kernel_rfl) ?_
     refine aa 2 ?_
     refine aa 2 ?_
     refine aH [] (oa _ _ _ _) ?_
     refine ak (fun c4=>?_) (fun c4=>?_)
     ·have c4:IntKind.i64.wrap ((↑at_:Int)+1)=(↑(cw words):Int):=c4
      refine aj 2 ?_
      refine aa 2 ?_
      exact .drop 1 1 (.drop 2 1 ((.pull [1] (.done ⟨m',_,_,kN.push bn l _,hm,by rw[aL (show at_+1=cw words by omega)];rfl,by unfold ka;rw[aL (show at_+1=cw words by omega),← hw];rfl⟩))))
     ·have c4:¬(IntKind.i64.wrap ((↑at_:Int)+1)=(↑(cw words):Int)):=c4
      refine aj 2 ?_
      refine aa 2 ?_
      exact .drop 1 1 (.drop 2 1 ((.pull [1] (.done ⟨m',_,_,kN.push bn l _,hm,by rw[bH (show ¬at_+1=cw words by omega)];rfl,by unfold ka;rw[bH (show ¬at_+1=cw words by omega),← hw];rfl⟩))))
    ·refine aa 0 ?_
     (refine .mk [] _ (C1 b l.length (bz l) _ (cQ _ (bU ..)) hlen (by omega)) ?_;rintro _ _ ⟨b',rfl,rfl⟩)
     refine aH [] (dF _ _ _) ?_
     refine ff.mk M.hL ?_
     refine M.aLoad [_,_,_] hf fun m' hm=>?_
     intro Cv
     refine AppendAt.more 1 b' l.length 1 (bz l) _ rfl rfl (by show l.length*1≤(bz l).length;omega) (.af 0 _ 0 1 _ rfl (cR rfl)) (by omega) (by decide) (by decide) (fun bn=>?_)
     refine aj 2 ?_
     refine aa 2 ?_
     refine aj 2 ?_
     refine .sched [10] (upto [10] 15 0) (by kernel_rfl) ?_
     refine aa 2 ?_
     refine aa 2 ?_
     refine aH [] (oa _ _ _ _) ?_
     refine ak (fun c6=>?_) (fun c6=>?_)
     ·have c6:IntKind.i64.wrap ((↑at_:Int)+1)=(↑(cw words):Int):=c6
      refine aj 2 ?_
      refine aa 2 ?_
      exact .drop 1 1 (.drop 2 1 ((.pull [1] (.done ⟨m',_,_,kN.push bn l _,hm,by rw[aL (show at_+1=cw words by omega)];rfl,by unfold ka;rw[aL (show at_+1=cw words by omega),← hw];rfl⟩))))
     ·have c6:¬(IntKind.i64.wrap ((↑at_:Int)+1)=(↑(cw words):Int)):=c6
      refine aj 2 ?_
      refine aa 2 ?_
      exact .drop 1 1 (.drop 2 1 ((.pull [1] (.done ⟨m',_,_,kN.push bn l _,hm,by rw[bH (show ¬at_+1=cw words by omega)];rfl,by unfold ka;rw[bH (show ¬at_+1=cw words by omega),← hw];rfl⟩))))
   ·refine aa 0 ?_
    refine And.intro ?_ ?_
    ·(refine .mk [] _ (C1 b l.length (bz l) _ (cQ _ (bU ..)) hlen (by omega)) ?_;rintro _ _ ⟨b',rfl,rfl⟩)
     refine aH [] (dF _ _ _) ?_
     refine aa 1 ?_
     refine ff.mk M.hL ?_
     refine M.aLoad [_,_,_] hf fun m' hm=>?_
     intro bl7
     refine AppendAt.more 1 b' l.length 1 (bz l) _ rfl rfl (by show l.length*1≤(bz l).length;omega) (.af 0 _ 0 1 _ rfl (cR rfl)) (by omega) (by decide) (by decide) (fun bn=>?_)
     refine aj 2 ?_
     refine aa 2 ?_
     refine aj 2 ?_
     refine .sched [10] (upto [10] 15 0) (by kernel_rfl) ?_
     refine aa 2 ?_
     refine aa 2 ?_
     refine aH [] (oa _ _ _ _) ?_
     refine ak (fun c8=>?_) (fun c8=>?_)
     ·have c8:IntKind.i64.wrap ((↑at_:Int)+1)=(↑(cw words):Int):=c8
      refine aj 2 ?_
      refine aa 2 ?_
      exact .drop 1 1 (.drop 2 1 ((.pull [1] (.done ⟨m',_,_,kN.push bn l _,hm,by rw[aL (show at_+1=cw words by omega)];rfl,by unfold ka;rw[aL (show at_+1=cw words by omega),← hw];rfl⟩))))
     ·have c8:¬(IntKind.i64.wrap ((↑at_:Int)+1)=(↑(cw words):Int)):=c8
      refine aj 2 ?_
      refine aa 2 ?_
      exact .drop 1 1 (.drop 2 1 ((.pull [1] (.done ⟨m',_,_,kN.push bn l _,hm,by rw[bH (show ¬at_+1=cw words by omega)];rfl,by unfold ka;rw[bH (show ¬at_+1=cw words by omega),← hw];rfl⟩))))
    ·refine aa 0 ?_
     (refine .mk [] _ (C1 b l.length (bz l) _ (cQ _ (bU ..)) hlen (by omega)) ?_;rintro _ _ ⟨b',rfl,rfl⟩)
     refine aH [] (dF _ _ _) ?_
     refine ff.mk M.hL ?_
     refine M.aLoad [_,_,_] hf fun m' hm=>?_
     intro bl9
     refine AppendAt.more 1 b' l.length 1 (bz l) _ rfl rfl (by show l.length*1≤(bz l).length;omega) (.af 0 _ 0 1 _ rfl (cR rfl)) (by omega) (by decide) (by decide) (fun bn=>?_)
     refine aj 2 ?_
     refine aa 2 ?_
     refine aj 2 ?_
     refine .sched [10] (upto [10] 15 0) (by kernel_rfl) ?_
     refine aa 2 ?_
     refine aa 2 ?_
     refine aH [] (oa _ _ _ _) ?_
     refine ak (fun jT=>?_) (fun jT=>?_)
     ·have jT:IntKind.i64.wrap ((↑at_:Int)+1)=(↑(cw words):Int):=jT
      refine aj 2 ?_
      refine aa 2 ?_
      exact .drop 1 1 (.drop 2 1 ((.pull [1] (.done ⟨m',_,_,kN.push bn l _,hm,by rw[aL (show at_+1=cw words by omega)];rfl,by unfold ka;rw[aL (show at_+1=cw words by omega),← hw];rfl⟩))))
     ·have jT:¬(IntKind.i64.wrap ((↑at_:Int)+1)=(↑(cw words):Int)):=jT
      refine aj 2 ?_
      refine aa 2 ?_
      exact .drop 1 1 (.drop 2 1 ((.pull [1] (.done ⟨m',_,_,kN.push bn l _,hm,by rw[bH (show ¬at_+1=cw words by omega)];rfl,by unfold ka;rw[bH (show ¬at_+1=cw words by omega),← hw];rfl⟩))))
theorem UO(M:AMem)(r:Nat)(base what words x:Int)(fy:Bool)(c:AV)(d:Int)(σ:Hp)(dV:cw words=0):
  ACalls Tryz.prog 406 [.ptr r 0,M.v,.int .i64 d] ((r,ka c base what words false 0 fy x)::σ) (aB (.bool true) ((r,ka c base what words true 0 fy x)::σ)):=by
 have ab:decide ((0:Int)<(cw words:Nat))=false:=bH (by omega)
 have heq:decide ((0:Int)=(cw words:Nat))=true:=aL (by omega)
 refine au Tryz.func406 ?_
 refine aa 0 ?_
 refine .quiet (by kernel_rfl) ?_
 refine aa 0 ?_
 refine aa 0 ?_
 refine aH [] (oa _ _ _ _) ?_
 refine Yw ab ?_
 refine .sched [10] (upto [10] 15 0) (by kernel_rfl) ?_
 refine aa 0 ?_
 refine aa 0 ?_
 refine aH [] (oa _ _ _ _) ?_
 refine KV heq ?_
 refine aj 0 ?_
 refine aa 0 ?_
 exact .done ⟨rfl,rfl⟩
set_option maxHeartbeats 4000000
theorem wPop_ : Meth Tryz.prog 399 "Step" 401 := fun a w => by kernel_rfl
theorem wSteal_ : Meth Tryz.prog 404 "Step" 403 := fun a w => by kernel_rfl
theorem wPush_ : Meth Tryz.prog 425 "Step" 409 := fun a w => by kernel_rfl
theorem wQuiet_ : Meth Tryz.prog 406 "Step" 404 := fun a w => by kernel_rfl
theorem wClear_ : Meth Tryz.prog 409 "Step" 405 := fun a w => by kernel_rfl
theorem wTake_ : Meth Tryz.prog 420 "Step" 408 := fun a w => by kernel_rfl
theorem wRetire_ : Meth Tryz.prog 427 "Step" 410 := fun a w => by kernel_rfl
theorem wRead_ : Meth Tryz.prog 412 "Step" 406 := fun a w => by kernel_rfl
theorem wJoin_ : Meth Tryz.prog 417 "Step" 407 := fun a w => by kernel_rfl
theorem ahb{M:AMem}{f:FuncId}{xs:List AV}{X:Type}{B:X→List AV}{r:Nat}{cs:List AV}{res:X×M.O.A×Bool}{m:M.S}(fr:Hp){σ:Hp}{K:AV→Hp→Prop}(h:∀σ,ACalls Tryz.prog f xs ((r,cs)::(M.B m++σ)) (qA M σ B r res))
  (k1:∀m',M.abs m'=res.2.1→res.2.2=true→K (.bool true) (fr++((r,B res.1)::(M.B m'++σ)))) (k2:∀m',M.abs m'=res.2.1→res.2.2=false→K (.bool false) (fr++((r,B res.1)::(M.B m'++σ)))):CallAt Tryz.prog f K xs (fr++((r,cs)::(M.B m++σ))):=by
 have hp:∀(c:List AV) (b:Hp),((r,c)::(b++(fr++σ))).Perm (fr++((r,c)::(b++σ))):=fun c b=>eS fr ((r,c)::b) σ
 refine .perm _ (hp cs (M.B m)) (h (fr++σ)) ?_
 rintro x σ' ⟨m',h1,rfl,rfl⟩
 refine⟨_,(hp (B res.1) (M.B m')).symm,?_⟩
 cases hb:res.2.2 with
 |true=>exact k1 m' h1 hb
 |false=>exact k2 m' h1 hb
def mG(O:j7)(l:Lay)(base:Int)(x:List Int)(a:O.A):List Int×O.A×Bool:=
 if x.length<cw l.words then (x++[(O.ld a (wr (base+(x.length:Nat)))).1],(O.ld a (wr (base+(x.length:Nat)))).2,decide (x.length+1=cw l.words)) else (x,a,true)
def gi(O:j7)(l:Lay)(node:Int):Nw→O.A→Nw×O.A×Bool
 |.none,a=>(.none,a,false)
 |.pop q,a=>(.pop (fx O q a).1,(fx O q a).2)
 |.cx q,a=>(.cx (gJ O q a).1,(gJ O q a).2)
 |.quiet t,a=>(.quiet (sq O t a).1,(sq O t a).2)
 |.clear t,a=>(.clear (sr O t a).1,(sr O t a).2)
 |.read x,a=>(.read (mG O l (aX l node) x a).1,(mG O l (aX l node) x a).2)
 |.join j,a=>(.join (iq O j a).1,(iq O j a).2)
 |.take t,a=>(.take (kR O t a).1,(kR O t a).2)
 |.push q,a=>(.push (gx O q a).1,(gx O q a).2)
 |.dW t,a=>(.dW (tJ O t a).1,(tJ O t a).2)
def eB(s:Sy)(l:Lay)(x:WS):Nw→WS
 |.none=>x
 |.pop q=>if q.ok=true then ⟨x.ev,x.jo,x.en,rz l q.n,.none,pr l q.n,true,x.nx,x.out⟩ else ⟨x.ev,x.jo,x.en,rr l,.none,x.node,x.has,x.nx,x.out⟩
 |.cx q=>if q.ok=true then ⟨x.ev,x.jo,x.en,rz l q.n,.none,pr l q.n,true,x.nx,x.out⟩ else ⟨x.ev,x.jo,x.en,2,.none,x.node,x.has,x.nx,x.out⟩
 |.quiet t=>⟨x.ev,x.jo,t.is,uQ l,.none,x.node,x.has,x.nx,x.out⟩
 |.clear _=>⟨x.ev,x.jo,x.en,4,.none,x.node,x.has,x.nx,x.out⟩
 |.read y=>⟨wr (x.ev+1),x.jo,x.en,uY s x.node,.none,x.node,x.has,ar s.n s.aT x.node,rY (pM s x.node y) (ia s y x.node.toNat)⟩
 |.join j=>if j.changed=true then ⟨x.ev,wr (x.jo+1),x.en,6,.none,x.node,x.has,x.nx,x.out⟩ else ⟨x.ev,x.jo,x.en,kp x.nx,.none,x.node,x.has,x.nx.tail,x.out⟩
 |.take t=>if t.new=true then ⟨x.ev,x.jo,x.en,7,.none,x.node,x.has,x.nx,x.out⟩ else ⟨x.ev,x.jo,x.en,kp x.nx,.none,x.node,x.has,x.nx.tail,x.out⟩
 |.push _=>⟨x.ev,x.jo,x.en,kp x.nx,.none,x.node,x.has,x.nx.tail,x.out⟩
 |.dW _=>⟨x.ev,x.jo,x.en,0,.none,x.node,false,x.nx,x.out⟩
def km(l:Lay)(who:Int)(x:WS)(d:Int):Nw:=match x.now with
 |.none=>iK l who x.does x.node x.nx x.out d
 |n=>n
def dE(O:j7)(s:Sy)(l:Lay)(who:Int)(x:WS)(d:Int)(a:O.A):WS×O.A×Bool:=
 if x.en=true then (x,a,true)
 else if (gi O l x.node (km l who x d) a).2.2=true then (eB s l x (gi O l x.node (km l who x d) a).1,(gi O l x.node (km l who x d) a).2.1,(eB s l x (gi O l x.node (km l who x d) a).1).en)
 else (⟨x.ev,x.jo,x.en,x.does,(gi O l x.node (km l who x d) a).1,x.node,x.has,x.nx,x.out⟩,(gi O l x.node (km l who x d) a).2.1,false)
def vW(l:Lay)(nx:List Int):Nw→Prop
 |.none=>True
 |.pop q=>q.at_≤5∧0≤q.b
 |.cx q=>q.at_≤3∧0≤q.t
 |.quiet _=>True
 |.clear _=>True
 |.read x=>(x.length<cw l.words∨(cw l.words=0∧x=[]))∧aU x
 |.join j=>j.at_≤1024∧0<nx.length
 |.take _=>0<nx.length
 |.push q=>(q.at_≤3∧0≤q.b)∧0<nx.length
 |.dW _=>True
def ND(l:Lay)(x:WS):Prop:=(x.does=5∨x.does=6∨x.does=7→0<x.nx.length)∧(x.does=1→nK l≠0∧l.k≠0)∧vW l x.nx x.now
def zn(c:AV)(acc:Hp):Nw→Prop
 |.read x=>kN c acc x∧(x=[]→c=.ai)
 |_=>True
def WB(s:Sy)(l:Lay)(who:Int)(w r:Nat)(c:AV)(acc:Hp)(x:WS):Hp:=(w,dS s l who x.ev x.jo x.en x.does (Jb r x.now) x.node x.has x.nx x.out)::Jc l x.node r c acc x.now
set_option maxHeartbeats 4000000
def pH(M:AMem)(s:Sy)(l:Lay)(who:Int)(w:Nat)(res:WS×M.O.A×Bool)(σ:Hp):AV→Hp→Prop:=fun z σ'=>∃m' r c acc,zn c acc res.1.now∧M.abs m'=res.2.1∧z=.bool res.2.2∧σ'=WB s l who w r c acc res.1++(M.B m'++σ)
theorem ab8{M:AMem}{s:Sy}{l:Lay}{who:Int}{w:Nat}{σ:Hp}{x:WS}{a:M.O.A}{d:Int}(h:x.en=true){m:M.S}(hm:M.abs m=a){r:Nat}{c:AV}{acc:Hp}(rd:zn c acc x.now):pH M s l who w (dE M.O s l who x d a) σ (.bool true) (WB s l who w r c acc x++(M.B m++σ)):=by
 unfold dE
 rw[ah h]
 exact⟨m,r,c,acc,rd,hm,rfl,rfl⟩
theorem gK{M:AMem}{s:Sy}{l:Lay}{who:Int}{w:Nat}{σ:Hp}{x:WS}{a a':M.O.A}{d:Int}{n n':Nw}{b:Bool}{m':M.S}{y:WS}(he:x.en=false)(dV:km l who x d=n)(hn:gi M.O l x.node n a=(n',a',b))(hb:b=true)(hm:M.abs m'=a')(hy:eB s l x n'=y)(h0:y.now=.none)(r:Nat):pH M s l who w (dE M.O s l who x d a) σ (.bool y.en) (WB s l who w r .ai [] y++(M.B m'++σ)):=by
 unfold dE
 rw[ag (by rw[he];decide),dV,hn]
 dsimp only
 rw[ah hb,hy]
 exact⟨m',r,.ai,[],by rw[h0];trivial,hm,rfl,rfl⟩
theorem gY{M:AMem}{s:Sy}{l:Lay}{who:Int}{w:Nat}{σ:Hp}{x:WS}{a a':M.O.A}{d:Int}{n n':Nw}{b:Bool}{m':M.S}(he:x.en=false)(dV:km l who x d=n)(hn:gi M.O l x.node n a=(n',a',b))(hb:b=false)(hm:M.abs m'=a')(r:Nat)(c:AV)(acc:Hp)(rd:zn c acc n'):pH M s l who w (dE M.O s l who x d a) σ (.bool false) (WB s l who w r c acc ⟨x.ev,x.jo,x.en,x.does,n',x.node,x.has,x.nx,x.out⟩++(M.B m'++σ)):=by
 unfold dE
 rw[ag (by rw[he];decide),dV,hn]
 dsimp only
 rw[ag (by rw[hb];decide)]
 exact⟨m',r,c,acc,rd,hm,rfl,rfl⟩
theorem iE{M:AMem}{f:FuncId}{xs:List AV}{X:Type}{B:X→List AV}{r:Nat}{cs:List AV}{res:X×M.O.A×Bool}{x':X}{a':M.O.A}{b':Bool}{m:M.S}(fr:Hp){σ:Hp}{K:AV→Hp→Prop}(an:res=(x',a',b'))(h:∀σ,ACalls Tryz.prog f xs ((r,cs)::(M.B m++σ)) (qA M σ B r res))
  (k1:∀m',M.abs m'=a'→b'=true→K (.bool true) (fr++((r,B x')::(M.B m'++σ)))) (k2:∀m',M.abs m'=a'→b'=false→K (.bool false) (fr++((r,B x')::(M.B m'++σ)))):CallAt Tryz.prog f K xs (fr++((r,cs)::(M.B m++σ))):=by
 subst an
 exact ahb fr h k1 k2
theorem u0{O:j7}{l:Lay}{node:Int}{q q':DQ}{a a':O.A}{b:Bool}(h:fx O q a=(q',a',b)):gi O l node (.pop q) a=(.pop q',a',b):=by show (Nw.pop (fx O q a).1,(fx O q a).2)=_;rw[h]
theorem uN{O:j7}{l:Lay}{node:Int}{q q':DQ}{a a':O.A}{b:Bool}(h:gJ O q a=(q',a',b)):gi O l node (.cx q) a=(.cx q',a',b):=by show (Nw.cx (gJ O q a).1,(gJ O q a).2)=_;rw[h]
theorem w7{O:j7}{l:Lay}{node:Int}{q q':Qk}{a a':O.A}{b:Bool}(h:sq O q a=(q',a',b)):gi O l node (.quiet q) a=(.quiet q',a',b):=by show (Nw.quiet (sq O q a).1,(sq O q a).2)=_;rw[h]
theorem GW{O:j7}{l:Lay}{node:Int}{q q':Ck}{a a':O.A}{b:Bool}(h:sr O q a=(q',a',b)):gi O l node (.clear q) a=(.clear q',a',b):=by show (Nw.clear (sr O q a).1,(sr O q a).2)=_;rw[h]
theorem uT{O:j7}{l:Lay}{node:Int}{q q':Tk}{a a':O.A}{b:Bool}(h:kR O q a=(q',a',b)):gi O l node (.take q) a=(.take q',a',b):=by show (Nw.take (kR O q a).1,(kR O q a).2)=_;rw[h]
theorem Ds{O:j7}{l:Lay}{node:Int}{q q':DQ}{a a':O.A}{b:Bool}(h:gx O q a=(q',a',b)):gi O l node (.push q) a=(.push q',a',b):=by show (Nw.push (gx O q a).1,(gx O q a).2)=_;rw[h]
theorem GA{O:j7}{l:Lay}{node:Int}{q q':Rk}{a a':O.A}{b:Bool}(h:tJ O q a=(q',a',b)):gi O l node (.dW q) a=(.dW q',a',b):=by show (Nw.dW (tJ O q a).1,(tJ O q a).2)=_;rw[h]
theorem uU{O:j7}{l:Lay}{node:Int}{q q':Jn}{a a':O.A}{b:Bool}(h:iq O q a=(q',a',b)):gi O l node (.join q) a=(.join q',a',b):=by show (Nw.join (iq O q a).1,(iq O q a).2)=_;rw[h]
theorem yN{O:j7}{l:Lay}{node:Int}{q q':List Int}{a a':O.A}{b:Bool}(h:mG O l (aX l node) q a=(q',a',b)):gi O l node (.read q) a=(.read q',a',b):=by show (Nw.read (mG O l (aX l node) q a).1,(mG O l (aX l node) q a).2)=_;rw[h]
theorem acM(l:Lay)(who does node:Int)(nx out:List Int)(d:Int):iK l who does node nx out d≠.none:=by
 unfold iK;repeat' (first | split | (intro h;cases h))
theorem ae9{l:Lay}{who does node:Int}{nx out:List Int}{d:Int}(h:does=5∨does=6∨does=7→0<nx.length):vW l nx (iK l who does node nx out d):=by
 unfold iK
 repeat' split
 ·exact⟨bE _,jD _⟩
 ·exact⟨bE _,jD _⟩
 ·trivial
 ·trivial
 ·refine⟨?_,fun _ h=>by cases h⟩
  rcases uD (cw l.words) with h | h
  ·exact .inr ⟨h,rfl⟩
  ·exact .inl h
 ·exact⟨bE _,h (by omega)⟩
 ·exact h (by omega)
 ·exact⟨⟨bE _,jD _⟩,h (by omega)⟩
 ·trivial
theorem Vv{M:AMem}{r w:Nat}{wc:List AV}{m:M.S}{base what words x d:Int}{l:List Int}{c:AV}{acc σ:Hp}{K:AV→Hp→Prop}(hf:M.O.free (M.abs m))(dV:l.length<cw words)(hv:kN c acc l)
  (k1:∀m' b,M.abs m'=(M.O.ld (M.abs m) (wr (base+(l.length:Nat)))).2→l.length+1=cw words→K (.bool true) ((w,wc)::(r,ka (.af b 0 (l++[(M.O.ld (M.abs m) (wr (base+(l.length:Nat)))).1]).length 1) base what words true (l++[(M.O.ld (M.abs m) (wr (base+(l.length:Nat)))).1]).length false x)::(b,bz (l++[(M.O.ld (M.abs m) (wr (base+(l.length:Nat)))).1]))::(M.B m'++σ)))
  (k2:∀m' b,M.abs m'=(M.O.ld (M.abs m) (wr (base+(l.length:Nat)))).2→¬l.length+1=cw words→K (.bool false) ((w,wc)::(r,ka (.af b 0 (l++[(M.O.ld (M.abs m) (wr (base+(l.length:Nat)))).1]).length 1) base what words false (l++[(M.O.ld (M.abs m) (wr (base+(l.length:Nat)))).1]).length false x)::(b,bz (l++[(M.O.ld (M.abs m) (wr (base+(l.length:Nat)))).1]))::(M.B m'++σ))):CallAt Tryz.prog 406 K [.ptr r 0,M.v,.int .i64 d] ((w,wc)::(r,ka c base what words false l.length false x)::(acc++(M.B m++σ))):=by
 have Jy:=Bk words
 have hp:∀(cs:List AV) (a b:Hp),((r,cs)::(a++(b++((w,wc)::σ)))).Perm ((w,wc)::(r,cs)::(a++(b++σ))):=fun cs a b=>by
  have:=eS [(w,wc)] ((r,cs)::(a++b)) σ
  simpa using this
 refine .perm _ (hp _ acc (M.B m)) (af4 M r m base what words x l.length false l c acc d ((w,wc)::σ) hf dV hv (by omega)) ?_
 rintro z σ' ⟨m',c',bQ,h1,h2,rfl,rfl⟩
 refine⟨_,(hp _ bQ (M.B m')).symm,?_⟩
 have hlen:(l++[(M.O.ld (M.abs m) (wr (base+(l.length:Nat)))).1]).length=l.length+1:=by simp
 generalize hg:l++[(M.O.ld (M.abs m) (wr (base+(l.length:Nat)))).1]=g at h1 k1 k2 hlen
 rw[← hlen]
 rw[← hlen]at k1 k2
 cases h1 with
 |nil=>simp at hlen
 |af b g=>
  by_cases he:g.length=cw words
  ·rw[aL he];exact k1 m' b h2 he
  ·rw[bH he];exact k2 m' b h2 he
theorem aeR(M:AMem)(w r:Nat)(c:AV)(acc:Hp)(s:Sy)(l:Lay)(who:Int)(ev jo:Int)(does:Int)(q:DQ)(node:Int)(has:Bool)(nx out:List Int)(d:Int)(m:M.S)(σ:Hp)(hm:M.O.free (M.abs m))(o3:vW l nx (.pop q)):
  ACalls Tryz.prog 390 [.ptr w 0,M.v,.int .i64 d] (WB s l who w r c acc ⟨ev,jo,false,does,.pop q,node,has,nx,out⟩++(M.B m++σ)) (pH M s l who w (dE M.O s l who ⟨ev,jo,false,does,.pop q,node,has,nx,out⟩ d (M.abs m)) σ):=by
 refine au Tryz.func390 ?_
 refine aa 0 ?_
 refine aa 0 ?_
 refine aa 0 ?_
 obtain⟨q',a',b',an⟩:∃q' a' b',fx M.O q (M.abs m)=(q',a',b'):=⟨_,_,_,rfl⟩
 obtain⟨u1,u2,u3,u4,u5,u6,u7,u8,u9⟩:=q'
 cases u4 with
 |true=>
  refine .fwd 1 ?_
  refine .sched [5] (upto [5] 11 0) (by kernel_rfl) ?_
  refine aa 0 ?_
  refine aH [] (dF _ _ _) ?_
  refine⟨_,wPop_,?_⟩
  refine iE [_] an (fun σ=>I0 M r q m d σ hm (by have:=o3.1;omega) o3.2) (fun m' aS hb=>?_) (fun m' aS hb=>?_)
  ·refine az [] (TD w r s l who ev jo false does node has nx out _ _ _ _ _ _ _ _ _) ?_
   refine aj 0 ?_
   refine aj 0 ?_
   refine aa 0 ?_
   exact .drop 1 1 (.done (gK (x:=⟨ev,jo,false,does,.pop q,node,has,nx,out⟩) (n:=.pop q) rfl rfl (u0 an) hb aS rfl rfl r))
  ·exact .done (gY (x:=⟨ev,jo,false,does,.pop q,node,has,nx,out⟩) (n:=.pop q) rfl rfl (u0 an) hb aS r .ai [] trivial)
 |false=>
  refine .fwd 1 ?_
  refine .sched [5] (upto [5] 11 0) (by kernel_rfl) ?_
  refine aa 0 ?_
  refine aH [] (dF _ _ _) ?_
  refine⟨_,wPop_,?_⟩
  refine iE [_] an (fun σ=>I0 M r q m d σ hm (by have:=o3.1;omega) o3.2) (fun m' aS hb=>?_) (fun m' aS hb=>?_)
  ·refine az [] (TE w r s l who ev jo false does node has nx out _ _ _ _ _ _ _ _ _) ?_
   refine aj 0 ?_
   refine aj 0 ?_
   refine aa 0 ?_
   exact .drop 1 1 (.done (gK (x:=⟨ev,jo,false,does,.pop q,node,has,nx,out⟩) (n:=.pop q) rfl rfl (u0 an) hb aS rfl rfl r))
  ·exact .done (gY (x:=⟨ev,jo,false,does,.pop q,node,has,nx,out⟩) (n:=.pop q) rfl rfl (u0 an) hb aS r .ai [] trivial)
theorem aaS(M:AMem)(w r:Nat)(c:AV)(acc:Hp)(s:Sy)(l:Lay)(who:Int)(ev jo:Int)(does:Int)(q:DQ)(node:Int)(has:Bool)(nx out:List Int)(d:Int)(m:M.S)(σ:Hp)(hm:M.O.free (M.abs m))(o3:vW l nx (.cx q)):
  ACalls Tryz.prog 390 [.ptr w 0,M.v,.int .i64 d] (WB s l who w r c acc ⟨ev,jo,false,does,.cx q,node,has,nx,out⟩++(M.B m++σ)) (pH M s l who w (dE M.O s l who ⟨ev,jo,false,does,.cx q,node,has,nx,out⟩ d (M.abs m)) σ):=by
 refine au Tryz.func390 ?_
 refine aa 0 ?_
 refine aa 0 ?_
 refine aa 0 ?_
 obtain⟨q',a',b',an⟩:∃q' a' b',gJ M.O q (M.abs m)=(q',a',b'):=⟨_,_,_,rfl⟩
 obtain⟨u1,u2,u3,u4,u5,u6,u7,u8,u9⟩:=q'
 cases u4 with
 |true=>
  refine .fwd 1 ?_
  refine .sched [5] (upto [5] 11 0) (by kernel_rfl) ?_
  refine aa 0 ?_
  refine aH [] (dF _ _ _) ?_
  refine⟨_,wSteal_,?_⟩
  refine iE [_] an (fun σ=>HU M r q m d σ hm (by have:=o3.1;omega) o3.2) (fun m' aS hb=>?_) (fun m' aS hb=>?_)
  ·refine az [] (Ra w r s l who ev jo false does node has nx out _ _ _ _ _ _ _ _ _) ?_
   refine aj 0 ?_
   refine aj 0 ?_
   refine aa 0 ?_
   exact .drop 1 1 (.done (gK (x:=⟨ev,jo,false,does,.cx q,node,has,nx,out⟩) (n:=.cx q) rfl rfl (uN an) hb aS rfl rfl r))
  ·exact .done (gY (x:=⟨ev,jo,false,does,.cx q,node,has,nx,out⟩) (n:=.cx q) rfl rfl (uN an) hb aS r .ai [] trivial)
 |false=>
  refine .fwd 1 ?_
  refine .sched [5] (upto [5] 11 0) (by kernel_rfl) ?_
  refine aa 0 ?_
  refine aH [] (dF _ _ _) ?_
  refine⟨_,wSteal_,?_⟩
  refine iE [_] an (fun σ=>HU M r q m d σ hm (by have:=o3.1;omega) o3.2) (fun m' aS hb=>?_) (fun m' aS hb=>?_)
  ·refine az [] (Rb w r s l who ev jo false does node has nx out _ _ _ _ _ _ _ _ _) ?_
   refine aj 0 ?_
   refine aj 0 ?_
   refine aa 0 ?_
   exact .drop 1 1 (.done (gK (x:=⟨ev,jo,false,does,.cx q,node,has,nx,out⟩) (n:=.cx q) rfl rfl (uN an) hb aS rfl rfl r))
  ·exact .done (gY (x:=⟨ev,jo,false,does,.cx q,node,has,nx,out⟩) (n:=.cx q) rfl rfl (uN an) hb aS r .ai [] trivial)
theorem aaT(M:AMem)(w r:Nat)(c:AV)(acc:Hp)(s:Sy)(l:Lay)(who:Int)(ev jo:Int)(does:Int)(q:Qk)(node:Int)(has:Bool)(nx out:List Int)(d:Int)(m:M.S)(σ:Hp)(hm:M.O.free (M.abs m)):
  ACalls Tryz.prog 390 [.ptr w 0,M.v,.int .i64 d] (WB s l who w r c acc ⟨ev,jo,false,does,.quiet q,node,has,nx,out⟩++(M.B m++σ)) (pH M s l who w (dE M.O s l who ⟨ev,jo,false,does,.quiet q,node,has,nx,out⟩ d (M.abs m)) σ):=by
 refine au Tryz.func390 ?_
 refine aa 0 ?_
 refine aa 0 ?_
 refine aa 0 ?_
 obtain⟨q',a',b',an⟩:∃q' a' b',sq M.O q (M.abs m)=(q',a',b'):=⟨_,_,_,rfl⟩
 obtain⟨u1,u2,u3,u4⟩:=q'
 cases u3 with
 |true=>
  refine .fwd 1 ?_
  refine .sched [5] (upto [5] 11 0) (by kernel_rfl) ?_
  refine aa 0 ?_
  refine aH [] (dF _ _ _) ?_
  refine⟨_,wQuiet_,?_⟩
  refine iE [_] an (fun σ=>HV M r q m d σ hm) (fun m' aS hb=>?_) (fun m' aS hb=>?_)
  ·refine az [] (GP w r s l who ev jo false does node has nx out _ _ _ _ _) ?_
   refine aj 0 ?_
   refine aj 0 ?_
   refine aa 0 ?_
   exact .drop 1 1 (.done (gK (x:=⟨ev,jo,false,does,.quiet q,node,has,nx,out⟩) (n:=.quiet q) rfl rfl (w7 an) hb aS rfl rfl r))
  ·exact .done (gY (x:=⟨ev,jo,false,does,.quiet q,node,has,nx,out⟩) (n:=.quiet q) rfl rfl (w7 an) hb aS r .ai [] trivial)
 |false=>
  refine .fwd 1 ?_
  refine .sched [5] (upto [5] 11 0) (by kernel_rfl) ?_
  refine aa 0 ?_
  refine aH [] (dF _ _ _) ?_
  refine⟨_,wQuiet_,?_⟩
  refine iE [_] an (fun σ=>HV M r q m d σ hm) (fun m' aS hb=>?_) (fun m' aS hb=>?_)
  ·refine az [] (GP w r s l who ev jo false does node has nx out _ _ _ _ _) ?_
   refine aj 0 ?_
   refine aj 0 ?_
   refine aa 0 ?_
   exact .drop 1 1 (.done (gK (x:=⟨ev,jo,false,does,.quiet q,node,has,nx,out⟩) (n:=.quiet q) rfl rfl (w7 an) hb aS rfl rfl r))
  ·exact .done (gY (x:=⟨ev,jo,false,does,.quiet q,node,has,nx,out⟩) (n:=.quiet q) rfl rfl (w7 an) hb aS r .ai [] trivial)
theorem aaU(M:AMem)(w r:Nat)(c:AV)(acc:Hp)(s:Sy)(l:Lay)(who:Int)(ev jo:Int)(does:Int)(q:Ck)(node:Int)(has:Bool)(nx out:List Int)(d:Int)(m:M.S)(σ:Hp)(hm:M.O.free (M.abs m)):
  ACalls Tryz.prog 390 [.ptr w 0,M.v,.int .i64 d] (WB s l who w r c acc ⟨ev,jo,false,does,.clear q,node,has,nx,out⟩++(M.B m++σ)) (pH M s l who w (dE M.O s l who ⟨ev,jo,false,does,.clear q,node,has,nx,out⟩ d (M.abs m)) σ):=by
 refine au Tryz.func390 ?_
 refine aa 0 ?_
 refine aa 0 ?_
 refine aa 0 ?_
 obtain⟨q',a',b',an⟩:∃q' a' b',sr M.O q (M.abs m)=(q',a',b'):=⟨_,_,_,rfl⟩
 obtain⟨u1,u2,u3,u4⟩:=q'
 refine .fwd 1 ?_
 refine .sched [5] (upto [5] 11 0) (by kernel_rfl) ?_
 refine aa 0 ?_
 refine aH [] (dF _ _ _) ?_
 refine⟨_,wClear_,?_⟩
 refine iE [_] an (fun σ=>VT M r q m d σ hm) (fun m' aS hb=>?_) (fun m' aS hb=>?_)
 ·refine az [] (Sf w r s l who ev jo false does node has nx out _ _ _ _ _) ?_
  refine aj 0 ?_
  refine aj 0 ?_
  refine aa 0 ?_
  exact .drop 1 1 (.done (gK (x:=⟨ev,jo,false,does,.clear q,node,has,nx,out⟩) (n:=.clear q) rfl rfl (GW an) hb aS rfl rfl r))
 ·exact .done (gY (x:=⟨ev,jo,false,does,.clear q,node,has,nx,out⟩) (n:=.clear q) rfl rfl (GW an) hb aS r .ai [] trivial)
theorem acQ(M:AMem)(w r:Nat)(c:AV)(acc:Hp)(s:Sy)(l:Lay)(who:Int)(ev jo:Int)(does:Int)(q:Tk)(node:Int)(has:Bool)(nx out:List Int)(d:Int)(m:M.S)(σ:Hp)(hm:M.O.free (M.abs m))(o3:vW l nx (.take q)):
  ACalls Tryz.prog 390 [.ptr w 0,M.v,.int .i64 d] (WB s l who w r c acc ⟨ev,jo,false,does,.take q,node,has,nx,out⟩++(M.B m++σ)) (pH M s l who w (dE M.O s l who ⟨ev,jo,false,does,.take q,node,has,nx,out⟩ d (M.abs m)) σ):=by
 refine au Tryz.func390 ?_
 refine aa 0 ?_
 refine aa 0 ?_
 refine aa 0 ?_
 obtain⟨q',a',b',an⟩:∃q' a' b',kR M.O q (M.abs m)=(q',a',b'):=⟨_,_,_,rfl⟩
 obtain⟨u1,u2,u3,u4,u5,u6⟩:=q'
 cases u4 with
 |true=>
  refine .fwd 1 ?_
  refine .sched [5] (upto [5] 11 0) (by kernel_rfl) ?_
  refine aa 0 ?_
  refine aH [] (dF _ _ _) ?_
  refine⟨_,wTake_,?_⟩
  refine iE [_] an (fun σ=>Ik M r q m d σ hm) (fun m' aS hb=>?_) (fun m' aS hb=>?_)
  ·refine az [] (Sb w r s l who ev jo false does node has nx out _ _ _ _ _ _) ?_
   refine aj 0 ?_
   refine aj 0 ?_
   refine aa 0 ?_
   exact .drop 1 1 (.done (gK (x:=⟨ev,jo,false,does,.take q,node,has,nx,out⟩) (n:=.take q) rfl rfl (uT an) hb aS rfl rfl r))
  ·exact .done (gY (x:=⟨ev,jo,false,does,.take q,node,has,nx,out⟩) (n:=.take q) rfl rfl (uT an) hb aS r .ai [] trivial)
 |false=>
  refine .fwd 1 ?_
  refine .sched [5] (upto [5] 11 0) (by kernel_rfl) ?_
  refine aa 0 ?_
  refine aH [] (dF _ _ _) ?_
  refine⟨_,wTake_,?_⟩
  refine iE [_] an (fun σ=>Ik M r q m d σ hm) (fun m' aS hb=>?_) (fun m' aS hb=>?_)
  ·refine az [] (Sc w r s l who ev jo false does node has nx out _ _ _ _ _ _ o3) ?_
   refine aj 0 ?_
   refine aj 0 ?_
   refine aa 0 ?_
   exact .drop 1 1 (.done (gK (x:=⟨ev,jo,false,does,.take q,node,has,nx,out⟩) (n:=.take q) rfl rfl (uT an) hb aS rfl rfl r))
  ·exact .done (gY (x:=⟨ev,jo,false,does,.take q,node,has,nx,out⟩) (n:=.take q) rfl rfl (uT an) hb aS r .ai [] trivial)
theorem acS(M:AMem)(w r:Nat)(c:AV)(acc:Hp)(s:Sy)(l:Lay)(who:Int)(ev jo:Int)(does:Int)(q:DQ)(node:Int)(has:Bool)(nx out:List Int)(d:Int)(m:M.S)(σ:Hp)(hm:M.O.free (M.abs m))(o3:vW l nx (.push q)):
  ACalls Tryz.prog 390 [.ptr w 0,M.v,.int .i64 d] (WB s l who w r c acc ⟨ev,jo,false,does,.push q,node,has,nx,out⟩++(M.B m++σ)) (pH M s l who w (dE M.O s l who ⟨ev,jo,false,does,.push q,node,has,nx,out⟩ d (M.abs m)) σ):=by
 refine au Tryz.func390 ?_
 refine aa 0 ?_
 refine aa 0 ?_
 refine aa 0 ?_
 obtain⟨q',a',b',an⟩:∃q' a' b',gx M.O q (M.abs m)=(q',a',b'):=⟨_,_,_,rfl⟩
 refine .fwd 1 ?_
 refine .sched [5] (upto [5] 11 0) (by kernel_rfl) ?_
 refine aa 0 ?_
 refine aH [] (dF _ _ _) ?_
 refine⟨_,wPush_,?_⟩
 refine iE [_] an (fun σ=>Wt M r q m d σ hm (by have:=o3.1.1;omega) o3.1.2) (fun m' aS hb=>?_) (fun m' aS hb=>?_)
 ·refine az [] (TC w r s l who ev jo false does node has nx out _ _ o3.2) ?_
  refine aj 0 ?_
  refine aj 0 ?_
  refine aa 0 ?_
  exact .drop 1 1 (.done (gK (x:=⟨ev,jo,false,does,.push q,node,has,nx,out⟩) (n:=.push q) rfl rfl (Ds an) hb aS rfl rfl r))
 ·exact .done (gY (x:=⟨ev,jo,false,does,.push q,node,has,nx,out⟩) (n:=.push q) rfl rfl (Ds an) hb aS r .ai [] trivial)
theorem Zv(M:AMem)(w r:Nat)(c:AV)(acc:Hp)(s:Sy)(l:Lay)(who:Int)(ev jo:Int)(does:Int)(q:Rk)(node:Int)(has:Bool)(nx out:List Int)(d:Int)(m:M.S)(σ:Hp)(hm:M.O.free (M.abs m)):
  ACalls Tryz.prog 390 [.ptr w 0,M.v,.int .i64 d] (WB s l who w r c acc ⟨ev,jo,false,does,.dW q,node,has,nx,out⟩++(M.B m++σ)) (pH M s l who w (dE M.O s l who ⟨ev,jo,false,does,.dW q,node,has,nx,out⟩ d (M.abs m)) σ):=by
 refine au Tryz.func390 ?_
 refine aa 0 ?_
 refine aa 0 ?_
 refine aa 0 ?_
 obtain⟨q',a',b',an⟩:∃q' a' b',tJ M.O q (M.abs m)=(q',a',b'):=⟨_,_,_,rfl⟩
 refine .fwd 1 ?_
 refine .sched [5] (upto [5] 11 0) (by kernel_rfl) ?_
 refine aa 0 ?_
 refine aH [] (dF _ _ _) ?_
 refine⟨_,wRetire_,?_⟩
 refine iE [_] an (fun σ=>UN M r q m d σ hm) (fun m' aS hb=>?_) (fun m' aS hb=>?_)
 ·refine az [] (Rc w r s l who ev jo false does node has nx out _ _) ?_
  refine aj 0 ?_
  refine aj 0 ?_
  refine aa 0 ?_
  exact .drop 1 1 (.done (gK (x:=⟨ev,jo,false,does,.dW q,node,has,nx,out⟩) (n:=.dW q) rfl rfl (GA an) hb aS rfl rfl r))
 ·exact .done (gY (x:=⟨ev,jo,false,does,.dW q,node,has,nx,out⟩) (n:=.dW q) rfl rfl (GA an) hb aS r .ai [] trivial)
theorem acU(M:AMem)(w r:Nat)(c:AV)(acc:Hp)(s:Sy)(l:Lay)(who:Int)(ev jo:Int)(does:Int)(q:Jn)(node:Int)(has:Bool)(nx out:List Int)(d:Int)(m:M.S)(σ:Hp)(hm:M.O.free (M.abs m))(o3:vW l nx (.join q)):
  ACalls Tryz.prog 390 [.ptr w 0,M.v,.int .i64 d] (WB s l who w r c acc ⟨ev,jo,false,does,.join q,node,has,nx,out⟩++(M.B m++σ)) (pH M s l who w (dE M.O s l who ⟨ev,jo,false,does,.join q,node,has,nx,out⟩ d (M.abs m)) σ):=by
 refine au Tryz.func390 ?_
 refine aa 0 ?_
 refine aa 0 ?_
 refine aa 0 ?_
 obtain⟨q',a',b',an⟩:∃q' a' b',iq M.O q (M.abs m)=(q',a',b'):=⟨_,_,_,rfl⟩
 obtain⟨u1,u2,u3,u4,u5,u6,u7,u8,u9,u10⟩:=q'
 cases u5 with
 |true=>
  refine .fwd 1 ?_
  refine .sched [5] (upto [5] 11 0) (by kernel_rfl) ?_
  refine aa 0 ?_
  refine aH [] (dF _ _ _) ?_
  refine⟨_,wJoin_,?_⟩
  refine iE [_] an (fun σ=>Im M r q m d σ hm (by have:=o3.1;omega)) (fun m' aS hb=>?_) (fun m' aS hb=>?_)
  ·refine az [] (Sd w r s l who ev jo false does node has nx out _ _ _ _ _ _ _ _ _ _) ?_
   refine aj 0 ?_
   refine aj 0 ?_
   refine aa 0 ?_
   exact .drop 1 1 (.done (gK (x:=⟨ev,jo,false,does,.join q,node,has,nx,out⟩) (n:=.join q) rfl rfl (uU an) hb aS rfl rfl r))
  ·exact .done (gY (x:=⟨ev,jo,false,does,.join q,node,has,nx,out⟩) (n:=.join q) rfl rfl (uU an) hb aS r .ai [] trivial)
 |false=>
  refine .fwd 1 ?_
  refine .sched [5] (upto [5] 11 0) (by kernel_rfl) ?_
  refine aa 0 ?_
  refine aH [] (dF _ _ _) ?_
  refine⟨_,wJoin_,?_⟩
  refine iE [_] an (fun σ=>Im M r q m d σ hm (by have:=o3.1;omega)) (fun m' aS hb=>?_) (fun m' aS hb=>?_)
  ·refine az [] (Se w r s l who ev jo false does node has nx out _ _ _ _ _ _ _ _ _ _ o3.2) ?_
   refine aj 0 ?_
   refine aj 0 ?_
   refine aa 0 ?_
   exact .drop 1 1 (.done (gK (x:=⟨ev,jo,false,does,.join q,node,has,nx,out⟩) (n:=.join q) rfl rfl (uU an) hb aS rfl rfl r))
  ·exact .done (gY (x:=⟨ev,jo,false,does,.join q,node,has,nx,out⟩) (n:=.join q) rfl rfl (uU an) hb aS r .ai [] trivial)
theorem acR(M:AMem)(w r:Nat)(c:AV)(acc:Hp)(s:Sy)(l:Lay)(who:Int)(ev jo:Int)(does:Int)(x:List Int)(node:Int)(has:Bool)(nx out:List Int)(d:Int)(m:M.S)(σ:Hp)(hm:M.O.free (M.abs m))(hf:Fit s)(hv:∀a,bK (M.O.ld (M.abs m) a).1)(o3:vW l nx (.read x))(NH:kN c acc x∧(x=[]→c=.ai)):
  ACalls Tryz.prog 390 [.ptr w 0,M.v,.int .i64 d] (WB s l who w r c acc ⟨ev,jo,false,does,.read x,node,has,nx,out⟩++(M.B m++σ)) (pH M s l who w (dE M.O s l who ⟨ev,jo,false,does,.read x,node,has,nx,out⟩ d (M.abs m)) σ):=by
 refine au Tryz.func390 ?_
 refine aa 0 ?_
 refine aa 0 ?_
 refine aa 0 ?_
 obtain⟨o4,o5⟩:=o3
 obtain⟨nO,WN⟩:=NH
 by_cases ab:x.length<cw l.words
 ·have Jy:=Bk l.words
  have an:mG M.O l (aX l node) x (M.abs m)=(x++[(M.O.ld (M.abs m) (wr (aX l node+(x.length:Nat)))).1],(M.O.ld (M.abs m) (wr (aX l node+(x.length:Nat)))).2,decide (x.length+1=cw l.words)):=ah ab
  have ie:aU (x++[(M.O.ld (M.abs m) (wr (aX l node+(x.length:Nat)))).1]):=fun z hz=>by rcases bR.1 hz with h | h;exact o5 z h;rw[bh.1 h];exact hv _
  have hx3:(x++[(M.O.ld (M.abs m) (wr (aX l node+(x.length:Nat)))).1]).length=x.length+1:=by simp
  refine .fwd 1 ?_
  refine .sched [5] (upto [5] 11 0) (by kernel_rfl) ?_
  refine aa 0 ?_
  refine aH [] (dF _ _ _) ?_
  refine⟨_,wRead_,?_⟩
  refine Vv hm ab nO (fun m' b aS he=>?_) (fun m' b aS he=>?_)
  ·refine .j6 2 b 0 (x++[(M.O.ld (M.abs m) (wr (aX l node+(x.length:Nat)))).1]).length 1 _ (.int .u64) (x++[(M.O.ld (M.abs m) (wr (aX l node+(x.length:Nat)))).1]) rfl ?_ ⟨rfl,rfl,by decide⟩ 1 3 r _ rfl rfl ?_
   ·rw[List.drop_zero,← qh];exact List.take_of_length_le (by simp[bz])
   refine az [] (G8 w r s l who ev jo false does node has nx out (x++[(M.O.ld (M.abs m) (wr (aX l node+(x.length:Nat)))).1]) _ _ _ _ _ _ _ _ hf ie (by omega)) ?_
   refine aj 0 ?_
   refine aj 0 ?_
   refine aa 0 ?_
   exact .drop 1 1 (.done (gK (x:=⟨ev,jo,false,does,.read x,node,has,nx,out⟩) (n:=.read x) rfl rfl (yN an) (aL he) aS rfl rfl r))
  ·exact .done (gY (x:=⟨ev,jo,false,does,.read x,node,has,nx,out⟩) (n:=.read x) rfl rfl (yN an) (decide_eq_false he) aS r (.af b 0 (x++[(M.O.ld (M.abs m) (wr (aX l node+(x.length:Nat)))).1]).length 1) [(b,bz (x++[(M.O.ld (M.abs m) (wr (aX l node+(x.length:Nat)))).1]))] ⟨.af b (x++[(M.O.ld (M.abs m) (wr (aX l node+(x.length:Nat)))).1]),fun h=>absurd h (by simp)⟩)
 ·obtain⟨h0,rfl⟩:=o4.resolve_left ab
  generalize hz:([]:List Int)=z0 at nO
  cases nO with
  |af b z=>exact absurd (WN rfl) (by simp)
  |nil=>
  have an:mG M.O l (aX l node) [] (M.abs m)=([],M.abs m,true):=ag ab
  refine .fwd 1 ?_
  refine .sched [5] (upto [5] 11 0) (by kernel_rfl) ?_
  refine aa 0 ?_
  refine aH [] (dF _ _ _) ?_
  refine⟨_,wRead_,?_⟩
  refine az [1] (UO M r _ _ _ _ _ _ d _ h0) ?_
  refine Hw 0 3 r _ (.int .u64) rfl rfl ?_
  refine az [1] (G8 w r s l who ev jo false does node has nx out [] _ _ _ _ _ _ _ _ hf o5 (bE _)) ?_
  refine aj 0 ?_
  refine aj 0 ?_
  refine aa 0 ?_
  exact .drop 1 1 (.done (gK (x:=⟨ev,jo,false,does,.read [],node,has,nx,out⟩) (n:=.read []) rfl rfl (yN an) rfl rfl rfl rfl r))
set_option maxHeartbeats 4000000
theorem acN{l:Lay}{who does node:Int}{nx out:List Int}{d:Int}{x:List Int}(h:iK l who does node nx out d=.read x):x=[]:=by
 unfold iK at h
 repeat' (first | (cases h;rfl) | cases h | split at h)
theorem acT(M:AMem)(w r0:Nat)(c:AV)(acc:Hp)(s:Sy)(l:Lay)(who:Int)(ev jo:Int)(does:Int)(node:Int)(has:Bool)(nx out:List Int)(d:Int)(m:M.S)(σ:Hp)(hm:M.O.free (M.abs m))(hf:Fit s)(hv:∀a,bK (M.O.ld (M.abs m) a).1)(o1:does=5∨does=6∨does=7→0<nx.length)(o2:does=1→nK l≠0∧l.k≠0):
  ACalls Tryz.prog 390 [.ptr w 0,M.v,.int .i64 d] (WB s l who w r0 c acc ⟨ev,jo,false,does,.none,node,has,nx,out⟩++(M.B m++σ)) (pH M s l who w (dE M.O s l who ⟨ev,jo,false,does,.none,node,has,nx,out⟩ d (M.abs m)) σ):=by
 refine au Tryz.func390 ?_
 refine aa 0 ?_
 refine aa 0 ?_
 refine aa 0 ?_
 refine .mk [] _ (agE w s l who ev jo false does .nilif node has nx out d _ o1 o2) ?_
 rintro _ _ ⟨r,rfl,rfl⟩
 have o3:vW l nx (iK l who does node nx out d):=ae9 o1
 have h0:=acM l who does node nx out d
 generalize gM:iK l who does node nx out d=n at o3 h0
 cases n with
 |none=>exact absurd rfl h0
 |pop q=>
  obtain⟨q',a',b',an⟩:∃q' a' b',fx M.O q (M.abs m)=(q',a',b'):=⟨_,_,_,rfl⟩
  obtain⟨u1,u2,u3,u4,u5,u6,u7,u8,u9⟩:=q'
  cases u4 with
  |true=>
   refine aj 1 ?_
   refine gz.dN (.pull [1] (.refl _)) ?_
   refine .sched [5] (upto [5] 11 0) (by kernel_rfl) ?_
   refine aa 0 ?_
   refine aH [] (dF _ _ _) ?_
   refine⟨_,wPop_,?_⟩
   refine iE [_] an (fun σ=>I0 M r q m d σ hm (by have:=o3.1;omega) o3.2) (fun m' aS hb=>?_) (fun m' aS hb=>?_)
   ·refine az [] (TD w r s l who ev jo false does node has nx out _ _ _ _ _ _ _ _ _) ?_
    refine aj 0 ?_
    refine aj 0 ?_
    refine aa 0 ?_
    exact .drop 1 1 (.done (gK (x:=⟨ev,jo,false,does,.none,node,has,nx,out⟩) (n:=.pop q) rfl gM (u0 an) hb aS rfl rfl r))
   ·exact .done (gY (x:=⟨ev,jo,false,does,.none,node,has,nx,out⟩) (n:=.pop q) rfl gM (u0 an) hb aS r .ai [] trivial)
  |false=>
   refine aj 1 ?_
   refine gz.dN (.pull [1] (.refl _)) ?_
   refine .sched [5] (upto [5] 11 0) (by kernel_rfl) ?_
   refine aa 0 ?_
   refine aH [] (dF _ _ _) ?_
   refine⟨_,wPop_,?_⟩
   refine iE [_] an (fun σ=>I0 M r q m d σ hm (by have:=o3.1;omega) o3.2) (fun m' aS hb=>?_) (fun m' aS hb=>?_)
   ·refine az [] (TE w r s l who ev jo false does node has nx out _ _ _ _ _ _ _ _ _) ?_
    refine aj 0 ?_
    refine aj 0 ?_
    refine aa 0 ?_
    exact .drop 1 1 (.done (gK (x:=⟨ev,jo,false,does,.none,node,has,nx,out⟩) (n:=.pop q) rfl gM (u0 an) hb aS rfl rfl r))
   ·exact .done (gY (x:=⟨ev,jo,false,does,.none,node,has,nx,out⟩) (n:=.pop q) rfl gM (u0 an) hb aS r .ai [] trivial)
 |cx q=>
  obtain⟨q',a',b',an⟩:∃q' a' b',gJ M.O q (M.abs m)=(q',a',b'):=⟨_,_,_,rfl⟩
  obtain⟨u1,u2,u3,u4,u5,u6,u7,u8,u9⟩:=q'
  cases u4 with
  |true=>
   refine aj 1 ?_
   refine gz.dN (.pull [1] (.refl _)) ?_
   refine .sched [5] (upto [5] 11 0) (by kernel_rfl) ?_
   refine aa 0 ?_
   refine aH [] (dF _ _ _) ?_
   refine⟨_,wSteal_,?_⟩
   refine iE [_] an (fun σ=>HU M r q m d σ hm (by have:=o3.1;omega) o3.2) (fun m' aS hb=>?_) (fun m' aS hb=>?_)
   ·refine az [] (Ra w r s l who ev jo false does node has nx out _ _ _ _ _ _ _ _ _) ?_
    refine aj 0 ?_
    refine aj 0 ?_
    refine aa 0 ?_
    exact .drop 1 1 (.done (gK (x:=⟨ev,jo,false,does,.none,node,has,nx,out⟩) (n:=.cx q) rfl gM (uN an) hb aS rfl rfl r))
   ·exact .done (gY (x:=⟨ev,jo,false,does,.none,node,has,nx,out⟩) (n:=.cx q) rfl gM (uN an) hb aS r .ai [] trivial)
  |false=>
   refine aj 1 ?_
   refine gz.dN (.pull [1] (.refl _)) ?_
   refine .sched [5] (upto [5] 11 0) (by kernel_rfl) ?_
   refine aa 0 ?_
   refine aH [] (dF _ _ _) ?_
   refine⟨_,wSteal_,?_⟩
   refine iE [_] an (fun σ=>HU M r q m d σ hm (by have:=o3.1;omega) o3.2) (fun m' aS hb=>?_) (fun m' aS hb=>?_)
   ·refine az [] (Rb w r s l who ev jo false does node has nx out _ _ _ _ _ _ _ _ _) ?_
    refine aj 0 ?_
    refine aj 0 ?_
    refine aa 0 ?_
    exact .drop 1 1 (.done (gK (x:=⟨ev,jo,false,does,.none,node,has,nx,out⟩) (n:=.cx q) rfl gM (uN an) hb aS rfl rfl r))
   ·exact .done (gY (x:=⟨ev,jo,false,does,.none,node,has,nx,out⟩) (n:=.cx q) rfl gM (uN an) hb aS r .ai [] trivial)
 |quiet q=>
  obtain⟨q',a',b',an⟩:∃q' a' b',sq M.O q (M.abs m)=(q',a',b'):=⟨_,_,_,rfl⟩
  obtain⟨u1,u2,u3,u4⟩:=q'
  cases u3 with
  |true=>
   refine aj 1 ?_
   refine gz.dN (.pull [1] (.refl _)) ?_
   refine .sched [5] (upto [5] 11 0) (by kernel_rfl) ?_
   refine aa 0 ?_
   refine aH [] (dF _ _ _) ?_
   refine⟨_,wQuiet_,?_⟩
   refine iE [_] an (fun σ=>HV M r q m d σ hm) (fun m' aS hb=>?_) (fun m' aS hb=>?_)
   ·refine az [] (GP w r s l who ev jo false does node has nx out _ _ _ _ _) ?_
    refine aj 0 ?_
    refine aj 0 ?_
    refine aa 0 ?_
    exact .drop 1 1 (.done (gK (x:=⟨ev,jo,false,does,.none,node,has,nx,out⟩) (n:=.quiet q) rfl gM (w7 an) hb aS rfl rfl r))
   ·exact .done (gY (x:=⟨ev,jo,false,does,.none,node,has,nx,out⟩) (n:=.quiet q) rfl gM (w7 an) hb aS r .ai [] trivial)
  |false=>
   refine aj 1 ?_
   refine gz.dN (.pull [1] (.refl _)) ?_
   refine .sched [5] (upto [5] 11 0) (by kernel_rfl) ?_
   refine aa 0 ?_
   refine aH [] (dF _ _ _) ?_
   refine⟨_,wQuiet_,?_⟩
   refine iE [_] an (fun σ=>HV M r q m d σ hm) (fun m' aS hb=>?_) (fun m' aS hb=>?_)
   ·refine az [] (GP w r s l who ev jo false does node has nx out _ _ _ _ _) ?_
    refine aj 0 ?_
    refine aj 0 ?_
    refine aa 0 ?_
    exact .drop 1 1 (.done (gK (x:=⟨ev,jo,false,does,.none,node,has,nx,out⟩) (n:=.quiet q) rfl gM (w7 an) hb aS rfl rfl r))
   ·exact .done (gY (x:=⟨ev,jo,false,does,.none,node,has,nx,out⟩) (n:=.quiet q) rfl gM (w7 an) hb aS r .ai [] trivial)
 |clear q=>
  obtain⟨q',a',b',an⟩:∃q' a' b',sr M.O q (M.abs m)=(q',a',b'):=⟨_,_,_,rfl⟩
  obtain⟨u1,u2,u3,u4⟩:=q'
  refine aj 1 ?_
  refine gz.dN (.pull [1] (.refl _)) ?_
  refine .sched [5] (upto [5] 11 0) (by kernel_rfl) ?_
  refine aa 0 ?_
  refine aH [] (dF _ _ _) ?_
  refine⟨_,wClear_,?_⟩
  refine iE [_] an (fun σ=>VT M r q m d σ hm) (fun m' aS hb=>?_) (fun m' aS hb=>?_)
  ·refine az [] (Sf w r s l who ev jo false does node has nx out _ _ _ _ _) ?_
   refine aj 0 ?_
   refine aj 0 ?_
   refine aa 0 ?_
   exact .drop 1 1 (.done (gK (x:=⟨ev,jo,false,does,.none,node,has,nx,out⟩) (n:=.clear q) rfl gM (GW an) hb aS rfl rfl r))
  ·exact .done (gY (x:=⟨ev,jo,false,does,.none,node,has,nx,out⟩) (n:=.clear q) rfl gM (GW an) hb aS r .ai [] trivial)
 |read x=>
  obtain rfl:x=[]:=acN gM
  have NH:kN .ai [] []∧(([]:List Int)=[]→AV.ai=.ai):=⟨.nil,fun _=>rfl⟩
  obtain⟨o4,o5⟩:=o3
  obtain⟨nO,WN⟩:=NH
  by_cases ab:([]:List Int).length<cw l.words
  ·have Jy:=Bk l.words
   have an:mG M.O l (aX l node) ([]:List Int) (M.abs m)=(([]:List Int)++[(M.O.ld (M.abs m) (wr (aX l node+(([]:List Int).length:Nat)))).1],(M.O.ld (M.abs m) (wr (aX l node+(([]:List Int).length:Nat)))).2,decide (([]:List Int).length+1=cw l.words)):=ah ab
   have ie:aU (([]:List Int)++[(M.O.ld (M.abs m) (wr (aX l node+(([]:List Int).length:Nat)))).1]):=fun z hz=>by rcases bR.1 hz with h | h;exact o5 z h;rw[bh.1 h];exact hv _
   have hx3:(([]:List Int)++[(M.O.ld (M.abs m) (wr (aX l node+(([]:List Int).length:Nat)))).1]).length=([]:List Int).length+1:=by simp
   refine aj 1 ?_
   refine gz.dN (.pull [1] (.refl _)) ?_
   refine .sched [5] (upto [5] 11 0) (by kernel_rfl) ?_
   refine aa 0 ?_
   refine aH [] (dF _ _ _) ?_
   refine⟨_,wRead_,?_⟩
   refine Vv hm ab nO (fun m' b aS he=>?_) (fun m' b aS he=>?_)
   ·refine .j6 2 b 0 (([]:List Int)++[(M.O.ld (M.abs m) (wr (aX l node+(([]:List Int).length:Nat)))).1]).length 1 _ (.int .u64) (([]:List Int)++[(M.O.ld (M.abs m) (wr (aX l node+(([]:List Int).length:Nat)))).1]) rfl ?_ ⟨rfl,rfl,by decide⟩ 1 3 r _ rfl rfl ?_
    ·rw[List.drop_zero,← qh];exact List.take_of_length_le (by simp[bz])
    refine az [] (G8 w r s l who ev jo false does node has nx out (([]:List Int)++[(M.O.ld (M.abs m) (wr (aX l node+(([]:List Int).length:Nat)))).1]) _ _ _ _ _ _ _ _ hf ie (by omega)) ?_
    refine aj 0 ?_
    refine aj 0 ?_
    refine aa 0 ?_
    exact .drop 1 1 (.done (gK (x:=⟨ev,jo,false,does,.none,node,has,nx,out⟩) (n:=.read ([]:List Int)) rfl gM (yN an) (aL he) aS rfl rfl r))
   ·exact .done (gY (x:=⟨ev,jo,false,does,.none,node,has,nx,out⟩) (n:=.read ([]:List Int)) rfl gM (yN an) (decide_eq_false he) aS r (.af b 0 (([]:List Int)++[(M.O.ld (M.abs m) (wr (aX l node+(([]:List Int).length:Nat)))).1]).length 1) [(b,bz (([]:List Int)++[(M.O.ld (M.abs m) (wr (aX l node+(([]:List Int).length:Nat)))).1]))] ⟨.af b (([]:List Int)++[(M.O.ld (M.abs m) (wr (aX l node+(([]:List Int).length:Nat)))).1]),fun h=>absurd h (by simp)⟩)
  ·obtain⟨h0,-⟩:=o4.resolve_left ab
   generalize hz:([]:List Int)=z0 at nO
   cases nO with
   |nil=>
   have an:mG M.O l (aX l node) [] (M.abs m)=([],M.abs m,true):=ag ab
   refine aj 1 ?_
   refine gz.dN (.pull [1] (.refl _)) ?_
   refine .sched [5] (upto [5] 11 0) (by kernel_rfl) ?_
   refine aa 0 ?_
   refine aH [] (dF _ _ _) ?_
   refine⟨_,wRead_,?_⟩
   refine az [1] (UO M r _ _ _ _ _ _ d _ h0) ?_
   refine Hw 0 3 r _ (.int .u64) rfl rfl ?_
   refine az [1] (G8 w r s l who ev jo false does node has nx out [] _ _ _ _ _ _ _ _ hf o5 (bE _)) ?_
   refine aj 0 ?_
   refine aj 0 ?_
   refine aa 0 ?_
   exact .drop 1 1 (.done (gK (x:=⟨ev,jo,false,does,.none,node,has,nx,out⟩) (n:=.read []) rfl gM (yN an) rfl rfl rfl rfl r))
 |join q=>
  obtain⟨q',a',b',an⟩:∃q' a' b',iq M.O q (M.abs m)=(q',a',b'):=⟨_,_,_,rfl⟩
  obtain⟨u1,u2,u3,u4,u5,u6,u7,u8,u9,u10⟩:=q'
  cases u5 with
  |true=>
   refine aj 1 ?_
   refine gz.dN (.pull [1] (.refl _)) ?_
   refine .sched [5] (upto [5] 11 0) (by kernel_rfl) ?_
   refine aa 0 ?_
   refine aH [] (dF _ _ _) ?_
   refine⟨_,wJoin_,?_⟩
   refine iE [_] an (fun σ=>Im M r q m d σ hm (by have:=o3.1;omega)) (fun m' aS hb=>?_) (fun m' aS hb=>?_)
   ·refine az [] (Sd w r s l who ev jo false does node has nx out _ _ _ _ _ _ _ _ _ _) ?_
    refine aj 0 ?_
    refine aj 0 ?_
    refine aa 0 ?_
    exact .drop 1 1 (.done (gK (x:=⟨ev,jo,false,does,.none,node,has,nx,out⟩) (n:=.join q) rfl gM (uU an) hb aS rfl rfl r))
   ·exact .done (gY (x:=⟨ev,jo,false,does,.none,node,has,nx,out⟩) (n:=.join q) rfl gM (uU an) hb aS r .ai [] trivial)
  |false=>
   refine aj 1 ?_
   refine gz.dN (.pull [1] (.refl _)) ?_
   refine .sched [5] (upto [5] 11 0) (by kernel_rfl) ?_
   refine aa 0 ?_
   refine aH [] (dF _ _ _) ?_
   refine⟨_,wJoin_,?_⟩
   refine iE [_] an (fun σ=>Im M r q m d σ hm (by have:=o3.1;omega)) (fun m' aS hb=>?_) (fun m' aS hb=>?_)
   ·refine az [] (Se w r s l who ev jo false does node has nx out _ _ _ _ _ _ _ _ _ _ o3.2) ?_
    refine aj 0 ?_
    refine aj 0 ?_
    refine aa 0 ?_
    exact .drop 1 1 (.done (gK (x:=⟨ev,jo,false,does,.none,node,has,nx,out⟩) (n:=.join q) rfl gM (uU an) hb aS rfl rfl r))
   ·exact .done (gY (x:=⟨ev,jo,false,does,.none,node,has,nx,out⟩) (n:=.join q) rfl gM (uU an) hb aS r .ai [] trivial)
 |take q=>
  obtain⟨q',a',b',an⟩:∃q' a' b',kR M.O q (M.abs m)=(q',a',b'):=⟨_,_,_,rfl⟩
  obtain⟨u1,u2,u3,u4,u5,u6⟩:=q'
  cases u4 with
  |true=>
   refine aj 1 ?_
   refine gz.dN (.pull [1] (.refl _)) ?_
   refine .sched [5] (upto [5] 11 0) (by kernel_rfl) ?_
   refine aa 0 ?_
   refine aH [] (dF _ _ _) ?_
   refine⟨_,wTake_,?_⟩
   refine iE [_] an (fun σ=>Ik M r q m d σ hm) (fun m' aS hb=>?_) (fun m' aS hb=>?_)
   ·refine az [] (Sb w r s l who ev jo false does node has nx out _ _ _ _ _ _) ?_
    refine aj 0 ?_
    refine aj 0 ?_
    refine aa 0 ?_
    exact .drop 1 1 (.done (gK (x:=⟨ev,jo,false,does,.none,node,has,nx,out⟩) (n:=.take q) rfl gM (uT an) hb aS rfl rfl r))
   ·exact .done (gY (x:=⟨ev,jo,false,does,.none,node,has,nx,out⟩) (n:=.take q) rfl gM (uT an) hb aS r .ai [] trivial)
  |false=>
   refine aj 1 ?_
   refine gz.dN (.pull [1] (.refl _)) ?_
   refine .sched [5] (upto [5] 11 0) (by kernel_rfl) ?_
   refine aa 0 ?_
   refine aH [] (dF _ _ _) ?_
   refine⟨_,wTake_,?_⟩
   refine iE [_] an (fun σ=>Ik M r q m d σ hm) (fun m' aS hb=>?_) (fun m' aS hb=>?_)
   ·refine az [] (Sc w r s l who ev jo false does node has nx out _ _ _ _ _ _ o3) ?_
    refine aj 0 ?_
    refine aj 0 ?_
    refine aa 0 ?_
    exact .drop 1 1 (.done (gK (x:=⟨ev,jo,false,does,.none,node,has,nx,out⟩) (n:=.take q) rfl gM (uT an) hb aS rfl rfl r))
   ·exact .done (gY (x:=⟨ev,jo,false,does,.none,node,has,nx,out⟩) (n:=.take q) rfl gM (uT an) hb aS r .ai [] trivial)
 |push q=>
  obtain⟨q',a',b',an⟩:∃q' a' b',gx M.O q (M.abs m)=(q',a',b'):=⟨_,_,_,rfl⟩
  refine aj 1 ?_
  refine gz.dN (.pull [1] (.refl _)) ?_
  refine .sched [5] (upto [5] 11 0) (by kernel_rfl) ?_
  refine aa 0 ?_
  refine aH [] (dF _ _ _) ?_
  refine⟨_,wPush_,?_⟩
  refine iE [_] an (fun σ=>Wt M r q m d σ hm (by have:=o3.1.1;omega) o3.1.2) (fun m' aS hb=>?_) (fun m' aS hb=>?_)
  ·refine az [] (TC w r s l who ev jo false does node has nx out _ _ o3.2) ?_
   refine aj 0 ?_
   refine aj 0 ?_
   refine aa 0 ?_
   exact .drop 1 1 (.done (gK (x:=⟨ev,jo,false,does,.none,node,has,nx,out⟩) (n:=.push q) rfl gM (Ds an) hb aS rfl rfl r))
  ·exact .done (gY (x:=⟨ev,jo,false,does,.none,node,has,nx,out⟩) (n:=.push q) rfl gM (Ds an) hb aS r .ai [] trivial)
 |dW q=>
  obtain⟨q',a',b',an⟩:∃q' a' b',tJ M.O q (M.abs m)=(q',a',b'):=⟨_,_,_,rfl⟩
  refine aj 1 ?_
  refine gz.dN (.pull [1] (.refl _)) ?_
  refine .sched [5] (upto [5] 11 0) (by kernel_rfl) ?_
  refine aa 0 ?_
  refine aH [] (dF _ _ _) ?_
  refine⟨_,wRetire_,?_⟩
  refine iE [_] an (fun σ=>UN M r q m d σ hm) (fun m' aS hb=>?_) (fun m' aS hb=>?_)
  ·refine az [] (Rc w r s l who ev jo false does node has nx out _ _) ?_
   refine aj 0 ?_
   refine aj 0 ?_
   refine aa 0 ?_
   exact .drop 1 1 (.done (gK (x:=⟨ev,jo,false,does,.none,node,has,nx,out⟩) (n:=.dW q) rfl gM (GA an) hb aS rfl rfl r))
  ·exact .done (gY (x:=⟨ev,jo,false,does,.none,node,has,nx,out⟩) (n:=.dW q) rfl gM (GA an) hb aS r .ai [] trivial)
theorem agh(M:AMem)(w r:Nat)(c:AV)(acc:Hp)(s:Sy)(l:Lay)(who:Int)(x:WS)(d:Int)(m:M.S)(σ:Hp)(hf:Fit s)(hm:M.O.free (M.abs m))(hv:∀a,bK (M.O.ld (M.abs m) a).1)(ok:ND l x)(rd:zn c acc x.now):
  ACalls Tryz.prog 390 [.ptr w 0,M.v,.int .i64 d] (WB s l who w r c acc x++(M.B m++σ)) (pH M s l who w (dE M.O s l who x d (M.abs m)) σ):=by
 obtain⟨ev,jo,en,does,n,node,has,nx,out⟩:=x
 obtain⟨o1,o2,o3⟩:=ok
 cases en with
 |true=>
  refine au Tryz.func390 ?_
  refine aa 0 ?_
  refine aa 0 ?_
  exact .done (ab8 rfl rfl rd)
 |false=>
  cases n with
  |none=>exact acT M w r c acc s l who ev jo does node has nx out d m σ hm hf hv o1 o2
  |pop q=>exact aeR M w r c acc s l who ev jo does q node has nx out d m σ hm o3
  |cx q=>exact aaS M w r c acc s l who ev jo does q node has nx out d m σ hm o3
  |quiet q=>exact aaT M w r c acc s l who ev jo does q node has nx out d m σ hm
  |clear q=>exact aaU M w r c acc s l who ev jo does q node has nx out d m σ hm
  |read q=>exact acR M w r c acc s l who ev jo does q node has nx out d m σ hm hf hv o3 rd
  |join q=>exact acU M w r c acc s l who ev jo does q node has nx out d m σ hm o3
  |take q=>exact acQ M w r c acc s l who ev jo does q node has nx out d m σ hm o3
  |push q=>exact acS M w r c acc s l who ev jo does q node has nx out d m σ hm o3
  |dW q=>exact Zv M w r c acc s l who ev jo does q node has nx out d m σ hm
end Go.Proofs.YtnikdflhefijbaaGreat
