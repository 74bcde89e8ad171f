import Derived.Test.YtnikdflhefijbaaGreatBn11
import Derived.Test.YtnikdflhefijbaaGreatBn12
import Derived.Test.YtnikdflhefijbaaGreatBn25
import Derived.Test.YtnikdflhefijbaaGreatBn26
import Derived.Test.YtnikdflhefijbaaGreatBn24
import Derived.Test.YtnikdflhefijbaaGreatBn22
namespace Go.Proofs.YtnikdflhefijbaaGreat
open Go.RowKit
set_option maxRecDepth 100000
set_option maxHeartbeats 4000000
theorem Gv{ws:List Int}(h:aR ws)(a:Int):bD (dx ws a):=by
 unfold dx
 split
 ·exact⟨by decide,by decide⟩
 ·rw[aW]
  cases hq:ws[a.toNat]? with
  |none=>exact⟨by decide,by decide⟩
  |some x=>exact h x (cq hq)
theorem OO(a:List Int)(i:Nat)(σ:Hp):ACalls Tryz.prog 213 [.af (.int .u64) a,.int .i64 i] σ (aE (.int .u64 (wd a i)) σ):=by
 refine ay Tryz.func213 ?_
 refine an (fun h=>?_) (fun h=>?_)
 ·have h:(a.length:Int)≤i:=h
  exact .done ⟨aQ (by simp[wd,List.getElem?_eq_none (show a.length≤i by omega)]),rfl⟩
 ·have h:¬(a.length:Int)≤i:=h
  have hi:i<a.length:=by omega
  refine ag.mk rfl (bG.mk a[i] (by omega) (get_some hi) ?_)
  exact .done ⟨aQ (by simp[wd,hi]),rfl⟩
def cw(n:Int):Nat:=(min (max n 0) 1024).toNat
theorem Ar(n:Int):cw n≤1024:=by unfold cw;omega
theorem adY(n:Int):(if (1024:Int)<(if n<0 then 0 else n) then (1024:Int) else (if n<0 then 0 else n))=((cw n:Nat):Int):=by
 unfold cw
 by_cases h:n<0
 ·simp only[ai h];omega
 ·simp only[ah h];split <;> omega
theorem nO(b w n:Int)(σ:Hp):ACalls Tryz.prog 163 [.agg [.int .i64 b,.int .i64 w,.int .i64 n]] σ (aE (.int .i64 (cw n)) σ):=by
 refine ay Tryz.func163 ?_
 intro aD
 refine aa 0 ?_
 exact .drop 0 1 (.done ⟨aQ (adY n),rfl⟩)
structure Jn where
 base:Int
 what:Int
 words:Int
 a:List Int
 changed:Bool
 ended:Bool
 tries:Int
 at_:Nat
 ff:Bool
 x:Int
def y5(j:Jn):List AV:=[.int .i64 j.base,.int .i64 j.what,.int .i64 j.words,.af (.int .u64) j.a,.bool j.changed,.bool j.ended,.int .i64 j.tries,.int .i64 j.at_,.bool j.ff,.int .u64 j.x]
def gH(j:Jn):Jn×Bool:=if j.at_+1<cw j.words then ({ j with at_:=j.at_+1 },false) else ({ j with at_:=j.at_+1,ended:=true },true)
def ij(O:j6)(j:Jn)(a:O.A):Jn×O.A×Bool:=
 if j.ended then (j,a,true)
 else if j.at_=cw j.words then ({ j with ended:=true },a,true)
 else if j.ff then
  (if (O.cs a (wr (j.base+j.at_)) j.x (cT j.what j.x (wd j.a j.at_))).1 then ((gH { j with ff:=false,changed:=true }).1,(O.cs a (wr (j.base+j.at_)) j.x (cT j.what j.x (wd j.a j.at_))).2,(gH { j with ff:=false,changed:=true }).2)
  else ({ j with ff:=false,tries:=wr (j.tries+1) },(O.cs a (wr (j.base+j.at_)) j.x (cT j.what j.x (wd j.a j.at_))).2,false))
 else if cT j.what (O.ld a (wr (j.base+j.at_))).1 (wd j.a j.at_)=(O.ld a (wr (j.base+j.at_))).1 then ((gH { j with x:=(O.ld a (wr (j.base+j.at_))).1 }).1,(O.ld a (wr (j.base+j.at_))).2,(gH { j with x:=(O.ld a (wr (j.base+j.at_))).1 }).2)
 else ({ j with x:=(O.ld a (wr (j.base+j.at_))).1,ff:=true },(O.ld a (wr (j.base+j.at_))).2,false)
theorem GU{M:AMem}{σ:Hp}{X:Type}{B:X→List AV}{r:Nat}{res:X×M.O.A×Bool}{x:X}{a:M.O.A}{b:Bool}{m':M.S}{cs:List AV}(h:res=(x,a,b))(hm:M.abs m'=a)(hc:cs=B x):qa M σ B r res (.bool b) ((r,cs)::(M.B m'++σ)):=by
 subst hc
 exact jZ h hm
theorem Hv(M:AMem)(r:Nat)(j:Jn)(m:M.S)(d:Int)(σ:Hp)(hf:M.O.free (M.abs m))(dR:j.at_≤2000):ACalls Tryz.prog 407 [.ptr r 0,M.v,.int .i64 d] ((r,y5 j)::(M.B m++σ)) (qa M σ y5 r (ij M.O j (M.abs m))):=by
 refine ay Tryz.func407 ?_
 have hw:IntKind.i64.wrap ((j.at_:Int)+1)=((j.at_+1:Nat):Int):=by rw[IntKind.wrap_i64];omega
 refine fu.kv 0 _ _ rfl rfl (fun h0=>?_) (fun h0=>?_)
 ·exact .done (jZ (x:=j) (by simp[ij,h0]) rfl)
 refine az [] (du _ _ _) ?_
 refine .quiet (by kernel_rfl) ?_
 refine aa 0 ?_
 refine aa 0 ?_
 refine aH [] (nO _ _ _ _) ?_
 refine an (fun c1=>?_) (fun c1=>?_)
 ·have c1:(j.at_:Int)=cw j.words:=c1
  have c1:j.at_=cw j.words:=by omega
  refine .fwd 1 ?_
  refine ak 0 ?_
  exact .done (jZ (x:= { j with ended:=true }) (by simp[ij,h0,c1]) rfl)
 ·have c1:¬(j.at_:Int)=cw j.words:=c1
  have c1:¬j.at_=cw j.words:=by omega
  refine fu.kv 0 _ _ rfl rfl (fun c2=>?_) (fun c2=>?_)
  ·refine ak 0 ?_
   refine .sched [36,37] (upto [36,37] 43 0) (by kernel_rfl) ?_
   refine aa 0 ?_
   refine aa 0 ?_
   refine aa 0 ?_
   refine aa 0 ?_
   refine aa 0 ?_
   refine aa 0 ?_
   refine aa 0 ?_
   refine aH [] (OO _ _ _) ?_
   refine aH [] (U5 _ _ _ _) ?_
   refine eS.mk M.hC ?_
   refine M.aCasB [_] hf (fun m' hm hb=>?_) (fun m' hm hb=>?_)
   ·refine ak 0 ?_
    refine .fwd 1 ?_
    refine aa 0 ?_
    refine ak 0 ?_
    refine .quiet (by kernel_rfl) ?_
    refine aa 0 ?_
    refine aa 0 ?_
    refine aH [] (nO _ _ _ _) ?_
    refine an (fun c3=>?_) (fun c3=>?_)
    ·have c3:IntKind.i64.wrap (↑j.at_+1) < ↑(cw j.words):=c3
     exact .done (GU (x:= { j with ff:=false,changed:=true,at_:=j.at_+1 }) (by simp[ij,h0,c1,c2,hb,gH,show j.at_+1<cw j.words by omega]) hm (by rw[hw];rfl))
    ·have c3:¬(IntKind.i64.wrap (↑j.at_+1) < ↑(cw j.words)):=c3
     refine ak 0 ?_
     exact .done (GU (x:= { j with ff:=false,changed:=true,at_:=j.at_+1,ended:=true }) (by simp[ij,h0,c1,c2,hb,gH,show ¬j.at_+1<cw j.words by omega]) hm (by rw[hw];rfl))
   ·refine aa 0 ?_
    refine ak 0 ?_
    exact .done (jZ (x:= { j with ff:=false,tries:=wr (j.tries+1) }) (by simp[ij,h0,c1,c2,hb]) hm)
  ·refine .sched [] (upto [] 21 0) (by kernel_rfl) ?_
   refine aa 0 ?_
   refine aa 0 ?_
   refine eS.mk M.hL ?_
   refine M.aLoad [_] hf fun m' hm=>?_
   refine ak 0 ?_
   refine .quiet (by kernel_rfl) ?_
   refine aa 0 ?_
   refine aa 0 ?_
   refine aa 0 ?_
   refine aa 0 ?_
   refine aH [] (OO _ _ _) ?_
   refine aH [] (U5 _ _ _ _) ?_
   refine aa 0 ?_
   refine dB (fun c4=>?_) (fun c4=>?_)
   ·have c4:¬(cT j.what (M.O.ld (M.abs m) (IntKind.i64.wrap (j.base + ↑j.at_))).fst (wd j.a j.at_)=(M.O.ld (M.abs m) (IntKind.i64.wrap (j.base + ↑j.at_))).fst):=by simpa using c4
    refine ak 0 ?_
    exact .done (jZ (x:= { j with x:=(M.O.ld (M.abs m) (wr (j.base+j.at_))).1,ff:=true }) (by simp[ij,h0,c1,c2,c4]) hm)
   ·have c4:cT j.what (M.O.ld (M.abs m) (IntKind.i64.wrap (j.base + ↑j.at_))).fst (wd j.a j.at_)=(M.O.ld (M.abs m) (IntKind.i64.wrap (j.base + ↑j.at_))).fst:=by simpa using c4
    refine aa 0 ?_
    refine ak 0 ?_
    refine .quiet (by kernel_rfl) ?_
    refine aa 0 ?_
    refine aa 0 ?_
    refine aH [] (nO _ _ _ _) ?_
    refine an (fun c5=>?_) (fun c5=>?_)
    ·have c5:IntKind.i64.wrap (↑j.at_+1) < ↑(cw j.words):=c5
     exact .done (GU (x:= { j with x:=(M.O.ld (M.abs m) (wr (j.base+j.at_))).1,at_:=j.at_+1 }) (by simp[ij,h0,c1,c2,c4,gH,show j.at_+1<cw j.words by omega]) hm (by rw[hw];rfl))
    ·have c5:¬(IntKind.i64.wrap (↑j.at_+1) < ↑(cw j.words)):=c5
     refine ak 0 ?_
     exact .done (GU (x:= { j with x:=(M.O.ld (M.abs m) (wr (j.base+j.at_))).1,at_:=j.at_+1,ended:=true }) (by simp[ij,h0,c1,c2,c4,gH,show ¬j.at_+1<cw j.words by omega]) hm (by rw[hw];rfl))
def Az(base:Int)(a:List Int)(ws:List Int):Nat→List Int
 | 0=>ws
 |k+1=>gX (Az base a ws k) (wr (base+k)) (wd a k)
theorem agm(p q:Nat)(ws:List Int)(b w n:Int)(a:List Int)(σ:Hp):ACalls Tryz.prog 159 [.agg [.int .i64 b,.int .i64 w,.int .i64 n],ku p,.af (.int .u64) a] (aZ p q ws σ) (aE (.tup []) (aZ p q (Az b a ws (cw n)) σ)):=by
 have hc:=Ar n
 refine ay Tryz.func159 ?_
 intro aD
 refine az [] (du _ _ _) ?_
 refine aa 0 ?_
 refine az [] (nO _ _ _ _) ?_
 refine bV (S:=Nat) (fun s=>[(1,ku p),(2,.af (.int .u64) a),(3,.ptr aD 0),(10,.int .i64 (cw n)),(11,.int .i64 s)]) (fun s=>(aD,[.int .i64 b,.int .i64 w,.int .i64 n])::aZ p q (Az b a ws s) σ) (fun s=>s≤cw n) (fun s=>cw n-s) 0 ⟨bA _,⟨rfl,rfl,rfl,rfl,rfl,trivial⟩,rfl⟩ ?_
 intro k g hk
 refine an (fun h=>?_) (fun h=>?_)
 ·have h:(k:Int)<cw n:=h
  refine .sched [7] (upto [7] 12 0) (by kernel_rfl) ?_
  refine aa 0 ?_
  refine aH [] (OO _ _ _) ?_
  refine eS.mk hStore_ ?_
  refine⟨_,mStore_,?_⟩
  refine az [2,2] (aStore p q _ _ _ _) ?_
  refine a8 (k+1) ?_ ?_ ⟨rfl,rfl,rfl,rfl,aX (by omega),trivial⟩ (.pull [2] (aJ rfl))
  ·show cw n-(k+1)<cw n-k;omega
  ·show k+1≤cw n;omega
 ·have h:¬(k:Int)<cw n:=h
  obtain rfl:k=cw n:=by omega
  exact .drop 0 1 (.done ⟨rfl,rfl⟩)
def py(base:Int)(ws:List Int)(k:Nat):List Int:=(List.range k).map fun i=>dx ws (wr (base+(i:Nat)))
theorem WR(base:Int)(ws:List Int)(k:Nat):(py base ws k).length=k:=by unfold py;rw[cd,oO]
theorem YV(base:Int)(ws:List Int)(k:Nat):py base ws (k+1)=py base ws k++[dx ws (wr (base+k))]:=by unfold py;rw[tV,cS];rfl
theorem agq(p q:Nat)(ws:List Int)(b w n:Int)(σ:Hp):ACalls Tryz.prog 107 [.agg [.int .i64 b,.int .i64 w,.int .i64 n],ku p] (aZ p q ws σ) (aE (.af (.int .u64) (py b ws (cw n))) (aZ p q ws σ)):=by
 have hc:=Ar n
 refine ay Tryz.func107 ?_
 intro aD
 refine az [] (du _ _ _) ?_
 refine aa 0 ?_
 refine az [] (nO _ _ _ _) ?_
 refine .wrap 5 _ rfl rfl ?_
 refine bV (S:=Nat×AV×Hp) (fun s=>[(1,ku p),(2,.ptr aD 0),(5,.via s.2.1),(10,.int .i64 (cw n)),(11,.int .i64 s.1)]) (fun s=>(aD,[.int .i64 b,.int .i64 w,.int .i64 n])::(s.2.2++aZ p q ws σ)) (fun s=>s.1≤cw n∧Acc 1 s.1 s.2.1 s.2.2 (aM (py b ws s.1))) (fun s=>cw n-s.1) (0,.aj,[]) ⟨⟨bA _,.nil⟩,⟨rfl,rfl,rfl,rfl,rfl,trivial⟩,rfl⟩ ?_
 rintro⟨k,v,acc⟩ g ⟨hk,bY⟩
 have hk:k≤cw n:=hk
 have bY:Acc 1 k v acc (aM (py b ws k)):=bY
 refine an (fun h=>?_) (fun h=>?_)
 ·have h:(k:Int)<cw n:=h
  refine aa 0 ?_
  refine⟨_,mLoad_,?_⟩
  refine .perm (σ2:=aZ p q ws ((aD,[.int .i64 b,.int .i64 w,.int .i64 n])::(acc++σ))) _ ?_ (aLoad p q ws _ _) ?_
  ·exact eO ((aD,[.int .i64 b,.int .i64 w,.int .i64 n])::acc) [_,_] σ
  rintro _ _ ⟨rfl,rfl⟩
  refine⟨_,(eO ((aD,[.int .i64 b,.int .i64 w,.int .i64 n])::acc) [_,_] σ).symm,?_⟩
  intro dH
  refine jU [_,_] bY (.ae 0 dH 0 1 _ rfl (cH rfl)) rfl (by omega) (by decide) (by decide) (fun v' bu h'=>?_)
  refine a8 (k+1,v',bu) ?_ ⟨?_,?_⟩ ⟨rfl,rfl,rfl,rfl,aX (by omega),trivial⟩ (.drop 0 1 (aJ rfl))
  ·show cw n-(k+1)<cw n-k;omega
  ·show k+1≤cw n;omega
  ·show Acc 1 (k+1) v' bu (aM (py b ws (k+1)))
   rw[YV,aM,cS]
   exact h'
 ·have h:¬(k:Int)<cw n:=h
  obtain rfl:k=cw n:=by omega
  refine .drop 0 1 ?_
  exact pO (s:=.int .u64) (l:=py b ws (cw n)) [] bY (WR b ws _).symm (by rw[kH]) (by decide) (.done ⟨rfl,rfl⟩)
def j9(v:AV)(base what words:Int)(ended:Bool)(at_:Nat)(ff:Bool)(x:Int):List AV:=[.int .i64 base,.int .i64 what,.int .i64 words,v,.bool ended,.int .i64 at_,.bool ff,.int .u64 x]
inductive kG:AV→Hp→List Int→Prop where
 |nil:kG .aj [] []
 |ae (b:Nat) (l:List Int):kG (.ae b 0 l.length 1) [(b,aM l)] l
theorem kG.push(b:Nat)(l:List Int)(x:Int):kG (.ae b 0 (l.length+1) 1) [(b,(aM l).take (l.length*1)++[.int .u64 x])] (l++[x]):=by
 have h:=kG.ae b (l++[x])
 have e1:(l++[x]).length=l.length+1:=by simp
 have e2:aM (l++[x])=(aM l).take (l.length*1)++[.int .u64 x]:=by rw[List.take_of_length_le (by simp[aM])];simp[aM]
 rw[e1,e2]at h
 exact h
theorem ZA(σ:Hp):ACalls Tryz.prog 256 [.aj] σ (aE .aj σ):=by
 refine ay Tryz.func256 ?_
 exact .done ⟨rfl,rfl⟩
theorem B0(b k:Nat)(cs:List AV)(σ:Hp)(hm:(b,cs)∈σ)(h:cs.length=k*1)(hl:k≤1000000):ACalls Tryz.prog 256 [.ae b 0 k 1] σ (fun x σ'=>∃b',x=.ae b' 0 k 1∧σ'=(b',cs)::σ):=by
 refine ay Tryz.func256 ?_
 intro b2
 refine AppendAt.more 0 b2 0 k [] ((cs.drop 0).take (k*1)) rfl rfl (cH rfl) (.mem (cY _ hm) (by show 0+k*1≤cs.length;omega)) (by omega) (by decide) (by decide) (fun b'=>?_)
 refine .done ⟨b',by rw[eF];rfl,?_⟩
 show (b',List.take (0*1) []++(cs.drop 0).take (k*1))::σ=_
 rw[show (cs.drop 0).take (k*1)=cs by rw[gR,eI (by omega)]];rfl
structure Lay where
 what:Int
 words:Int
 n:Int
 k:Int
def gM(l:Lay):List AV:=[.int .i64 l.what,.int .i64 l.words,.int .i64 l.n,.int .i64 l.k]
def cO(l:Lay):Int:=wr (l.n*l.words)
def cF(l:Lay):Int:=wr (cO l+l.n)
def ef(l:Lay):Int:=wr (l.n+1)
def gh(l:Lay)(w:Int):Int:=wr (wr (cF l+1)+wr (w*((2+rm (ef l):Nat):Int)))
def aS(l:Lay)(v:Int):Int:=wr (v*l.words)
def gk(s:Sy)(k:Int):Lay:=⟨qm (ck s k) s.what,qm (ck s k) (dS s.what s.w),qm (ck s k) s.n,qm (ck s k) k⟩
theorem acM(n:Int)(σ:Hp):ACalls Tryz.prog 87 [.int .i64 n] σ (aE (.int .i64 ((2+rm n:Nat):Int)) σ):=by
 have h:=uH n
 refine ay Tryz.func87 ?_
 refine az [] (Mj _ _) ?_
 exact .done ⟨aQ (by rw[IntKind.wrap_i64];omega),rfl⟩
theorem Up(l:Lay)(σ:Hp):ACalls Tryz.prog 108 [.agg (gM l)] σ (aE (.int .i64 (cO l)) σ):=by
 refine ay Tryz.func108 ?_
 intro aD
 refine aa 0 ?_
 refine aa 0 ?_
 exact .drop 0 1 (.done ⟨rfl,rfl⟩)
theorem Tv(l:Lay)(σ:Hp):ACalls Tryz.prog 109 [.agg (gM l)] σ (aE (.int .i64 (cF l)) σ):=by
 refine ay Tryz.func109 ?_
 intro aD
 refine .quiet (by kernel_rfl) ?_
 refine aa 0 ?_
 refine aH [] (Up l _) ?_
 refine aa 0 ?_
 exact .drop 0 1 (.done ⟨rfl,rfl⟩)
theorem LM(l:Lay)(σ:Hp):ACalls Tryz.prog 88 [.agg (gM l)] σ (aE (.int .i64 (ef l)) σ):=by
 refine ay Tryz.func88 ?_
 intro aD
 refine aa 0 ?_
 exact .drop 0 1 (.done ⟨rfl,rfl⟩)
theorem yc(l:Lay)(w:Int)(σ:Hp):ACalls Tryz.prog 52 [.agg (gM l),.int .i64 w] σ (aE (.agg [.int .i64 (gh l w),.int .i64 (ef l)]) σ):=by
 refine ay Tryz.func52 ?_
 intro aD
 intro dH
 refine .sched [1,5,6,10] (upto [1,5,6,10] 13 0) (by kernel_rfl) ?_
 refine aa 1 ?_
 refine aH [] (Tv l _) ?_
 refine aa 1 ?_
 refine aH [] (LM l _) ?_
 refine aH [] (acM _ _) ?_
 refine aa 1 ?_
 refine aH [] (LM l _) ?_
 refine ak 0 ?_
 refine aa 0 ?_
 exact .drop 0 2 (.done ⟨rfl,rfl⟩)
theorem zU(l:Lay)(σ:Hp):ACalls Tryz.prog 45 [.agg (gM l)] σ (aE (.agg [.int .i64 (cO l),.int .i64 (cF l)]) σ):=by
 refine ay Tryz.func45 ?_
 intro aD
 intro dH
 refine .sched [1,3] (upto [1,3] 6 0) (by kernel_rfl) ?_
 refine aa 1 ?_
 refine aH [] (Up l _) ?_
 refine aa 1 ?_
 refine aH [] (Tv l _) ?_
 refine ak 0 ?_
 refine aa 0 ?_
 exact .drop 0 2 (.done ⟨rfl,rfl⟩)
theorem G7(l:Lay)(v:Int)(σ:Hp):ACalls Tryz.prog 106 [.agg (gM l),.int .i64 v] σ (aE (.agg [.int .i64 (aS l v),.int .i64 l.what,.int .i64 l.words]) σ):=by
 refine ay Tryz.func106 ?_
 intro aD
 intro dH
 refine aa 1 ?_
 refine aa 1 ?_
 refine aa 1 ?_
 refine ak 0 ?_
 refine aa 0 ?_
 exact .drop 0 2 (.done ⟨rfl,rfl⟩)
theorem Un(l:Lay)(σ:Hp):ACalls Tryz.prog 96 [.agg (gM l)] σ (aE (.int .i64 (gh l l.k)) σ):=by
 refine ay Tryz.func96 ?_
 intro aD
 refine aa 0 ?_
 refine aa 0 ?_
 refine az [] (yc l _ _) ?_
 exact .drop 0 1 (.done ⟨rfl,rfl⟩)
theorem G6(s:Sy)(k:Int)(σ:Hp)(hf:Fit s):ACalls Tryz.prog 37 [.agg (bc s),.int .i64 k] σ (aE (.tup [.agg (gM (gk s k)),.int .i64 (ck s k)]) σ):=by
 refine ay Tryz.func37 ?_
 intro aD
 intro dH
 refine aa 1 ?_
 refine az [] (Q7 s _ hf) ?_
 refine dB (fun c3=>?_) (fun c3=>?_)
 ·have c3:¬(eK s=0):=by simpa using c3
  refine ak 0 ?_
  refine aa 0 ?_
  exact .drop 0 2 (.done ⟨aah (by assumption),rfl⟩)
 ·have c3:eK s=0:=by simpa using c3
  refine an (fun c4=>?_) (fun c4=>?_)
  ·have c4:k<1:=c4
   refine ak 0 ?_
   refine aa 0 ?_
   exact .drop 0 2 (.done ⟨RK (by assumption) (by omega),rfl⟩)
  ·have c4:¬(k<1):=c4
   refine an (fun c5=>?_) (fun c5=>?_)
   ·have c5:64<k:=c5
    refine ak 0 ?_
    refine aa 0 ?_
    exact .drop 0 2 (.done ⟨RK (by assumption) (by omega),rfl⟩)
   ·have c5:¬(64<k):=c5
    refine .sched [6] (upto [6] 13 0) (by kernel_rfl) ?_
    refine aa 1 ?_
    refine aa 1 ?_
    refine aa 1 ?_
    refine aH [] (GH _ _ _) ?_
    refine aa 1 ?_
    refine ak 0 ?_
    refine aa 0 ?_
    exact .drop 0 2 (.done ⟨acb (by assumption) (by omega),rfl⟩)
inductive Nw where
 |none
 |pop (q:DQ)
 |cu (q:DQ)
 |quiet (t:Qk)
 |clear (t:Ck)
 |read (l:List Int)
 |join (j:Jn)
 |take (t:Tk)
 |push (q:DQ)
 |dT (t:Rk)
structure WS where
 ev:Int
 jo:Int
 en:Bool
 does:Int
 now:Nw
 node:Int
 has:Bool
 nx:List Int
 out:List Int
abbrev dO(s:Sy)(l:Lay)(who ev jo:Int)(en:Bool)(does:Int)(nv:AV)(node:Int)(has:Bool)(nx out:List Int):List AV:=
 [.int .i64 ev,.int .i64 jo,.bool en,.int .i64 s.what,.int .i64 s.w,.int .i64 s.n,.af dv s.bf,.af (.int .i64) s.entry,.af (.int .u64) s.init,.af kK s.T,.int .i64 l.what,.int .i64 l.words,.int .i64 l.n,.int .i64 l.k,.int .i64 who,.int .i64 does,nv,.int .i64 node,.bool has,.af (.int .i64) nx,.af (.int .u64) out,.bool true]
theorem LN(w:Nat)(s:Sy)(l:Lay)(who ev jo:Int)(en:Bool)(does:Int)(nv:AV)(node:Int)(has:Bool)(nx out:List Int)(σ:Hp):ACalls Tryz.prog 396 [.ptr w 0] ((w,dO s l who ev jo en does nv node has nx out)::σ) (aE (.bool (decide (l.k<2))) ((w,dO s l who ev jo en does nv node has nx out)::σ)):=by
 refine ay Tryz.func396 ?_
 refine aa 0 ?_
 refine an (fun c1=>?_) (fun c1=>?_)
 ·have c1:l.k<2:=c1
  exact .done ⟨cz (aV (by assumption)).symm,rfl⟩
 ·have c1:¬(l.k<2):=c1
  exact .done ⟨cz (bR (by assumption)).symm,rfl⟩
def nK(l:Lay):Int:=wr (l.k-1)
def Ci(l:Lay)(who d:Int):Int:=(wr (wr (who+1)+(wr (d.tmod (nK l)+nK l)).tmod (nK l))).tmod l.k
theorem acR(w:Nat)(s:Sy)(l:Lay)(who ev jo:Int)(en:Bool)(does:Int)(nv:AV)(node:Int)(has:Bool)(nx out:List Int)(d:Int)(σ:Hp)(h1:nK l≠0)(h2:l.k≠0):ACalls Tryz.prog 393 [.ptr w 0,.int .i64 d] ((w,dO s l who ev jo en does nv node has nx out)::σ) (aE (.int .i64 (Ci l who d)) ((w,dO s l who ev jo en does nv node has nx out)::σ)):=by
 refine ay Tryz.func393 ?_
 refine aa 0 ?_
 refine .quiet (by kernel_rfl) ?_
 refine aa 0 ?_
 refine ag.mk h1 ?_
 refine ag.mk h1 ?_
 refine aa 0 ?_
 refine ag.mk h2 ?_
 exact .done ⟨rfl,rfl⟩
def oY(l:Lay)(n:Int):Int:=if wu l.n≤n then 0 else wr n
def qQ(l:Lay)(n:Int):Int:=if wu l.n≤n then 8 else 3
theorem VH(w:Nat)(s:Sy)(l:Lay)(who ev jo:Int)(en:Bool)(does:Int)(nv:AV)(node:Int)(has:Bool)(nx out:List Int)(n:Int)(σ:Hp):ACalls Tryz.prog 394 [.ptr w 0,.int .u64 n] ((w,dO s l who ev jo en does nv node has nx out)::σ) (aE (.int .i64 (qQ l n)) ((w,dO s l who ev jo en does nv (oY l n) true nx out)::σ)):=by
 refine ay Tryz.func394 ?_
 refine ak 0 ?_
 refine ak 0 ?_
 refine aa 0 ?_
 refine an (fun c1=>?_) (fun c1=>?_)
 ·have c1:IntKind.u64.wrap l.n≤n:=c1
  exact .done ⟨aQ (ai c1).symm,congrArg (fun z=>(w,dO s l who ev jo en does nv z true nx out)::σ) (show _=oY l n from (ai c1).symm)⟩
 ·have c1:¬(IntKind.u64.wrap l.n≤n):=c1
  refine ak 0 ?_
  exact .done ⟨aQ (ah c1).symm,congrArg (fun z=>(w,dO s l who ev jo en does nv z true nx out)::σ) (show _=oY l n from (ah c1).symm)⟩
def qM(l:Lay):Int:=if l.k<2 then 2 else 1
theorem aen(w:Nat)(s:Sy)(l:Lay)(who ev jo:Int)(en:Bool)(does:Int)(nv:AV)(node:Int)(has:Bool)(nx out:List Int)(σ:Hp):ACalls Tryz.prog 395 [.ptr w 0] ((w,dO s l who ev jo en does nv node has nx out)::σ) (aE (.int .i64 (qM l)) ((w,dO s l who ev jo en does nv node has nx out)::σ)):=by
 refine ay Tryz.func395 ?_
 refine eb [] (LN w s l who ev jo en does nv node has nx out _) (fun c=>?_) (fun c=>?_)
 ·exact .done ⟨aQ (ai (fm c)).symm,rfl⟩
 ·exact .done ⟨aQ (ah (pH c)).symm,rfl⟩
def kj(nx:List Int):Int:=if nx.tail.length=0 then 8 else 5
theorem Lm(w:Nat)(s:Sy)(l:Lay)(who ev jo:Int)(en:Bool)(does:Int)(nv:AV)(node:Int)(has:Bool)(nx out:List Int)(σ:Hp)(hx:0<nx.length):ACalls Tryz.prog 398 [.ptr w 0] ((w,dO s l who ev jo en does nv node has nx out)::σ) (aE (.int .i64 (kj nx)) ((w,dO s l who ev jo en does nv node has nx.tail out)::σ)):=by
 refine ay Tryz.func398 ?_
 cases nx with
 |nil=>simp at hx
 |cons z nx=>
  refine aa 0 ?_
  refine ag.mk ⟨by decide,Int.ofNat_le.2 (Nat.succ_le_succ (bA _)),ke _,rfl⟩ ?_
  have e:((z::nx).drop ((1:Int)).toNat).take ((((z::nx).length:Nat):Int).toNat-((1:Int)).toNat)=nx:=by simp
  refine ak 0 ?_
  refine aa 0 ?_
  refine an (fun c1=>?_) (fun c1=>?_)
  ·have c1:(↑(List.take ((↑(z::nx).length:Int).toNat-Int.toNat 1) (List.drop (Int.toNat 1) (z::nx))).length:Int)=0:=c1
   have c2:(nx.length:Int)=0:=(congrArg (fun z:List Int=>(z.length:Int)) e).symm.trans c1
   exact .done ⟨aQ (ai (show nx.length=0 by omega)).symm,congrArg (fun z=>(w,dO s l who ev jo en does nv node has z out)::σ) e⟩
  ·have c1:¬((↑(List.take ((↑(z::nx).length:Int).toNat-Int.toNat 1) (List.drop (Int.toNat 1) (z::nx))).length:Int)=0):=c1
   have c2:¬(nx.length:Int)=0:=fun h=>c1 ((congrArg (fun z:List Int=>(z.length:Int)) e).trans h)
   exact .done ⟨aQ (ah (show ¬nx.length=0 by omega)).symm,congrArg (fun z=>(w,dO s l who ev jo en does nv node has z out)::σ) e⟩
def uz(s:Sy)(node:Int):Int:=if (au s.n s.bf node).length=0 then 8 else 5
theorem aeg(w:Nat)(s:Sy)(l:Lay)(who ev jo:Int)(en:Bool)(does:Int)(nv:AV)(node:Int)(has:Bool)(nx out x:List Int)(σ:Hp)(hf:Fit s)(hx:aR x)(lx:x.length≤10000):ACalls Tryz.prog 397 [.ptr w 0,.af (.int .u64) x] ((w,dO s l who ev jo en does nv node has nx out)::σ) (aE (.int .i64 (uz s node)) ((w,dO s l who (wr (ev+1)) jo en does nv node has (au s.n s.bf node) (sh (pr s node x) (iD s x node.toNat)))::σ)):=by
 refine ay Tryz.func397 ?_
 refine aa 0 ?_
 refine ak 0 ?_
 refine .sched [10] (upto [10] 17 0) (by kernel_rfl) ?_
 refine aa 0 ?_
 refine aa 0 ?_
 refine aH [] (acV s node x _ hf hx lx) ?_
 refine ak 0 ?_
 refine .sched [15] (upto [15] 19 0) (by kernel_rfl) ?_
 refine aa 0 ?_
 refine aa 0 ?_
 refine aa 0 ?_
 refine aH [] (Aw s.n s.bf node _ hf.DE) ?_
 refine ak 0 ?_
 refine aa 0 ?_
 refine an (fun c1=>?_) (fun c1=>?_)
 ·have c1:(↑(au s.n s.bf node).length:Int)=0:=c1
  exact .done ⟨aQ (ai (show (au s.n s.bf node).length=0 by omega)).symm,rfl⟩
 ·have c1:¬((↑(au s.n s.bf node).length:Int)=0):=c1
  exact .done ⟨aQ (ah (show ¬(au s.n s.bf node).length=0 by omega)).symm,rfl⟩
end Go.Proofs.YtnikdflhefijbaaGreat
