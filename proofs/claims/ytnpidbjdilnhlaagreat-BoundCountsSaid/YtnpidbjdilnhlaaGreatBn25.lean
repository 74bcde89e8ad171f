import Derived.Test.YtnpidbjdilnhlaaGreatBn11
import Derived.Test.YtnpidbjdilnhlaaGreatBn12
import Derived.Test.YtnpidbjdilnhlaaGreatBn23
import Derived.Test.YtnpidbjdilnhlaaGreatBn24
import Derived.Test.YtnpidbjdilnhlaaGreatBn20
import Derived.Test.YtnpidbjdilnhlaaGreatBn19
namespace Go.Proofs.YtnpidbjdilnhlaaGreat
open Go.RowKit
set_option maxRecDepth 100000
set_option maxHeartbeats 4000000
theorem Dk{ws:List Int}(h:aS ws)(a:Int):bf (cC ws a):=by
 unfold cC
 split
 ·exact⟨by decide,by decide⟩
 ·rw[List.getD_eq_getElem?_getD]
  cases hq:ws[a.toNat]? with
  | none=>exact⟨by decide,by decide⟩
  | some x=>exact h x (List.mem_of_getElem? hq)
theorem KA(a:List Int)(i:Nat)(σ:Hp):ACalls Tryz.prog 101 [.ah (.int .u64) a,.int .i64 i] σ (az (.int .u64 (wd a i)) σ):=by
 refine okF Tryz.func101 (by kernel_rfl) ?_
 refine ao (fun h =>?_) (fun h =>?_)
 ·have h:(a.length:Int)≤i:=h
  exact .done ⟨aN (by simp[wd,List.getElem?_eq_none (show a.length≤i by omega)]),rfl⟩
 ·have h:¬(a.length:Int)≤i:=h
  have hi:i<a.length:=by omega
  refine ag.mk rfl (bH.mk a[i] (by omega) (get_some hi) ?_)
  exact .done ⟨aN (by simp[wd,hi]),rfl⟩
def cw(n:Int):Nat:=(min (max n 0) 1024).toNat
theorem x5(n:Int):cw n≤1024:=by unfold cw;omega
theorem aaa(n:Int):(if (1024:Int)<(if n<0 then 0 else n) then (1024:Int) else (if n<0 then 0 else n))=((cw n:Nat):Int):=by
 unfold cw
 by_cases h:n<0
 ·simp only[if_pos h];omega
 ·simp only[if_neg h];split <;> omega
theorem lV(b w n:Int)(σ:Hp):ACalls Tryz.prog 100 [.agg [.int .i64 b,.int .i64 w,.int .i64 n]] σ (az (.int .i64 (cw n)) σ):=by
 refine okF Tryz.func100 (by kernel_rfl) ?_
 intro aC
 refine aa 0 ?_
 exact .drop 0 1 (.done ⟨aN (aaa n),rfl⟩)
structure Jn where
 base:Int
 what:Int
 words:Int
 a:List Int
 changed:Bool
 ended:Bool
 tries:Int
 at_:Nat
 ek:Bool
 x:Int
def wI(j:Jn):List AV:=[.int .i64 j.base,.int .i64 j.what,.int .i64 j.words,.ah (.int .u64) j.a,.bool j.changed,.bool j.ended,.int .i64 j.tries,.int .i64 j.at_,.bool j.ek,.int .u64 j.x]
def fE(j:Jn):Jn×Bool:=if j.at_+1<cw j.words then ({ j with at_:=j.at_+1 },false) else ({ j with at_:=j.at_+1,ended:=true },true)
def fV(O:iE)(j:Jn)(a:O.A):Jn×O.A×Bool:=
 if j.ended then (j,a,true)
 else if j.at_=cw j.words then ({ j with ended:=true },a,true)
 else if j.ek then
  (if (O.cs a (wr (j.base+j.at_)) j.x (cu j.what j.x (wd j.a j.at_))).1 then ((fE { j with ek:=false,changed:=true }).1,(O.cs a (wr (j.base+j.at_)) j.x (cu j.what j.x (wd j.a j.at_))).2,(fE { j with ek:=false,changed:=true }).2)
  else ({ j with ek:=false,tries:=wr (j.tries+1) },(O.cs a (wr (j.base+j.at_)) j.x (cu j.what j.x (wd j.a j.at_))).2,false))
 else if cu j.what (O.ld a (wr (j.base+j.at_))).1 (wd j.a j.at_)=(O.ld a (wr (j.base+j.at_))).1 then ((fE { j with x:=(O.ld a (wr (j.base+j.at_))).1 }).1,(O.ld a (wr (j.base+j.at_))).2,(fE { j with x:=(O.ld a (wr (j.base+j.at_))).1 }).2)
 else ({ j with x:=(O.ld a (wr (j.base+j.at_))).1,ek:=true },(O.ld a (wr (j.base+j.at_))).2,false)
theorem DH{M:AMem}{σ:Hp}{X:Type}{B:X→List AV}{r:Nat}{res:X×M.O.A×Bool}{x:X}{a:M.O.A}{b:Bool}{m':M.S}{cs:List AV}(h:res=(x,a,b))(hm:M.abs m'=a)(hc:cs=B x):nS M σ B r res (.bool b) ((r,cs)::(M.B m'++σ)):=by
 subst hc
 exact iz h hm
theorem Ej(M:AMem)(r:Nat)(j:Jn)(m:M.S)(d:Int)(σ:Hp)(hf:M.O.free (M.abs m))(cW:j.at_≤2000):ACalls Tryz.prog 374 [.ptr r 0,M.v,.int .i64 d] ((r,wI j)::(M.B m++σ)) (nS M σ wI r (fV M.O j (M.abs m))):=by
 refine okF Tryz.func374 (by kernel_rfl) ?_
 have hw:IntKind.i64.wrap ((j.at_:Int)+1)=((j.at_+1:Nat):Int):=by rw[IntKind.wrap_i64];omega
 refine dJ.iZ 0 _ _ rfl rfl (fun h0 =>?_) (fun h0 =>?_)
 ·exact .done (iz (x:=j) (by simp[fV,h0]) rfl)
 refine ax [] (cy _ _ _) ?_
 refine .quiet (by kernel_rfl) ?_
 refine aa 0 ?_
 refine aa 0 ?_
 refine aD [] (lV _ _ _ _) ?_
 refine ao (fun c1 =>?_) (fun c1 =>?_)
 ·have c1:(j.at_:Int)=cw j.words:=c1
  have c1:j.at_=cw j.words:=by omega
  refine .fwd 1 ?_
  refine ai 0 ?_
  exact .done (iz (x:= { j with ended:=true }) (by simp[fV,h0,c1]) rfl)
 ·have c1:¬(j.at_:Int)=cw j.words:=c1
  have c1:¬j.at_=cw j.words:=by omega
  refine dJ.iZ 0 _ _ rfl rfl (fun c2 =>?_) (fun c2 =>?_)
  ·refine ai 0 ?_
   refine .sched [36,37] (upto [36,37] 43 0) (by kernel_rfl) ?_
   refine aa 0 ?_
   refine aa 0 ?_
   refine aa 0 ?_
   refine aa 0 ?_
   refine aa 0 ?_
   refine aa 0 ?_
   refine aa 0 ?_
   refine aD [] (KA _ _ _) ?_
   refine aD [] (Qx _ _ _ _) ?_
   refine dS.mk M.hC ?_
   refine M.aCasB [_] hf (fun m' hm hb =>?_) (fun m' hm hb =>?_)
   ·refine ai 0 ?_
    refine .fwd 1 ?_
    refine aa 0 ?_
    refine ai 0 ?_
    refine .quiet (by kernel_rfl) ?_
    refine aa 0 ?_
    refine aa 0 ?_
    refine aD [] (lV _ _ _ _) ?_
    refine ao (fun c3 =>?_) (fun c3 =>?_)
    ·have c3:IntKind.i64.wrap (↑j.at_+1) < ↑(cw j.words):=c3
     exact .done (DH (x:= { j with ek:=false,changed:=true,at_:=j.at_+1 }) (by simp[fV,h0,c1,c2,hb,fE,show j.at_+1<cw j.words by omega]) hm (by rw[hw];rfl))
    ·have c3:¬(IntKind.i64.wrap (↑j.at_+1) < ↑(cw j.words)):=c3
     refine ai 0 ?_
     exact .done (DH (x:= { j with ek:=false,changed:=true,at_:=j.at_+1,ended:=true }) (by simp[fV,h0,c1,c2,hb,fE,show ¬j.at_+1<cw j.words by omega]) hm (by rw[hw];rfl))
   ·refine aa 0 ?_
    refine ai 0 ?_
    exact .done (iz (x:= { j with ek:=false,tries:=wr (j.tries+1) }) (by simp[fV,h0,c1,c2,hb]) hm)
  ·refine .sched [] (upto [] 21 0) (by kernel_rfl) ?_
   refine aa 0 ?_
   refine aa 0 ?_
   refine dS.mk M.hL ?_
   refine M.aLoad [_] hf fun m' hm =>?_
   refine ai 0 ?_
   refine .quiet (by kernel_rfl) ?_
   refine aa 0 ?_
   refine aa 0 ?_
   refine aa 0 ?_
   refine aa 0 ?_
   refine aD [] (KA _ _ _) ?_
   refine aD [] (Qx _ _ _ _) ?_
   refine aa 0 ?_
   refine dx (fun c4 =>?_) (fun c4 =>?_)
   ·have c4:¬(cu j.what (M.O.ld (M.abs m) (IntKind.i64.wrap (j.base + ↑j.at_))).fst (wd j.a j.at_)=(M.O.ld (M.abs m) (IntKind.i64.wrap (j.base + ↑j.at_))).fst):=by simpa using c4
    refine ai 0 ?_
    exact .done (iz (x:= { j with x:=(M.O.ld (M.abs m) (wr (j.base+j.at_))).1,ek:=true }) (by simp[fV,h0,c1,c2,c4]) hm)
   ·have c4:cu j.what (M.O.ld (M.abs m) (IntKind.i64.wrap (j.base + ↑j.at_))).fst (wd j.a j.at_)=(M.O.ld (M.abs m) (IntKind.i64.wrap (j.base + ↑j.at_))).fst:=by simpa using c4
    refine aa 0 ?_
    refine ai 0 ?_
    refine .quiet (by kernel_rfl) ?_
    refine aa 0 ?_
    refine aa 0 ?_
    refine aD [] (lV _ _ _ _) ?_
    refine ao (fun c5 =>?_) (fun c5 =>?_)
    ·have c5:IntKind.i64.wrap (↑j.at_+1) < ↑(cw j.words):=c5
     exact .done (DH (x:= { j with x:=(M.O.ld (M.abs m) (wr (j.base+j.at_))).1,at_:=j.at_+1 }) (by simp[fV,h0,c1,c2,c4,fE,show j.at_+1<cw j.words by omega]) hm (by rw[hw];rfl))
    ·have c5:¬(IntKind.i64.wrap (↑j.at_+1) < ↑(cw j.words)):=c5
     refine ai 0 ?_
     exact .done (DH (x:= { j with x:=(M.O.ld (M.abs m) (wr (j.base+j.at_))).1,at_:=j.at_+1,ended:=true }) (by simp[fV,h0,c1,c2,c4,fE,show ¬j.at_+1<cw j.words by omega]) hm (by rw[hw];rfl))
def yd(base:Int)(a:List Int)(ws:List Int):Nat→List Int
 | 0=>ws
 | k+1=>fN (yd base a ws k) (wr (base+k)) (wd a k)
theorem acF(p q:Nat)(ws:List Int)(b w n:Int)(a:List Int)(σ:Hp):ACalls Tryz.prog 49 [.agg [.int .i64 b,.int .i64 w,.int .i64 n],iY p,.ah (.int .u64) a] (aX p q ws σ) (az (.tup []) (aX p q (yd b a ws (cw n)) σ)):=by
 have hc:=x5 n
 refine okF Tryz.func49 (by kernel_rfl) ?_
 intro aC
 refine ax [] (cy _ _ _) ?_
 refine aa 0 ?_
 refine ax [] (lV _ _ _ _) ?_
 refine bO (S:=Nat) (fun s=>[(1,iY p),(2,.ah (.int .u64) a),(3,.ptr aC 0),(10,.int .i64 (cw n)),(11,.int .i64 s)]) (fun s=>(aC,[.int .i64 b,.int .i64 w,.int .i64 n])::aX p q (yd b a ws s) σ) (fun s=>s≤cw n) (fun s=>cw n-s) 0 ⟨Nat.zero_le _,⟨rfl,rfl,rfl,rfl,rfl,trivial⟩,rfl⟩ ?_
 intro k g hk
 refine ao (fun h =>?_) (fun h =>?_)
 ·have h:(k:Int)<cw n:=h
  refine .sched [7] (upto [7] 12 0) (by kernel_rfl) ?_
  refine aa 0 ?_
  refine aD [] (KA _ _ _) ?_
  refine dS.mk hStore_ ?_
  refine⟨_,mStore_,?_⟩
  refine ax [2,2] (aStore p q _ _ _ _) ?_
  refine bg (k+1) ?_ ?_ ⟨rfl,rfl,rfl,rfl,a8 (by omega),trivial⟩ (.pull [2] (aF rfl))
  ·show cw n-(k+1)<cw n-k;omega
  ·show k+1≤cw n;omega
 ·have h:¬(k:Int)<cw n:=h
  obtain rfl:k=cw n:=by omega
  exact .drop 0 1 (.done ⟨rfl,rfl⟩)
def n5(base:Int)(ws:List Int)(k:Nat):List Int:=(List.range k).map fun i=>cC ws (wr (base+(i:Nat)))
theorem Sl(base:Int)(ws:List Int)(k:Nat):(n5 base ws k).length=k:=by unfold n5;rw[List.length_map,List.length_range]
theorem UP(base:Int)(ws:List Int)(k:Nat):n5 base ws (k+1)=n5 base ws k++[cC ws (wr (base+k))]:=by unfold n5;rw[List.range_succ,List.map_append];rfl
theorem acK(p q:Nat)(ws:List Int)(b w n:Int)(σ:Hp):ACalls Tryz.prog 63 [.agg [.int .i64 b,.int .i64 w,.int .i64 n],iY p] (aX p q ws σ) (az (.ah (.int .u64) (n5 b ws (cw n))) (aX p q ws σ)):=by
 have hc:=x5 n
 refine okF Tryz.func63 (by kernel_rfl) ?_
 intro aC
 refine ax [] (cy _ _ _) ?_
 refine aa 0 ?_
 refine ax [] (lV _ _ _ _) ?_
 refine .wrap 5 _ rfl rfl ?_
 refine bO (S:=Nat×AV×Hp) (fun s=>[(1,iY p),(2,.ptr aC 0),(5,.via s.2.1),(10,.int .i64 (cw n)),(11,.int .i64 s.1)]) (fun s=>(aC,[.int .i64 b,.int .i64 w,.int .i64 n])::(s.2.2++aX p q ws σ)) (fun s=>s.1≤cw n∧Acc 1 s.1 s.2.1 s.2.2 (aU (n5 b ws s.1))) (fun s=>cw n-s.1) (0,.af,[]) ⟨⟨Nat.zero_le _,.nil⟩,⟨rfl,rfl,rfl,rfl,rfl,trivial⟩,rfl⟩ ?_
 rintro⟨k,v,acc⟩ g ⟨hk,bP⟩
 have hk:k≤cw n:=hk
 have bP:Acc 1 k v acc (aU (n5 b ws k)):=bP
 refine ao (fun h =>?_) (fun h =>?_)
 ·have h:(k:Int)<cw n:=h
  refine aa 0 ?_
  refine⟨_,mLoad_,?_⟩
  refine .perm (σ2:=aX p q ws ((aC,[.int .i64 b,.int .i64 w,.int .i64 n])::(acc++σ))) _ ?_ (aLoad p q ws _ _) ?_
  ·exact dO ((aC,[.int .i64 b,.int .i64 w,.int .i64 n])::acc) [_,_] σ
  rintro _ _ ⟨rfl,rfl⟩
  refine⟨_,(dO ((aC,[.int .i64 b,.int .i64 w,.int .i64 n])::acc) [_,_] σ).symm,?_⟩
  intro dI
  refine kr [_,_] bP (.ae 0 dI 0 1 _ rfl (Nat.le_of_ble_eq_true rfl)) rfl (by omega) (by decide) (by decide) (fun v' bh h' =>?_)
  refine bg (k+1,v',bh) ?_ ⟨?_,?_⟩ ⟨rfl,rfl,rfl,rfl,a8 (by omega),trivial⟩ (.drop 0 1 (aF rfl))
  ·show cw n-(k+1)<cw n-k;omega
  ·show k+1≤cw n;omega
  ·show Acc 1 (k+1) v' bh (aU (n5 b ws (k+1)))
   rw[UP,aU,List.map_append]
   exact h'
 ·have h:¬(k:Int)<cw n:=h
  obtain rfl:k=cw n:=by omega
  refine .drop 0 1 ?_
  exact qG (s:=.int .u64) (l:=n5 b ws (cw n)) [] bP (Sl b ws _).symm (by rw[oL]) (by decide) (.done ⟨rfl,rfl⟩)
def iH(v:AV)(base what words:Int)(ended:Bool)(at_:Nat)(ek:Bool)(x:Int):List AV:=[.int .i64 base,.int .i64 what,.int .i64 words,v,.bool ended,.int .i64 at_,.bool ek,.int .u64 x]
inductive jl:AV→Hp→List Int→Prop where
 | nil:jl .af [] []
 | ae (b:Nat) (l:List Int):jl (.ae b 0 l.length 1) [(b,aU l)] l
theorem jl.push(b:Nat)(l:List Int)(x:Int):jl (.ae b 0 (l.length+1) 1) [(b,(aU l).take (l.length*1)++[.int .u64 x])] (l++[x]):=by
 have h:=jl.ae b (l++[x])
 have e1:(l++[x]).length=l.length+1:=by simp
 have e2:aU (l++[x])=(aU l).take (l.length*1)++[.int .u64 x]:=by rw[List.take_of_length_le (by simp[aU])];simp[aU]
 rw[e1,e2]at h
 exact h
theorem Vx(σ:Hp):ACalls Tryz.prog 150 [.af] σ (az .af σ):=by
 refine okF Tryz.func150 (by kernel_rfl) ?_
 exact .done ⟨rfl,rfl⟩
theorem zt(b k:Nat)(cs:List AV)(σ:Hp)(hm:(b,cs)∈σ)(h:cs.length=k*1)(hl:k≤1000000):ACalls Tryz.prog 150 [.ae b 0 k 1] σ (fun x σ'=>∃b',x=.ae b' 0 k 1∧σ'=(b',cs)::σ):=by
 refine okF Tryz.func150 (by kernel_rfl) ?_
 intro b2
 refine AppendAt.more 0 b2 0 k [] ((cs.drop 0).take (k*1)) rfl rfl (Nat.le_of_ble_eq_true rfl) (.mem (List.mem_cons_of_mem _ hm) (by show 0+k*1≤cs.length;omega)) (by omega) (by decide) (by decide) (fun b' =>?_)
 refine .done ⟨b',by rw[Nat.zero_add];rfl,?_⟩
 show (b',List.take (0*1) []++(cs.drop 0).take (k*1))::σ=_
 rw[show (cs.drop 0).take (k*1)=cs by rw[List.drop_zero,List.take_of_length_le (by omega)]];rfl
set_option maxRecDepth 100000
structure Lay where
 what:Int
 words:Int
 n:Int
 k:Int
def fH(l:Lay):List AV:=[.int .i64 l.what,.int .i64 l.words,.int .i64 l.n,.int .i64 l.k]
def bR(l:Lay):Int:=wr (l.n*l.words)
def bN(l:Lay):Int:=wr (bR l+l.n)
def du(l:Lay):Int:=wr (l.n+1)
def fe(l:Lay)(w:Int):Int:=wr (wr (bN l+1)+wr (w*((2+rm (du l):Nat):Int)))
def aK(l:Lay)(v:Int):Int:=wr (v*l.words)
def gP(s:Sy)(k:Int):Lay:=⟨jF (bF s k) s.what,jF (bF s k) (eE s.what s.w),jF (bF s k) s.n,jF (bF s k) k⟩
theorem Y6(n:Int)(σ:Hp):ACalls Tryz.prog 110 [.int .i64 n] σ (az (.int .i64 ((2+rm n:Nat):Int)) σ):=by
 have h:=sj n
 refine okF Tryz.func110 (by kernel_rfl) ?_
 refine ax [] (IH _ _) ?_
 exact .done ⟨aN (by rw[IntKind.wrap_i64];omega),rfl⟩
theorem PU(l:Lay)(σ:Hp):ACalls Tryz.prog 102 [.agg (fH l)] σ (az (.int .i64 (bR l)) σ):=by
 refine okF Tryz.func102 (by kernel_rfl) ?_
 intro aC
 refine aa 0 ?_
 refine aa 0 ?_
 exact .drop 0 1 (.done ⟨rfl,rfl⟩)
theorem O3(l:Lay)(σ:Hp):ACalls Tryz.prog 103 [.agg (fH l)] σ (az (.int .i64 (bN l)) σ):=by
 refine okF Tryz.func103 (by kernel_rfl) ?_
 intro aC
 refine .quiet (by kernel_rfl) ?_
 refine aa 0 ?_
 refine aD [] (PU l _) ?_
 refine aa 0 ?_
 exact .drop 0 1 (.done ⟨rfl,rfl⟩)
theorem Ib(l:Lay)(σ:Hp):ACalls Tryz.prog 54 [.agg (fH l)] σ (az (.int .i64 (du l)) σ):=by
 refine okF Tryz.func54 (by kernel_rfl) ?_
 intro aC
 refine aa 0 ?_
 exact .drop 0 1 (.done ⟨rfl,rfl⟩)
theorem vB(l:Lay)(w:Int)(σ:Hp):ACalls Tryz.prog 52 [.agg (fH l),.int .i64 w] σ (az (.agg [.int .i64 (fe l w),.int .i64 (du l)]) σ):=by
 refine okF Tryz.func52 (by kernel_rfl) ?_
 intro aC
 intro dI
 refine .sched [1,5,6,10] (upto [1,5,6,10] 13 0) (by kernel_rfl) ?_
 refine aa 1 ?_
 refine aD [] (O3 l _) ?_
 refine aa 1 ?_
 refine aD [] (Ib l _) ?_
 refine aD [] (Y6 _ _) ?_
 refine aa 1 ?_
 refine aD [] (Ib l _) ?_
 refine ai 0 ?_
 refine aa 0 ?_
 exact .drop 0 2 (.done ⟨rfl,rfl⟩)
theorem xA(l:Lay)(σ:Hp):ACalls Tryz.prog 50 [.agg (fH l)] σ (az (.agg [.int .i64 (bR l),.int .i64 (bN l)]) σ):=by
 refine okF Tryz.func50 (by kernel_rfl) ?_
 intro aC
 intro dI
 refine .sched [1,3] (upto [1,3] 6 0) (by kernel_rfl) ?_
 refine aa 1 ?_
 refine aD [] (PU l _) ?_
 refine aa 1 ?_
 refine aD [] (O3 l _) ?_
 refine ai 0 ?_
 refine aa 0 ?_
 exact .drop 0 2 (.done ⟨rfl,rfl⟩)
theorem DV(l:Lay)(v:Int)(σ:Hp):ACalls Tryz.prog 48 [.agg (fH l),.int .i64 v] σ (az (.agg [.int .i64 (aK l v),.int .i64 l.what,.int .i64 l.words]) σ):=by
 refine okF Tryz.func48 (by kernel_rfl) ?_
 intro aC
 intro dI
 refine aa 1 ?_
 refine aa 1 ?_
 refine aa 1 ?_
 refine ai 0 ?_
 refine aa 0 ?_
 exact .drop 0 2 (.done ⟨rfl,rfl⟩)
theorem PR(l:Lay)(σ:Hp):ACalls Tryz.prog 46 [.agg (fH l)] σ (az (.int .i64 (fe l l.k)) σ):=by
 refine okF Tryz.func46 (by kernel_rfl) ?_
 intro aC
 refine aa 0 ?_
 refine aa 0 ?_
 refine ax [] (vB l _ _) ?_
 exact .drop 0 1 (.done ⟨rfl,rfl⟩)
theorem DU(s:Sy)(k:Int)(σ:Hp)(hf:Fit s):ACalls Tryz.prog 20 [.agg (bD s),.int .i64 k] σ (az (.tup [.agg (fH (gP s k)),.int .i64 (bF s k)]) σ):=by
 refine okF Tryz.func20 (by kernel_rfl) ?_
 intro aC
 intro dI
 refine aa 1 ?_
 refine ax [] (zr s _ hf) ?_
 refine dx (fun c3 =>?_) (fun c3 =>?_)
 ·have c3:¬(cf s=0):=by simpa using c3
  refine ai 0 ?_
  refine aa 0 ?_
  exact .drop 0 2 (.done ⟨Wq (by assumption),rfl⟩)
 ·have c3:cf s=0:=by simpa using c3
  refine ao (fun c4 =>?_) (fun c4 =>?_)
  ·have c4:k<1:=c4
   refine ai 0 ?_
   refine aa 0 ?_
   exact .drop 0 2 (.done ⟨Nk (by assumption) (by omega),rfl⟩)
  ·have c4:¬(k<1):=c4
   refine ao (fun c5 =>?_) (fun c5 =>?_)
   ·have c5:64<k:=c5
    refine ai 0 ?_
    refine aa 0 ?_
    exact .drop 0 2 (.done ⟨Nk (by assumption) (by omega),rfl⟩)
   ·have c5:¬(64<k):=c5
    refine .sched [6] (upto [6] 13 0) (by kernel_rfl) ?_
    refine aa 1 ?_
    refine aa 1 ?_
    refine aa 1 ?_
    refine aD [] (Af _ _ _) ?_
    refine aa 1 ?_
    refine ai 0 ?_
    refine aa 0 ?_
    exact .drop 0 2 (.done ⟨Yw (by assumption) (by omega),rfl⟩)
inductive Nw where
 | none
 | pop (q:DQ)
 | bE (q:DQ)
 | quiet (t:Qk)
 | clear (t:Ck)
 | read (l:List Int)
 | join (j:Jn)
 | take (t:Tk)
 | push (q:DQ)
 | cX (t:Rk)
structure WS where
 ev:Int
 jo:Int
 en:Bool
 does:Int
 now:Nw
 node:Int
 has:Bool
 nx:List Int
 out:List Int
abbrev cR(s:Sy)(l:Lay)(who ev jo:Int)(en:Bool)(does:Int)(nv:AV)(node:Int)(has:Bool)(nx out:List Int):List AV:=
 [.int .i64 ev,.int .i64 jo,.bool en,.int .i64 s.what,.int .i64 s.w,.int .i64 s.n,.ah cI s.aR,.ah (.int .i64) s.entry,.ah (.int .u64) s.init,.ah j7 s.T,.int .i64 l.what,.int .i64 l.words,.int .i64 l.n,.int .i64 l.k,.int .i64 who,.int .i64 does,nv,.int .i64 node,.bool has,.ah (.int .i64) nx,.ah (.int .u64) out,.bool true]
theorem Ic(w:Nat)(s:Sy)(l:Lay)(who ev jo:Int)(en:Bool)(does:Int)(nv:AV)(node:Int)(has:Bool)(nx out:List Int)(σ:Hp):ACalls Tryz.prog 363 [.ptr w 0] ((w,cR s l who ev jo en does nv node has nx out)::σ) (az (.bool (decide (l.k<2))) ((w,cR s l who ev jo en does nv node has nx out)::σ)):=by
 refine okF Tryz.func363 (by kernel_rfl) ?_
 refine aa 0 ?_
 refine ao (fun c1 =>?_) (fun c1 =>?_)
 ·have c1:l.k<2:=c1
  exact .done ⟨cM (decide_eq_true (by assumption)).symm,rfl⟩
 ·have c1:¬(l.k<2):=c1
  exact .done ⟨cM (decide_eq_false (by assumption)).symm,rfl⟩
def nK(l:Lay):Int:=wr (l.k-1)
def zO(l:Lay)(who d:Int):Int:=(wr (wr (who+1)+(wr (d.tmod (nK l)+nK l)).tmod (nK l))).tmod l.k
theorem Zb(w:Nat)(s:Sy)(l:Lay)(who ev jo:Int)(en:Bool)(does:Int)(nv:AV)(node:Int)(has:Bool)(nx out:List Int)(d:Int)(σ:Hp)(h1:nK l≠0)(h2:l.k≠0):ACalls Tryz.prog 360 [.ptr w 0,.int .i64 d] ((w,cR s l who ev jo en does nv node has nx out)::σ) (az (.int .i64 (zO l who d)) ((w,cR s l who ev jo en does nv node has nx out)::σ)):=by
 refine okF Tryz.func360 (by kernel_rfl) ?_
 refine aa 0 ?_
 refine .quiet (by kernel_rfl) ?_
 refine aa 0 ?_
 refine ag.mk h1 ?_
 refine ag.mk h1 ?_
 refine aa 0 ?_
 refine ag.mk h2 ?_
 exact .done ⟨rfl,rfl⟩
def mH(l:Lay)(n:Int):Int:=if wu l.n≤n then 0 else wr n
def oQ(l:Lay)(n:Int):Int:=if wu l.n≤n then 8 else 3
theorem Q7(w:Nat)(s:Sy)(l:Lay)(who ev jo:Int)(en:Bool)(does:Int)(nv:AV)(node:Int)(has:Bool)(nx out:List Int)(n:Int)(σ:Hp):ACalls Tryz.prog 361 [.ptr w 0,.int .u64 n] ((w,cR s l who ev jo en does nv node has nx out)::σ) (az (.int .i64 (oQ l n)) ((w,cR s l who ev jo en does nv (mH l n) true nx out)::σ)):=by
 refine okF Tryz.func361 (by kernel_rfl) ?_
 refine ai 0 ?_
 refine ai 0 ?_
 refine aa 0 ?_
 refine ao (fun c1 =>?_) (fun c1 =>?_)
 ·have c1:IntKind.u64.wrap l.n≤n:=c1
  exact .done ⟨aN (if_pos c1).symm,congrArg (fun z=>(w,cR s l who ev jo en does nv z true nx out)::σ) (show _=mH l n from (if_pos c1).symm)⟩
 ·have c1:¬(IntKind.u64.wrap l.n≤n):=c1
  refine ai 0 ?_
  exact .done ⟨aN (if_neg c1).symm,congrArg (fun z=>(w,cR s l who ev jo en does nv z true nx out)::σ) (show _=mH l n from (if_neg c1).symm)⟩
def oN(l:Lay):Int:=if l.k<2 then 2 else 1
theorem aaw(w:Nat)(s:Sy)(l:Lay)(who ev jo:Int)(en:Bool)(does:Int)(nv:AV)(node:Int)(has:Bool)(nx out:List Int)(σ:Hp):ACalls Tryz.prog 362 [.ptr w 0] ((w,cR s l who ev jo en does nv node has nx out)::σ) (az (.int .i64 (oN l)) ((w,cR s l who ev jo en does nv node has nx out)::σ)):=by
 refine okF Tryz.func362 (by kernel_rfl) ?_
 refine eH [] (Ic w s l who ev jo en does nv node has nx out _) (fun c =>?_) (fun c =>?_)
 ·exact .done ⟨aN (if_pos (of_decide_eq_true c)).symm,rfl⟩
 ·exact .done ⟨aN (if_neg (of_decide_eq_false c)).symm,rfl⟩
def iP(nx:List Int):Int:=if nx.tail.length=0 then 8 else 5
theorem HN(w:Nat)(s:Sy)(l:Lay)(who ev jo:Int)(en:Bool)(does:Int)(nv:AV)(node:Int)(has:Bool)(nx out:List Int)(σ:Hp)(hx:0<nx.length):ACalls Tryz.prog 365 [.ptr w 0] ((w,cR s l who ev jo en does nv node has nx out)::σ) (az (.int .i64 (iP nx)) ((w,cR s l who ev jo en does nv node has nx.tail out)::σ)):=by
 refine okF Tryz.func365 (by kernel_rfl) ?_
 cases nx with
 | nil=>simp at hx
 | cons z nx =>
  refine aa 0 ?_
  refine ag.mk ⟨by decide,Int.ofNat_le.2 (Nat.succ_le_succ (Nat.zero_le _)),Int.le_refl _,rfl⟩ ?_
  have e:((z::nx).drop ((1:Int)).toNat).take ((((z::nx).length:Nat):Int).toNat-((1:Int)).toNat)=nx:=by simp
  refine ai 0 ?_
  refine aa 0 ?_
  refine ao (fun c1 =>?_) (fun c1 =>?_)
  ·have c1:(↑(List.take ((↑(z::nx).length:Int).toNat-Int.toNat 1) (List.drop (Int.toNat 1) (z::nx))).length:Int)=0:=c1
   have c2:(nx.length:Int)=0:=(congrArg (fun z:List Int=>(z.length:Int)) e).symm.trans c1
   exact .done ⟨aN (if_pos (show nx.length=0 by omega)).symm,congrArg (fun z=>(w,cR s l who ev jo en does nv node has z out)::σ) e⟩
  ·have c1:¬((↑(List.take ((↑(z::nx).length:Int).toNat-Int.toNat 1) (List.drop (Int.toNat 1) (z::nx))).length:Int)=0):=c1
   have c2:¬(nx.length:Int)=0:=fun h=>c1 ((congrArg (fun z:List Int=>(z.length:Int)) e).trans h)
   exact .done ⟨aN (if_neg (show ¬nx.length=0 by omega)).symm,congrArg (fun z=>(w,cR s l who ev jo en does nv node has z out)::σ) e⟩
def sc(s:Sy)(node:Int):Int:=if (an s.n s.aR node).length=0 then 8 else 5
theorem aas(w:Nat)(s:Sy)(l:Lay)(who ev jo:Int)(en:Bool)(does:Int)(nv:AV)(node:Int)(has:Bool)(nx out x:List Int)(σ:Hp)(hf:Fit s)(hx:aS x)(lx:x.length≤10000):ACalls Tryz.prog 364 [.ptr w 0,.ah (.int .u64) x] ((w,cR s l who ev jo en does nv node has nx out)::σ) (az (.int .i64 (sc s node)) ((w,cR s l who (wr (ev+1)) jo en does nv node has (an s.n s.aR node) (qd (mY s node x) (iD s x node.toNat)))::σ)):=by
 refine okF Tryz.func364 (by kernel_rfl) ?_
 refine aa 0 ?_
 refine ai 0 ?_
 refine .sched [10] (upto [10] 17 0) (by kernel_rfl) ?_
 refine aa 0 ?_
 refine aa 0 ?_
 refine aD [] (Zf s node x _ hf hx lx) ?_
 refine ai 0 ?_
 refine .sched [15] (upto [15] 19 0) (by kernel_rfl) ?_
 refine aa 0 ?_
 refine aa 0 ?_
 refine aa 0 ?_
 refine aD [] (x8 s.n s.aR node _ hf.um) ?_
 refine ai 0 ?_
 refine aa 0 ?_
 refine ao (fun c1 =>?_) (fun c1 =>?_)
 ·have c1:(↑(an s.n s.aR node).length:Int)=0:=c1
  exact .done ⟨aN (if_pos (show (an s.n s.aR node).length=0 by omega)).symm,rfl⟩
 ·have c1:¬((↑(an s.n s.aR node).length:Int)=0):=c1
  exact .done ⟨aN (if_neg (show ¬(an s.n s.aR node).length=0 by omega)).symm,rfl⟩
end Go.Proofs.YtnpidbjdilnhlaaGreat
