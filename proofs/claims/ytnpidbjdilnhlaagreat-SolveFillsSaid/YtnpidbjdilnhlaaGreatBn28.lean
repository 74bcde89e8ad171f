import Derived.Test.YtnpidbjdilnhlaaGreatBn11
import Derived.Test.YtnpidbjdilnhlaaGreatBn12
import Derived.Test.YtnpidbjdilnhlaaGreatBn27
import Derived.Test.YtnpidbjdilnhlaaGreatBn26
import Derived.Test.YtnpidbjdilnhlaaGreatBn25
import Derived.Test.YtnpidbjdilnhlaaGreatBn23
namespace Go.Proofs.YtnpidbjdilnhlaaGreat
open Go.RowKit
set_option maxRecDepth 100000
set_option maxHeartbeats 4000000
theorem Ay{ws:List Int}(h:bJ ws)(a:Int):bh (fM ws a):=by
 unfold fM
 split
 ·exact⟨by decide,by decide⟩
 ·rw[List.getD_eq_getElem?_getD]
  cases hq:ws[a.toNat]? with
  | none=>exact⟨by decide,by decide⟩
  | some x=>exact h x (List.mem_of_getElem? hq)
theorem GD(a:List Int)(i:Nat)(σ:Hp):ACalls Tryz.prog 101 [.af (.int .u64) a,.int .i64 i] σ (aB (.int .u64 (wd a i)) σ):=by
 refine okF Tryz.func101 (by kernel_rfl) ?_
 refine an (fun h =>?_) (fun h =>?_)
 ·have h:(a.length:Int)≤i:=h
  exact .done ⟨aN (by simp[wd,List.getElem?_eq_none (show a.length≤i by omega)]),rfl⟩
 ·have h:¬(a.length:Int)≤i:=h
  have hi:i<a.length:=by omega
  refine ah.mk rfl (aT.mk a[i] (by omega) (get_some hi) ?_)
  exact .done ⟨aN (by simp[wd,hi]),rfl⟩
def cw(n:Int):Nat:=(min (max n 0) 1024).toNat
theorem tq(n:Int):cw n≤1024:=by unfold cw;omega
theorem Lf(n:Int):(if (1024:Int)<(if n<0 then 0 else n) then (1024:Int) else (if n<0 then 0 else n))=((cw n:Nat):Int):=by
 unfold cw
 by_cases h:n<0
 ·simp only[if_pos h];omega
 ·simp only[if_neg h];split <;> omega
theorem kG(b w n:Int)(σ:Hp):ACalls Tryz.prog 100 [.agg [.int .i64 b,.int .i64 w,.int .i64 n]] σ (aB (.int .i64 (cw n)) σ):=by
 refine okF Tryz.func100 (by kernel_rfl) ?_
 intro aC
 refine aa.mk 0 _ _ rfl rfl ?_
 exact .drop 0 1 (.done ⟨aN (Lf n),rfl⟩)
structure Jn where
 base:Int
 ag:Int
 words:Int
 a:List Int
 changed:Bool
 ended:Bool
 tries:Int
 at_:Nat
 gG:Bool
 x:Int
def tT(j:Jn):List AV:=[.int .i64 j.base,.int .i64 j.ag,.int .i64 j.words,.af (.int .u64) j.a,.bool j.changed,.bool j.ended,.int .i64 j.tries,.int .i64 j.at_,.bool j.gG,.int .u64 j.x]
def o8(j:Jn):Jn×Bool:=if j.at_+1<cw j.words then ({ j with at_:=j.at_+1 },false) else ({ j with at_:=j.at_+1,ended:=true },true)
def iQ(O:gM)(j:Jn)(a:O.A):Jn×O.A×Bool:=
 if j.ended then (j,a,true)
 else if j.at_=cw j.words then ({ j with ended:=true },a,true)
 else if j.gG then
  (if (O.cs a (wr (j.base+j.at_)) j.x (jT j.ag j.x (wd j.a j.at_))).1 then ((o8 { j with gG:=false,changed:=true }).1,(O.cs a (wr (j.base+j.at_)) j.x (jT j.ag j.x (wd j.a j.at_))).2,(o8 { j with gG:=false,changed:=true }).2)
  else ({ j with gG:=false,tries:=wr (j.tries+1) },(O.cs a (wr (j.base+j.at_)) j.x (jT j.ag j.x (wd j.a j.at_))).2,false))
 else if jT j.ag (O.ld a (wr (j.base+j.at_))).1 (wd j.a j.at_)=(O.ld a (wr (j.base+j.at_))).1 then ((o8 { j with x:=(O.ld a (wr (j.base+j.at_))).1 }).1,(O.ld a (wr (j.base+j.at_))).2,(o8 { j with x:=(O.ld a (wr (j.base+j.at_))).1 }).2)
 else ({ j with x:=(O.ld a (wr (j.base+j.at_))).1,gG:=true },(O.ld a (wr (j.base+j.at_))).2,false)
theorem AN{M:AMem}{σ:Hp}{X:Type}{B:X→List AV}{r:Nat}{res:X×M.O.A×Bool}{x:X}{a:M.O.A}{b:Bool}{m':M.S}{cs:List AV}(h:res=(x,a,b))(hm:M.abs m'=a)(hc:cs=B x):mg M σ B r res (.bool b) ((r,cs)::(M.B m'++σ)):=by
 subst hc
 exact gJ h hm
theorem Bj(M:AMem)(r:Nat)(j:Jn)(m:M.S)(d:Int)(σ:Hp)(hf:M.O.free (M.abs m))(dO:j.at_≤2000):ACalls Tryz.prog 374 [.ptr r 0,M.v,.int .i64 d] ((r,tT j)::(M.B m++σ)) (mg M σ tT r (iQ M.O j (M.abs m))):=by
 refine okF Tryz.func374 (by kernel_rfl) ?_
 have hw:IntKind.i64.wrap ((j.at_:Int)+1)=((j.at_+1:Nat):Int):=by rw[IntKind.wrap_i64];omega
 refine aa.gy 0 _ _ rfl rfl (fun h0 =>?_) (fun h0 =>?_)
 ·exact .done (gJ (x:=j) (by simp[iQ,h0]) rfl)
 refine az [] (cu _ _ _) ?_
 refine .quiet (by kernel_rfl) ?_
 refine aa.mk 0 _ _ rfl rfl ?_
 refine aa.mk 0 _ _ rfl rfl ?_
 refine aJ [] (kG _ _ _ _) ?_
 refine an (fun c1 =>?_) (fun c1 =>?_)
 ·have c1:(j.at_:Int)=cw j.words:=c1
  have c1:j.at_=cw j.words:=by omega
  refine .fwd 1 ?_
  refine ai.mk 0 _ _ rfl rfl ?_
  exact .done (gJ (x:= { j with ended:=true }) (by simp[iQ,h0,c1]) rfl)
 ·have c1:¬(j.at_:Int)=cw j.words:=c1
  have c1:¬j.at_=cw j.words:=by omega
  refine aa.gy 0 _ _ rfl rfl (fun c2 =>?_) (fun c2 =>?_)
  ·refine ai.mk 0 _ _ rfl rfl ?_
   refine .sched [36,37] (upto [36,37] 43 0) (by kernel_rfl) ?_
   refine aa.mk 0 _ _ rfl rfl ?_
   refine aa.mk 0 _ _ rfl rfl ?_
   refine aa.mk 0 _ _ rfl rfl ?_
   refine aa.mk 0 _ _ rfl rfl ?_
   refine aa.mk 0 _ _ rfl rfl ?_
   refine aa.mk 0 _ _ rfl rfl ?_
   refine aa.mk 0 _ _ rfl rfl ?_
   refine aJ [] (GD _ _ _) ?_
   refine aJ [] (LZ _ _ _ _) ?_
   refine dL.mk M.hC ?_
   refine M.aCasB [_] hf (fun m' hm hb =>?_) (fun m' hm hb =>?_)
   ·refine ai.mk 0 _ _ rfl rfl ?_
    refine .fwd 1 ?_
    refine aa.mk 0 _ _ rfl rfl ?_
    refine ai.mk 0 _ _ rfl rfl ?_
    refine .quiet (by kernel_rfl) ?_
    refine aa.mk 0 _ _ rfl rfl ?_
    refine aa.mk 0 _ _ rfl rfl ?_
    refine aJ [] (kG _ _ _ _) ?_
    refine an (fun c3 =>?_) (fun c3 =>?_)
    ·have c3:IntKind.i64.wrap (↑j.at_+1) < ↑(cw j.words):=c3
     exact .done (AN (x:= { j with gG:=false,changed:=true,at_:=j.at_+1 }) (by simp[iQ,h0,c1,c2,hb,o8,show j.at_+1<cw j.words by omega]) hm (by rw[hw];rfl))
    ·have c3:¬(IntKind.i64.wrap (↑j.at_+1) < ↑(cw j.words)):=c3
     refine ai.mk 0 _ _ rfl rfl ?_
     exact .done (AN (x:= { j with gG:=false,changed:=true,at_:=j.at_+1,ended:=true }) (by simp[iQ,h0,c1,c2,hb,o8,show ¬j.at_+1<cw j.words by omega]) hm (by rw[hw];rfl))
   ·refine aa.mk 0 _ _ rfl rfl ?_
    refine ai.mk 0 _ _ rfl rfl ?_
    exact .done (gJ (x:= { j with gG:=false,tries:=wr (j.tries+1) }) (by simp[iQ,h0,c1,c2,hb]) hm)
  ·refine .sched [] (upto [] 21 0) (by kernel_rfl) ?_
   refine aa.mk 0 _ _ rfl rfl ?_
   refine aa.mk 0 _ _ rfl rfl ?_
   refine dL.mk M.hL ?_
   refine M.aLoad [_] hf fun m' hm =>?_
   refine ai.mk 0 _ _ rfl rfl ?_
   refine .quiet (by kernel_rfl) ?_
   refine aa.mk 0 _ _ rfl rfl ?_
   refine aa.mk 0 _ _ rfl rfl ?_
   refine aa.mk 0 _ _ rfl rfl ?_
   refine aa.mk 0 _ _ rfl rfl ?_
   refine aJ [] (GD _ _ _) ?_
   refine aJ [] (LZ _ _ _ _) ?_
   refine aa.mk 0 _ _ rfl rfl ?_
   refine bS (fun c4 =>?_) (fun c4 =>?_)
   ·have c4:¬(jT j.ag (M.O.ld (M.abs m) (IntKind.i64.wrap (j.base + ↑j.at_))).fst (wd j.a j.at_)=(M.O.ld (M.abs m) (IntKind.i64.wrap (j.base + ↑j.at_))).fst):=by simpa using c4
    refine ai.mk 0 _ _ rfl rfl ?_
    exact .done (gJ (x:= { j with x:=(M.O.ld (M.abs m) (wr (j.base+j.at_))).1,gG:=true }) (by simp[iQ,h0,c1,c2,c4]) hm)
   ·have c4:jT j.ag (M.O.ld (M.abs m) (IntKind.i64.wrap (j.base + ↑j.at_))).fst (wd j.a j.at_)=(M.O.ld (M.abs m) (IntKind.i64.wrap (j.base + ↑j.at_))).fst:=by simpa using c4
    refine aa.mk 0 _ _ rfl rfl ?_
    refine ai.mk 0 _ _ rfl rfl ?_
    refine .quiet (by kernel_rfl) ?_
    refine aa.mk 0 _ _ rfl rfl ?_
    refine aa.mk 0 _ _ rfl rfl ?_
    refine aJ [] (kG _ _ _ _) ?_
    refine an (fun c5 =>?_) (fun c5 =>?_)
    ·have c5:IntKind.i64.wrap (↑j.at_+1) < ↑(cw j.words):=c5
     exact .done (AN (x:= { j with x:=(M.O.ld (M.abs m) (wr (j.base+j.at_))).1,at_:=j.at_+1 }) (by simp[iQ,h0,c1,c2,c4,o8,show j.at_+1<cw j.words by omega]) hm (by rw[hw];rfl))
    ·have c5:¬(IntKind.i64.wrap (↑j.at_+1) < ↑(cw j.words)):=c5
     refine ai.mk 0 _ _ rfl rfl ?_
     exact .done (AN (x:= { j with x:=(M.O.ld (M.abs m) (wr (j.base+j.at_))).1,at_:=j.at_+1,ended:=true }) (by simp[iQ,h0,c1,c2,c4,o8,show ¬j.at_+1<cw j.words by omega]) hm (by rw[hw];rfl))
def vz(base:Int)(a:List Int)(ws:List Int):Nat→List Int
 | 0=>ws
 | k+1=>fj (vz base a ws k) (wr (base+k)) (wd a k)
theorem XW(p q:Nat)(ws:List Int)(b w n:Int)(a:List Int)(σ:Hp):ACalls Tryz.prog 49 [.agg [.int .i64 b,.int .i64 w,.int .i64 n],gx p,.af (.int .u64) a] (aY p q ws σ) (aB (.tup []) (aY p q (vz b a ws (cw n)) σ)):=by
 have hc:=tq n
 refine okF Tryz.func49 (by kernel_rfl) ?_
 intro aC
 refine az [] (cu _ _ _) ?_
 refine aa.mk 0 _ _ rfl rfl ?_
 refine az [] (kG _ _ _ _) ?_
 refine aU (S:=Nat) (fun s=>[(1,gx p),(2,.af (.int .u64) a),(3,.ptr aC 0),(10,.int .i64 (cw n)),(11,.int .i64 s)]) (fun s=>(aC,[.int .i64 b,.int .i64 w,.int .i64 n])::aY p q (vz b a ws s) σ) (fun s=>s≤cw n) (fun s=>cw n-s) 0 ⟨Nat.zero_le _,⟨rfl,rfl,rfl,rfl,rfl,trivial⟩,rfl⟩ ?_
 intro k g hk
 refine an (fun h =>?_) (fun h =>?_)
 ·have h:(k:Int)<cw n:=h
  refine .sched [7] (upto [7] 12 0) (by kernel_rfl) ?_
  refine aa.mk 0 _ _ rfl rfl ?_
  refine aJ [] (GD _ _ _) ?_
  refine dL.mk hStore_ ?_
  refine⟨_,mStore_,?_⟩
  refine az [2,2] (aStore p q _ _ _ _) ?_
  refine aH (k+1) ?_ ?_ ⟨rfl,rfl,rfl,rfl,aI (by omega),trivial⟩ (.pull [2] (aF rfl))
  ·show cw n-(k+1)<cw n-k;omega
  ·show k+1≤cw n;omega
 ·have h:¬(k:Int)<cw n:=h
  obtain rfl:k=cw n:=by omega
  exact .drop 0 1 (.done ⟨rfl,rfl⟩)
def gZ(base:Int)(ws:List Int)(k:Nat):List Int:=(List.range k).map fun i=>fM ws (wr (base+(i:Nat)))
theorem G7(base:Int)(ws:List Int)(k:Nat):(gZ base ws k).length=k:=by unfold gZ;rw[List.length_map,List.length_range]
theorem Iv(base:Int)(ws:List Int)(k:Nat):gZ base ws (k+1)=gZ base ws k++[fM ws (wr (base+k))]:=by unfold gZ;rw[List.range_succ,List.map_append];rfl
theorem XZ(p q:Nat)(ws:List Int)(b w n:Int)(σ:Hp):ACalls Tryz.prog 63 [.agg [.int .i64 b,.int .i64 w,.int .i64 n],gx p] (aY p q ws σ) (aB (.af (.int .u64) (gZ b ws (cw n))) (aY p q ws σ)):=by
 have hc:=tq n
 refine okF Tryz.func63 (by kernel_rfl) ?_
 intro aC
 refine az [] (cu _ _ _) ?_
 refine aa.mk 0 _ _ rfl rfl ?_
 refine az [] (kG _ _ _ _) ?_
 refine .wrap 5 _ rfl rfl ?_
 refine aU (S:=Nat×AV×Hp) (fun s=>[(1,gx p),(2,.ptr aC 0),(5,.via s.2.1),(10,.int .i64 (cw n)),(11,.int .i64 s.1)]) (fun s=>(aC,[.int .i64 b,.int .i64 w,.int .i64 n])::(s.2.2++aY p q ws σ)) (fun s=>s.1≤cw n∧Acc 1 s.1 s.2.1 s.2.2 (aL (gZ b ws s.1))) (fun s=>cw n-s.1) (0,.aj,[]) ⟨⟨Nat.zero_le _,.nil⟩,⟨rfl,rfl,rfl,rfl,rfl,trivial⟩,rfl⟩ ?_
 rintro⟨k,v,acc⟩ g ⟨hk,bc⟩
 have hk:k≤cw n:=hk
 have bc:Acc 1 k v acc (aL (gZ b ws k)):=bc
 refine an (fun h =>?_) (fun h =>?_)
 ·have h:(k:Int)<cw n:=h
  refine aa.mk 0 _ _ rfl rfl ?_
  refine⟨_,mLoad_,?_⟩
  refine .perm (σ2:=aY p q ws ((aC,[.int .i64 b,.int .i64 w,.int .i64 n])::(acc++σ))) _ ?_ (aLoad p q ws _ _) ?_
  ·exact dJ ((aC,[.int .i64 b,.int .i64 w,.int .i64 n])::acc) [_,_] σ
  rintro _ _ ⟨rfl,rfl⟩
  refine⟨_,(dJ ((aC,[.int .i64 b,.int .i64 w,.int .i64 n])::acc) [_,_] σ).symm,?_⟩
  intro bM
  refine dX [_,_] bc (.ae 0 bM 0 1 _ rfl (Nat.le_of_ble_eq_true rfl)) rfl (by omega) (by decide) (by decide) (fun v' aP h' =>?_)
  refine aH (k+1,v',aP) ?_ ⟨?_,?_⟩ ⟨rfl,rfl,rfl,rfl,aI (by omega),trivial⟩ (.drop 0 1 (aF rfl))
  ·show cw n-(k+1)<cw n-k;omega
  ·show k+1≤cw n;omega
  ·show Acc 1 (k+1) v' aP (aL (gZ b ws (k+1)))
   rw[Iv,aL,List.map_append]
   exact h'
 ·have h:¬(k:Int)<cw n:=h
  obtain rfl:k=cw n:=by omega
  refine .drop 0 1 ?_
  exact jR (s:=.int .u64) (l:=gZ b ws (cw n)) [] bc (G7 b ws _).symm (by rw[ka]) (by decide) (.done ⟨rfl,rfl⟩)
def gO(v:AV)(base ag words:Int)(ended:Bool)(at_:Nat)(gG:Bool)(x:Int):List AV:=[.int .i64 base,.int .i64 ag,.int .i64 words,v,.bool ended,.int .i64 at_,.bool gG,.int .u64 x]
inductive ir:AV→Hp→List Int→Prop where
 | nil:ir .aj [] []
 | ae (b:Nat) (l:List Int):ir (.ae b 0 l.length 1) [(b,aL l)] l
theorem ir.push(b:Nat)(l:List Int)(x:Int):ir (.ae b 0 (l.length+1) 1) [(b,(aL l).take (l.length*1)++[.int .u64 x])] (l++[x]):=by
 have h:=ir.ae b (l++[x])
 have e1:(l++[x]).length=l.length+1:=by simp
 have e2:aL (l++[x])=(aL l).take (l.length*1)++[.int .u64 x]:=by rw[List.take_of_length_le (by simp[aL])];simp[aL]
 rw[e1,e2]at h
 exact h
theorem QN(σ:Hp):ACalls Tryz.prog 150 [.aj] σ (aB .aj σ):=by
 refine okF Tryz.func150 (by kernel_rfl) ?_
 exact .done ⟨rfl,rfl⟩
theorem wN(b k:Nat)(cs:List AV)(σ:Hp)(hm:(b,cs)∈σ)(h:cs.length=k*1)(hl:k≤1000000):ACalls Tryz.prog 150 [.ae b 0 k 1] σ (fun x σ'=>∃b',x=.ae b' 0 k 1∧σ'=(b',cs)::σ):=by
 refine okF Tryz.func150 (by kernel_rfl) ?_
 intro b2
 refine AppendAt.more 0 b2 0 k [] ((cs.drop 0).take (k*1)) rfl rfl (Nat.le_of_ble_eq_true rfl) (.mem (List.mem_cons_of_mem _ hm) (by show 0+k*1≤cs.length;omega)) (by omega) (by decide) (by decide) (fun b' =>?_)
 refine .done ⟨b',by rw[Nat.zero_add];rfl,?_⟩
 show (b',List.take (0*1) []++(cs.drop 0).take (k*1))::σ=_
 rw[show (cs.drop 0).take (k*1)=cs by rw[List.drop_zero,List.take_of_length_le (by omega)]];rfl
end Go.Proofs.YtnpidbjdilnhlaaGreat
namespace Go.Proofs.YtnpidbjdilnhlaaGreat
open Go.RowKit
set_option maxRecDepth 100000
structure Lay where
 ag:Int
 words:Int
 n:Int
 k:Int
def de(l:Lay):List AV:=[.int .i64 l.ag,.int .i64 l.words,.int .i64 l.n,.int .i64 l.k]
def gp(l:Lay):Int:=wr (l.n*l.words)
def gU(l:Lay):Int:=wr (gp l+l.n)
def fE(l:Lay):Int:=wr (l.n+1)
def dC(l:Lay)(w:Int):Int:=wr (wr (gU l+1)+wr (w*((2+rm (fE l):Nat):Int)))
def cy(l:Lay)(v:Int):Int:=wr (v*l.words)
def eP(s:Sy)(k:Int):Lay:=⟨mA (cb s k) s.ag,mA (cb s k) (cT s.ag s.w),mA (cb s k) s.n,mA (cb s k) k⟩
theorem T8(n:Int)(σ:Hp):ACalls Tryz.prog 110 [.int .i64 n] σ (aB (.int .i64 ((2+rm n:Nat):Int)) σ):=by
 have h:=Ep n
 refine okF Tryz.func110 (by kernel_rfl) ?_
 refine az [] (EN _ _) ?_
 exact .done ⟨aN (by rw[IntKind.wrap_i64];omega),rfl⟩
theorem Lr(l:Lay)(σ:Hp):ACalls Tryz.prog 102 [.agg (de l)] σ (aB (.int .i64 (gp l)) σ):=by
 refine okF Tryz.func102 (by kernel_rfl) ?_
 intro aC
 refine aa.mk 0 _ _ rfl rfl ?_
 refine aa.mk 0 _ _ rfl rfl ?_
 exact .drop 0 1 (.done ⟨rfl,rfl⟩)
theorem KH(l:Lay)(σ:Hp):ACalls Tryz.prog 103 [.agg (de l)] σ (aB (.int .i64 (gU l)) σ):=by
 refine okF Tryz.func103 (by kernel_rfl) ?_
 intro aC
 refine .quiet (by kernel_rfl) ?_
 refine aa.mk 0 _ _ rfl rfl ?_
 refine aJ [] (Lr l _) ?_
 refine aa.mk 0 _ _ rfl rfl ?_
 exact .drop 0 1 (.done ⟨rfl,rfl⟩)
theorem Eh(l:Lay)(σ:Hp):ACalls Tryz.prog 54 [.agg (de l)] σ (aB (.int .i64 (fE l)) σ):=by
 refine okF Tryz.func54 (by kernel_rfl) ?_
 intro aC
 refine aa.mk 0 _ _ rfl rfl ?_
 exact .drop 0 1 (.done ⟨rfl,rfl⟩)
theorem xh(l:Lay)(w:Int)(σ:Hp):ACalls Tryz.prog 52 [.agg (de l),.int .i64 w] σ (aB (.agg [.int .i64 (dC l w),.int .i64 (fE l)]) σ):=by
 refine okF Tryz.func52 (by kernel_rfl) ?_
 intro aC
 intro bM
 refine .sched [1,5,6,10] (upto [1,5,6,10] 13 0) (by kernel_rfl) ?_
 refine aa.mk 1 _ _ rfl rfl ?_
 refine aJ [] (KH l _) ?_
 refine aa.mk 1 _ _ rfl rfl ?_
 refine aJ [] (Eh l _) ?_
 refine aJ [] (T8 _ _) ?_
 refine aa.mk 1 _ _ rfl rfl ?_
 refine aJ [] (Eh l _) ?_
 refine ai.mk 0 _ _ rfl rfl ?_
 refine aa.mk 0 _ _ rfl rfl ?_
 exact .drop 0 2 (.done ⟨rfl,rfl⟩)
theorem DX(l:Lay)(σ:Hp):ACalls Tryz.prog 50 [.agg (de l)] σ (aB (.agg [.int .i64 (gp l),.int .i64 (gU l)]) σ):=by
 refine okF Tryz.func50 (by kernel_rfl) ?_
 intro aC
 intro bM
 refine .sched [1,3] (upto [1,3] 6 0) (by kernel_rfl) ?_
 refine aa.mk 1 _ _ rfl rfl ?_
 refine aJ [] (Lr l _) ?_
 refine aa.mk 1 _ _ rfl rfl ?_
 refine aJ [] (KH l _) ?_
 refine ai.mk 0 _ _ rfl rfl ?_
 refine aa.mk 0 _ _ rfl rfl ?_
 exact .drop 0 2 (.done ⟨rfl,rfl⟩)
theorem AU(l:Lay)(v:Int)(σ:Hp):ACalls Tryz.prog 48 [.agg (de l),.int .i64 v] σ (aB (.agg [.int .i64 (cy l v),.int .i64 l.ag,.int .i64 l.words]) σ):=by
 refine okF Tryz.func48 (by kernel_rfl) ?_
 intro aC
 intro bM
 refine aa.mk 1 _ _ rfl rfl ?_
 refine aa.mk 1 _ _ rfl rfl ?_
 refine aa.mk 1 _ _ rfl rfl ?_
 refine ai.mk 0 _ _ rfl rfl ?_
 refine aa.mk 0 _ _ rfl rfl ?_
 exact .drop 0 2 (.done ⟨rfl,rfl⟩)
theorem Eg(l:Lay)(σ:Hp):ACalls Tryz.prog 46 [.agg (de l)] σ (aB (.int .i64 (dC l l.k)) σ):=by
 refine okF Tryz.func46 (by kernel_rfl) ?_
 intro aC
 refine aa.mk 0 _ _ rfl rfl ?_
 refine aa.mk 0 _ _ rfl rfl ?_
 refine az [] (xh l _ _) ?_
 exact .drop 0 1 (.done ⟨rfl,rfl⟩)
theorem vb(s:Sy)(k:Int)(σ:Hp)(hf:Fit s):ACalls Tryz.prog 20 [.agg (bg s),.int .i64 k] σ (aB (.tup [.agg (de (eP s k)),.int .i64 (cb s k)]) σ):=by
 refine okF Tryz.func20 (by kernel_rfl) ?_
 intro aC
 intro bM
 refine aa.mk 1 _ _ rfl rfl ?_
 refine az [] (IJ s _ hf) ?_
 refine bS (fun c3 =>?_) (fun c3 =>?_)
 ·have c3:¬(dm s=0):=by simpa using c3
  refine ai.mk 0 _ _ rfl rfl ?_
  refine aa.mk 0 _ _ rfl rfl ?_
  exact .drop 0 2 (.done ⟨Jl (by assumption),rfl⟩)
 ·have c3:dm s=0:=by simpa using c3
  refine an (fun c4 =>?_) (fun c4 =>?_)
  ·have c4:k<1:=c4
   refine ai.mk 0 _ _ rfl rfl ?_
   refine aa.mk 0 _ _ rfl rfl ?_
   exact .drop 0 2 (.done ⟨Ab (by assumption) (by omega),rfl⟩)
  ·have c4:¬(k<1):=c4
   refine an (fun c5 =>?_) (fun c5 =>?_)
   ·have c5:64<k:=c5
    refine ai.mk 0 _ _ rfl rfl ?_
    refine aa.mk 0 _ _ rfl rfl ?_
    exact .drop 0 2 (.done ⟨Ab (by assumption) (by omega),rfl⟩)
   ·have c5:¬(64<k):=c5
    refine .sched [6] (upto [6] 13 0) (by kernel_rfl) ?_
    refine aa.mk 1 _ _ rfl rfl ?_
    refine aa.mk 1 _ _ rfl rfl ?_
    refine aa.mk 1 _ _ rfl rfl ?_
    refine aJ [] (AF _ _ _) ?_
    refine aa.mk 1 _ _ rfl rfl ?_
    refine ai.mk 0 _ _ rfl rfl ?_
    refine aa.mk 0 _ _ rfl rfl ?_
    exact .drop 0 2 (.done ⟨Ke (by assumption) (by omega),rfl⟩)
set_option maxRecDepth 100000
inductive Nw where
 | none
 | pop (q:DQ)
 | dT (q:DQ)
 | quiet (t:Qk)
 | clear (t:Ck)
 | read (l:List Int)
 | join (j:Jn)
 | take (t:Tk)
 | push (q:DQ)
 | fB (t:Rk)
structure WS where
 ev:Int
 jo:Int
 en:Bool
 ao:Int
 now:Nw
 node:Int
 has:Bool
 nx:List Int
 out:List Int
abbrev cF(s:Sy)(l:Lay)(aw ev jo:Int)(en:Bool)(ao:Int)(nv:AV)(node:Int)(has:Bool)(nx out:List Int):List AV:=
 [.int .i64 ev,.int .i64 jo,.bool en,.int .i64 s.ag,.int .i64 s.w,.int .i64 s.n,.af bA s.bQ,.af (.int .i64) s.entry,.af (.int .u64) s.init,.af gR s.T,.int .i64 l.ag,.int .i64 l.words,.int .i64 l.n,.int .i64 l.k,.int .i64 aw,.int .i64 ao,nv,.int .i64 node,.bool has,.af (.int .i64) nx,.af (.int .u64) out,.bool true]
theorem Ej(w:Nat)(s:Sy)(l:Lay)(aw ev jo:Int)(en:Bool)(ao:Int)(nv:AV)(node:Int)(has:Bool)(nx out:List Int)(σ:Hp):ACalls Tryz.prog 363 [.ptr w 0] ((w,cF s l aw ev jo en ao nv node has nx out)::σ) (aB (.bool (decide (l.k<2))) ((w,cF s l aw ev jo en ao nv node has nx out)::σ)):=by
 refine okF Tryz.func363 (by kernel_rfl) ?_
 refine aa.mk 0 _ _ rfl rfl ?_
 refine an (fun c1 =>?_) (fun c1 =>?_)
 ·have c1:l.k<2:=c1
  exact .done ⟨bz (decide_eq_true (by assumption)).symm,rfl⟩
 ·have c1:¬(l.k<2):=c1
  exact .done ⟨bz (decide_eq_false (by assumption)).symm,rfl⟩
def nK(l:Lay):Int:=wr (l.k-1)
def wZ(l:Lay)(aw d:Int):Int:=(wr (wr (aw+1)+(wr (d.tmod (nK l)+nK l)).tmod (nK l))).tmod l.k
theorem Uc(w:Nat)(s:Sy)(l:Lay)(aw ev jo:Int)(en:Bool)(ao:Int)(nv:AV)(node:Int)(has:Bool)(nx out:List Int)(d:Int)(σ:Hp)(h1:nK l≠0)(h2:l.k≠0):ACalls Tryz.prog 360 [.ptr w 0,.int .i64 d] ((w,cF s l aw ev jo en ao nv node has nx out)::σ) (aB (.int .i64 (wZ l aw d)) ((w,cF s l aw ev jo en ao nv node has nx out)::σ)):=by
 refine okF Tryz.func360 (by kernel_rfl) ?_
 refine aa.mk 0 _ _ rfl rfl ?_
 refine .quiet (by kernel_rfl) ?_
 refine aa.mk 0 _ _ rfl rfl ?_
 refine ah.mk h1 ?_
 refine ah.mk h1 ?_
 refine aa.mk 0 _ _ rfl rfl ?_
 refine ah.mk h2 ?_
 exact .done ⟨rfl,rfl⟩
def mW(l:Lay)(n:Int):Int:=if wu l.n≤n then 0 else wr n
def oZ(l:Lay)(n:Int):Int:=if wu l.n≤n then 8 else 3
theorem MR(w:Nat)(s:Sy)(l:Lay)(aw ev jo:Int)(en:Bool)(ao:Int)(nv:AV)(node:Int)(has:Bool)(nx out:List Int)(n:Int)(σ:Hp):ACalls Tryz.prog 361 [.ptr w 0,.int .u64 n] ((w,cF s l aw ev jo en ao nv node has nx out)::σ) (aB (.int .i64 (oZ l n)) ((w,cF s l aw ev jo en ao nv (mW l n) true nx out)::σ)):=by
 refine okF Tryz.func361 (by kernel_rfl) ?_
 refine ai.mk 0 _ _ rfl rfl ?_
 refine ai.mk 0 _ _ rfl rfl ?_
 refine aa.mk 0 _ _ rfl rfl ?_
 refine an (fun c1 =>?_) (fun c1 =>?_)
 ·have c1:IntKind.u64.wrap l.n≤n:=c1
  exact .done ⟨aN (if_pos c1).symm,congrArg (fun z=>(w,cF s l aw ev jo en ao nv z true nx out)::σ) (show _=mW l n from (if_pos c1).symm)⟩
 ·have c1:¬(IntKind.u64.wrap l.n≤n):=c1
  refine ai.mk 0 _ _ rfl rfl ?_
  exact .done ⟨aN (if_neg c1).symm,congrArg (fun z=>(w,cF s l aw ev jo en ao nv z true nx out)::σ) (show _=mW l n from (if_neg c1).symm)⟩
def s6(l:Lay):Int:=if l.k<2 then 2 else 1
theorem VI(w:Nat)(s:Sy)(l:Lay)(aw ev jo:Int)(en:Bool)(ao:Int)(nv:AV)(node:Int)(has:Bool)(nx out:List Int)(σ:Hp):ACalls Tryz.prog 362 [.ptr w 0] ((w,cF s l aw ev jo en ao nv node has nx out)::σ) (aB (.int .i64 (s6 l)) ((w,cF s l aw ev jo en ao nv node has nx out)::σ)):=by
 refine okF Tryz.func362 (by kernel_rfl) ?_
 refine cm [] (Ej w s l aw ev jo en ao nv node has nx out _) (fun c =>?_) (fun c =>?_)
 ·exact .done ⟨aN (if_pos (of_decide_eq_true c)).symm,rfl⟩
 ·exact .done ⟨aN (if_neg (of_decide_eq_false c)).symm,rfl⟩
def mX(nx:List Int):Int:=if nx.tail.length=0 then 8 else 5
theorem DY(w:Nat)(s:Sy)(l:Lay)(aw ev jo:Int)(en:Bool)(ao:Int)(nv:AV)(node:Int)(has:Bool)(nx out:List Int)(σ:Hp)(hx:0<nx.length):ACalls Tryz.prog 365 [.ptr w 0] ((w,cF s l aw ev jo en ao nv node has nx out)::σ) (aB (.int .i64 (mX nx)) ((w,cF s l aw ev jo en ao nv node has nx.tail out)::σ)):=by
 refine okF Tryz.func365 (by kernel_rfl) ?_
 cases nx with
 | nil=>simp at hx
 | cons z nx =>
  refine aa.mk 0 _ _ rfl rfl ?_
  refine ah.mk ⟨by decide,Int.ofNat_le.2 (Nat.succ_le_succ (Nat.zero_le _)),Int.le_refl _,rfl⟩ ?_
  have e:((z::nx).drop ((1:Int)).toNat).take ((((z::nx).length:Nat):Int).toNat-((1:Int)).toNat)=nx:=by simp
  refine ai.mk 0 _ _ rfl rfl ?_
  refine aa.mk 0 _ _ rfl rfl ?_
  refine an (fun c1 =>?_) (fun c1 =>?_)
  ·have c1:(↑(List.take ((↑(z::nx).length:Int).toNat-Int.toNat 1) (List.drop (Int.toNat 1) (z::nx))).length:Int)=0:=c1
   have c2:(nx.length:Int)=0:=(congrArg (fun z:List Int=>(z.length:Int)) e).symm.trans c1
   exact .done ⟨aN (if_pos (show nx.length=0 by omega)).symm,congrArg (fun z=>(w,cF s l aw ev jo en ao nv node has z out)::σ) e⟩
  ·have c1:¬((↑(List.take ((↑(z::nx).length:Int).toNat-Int.toNat 1) (List.drop (Int.toNat 1) (z::nx))).length:Int)=0):=c1
   have c2:¬(nx.length:Int)=0:=fun h=>c1 ((congrArg (fun z:List Int=>(z.length:Int)) e).trans h)
   exact .done ⟨aN (if_neg (show ¬nx.length=0 by omega)).symm,congrArg (fun z=>(w,cF s l aw ev jo en ao nv node has z out)::σ) e⟩
def uS(s:Sy)(node:Int):Int:=if (au s.n s.bQ node).length=0 then 8 else 5
theorem Vw(w:Nat)(s:Sy)(l:Lay)(aw ev jo:Int)(en:Bool)(ao:Int)(nv:AV)(node:Int)(has:Bool)(nx out x:List Int)(σ:Hp)(hf:Fit s)(hx:bJ x)(lx:x.length≤10000):ACalls Tryz.prog 364 [.ptr w 0,.af (.int .u64) x] ((w,cF s l aw ev jo en ao nv node has nx out)::σ) (aB (.int .i64 (uS s node)) ((w,cF s l aw (wr (ev+1)) jo en ao nv node has (au s.n s.bQ node) (pI (nj s node x) (ni s x node.toNat)))::σ)):=by
 refine okF Tryz.func364 (by kernel_rfl) ?_
 refine aa.mk 0 _ _ rfl rfl ?_
 refine ai.mk 0 _ _ rfl rfl ?_
 refine .sched [10] (upto [10] 17 0) (by kernel_rfl) ?_
 refine aa.mk 0 _ _ rfl rfl ?_
 refine aa.mk 0 _ _ rfl rfl ?_
 refine aJ [] (Ug s node x _ hf hx lx) ?_
 refine ai.mk 0 _ _ rfl rfl ?_
 refine .sched [15] (upto [15] 19 0) (by kernel_rfl) ?_
 refine aa.mk 0 _ _ rfl rfl ?_
 refine aa.mk 0 _ _ rfl rfl ?_
 refine aa.mk 0 _ _ rfl rfl ?_
 refine aJ [] (vw s.n s.bQ node _ hf.tH) ?_
 refine ai.mk 0 _ _ rfl rfl ?_
 refine aa.mk 0 _ _ rfl rfl ?_
 refine an (fun c1 =>?_) (fun c1 =>?_)
 ·have c1:(↑(au s.n s.bQ node).length:Int)=0:=c1
  exact .done ⟨aN (if_pos (show (au s.n s.bQ node).length=0 by omega)).symm,rfl⟩
 ·have c1:¬((↑(au s.n s.bQ node).length:Int)=0):=c1
  exact .done ⟨aN (if_neg (show ¬(au s.n s.bQ node).length=0 by omega)).symm,rfl⟩
end Go.Proofs.YtnpidbjdilnhlaaGreat
