import Derived.Test.YtnpidbjdilnhlaaGreatBn17
namespace Go.Proofs.YtnpidbjdilnhlaaGreat
open Go.RowKit
set_option maxRecDepth 100000
def FB(x y:Int):Bool:=decide (x=aO x) && decide (y=aO y)
def mb(w:Int)(r:lP):Bool:=if r.1 = -1 then FB r.2.1.1 r.2.1.2.1 else decide (0≤r.1) && decide (r.1<w) && (decide (r.2.1.1=0) && decide (r.2.1.2.1=0))
theorem Ch(x y:Int):ew (nY (nC x y) (nC 0 0))=(decide (x=0) && decide (y=0)):=by
 show (decide (x=0) && (decide (y=0) && true))=_
 rw[Bool.and_true]
theorem L0(w:Int)(r:lP)(σ:Hp):ACalls Tryz.prog 218 [.int .i64 w,.agg (xM r)] σ (aB (.bool (mb w r)) σ):=by
 obtain⟨v,⟨x,y,u⟩,u2⟩:=r
 refine okF Tryz.func218 (by kernel_rfl) ?_
 unfold mb
 show qw Tryz.prog tt _ [.int .i64 w,.agg [.int .i64 v,.int .i64 x,.int .i64 y]] σ (aB (.bool (if v = -1 then FB x y else decide (0≤v) && decide (v<w) && (decide (x=0) && decide (y=0)))) σ)
 intro aC
 refine aa.mk 0 _ _ rfl rfl ?_
 refine an (fun c2 =>?_) (fun c2 =>?_)
 ·have c2:v = -1:=c2
  refine aa.mk 0 _ _ rfl rfl ?_
  refine az [] (XH _ _ _) ?_
  exact .drop 0 1 (.done ⟨bz (by rw[if_pos c2];rfl),rfl⟩)
 ·have c2:¬(v = -1):=c2
  refine aa.mk 0 _ _ rfl rfl ?_
  refine an (fun c3 =>?_) (fun c3 =>?_)
  ·have c3:0≤v:=c3
   refine aa.mk 0 _ _ rfl rfl ?_
   refine an (fun c4 =>?_) (fun c4 =>?_)
   ·have c4:v<w:=c4
    refine aa.mk 0 _ _ rfl rfl ?_
    refine EqAt.mk (by kernel_rfl) (by kernel_rfl) ?_
    refine bS (fun c5 =>?_) (fun c5 =>?_)
    ·have c5:=(Ch x y).symm.trans c5
     exact .drop 0 1 (.done ⟨bz (by rw[if_neg c2,decide_eq_true c3,decide_eq_true c4,c5];rfl),rfl⟩)
    ·have c5:=(Ch x y).symm.trans c5
     exact .drop 0 1 (.done ⟨bz (by rw[if_neg c2,decide_eq_true c3,decide_eq_true c4,c5];rfl),rfl⟩)
   ·have c4:¬(v<w):=c4
    exact .drop 0 1 (.done ⟨bz (by rw[if_neg c2,decide_eq_true c3,decide_eq_false c4];rfl),rfl⟩)
  ·have c3:¬(0≤v):=c3
   exact .drop 0 1 (.done ⟨bz (by rw[if_neg c2,decide_eq_false c3];rfl),rfl⟩)
theorem eqN(x y z w:Int):ew (nY (nC x y) (nC z w))=(decide (x=z) && decide (y=w)):=by
 show (decide (x=z) && (decide (y=w) && true))=_
 rw[Bool.and_true]
theorem Ln(w:Int)(r:lP)(σ:Hp):ACalls Tryz.prog 147 [.int .i64 w,.agg (xM r)] σ (aB (.bool (mb w r)) σ):=by
 obtain⟨v,⟨x,y,u⟩,u2⟩:=r
 refine okF Tryz.func147 (by kernel_rfl) ?_
 unfold mb
 show qw Tryz.prog tt _ [.int .i64 w,.agg [.int .i64 v,.int .i64 x,.int .i64 y]] σ (aB (.bool (if v = -1 then FB x y else decide (0≤v) && decide (v<w) && (decide (x=0) && decide (y=0)))) σ)
 intro aC
 refine aa.mk 0 _ _ rfl rfl ?_
 refine an (fun c2 =>?_) (fun c2 =>?_)
 ·have c2:v = -1:=c2
  refine .quiet (by kernel_rfl) ?_
  refine aa.mk 0 _ _ rfl rfl ?_
  refine aa.mk 0 _ _ rfl rfl ?_
  refine aa.mk 0 _ _ rfl rfl ?_
  refine aJ [] (WQ _ _ _) ?_
  refine EqAt.mk (by kernel_rfl) (by kernel_rfl) ?_
  refine bS (fun c3 =>?_) (fun c3 =>?_)
  ·have c3:=(eqN x y (aO x) (aO y)).symm.trans c3
   exact .drop 0 1 (.done ⟨bz (by rw[if_pos c2];exact c3.symm),rfl⟩)
  ·have c3:=(eqN x y (aO x) (aO y)).symm.trans c3
   exact .drop 0 1 (.done ⟨bz (by rw[if_pos c2];exact c3.symm),rfl⟩)
 ·have c2:¬(v = -1):=c2
  refine aa.mk 0 _ _ rfl rfl ?_
  refine an (fun c4 =>?_) (fun c4 =>?_)
  ·have c4:0≤v:=c4
   refine aa.mk 0 _ _ rfl rfl ?_
   refine an (fun c5 =>?_) (fun c5 =>?_)
   ·have c5:v<w:=c5
    refine aa.mk 0 _ _ rfl rfl ?_
    refine EqAt.mk (by kernel_rfl) (by kernel_rfl) ?_
    refine bS (fun c6 =>?_) (fun c6 =>?_)
    ·have c6:=(Ch x y).symm.trans c6
     exact .drop 0 1 (.done ⟨bz (by rw[if_neg c2,decide_eq_true c4,decide_eq_true c5,c6];rfl),rfl⟩)
    ·have c6:=(Ch x y).symm.trans c6
     exact .drop 0 1 (.done ⟨bz (by rw[if_neg c2,decide_eq_true c4,decide_eq_true c5,c6];rfl),rfl⟩)
   ·have c5:¬(v<w):=c5
    exact .drop 0 1 (.done ⟨bz (by rw[if_neg c2,decide_eq_true c4,decide_eq_false c5];rfl),rfl⟩)
  ·have c4:¬(0≤v):=c4
   exact .drop 0 1 (.done ⟨bz (by rw[if_neg c2,decide_eq_false c4];rfl),rfl⟩)
def n5(r:lP):Bool:=decide (r.1=0) && (decide (r.2.1.1=0) && decide (r.2.1.2.1=0))
theorem sL(r:lP):ew (nY (xM r) [.int .i64 0,.int .i64 0,.int .i64 0])=n5 r:=by
 show (decide (r.1=0) && (decide (r.2.1.1=0) && (decide (r.2.1.2.1=0) && true)))=_
 rw[Bool.and_true];rfl
def da(w:Int)(c:cp):Bool:=if c.1<0 then false else if w≤c.1 then false else if c.2.1 < -1 then false else if 4<c.2.1 then false else if c.2.1 = -1 then n5 c.2.2.1 && n5 c.2.2.2.1 else mb w c.2.2.1 && mb w c.2.2.2.1
theorem Vp(w:Int)(c:cp)(σ:Hp):ACalls Tryz.prog 169 [.int .i64 w,.agg (LV c)] σ (aB (.bool (da w c)) σ):=by
 refine okF Tryz.func169 (by kernel_rfl) ?_
 intro aC
 refine aa.mk 0 _ _ rfl rfl ?_
 refine an (fun c2 =>?_) (fun c2 =>?_)
 ·have c2:c.fst<0:=c2
  exact .drop 0 1 (.done ⟨bz (by simp[da, *]),rfl⟩)
 ·have c2:¬(c.fst<0):=c2
  refine aa.mk 0 _ _ rfl rfl ?_
  refine an (fun c3 =>?_) (fun c3 =>?_)
  ·have c3:w≤c.fst:=c3
   exact .drop 0 1 (.done ⟨bz (by simp[da, *]),rfl⟩)
  ·have c3:¬(w≤c.fst):=c3
   refine aa.mk 0 _ _ rfl rfl ?_
   refine an (fun c4 =>?_) (fun c4 =>?_)
   ·have c4:c.snd.fst < -1:=c4
    exact .drop 0 1 (.done ⟨bz (by simp[da, *]),rfl⟩)
   ·have c4:¬(c.snd.fst < -1):=c4
    refine aa.mk 0 _ _ rfl rfl ?_
    refine an (fun c5 =>?_) (fun c5 =>?_)
    ·have c5:4<c.snd.fst:=c5
     exact .drop 0 1 (.done ⟨bz (by simp[da, *]),rfl⟩)
    ·have c5:¬(4<c.snd.fst):=c5
     refine aa.mk 0 _ _ rfl rfl ?_
     refine an (fun c6 =>?_) (fun c6 =>?_)
     ·have c6:c.snd.fst = -1:=c6
      refine aa.mk 0 _ _ rfl rfl ?_
      refine EqAt.mk (by kernel_rfl) (by kernel_rfl) ?_
      refine bS (fun c7 =>?_) (fun c7 =>?_)
      ·have c7:=(sL c.2.2.1).symm.trans c7
       refine aa.mk 0 _ _ rfl rfl ?_
       refine EqAt.mk (by kernel_rfl) (by kernel_rfl) ?_
       refine bS (fun c8 =>?_) (fun c8 =>?_)
       ·have c8:=(sL c.2.2.2.1).symm.trans c8
        exact .drop 0 1 (.done ⟨bz (by simp[da, *]),rfl⟩)
       ·have c8:=(sL c.2.2.2.1).symm.trans c8
        exact .drop 0 1 (.done ⟨bz (by simp[da, *]),rfl⟩)
      ·have c7:=(sL c.2.2.1).symm.trans c7
       exact .drop 0 1 (.done ⟨bz (by simp[da, *]),rfl⟩)
     ·have c6:¬(c.snd.fst = -1):=c6
      refine aa.mk 0 _ _ rfl rfl ?_
      refine cm [] (L0 w c.2.2.1 _) (fun cA =>?_) (fun cA =>?_)
      ·refine aa.mk 0 _ _ rfl rfl ?_
       refine cm [] (L0 w c.2.2.2.1 _) (fun cB =>?_) (fun cB =>?_)
       ·exact .drop 0 1 (.done ⟨bz (by simp[da, *]),rfl⟩)
       ·exact .drop 0 1 (.done ⟨bz (by simp[da, *]),rfl⟩)
      ·exact .drop 0 1 (.done ⟨bz (by simp[da, *]),rfl⟩)
set_option maxRecDepth 100000
abbrev gR:Sh:=.field (.slice (.int .u64)) (.field (.slice (.int .u64)) (.field (.slice ga) .nil))
abbrev BO(g k:List Int)(l:List cp):List AV:=[.af (.int .u64) g,.af (.int .u64) k,.af ga l]
theorem SD(w:Int)(c:cp)(q:Nat)(σ:Hp):ACalls Tryz.prog 168 [Ba c,.ptr q 0] ((q,[.int .i64 w])::σ) (aB (.bool (!da w c)) ((q,[.int .i64 w])::σ)):=by
 refine okF Tryz.func168 (by kernel_rfl) ?_
 unfold Ba
 intro aC
 refine aa.mk 1 _ _ rfl rfl ?_
 refine aa.mk 0 _ _ rfl rfl ?_
 refine az [] (Vp w c _) ?_
 exact .drop 0 1 (.done ⟨rfl,rfl⟩)
def sa(ag w:Int)(g k:List Int)(l:List cp):Bool:=if ag=3 then decide (g.length+k.length=0) && (l.all (da w)) else decide (l.length=0) && ef g w && ef k w
def dP(ag w:Int)(g k:List Int)(l:List cp):Int:=if bX ag w=true then (if sa ag w g k l=true then 0 else 2) else 10
theorem AD{α:Type}(l:List α){p:α→Bool}:l.all p = !l.any fun c => !p c:=List.all_eq_not_any_not ..
theorem LX{w:Int}(l:List cp){b:Bool}(h:(l.any fun c => !da w c)=b):l.all (da w) = !b:=by rw[AD,h]
theorem yb{ag w:Int}{g k:List Int}{l:List cp}(hi:bX ag w=true)(ht:sa ag w g k l=true):0=dP ag w g k l:=by unfold dP;rw[if_pos hi,if_pos ht]
theorem ia{ag w:Int}{g k:List Int}{l:List cp}(hi:bX ag w=true)(ht:sa ag w g k l=false):2=dP ag w g k l:=by unfold dP;rw[if_pos hi,ht];rfl
theorem Bc{ag w:Int}{g k:List Int}{l:List cp}(hi:bX ag w=false):10=dP ag w g k l:=by unfold dP;rw[hi];rfl
theorem mu{ag w:Int}{g k:List Int}{l:List cp}(h:¬ag=3):sa ag w g k l=(decide (l.length=0) && ef g w && ef k w):=if_neg h
theorem qO{ag w:Int}{g k:List Int}{l:List cp}(h:ag=3):sa ag w g k l=(decide (g.length+k.length=0) && (l.all (da w))):=if_pos h
theorem mY{ag w:Int}(h:1≤ag∧ag≤3∧0≤w∧w≤1024):bX ag w=true:=by unfold bX;simp;omega
theorem EB{ag w:Int}(h:¬(1≤ag∧ag≤3∧0≤w∧w≤1024)):bX ag w=false:=by unfold bX;simp;omega
theorem DW(ag w:Int)(g k:List Int)(l:List cp)(σ:Hp)(hg:bJ g)(hk:bJ k)(lg:g.length≤10000)(lk:k.length≤10000)(ll:l.length≤1000000):ACalls Tryz.prog 120 [.int .i64 ag,.int .i64 w,.agg (BO g k l)] σ (aB (.int .i64 (dP ag w g k l)) σ):=by
 refine okF Tryz.func120 (by kernel_rfl) ?_
 intro aC
 intro bM
 refine aa.mk 1 _ _ rfl rfl ?_
 refine an (fun c3 =>?_) (fun c3 =>?_)
 ·have c3:w<0:=c3
  exact .drop 0 2 (.done ⟨aN (Bc (EB (by omega))),rfl⟩)
 ·have c3:¬(w<0):=c3
  refine aa.mk 1 _ _ rfl rfl ?_
  refine an (fun c4 =>?_) (fun c4 =>?_)
  ·have c4:1024<w:=c4
   exact .drop 0 2 (.done ⟨aN (Bc (EB (by omega))),rfl⟩)
  ·have c4:¬(1024<w):=c4
   refine an (fun c5 =>?_) (fun c5 =>?_)
   ·have c5:ag=1:=c5
    refine aa.mk 0 _ _ rfl rfl ?_
    refine aa.mk 1 _ _ rfl rfl ?_
    refine cm [] (xi g w _ hg lg) (fun cG =>?_) (fun cG =>?_)
    ·refine aa.mk 0 _ _ rfl rfl ?_
     refine aa.mk 1 _ _ rfl rfl ?_
     refine cm [] (xi k w _ hk lk) (fun cK =>?_) (fun cK =>?_)
     ·refine aa.mk 0 _ _ rfl rfl ?_
      refine an (fun c6 =>?_) (fun c6 =>?_)
      ·have c6:(↑l.length:Int)=0:=c6
       have ff:decide (l.length=0)=true:=decide_eq_true (by have h0:(l.length:Int)=0:=c6;omega)
       exact .drop 0 2 (.done ⟨aN (yb (mY (by omega)) (by rw[mu (by omega),ff,cG,cK];rfl)),rfl⟩)
      ·have c6:¬((↑l.length:Int)=0):=c6
       have ff:decide (l.length=0)=false:=decide_eq_false (by have h0:¬(l.length:Int)=0:=c6;omega)
       exact .drop 0 2 (.done ⟨aN (ia (mY (by omega)) (by rw[mu (by omega),ff];rfl)),rfl⟩)
     ·exact .drop 0 2 (.done ⟨aN (ia (mY (by omega)) (by rw[mu (by omega),cK];simp)),rfl⟩)
    ·exact .drop 0 2 (.done ⟨aN (ia (mY (by omega)) (by rw[mu (by omega),cG];simp)),rfl⟩)
   ·have c5:¬(ag=1):=c5
    refine an (fun c7 =>?_) (fun c7 =>?_)
    ·have c7:ag=2:=c7
     refine aa.mk 0 _ _ rfl rfl ?_
     refine aa.mk 1 _ _ rfl rfl ?_
     refine cm [] (xi g w _ hg lg) (fun cG =>?_) (fun cG =>?_)
     ·refine aa.mk 0 _ _ rfl rfl ?_
      refine aa.mk 1 _ _ rfl rfl ?_
      refine cm [] (xi k w _ hk lk) (fun cK =>?_) (fun cK =>?_)
      ·refine aa.mk 0 _ _ rfl rfl ?_
       refine an (fun c8 =>?_) (fun c8 =>?_)
       ·have c8:(↑l.length:Int)=0:=c8
        have ff:decide (l.length=0)=true:=decide_eq_true (by have h0:(l.length:Int)=0:=c8;omega)
        exact .drop 0 2 (.done ⟨aN (yb (mY (by omega)) (by rw[mu (by omega),ff,cG,cK];rfl)),rfl⟩)
       ·have c8:¬((↑l.length:Int)=0):=c8
        have ff:decide (l.length=0)=false:=decide_eq_false (by have h0:¬(l.length:Int)=0:=c8;omega)
        exact .drop 0 2 (.done ⟨aN (ia (mY (by omega)) (by rw[mu (by omega),ff];rfl)),rfl⟩)
      ·exact .drop 0 2 (.done ⟨aN (ia (mY (by omega)) (by rw[mu (by omega),cK];simp)),rfl⟩)
     ·exact .drop 0 2 (.done ⟨aN (ia (mY (by omega)) (by rw[mu (by omega),cG];simp)),rfl⟩)
    ·have c7:¬(ag=2):=c7
     refine an (fun c9 =>?_) (fun c9 =>?_)
     ·have c9:ag=3:=c9
      refine aa.mk 0 _ _ rfl rfl ?_
      refine aa.mk 0 _ _ rfl rfl ?_
      refine an (fun fY =>?_) (fun fY =>?_)
      ·have fY:IntKind.i64.wrap ((↑g.length:Int)+(↑k.length:Int))=0:=fY
       refine aa.mk 0 _ _ rfl rfl ?_
       rw[ic (by omega)]at fY
       refine cm [1] (Pg 168 [.ptr aC 0] l (fun c => !da w c) _ ll (fun i hi=>SD w l[i] aC _)) (fun cL =>?_) (fun cL =>?_)
       ·exact .drop 0 2 (.done ⟨aN (ia (mY (by omega)) (by rw[qO c9,LX l cL];simp)),rfl⟩)
       ·exact .drop 0 2 (.done ⟨aN (yb (mY (by omega)) (by rw[qO c9,LX l cL,decide_eq_true (by omega)];rfl)),rfl⟩)
      ·have fY:¬(IntKind.i64.wrap ((↑g.length:Int)+(↑k.length:Int))=0):=fY
       exact .drop 0 2 (.done ⟨aN (ia (mY (by omega)) (by rw[ic (by omega)]at fY;rw[qO c9,decide_eq_false (by omega)];rfl)),rfl⟩)
     ·have c9:¬(ag=3):=c9
      exact .drop 0 2 (.done ⟨aN (Bc (EB (by omega))),rfl⟩)
set_option maxRecDepth 100000
theorem Sd(ag w:Int)(g k:List Int)(l:List cp)(σ:Hp)(hg:bJ g)(hk:bJ k)(lg:g.length≤10000)(lk:k.length≤10000)(ll:l.length≤1000000):ACalls Tryz.prog 96 [.int .i64 ag,.int .i64 w,.agg (BO g k l)] σ (aB (.int .i64 (dP ag w g k l)) σ):=by
 refine okF Tryz.func96 (by kernel_rfl) ?_
 intro aC
 refine cm [] (yf ag w _) (fun hi =>?_) (fun hi =>?_)
 ·refine bS (fun c2 =>?_) (fun c2 =>?_)
  ·have c2:¬(ag=3):=by simpa using c2
   refine aa.mk 0 _ _ rfl rfl ?_
   refine an (fun c3 =>?_) (fun c3 =>?_)
   ·have c3:0<(↑l.length:Int):=c3
    exact .drop 0 1 (.done ⟨aN (ia hi (by rw[mu c2,decide_eq_false (p:=l.length=0) (by have c3:0<(l.length:Int):=c3;omega)];rfl)),rfl⟩)
   ·have c3:¬(0<(↑l.length:Int)):=c3
    refine aa.mk 0 _ _ rfl rfl ?_
    refine cm [] (Ei g w _ hg) (fun cG =>?_) (fun cG =>?_)
    ·refine aa.mk 0 _ _ rfl rfl ?_
     refine cm [] (Ei k w _ hk) (fun cK =>?_) (fun cK =>?_)
     ·exact .drop 0 1 (.done ⟨aN (yb hi (by rw[mu c2,cG,cK,decide_eq_true (p:=l.length=0) (by have c3:¬0<(l.length:Int):=c3;omega)];rfl)),rfl⟩)
     ·exact .drop 0 1 (.done ⟨aN (ia hi (by rw[mu c2,cK];simp)),rfl⟩)
    ·exact .drop 0 1 (.done ⟨aN (ia hi (by rw[mu c2,cG];simp)),rfl⟩)
  ·have c2:ag=3:=by simpa using c2
   refine aa.mk 0 _ _ rfl rfl ?_
   refine an (fun c4 =>?_) (fun c4 =>?_)
   ·have c4:0<(↑g.length:Int):=c4
    exact .drop 0 1 (.done ⟨aN (ia hi (by rw[qO c2,decide_eq_false (p:=g.length+k.length=0) (by have c4:0<(g.length:Int):=c4;omega)];rfl)),rfl⟩)
   ·have c4:¬(0<(↑g.length:Int)):=c4
    refine aa.mk 0 _ _ rfl rfl ?_
    refine an (fun c5 =>?_) (fun c5 =>?_)
    ·have c5:0<(↑k.length:Int):=c5
     exact .drop 0 1 (.done ⟨aN (ia hi (by rw[qO c2,decide_eq_false (p:=g.length+k.length=0) (by have c5:0<(k.length:Int):=c5;omega)];rfl)),rfl⟩)
    ·have c5:¬(0<(↑k.length:Int)):=c5
     refine aa.mk 0 _ _ rfl rfl ?_
     have hgk:g.length+k.length=0:=by
      have c4:¬0<(g.length:Int):=c4
      have c5:¬0<(k.length:Int):=c5
      omega
     refine aU (S:=Nat) (fun s=>[(1,.int .i64 w),(44,.af ga l),(45,.int .i64 l.length),(46,.int .i64 s)]) (fun _=>(aC,BO g k l)::σ) (fun s=>s≤l.length∧(l.take s).all (da w)=true) (fun s=>l.length-s) 0 ⟨⟨Nat.zero_le _,rfl⟩,⟨rfl,rfl,rfl,rfl,trivial⟩,rfl⟩ ?_
     rintro s t ⟨mF,dS⟩
     have hs:s≤l.length:=mF
     have hn:(l.take s).all (da w)=true:=dS
     clear mF dS
     refine an (fun ab =>?_) (fun aq =>?_)
     ·have ab:s<l.length:=by have ab:(s:Int)<l.length:=ab;omega
      have hb:da w l[s]=false→sa ag w g k l=false:=fun h=>by
       rw[qO c2,show l.all (da w)=false from List.all_eq_false.2 ⟨l[s],List.getElem_mem ab,by rw[h];decide⟩];simp
      have hy:da w l[s]=true→(l.take (s+1)).all (da w)=true:=fun h=>by
       rw[List.take_succ_eq_append_getElem ab,List.all_append,hn];simp[h]
      obtain⟨c,hc⟩:∃c:cp,l[s]=c:=⟨_,rfl⟩
      rw[hc]at hb hy
      refine ah.mk rfl (aT.mk c (by omega) ((get_some ab).trans (congrArg some hc)) ?_)
      clear hc
      intro bM
      refine ai.mk 0 _ _ rfl rfl ?_
      refine aa.mk 0 _ _ rfl rfl ?_
      refine an (fun c1 =>?_) (fun c1 =>?_)
      ·have c1:c.fst<0:=c1
       exact .drop 0 2 (.done ⟨aN (ia hi (hb (by simp[da, *]))),rfl⟩)
      ·have c1:¬(c.fst<0):=c1
       refine aa.mk 0 _ _ rfl rfl ?_
       refine an (fun c2 =>?_) (fun c2 =>?_)
       ·have c2:w≤c.fst:=c2
        exact .drop 0 2 (.done ⟨aN (ia hi (hb (by simp[da, *]))),rfl⟩)
       ·have c2:¬(w≤c.fst):=c2
        refine aa.mk 0 _ _ rfl rfl ?_
        refine an (p:=c.2.1 < -1) (fun d3 =>?_) (fun d3 =>?_)
        ·exact .drop 0 2 (.done ⟨aN (ia hi (hb (by simp[da, *]))),rfl⟩)
        refine aa.mk 0 _ _ rfl rfl ?_
        refine an (p:=4<c.2.1) (fun d4 =>?_) (fun d4 =>?_)
        ·exact .drop 0 2 (.done ⟨aN (ia hi (hb (by simp[da, *]))),rfl⟩)
        refine aa.mk 0 _ _ rfl rfl ?_
        refine an (p:=c.2.1 = -1) (fun d5 =>?_) (fun d5 =>?_)
        ·refine aa.mk 0 _ _ rfl rfl ?_
         refine EqAt.mk (by kernel_rfl) (by kernel_rfl) ?_
         refine bS (fun e1 =>?_) (fun e1 =>?_)
         ·have e1:(!n5 c.2.2.1)=true:=(congrArg (fun b => !b) (sL c.2.2.1)).symm.trans e1
          have e1:n5 c.2.2.1=false:=by simpa using e1
          exact .drop 0 2 (.done ⟨aN (ia hi (hb (by simp[da, *]))),rfl⟩)
         ·have e1:(!n5 c.2.2.1)=false:=(congrArg (fun b => !b) (sL c.2.2.1)).symm.trans e1
          have e1:n5 c.2.2.1=true:=by simpa using e1
          refine aa.mk 0 _ _ rfl rfl ?_
          refine EqAt.mk (by kernel_rfl) (by kernel_rfl) ?_
          refine bS (fun e2 =>?_) (fun e2 =>?_)
          ·have e2:(!n5 c.2.2.2.1)=true:=(congrArg (fun b => !b) (sL c.2.2.2.1)).symm.trans e2
           have e2:n5 c.2.2.2.1=false:=by simpa using e2
           exact .drop 0 2 (.done ⟨aN (ia hi (hb (by simp[da, *]))),rfl⟩)
          ·have e2:(!n5 c.2.2.2.1)=false:=(congrArg (fun b => !b) (sL c.2.2.2.1)).symm.trans e2
           have e2:n5 c.2.2.2.1=true:=by simpa using e2
           refine aa.mk 0 _ _ rfl rfl ?_
           refine an (p:=0≤c.2.1) (fun d6 =>?_) (fun d6 =>?_)
           ·exact absurd d6 (by rw[d5];decide)
           ·exact aH (s+1) (by show l.length-(s+1)<l.length-s;omega) ⟨ab,hy (by first | (simp[da, *];done) | omega)⟩ ⟨rfl,rfl,rfl,aI (by omega),trivial⟩ (.drop 0 1 (.refl _))
        ·refine aa.mk 0 _ _ rfl rfl ?_
         refine an (p:=0≤c.2.1) (fun d6 =>?_) (fun d6 =>?_)
         ·refine aa.mk 0 _ _ rfl rfl ?_
          refine cm [] (Ln w c.2.2.1 _) (fun cA =>?_) (fun cA =>?_)
          ·refine aa.mk 0 _ _ rfl rfl ?_
           refine cm [] (Ln w c.2.2.2.1 _) (fun cB =>?_) (fun cB =>?_)
           ·exact aH (s+1) (by show l.length-(s+1)<l.length-s;omega) ⟨ab,hy (by first | (simp[da, *];done) | omega)⟩ ⟨rfl,rfl,rfl,aI (by omega),trivial⟩ (.drop 0 1 (.refl _))
           ·exact .drop 0 2 (.done ⟨aN (ia hi (hb (by simp[da, *]))),rfl⟩)
          ·exact .drop 0 2 (.done ⟨aN (ia hi (hb (by simp[da, *]))),rfl⟩)
         ·exact absurd d6 (by omega)
     ·have aq:s=l.length:=by have aq:¬(s:Int)<l.length:=aq;omega
      subst aq
      rw[List.take_length]at hn
      exact .drop 0 1 (.done ⟨aN (yb hi (by rw[qO c2,hn,decide_eq_true hgk];rfl)),rfl⟩)
 ·exact .drop 0 1 (.done ⟨aN (Bc hi),rfl⟩)
end Go.Proofs.YtnpidbjdilnhlaaGreat
