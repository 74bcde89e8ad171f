import Derived.Test.YtnpidbjdilnhlaaGreatBn11
import Derived.Test.YtnpidbjdilnhlaaGreatBn15
namespace Go.Proofs.YtnpidbjdilnhlaaGreat
open Go.RowKit
set_option maxRecDepth 100000
def cE(what width:Int):Bool:=decide (1≤what) && decide (what≤3) && decide (0≤width) && decide (width≤1024)
def dr(what:Int)(xs ys:List Int):List Int:=List.zipWith (cu what) xs ys
set_option maxRecDepth 100000
theorem EV(what width:Int)(σ:Hp):ACalls Tryz.prog 121 [.int .i64 what,.int .i64 width] σ (az (.bool (cE what width)) σ):=by
 refine okF Tryz.func121 (by kernel_rfl) ?_
 have hk:∀w:Int,(1≤w∧w≤3)↔(w=1∨w=2∨w=3):=fun w=>by omega
 have hI:cE what width=(decide (what=1∨what=2∨what=3) && decide (0≤width) && decide (width≤1024)):=by
  unfold cE
  rw[← Bool.decide_and,decide_eq_decide.2 (hk what)]
 rw[hI]
 refine ao (fun c1 =>?_) (fun c1 =>?_)
 ·have c1:what=1:=c1
  have hw:(what=1∨what=2∨what=3):=.inl c1
  refine ao (fun d1 =>?_) (fun d1 =>?_)
  ·have d1:0≤width:=d1
   refine ao (fun d2 =>?_) (fun d2 =>?_)
   ·have d2:width≤1024:=d2
    rw[decide_eq_true hw,decide_eq_true d1,decide_eq_true d2]
    exact .done ⟨rfl,rfl⟩
   ·have d2:¬width≤1024:=d2
    rw[decide_eq_true hw,decide_eq_true d1,decide_eq_false d2]
    exact .done ⟨rfl,rfl⟩
  ·have d1:¬0≤width:=d1
   rw[decide_eq_true hw,decide_eq_false d1]
   exact .done ⟨rfl,rfl⟩
 ·have c1:¬what=1:=c1
  refine ao (fun c2 =>?_) (fun c2 =>?_)
  ·have c2:what=2:=c2
   have hw:(what=1∨what=2∨what=3):=.inr (.inl c2)
   refine ao (fun d1 =>?_) (fun d1 =>?_)
   ·have d1:0≤width:=d1
    refine ao (fun d2 =>?_) (fun d2 =>?_)
    ·have d2:width≤1024:=d2
     rw[decide_eq_true hw,decide_eq_true d1,decide_eq_true d2]
     exact .done ⟨rfl,rfl⟩
    ·have d2:¬width≤1024:=d2
     rw[decide_eq_true hw,decide_eq_true d1,decide_eq_false d2]
     exact .done ⟨rfl,rfl⟩
   ·have d1:¬0≤width:=d1
    rw[decide_eq_true hw,decide_eq_false d1]
    exact .done ⟨rfl,rfl⟩
  ·have c2:¬what=2:=c2
   refine ao (fun c3 =>?_) (fun c3 =>?_)
   ·have c3:what=3:=c3
    have hw:(what=1∨what=2∨what=3):=.inr (.inr c3)
    refine ao (fun d1 =>?_) (fun d1 =>?_)
    ·have d1:0≤width:=d1
     refine ao (fun d2 =>?_) (fun d2 =>?_)
     ·have d2:width≤1024:=d2
      rw[decide_eq_true hw,decide_eq_true d1,decide_eq_true d2]
      exact .done ⟨rfl,rfl⟩
     ·have d2:¬width≤1024:=d2
      rw[decide_eq_true hw,decide_eq_true d1,decide_eq_false d2]
      exact .done ⟨rfl,rfl⟩
    ·have d1:¬0≤width:=d1
     rw[decide_eq_true hw,decide_eq_false d1]
     exact .done ⟨rfl,rfl⟩
   ·have c3:¬what=3:=c3
    rw[decide_eq_false (p:=what=1∨what=2∨what=3) (fun h=>h.elim c1 fun h=>h.elim c2 c3)]
    exact .done ⟨rfl,rfl⟩
def eE(what width:Int):Int:=if cE what width=true then (if what=3 then width else (eb width:Int)) else 0
theorem Af(what width:Int)(σ:Hp):ACalls Tryz.prog 59 [.int .i64 what,.int .i64 width] σ (az (.int .i64 (eE what width)) σ):=by
 refine okF Tryz.func59 (by kernel_rfl) ?_
 unfold eE
 refine eH [] (EV what width _) (fun hi =>?_) (fun hi =>?_)
 ·rw[if_pos hi]
  have h3:(what=1∨what=2∨what=3):=by unfold cE at hi;simp at hi;omega
  refine ao (fun c1 =>?_) (fun c1 =>?_)
  ·have c1:what=1:=c1
   rw[if_neg (by omega)]
   refine ax [] (Dt width _) ?_
   exact .done ⟨rfl,rfl⟩
  ·have c1:¬what=1:=c1
   refine ao (fun c2 =>?_) (fun c2 =>?_)
   ·have c2:what=2:=c2
    rw[if_neg (by omega)]
    refine ax [] (Dt width _) ?_
    exact .done ⟨rfl,rfl⟩
   ·have c2:¬what=2:=c2
    rw[if_pos (by omega)]
    exact .done ⟨rfl,rfl⟩
 ·rw[if_neg (by rw[hi];decide)]
  exact .done ⟨rfl,rfl⟩
theorem zf(what width:Int):0≤eE what width∧eE what width≤1024:=by
 unfold eE
 by_cases h:cE what width=true
 ·rw[if_pos h]
  have:=zx width
  unfold cE at h;simp at h
  split <;> omega
 ·rw[if_neg h];omega
def okW(a:List Int):Bool:=a.all fun z=>decide (bj z=z)
def bZ(what w:Int)(a:List Int):Bool:=cE what w && decide ((a.length:Int)=eE what w) && (if what=3 then okW a else fi a w)
theorem YI(w:Int):(gj w || decide (w=0) || decide (w=1))=decide (bj w=w):=by
 unfold bj
 by_cases h0:w=0
 ·simp[h0]
 ·by_cases h1:w=1
  ·simp[h1]
  ·cases h2:gj w with
   | true=>simp[h0,h1]
   | false=>simp[h0,h1];exact fun h=>h1 h.symm
theorem acJ(z:Int)(σ:Hp):ACalls Tryz.prog 161 [.int .u64 z] σ (az (.bool (!decide (bj z=z))) σ):=by
 refine okF Tryz.func161 (by kernel_rfl) ?_
 refine ax [] (aIs z _) ?_
 rw[YI]
 exact .done ⟨rfl,rfl⟩
theorem Yu(a:List Int):(!a.any fun z => !decide (bj z=z))=okW a:=by
 unfold okW
 rw[List.all_eq_not_any_not]
theorem EW(what w:Int)(a:List Int)(σ:Hp)(ha:aS a)(hl:a.length≤1000000):ACalls Tryz.prog 117 [.int .i64 what,.int .i64 w,.ah (.int .u64) a] σ (az (.bool (bZ what w a)) σ):=by
 refine okF Tryz.func117 (by kernel_rfl) ?_
 have uA:=zf what w
 unfold bZ
 refine eH [] (EV what w _) (fun hi =>?_) (fun hi =>?_)
 ·refine ax [] (Af what w _) ?_
  refine dx (fun c =>?_) (fun c =>?_)
  ·have c:(!decide ((a.length:Int)=eE what w))=true:=c
   have c:¬((a.length:Int)=eE what w):=by simpa using c
   rw[hi,decide_eq_false c]
   exact .done ⟨rfl,rfl⟩
  ·have c:(!decide ((a.length:Int)=eE what w))=false:=c
   have c:(a.length:Int)=eE what w:=by simpa using c
   rw[hi,decide_eq_true c]
   refine dx (fun c3 =>?_) (fun c3 =>?_)
   ·have c3:¬(what=3):=by simpa using c3
    rw[if_neg c3]
    refine ax [] (Ag a w _ ha (by omega)) ?_
    exact .done ⟨rfl,rfl⟩
   ·have c3:what=3:=by simpa using c3
    rw[if_pos c3,← Yu]
    refine ax [] (TF 161 [] a (fun z:Int => !decide (bj z=z)) _ hl (fun i hi=>acJ _ _)) ?_
    exact .done ⟨rfl,rfl⟩
 ·rw[hi]
  exact .done ⟨rfl,rfl⟩
def Am(what w:Int)(l:List (List Int)):Int:=if cE what w then (if (l.any fun a => !bZ what w a) then 2 else 0) else 10
theorem Va{what w:Int}{a b:List Int}(h:Am what w [a,b]=0):bZ what w a=true∧bZ what w b=true:=by
 unfold Am at h
 cases hi:cE what w with
 | false=>rw[hi]at h;exact absurd h (by simp)
 | true =>
  rw[hi,if_pos rfl]at h
  cases ha:bZ what w a with
  | false=>simp[ha]at h
  | true =>
   cases hb:bZ what w b with
   | false=>simp[ha,hb]at h
   | true=>exact⟨rfl,rfl⟩
theorem tF{what w:Int}{a:List Int}(h:bZ what w a=true):(a.length:Int)=eE what w:=by
 unfold bZ at h;simp at h;exact h.1.2
def qd(e:Int)(l:List Int):List Int:=if e=0 then l else []
theorem zW{e:Int}{l:List Int}(h:e=0):qd e l=l:=if_pos h
theorem Dj{e:Int}{l:List Int}(h:¬e=0):qd e l=[]:=if_neg h
theorem tL{what:Int}:∀{xs ys:List Int},aS xs→aS ys→aS (dr what xs ys)
 | [],_,_,_=>fun z hz=>by simp[dr]at hz
 | _::_,[],_,_=>fun z hz=>by simp[dr]at hz
 | x::xs,y::ys,hx,hy=>fun z hz=>by
  rcases List.mem_cons.1 (show z∈cu what x y::dr what xs ys from hz) with rfl | hz
  ·exact N6 (hx _ (List.mem_cons_self ..)) (hy _ (List.mem_cons_self ..))
  ·exact tL (fun a ha=>hx a (List.mem_cons_of_mem _ ha)) (fun a ha=>hy a (List.mem_cons_of_mem _ ha)) z hz
def vI(what w:Int)(xs ys:List Int):Bool:=decide (Am what w [xs,ys]=0) && decide (dr what xs ys=ys)
def gm(what w:Int):List Int:=if what=2∧cE what w=true then eV w else List.replicate (eE what w).toNat 0
theorem He(what w:Int)(σ:Hp):ACalls Tryz.prog 118 [.int .i64 what,.int .i64 w] σ (az (.ah (.int .u64) (gm what w)) σ):=by
 refine okF Tryz.func118 (by kernel_rfl) ?_
 have hw:=zf what w
 have hz:gm what w=List.replicate (eE what w).toNat 0→∀q,Fin (az (.ah (.int .u64) (gm what w)) σ) (.ae q 0 (eE what w).toNat 1) ((q,bU [.int .u64 0] (eE what w).toNat)::σ):=fun hb q=>by
  rw[Hn,← hb]
  have hl:(gm what w).length=(eE what w).toNat:=by rw[hb,List.length_replicate]
  generalize gm what w=Z at hl
  refine .cb 0 q 0 _ 1 _ (.int .u64) Z rfl ?_ ⟨hl,rfl,by decide⟩ .here (.done ⟨rfl,rfl⟩)
  rw[List.drop_zero,← oL]
  exact List.take_of_length_le (by rw[aU,List.length_map,hl];omega)
 refine ao (fun c =>?_) (fun c =>?_)
 ·have c:what=2:=c
  refine eH [] (EV what w _) (fun hi =>?_) (fun hi =>?_)
  ·refine ax [] (QB w _) ?_
   have hb:gm what w=eV w:=if_pos ⟨c,hi⟩
   rw[hb]
   exact .done ⟨rfl,rfl⟩
  ·refine ax [] (Af what w _) ?_
   refine ag.mk ⟨by omega,by omega,by omega,by decide⟩ ?_
   intro q
   exact hz (if_neg fun h=>Bool.noConfusion (hi.symm.trans h.2)) q
 ·have c:¬what=2:=c
  refine ax [] (Af what w _) ?_
  refine ag.mk ⟨by omega,by omega,by omega,by decide⟩ ?_
  intro q
  exact hz (if_neg fun h=>c h.1) q
set_option maxRecDepth 100000
def isN(x y:Int):Bool:=decide (x=aJ x) && decide (y=aJ y)
def oU(w:Int)(r:nm):Bool:=if r.1 = -1 then isN r.2.1.1 r.2.1.2.1 else decide (0≤r.1) && decide (r.1<w) && (decide (r.2.1.1=0) && decide (r.2.1.2.1=0))
theorem eq2(x y:Int):eA (qV (nC x y) (nC 0 0))=(decide (x=0) && decide (y=0)):=by
 show (decide (x=0) && (decide (y=0) && true))=_
 rw[Bool.and_true]
theorem Qy(w:Int)(r:nm)(σ:Hp):ACalls Tryz.prog 218 [.int .i64 w,.agg (Ep r)] σ (az (.bool (oU w r)) σ):=by
 obtain⟨v,⟨x,y,u⟩,u2⟩:=r
 refine okF Tryz.func218 (by kernel_rfl) ?_
 unfold oU
 show ub Tryz.prog tt _ [.int .i64 w,.agg [.int .i64 v,.int .i64 x,.int .i64 y]] σ (az (.bool (if v = -1 then isN x y else decide (0≤v) && decide (v<w) && (decide (x=0) && decide (y=0)))) σ)
 intro aC
 refine aa 0 ?_
 refine ao (fun c2 =>?_) (fun c2 =>?_)
 ·have c2:v = -1:=c2
  refine aa 0 ?_
  refine ax [] (acn _ _ _) ?_
  exact .drop 0 1 (.done ⟨cM (by rw[if_pos c2];rfl),rfl⟩)
 ·have c2:¬(v = -1):=c2
  refine aa 0 ?_
  refine ao (fun c3 =>?_) (fun c3 =>?_)
  ·have c3:0≤v:=c3
   refine aa 0 ?_
   refine ao (fun c4 =>?_) (fun c4 =>?_)
   ·have c4:v<w:=c4
    refine aa 0 ?_
    refine EqAt.mk (by kernel_rfl) (by kernel_rfl) ?_
    refine dx (fun c5 =>?_) (fun c5 =>?_)
    ·have c5:=(eq2 x y).symm.trans c5
     exact .drop 0 1 (.done ⟨cM (by rw[if_neg c2,decide_eq_true c3,decide_eq_true c4,c5];rfl),rfl⟩)
    ·have c5:=(eq2 x y).symm.trans c5
     exact .drop 0 1 (.done ⟨cM (by rw[if_neg c2,decide_eq_true c3,decide_eq_true c4,c5];rfl),rfl⟩)
   ·have c4:¬(v<w):=c4
    exact .drop 0 1 (.done ⟨cM (by rw[if_neg c2,decide_eq_true c3,decide_eq_false c4];rfl),rfl⟩)
  ·have c3:¬(0≤v):=c3
   exact .drop 0 1 (.done ⟨cM (by rw[if_neg c2,decide_eq_false c3];rfl),rfl⟩)
def IS(r:nm):Bool:=decide (r.1=0) && (decide (r.2.1.1=0) && decide (r.2.1.2.1=0))
theorem FH(r:nm):eA (qV (Ep r) [.int .i64 0,.int .i64 0,.int .i64 0])=IS r:=by
 show (decide (r.1=0) && (decide (r.2.1.1=0) && (decide (r.2.1.2.1=0) && true)))=_
 rw[Bool.and_true];rfl
def fx(w:Int)(c:cg):Bool:=if c.1<0 then false else if w≤c.1 then false else if c.2.1 < -1 then false else if 4<c.2.1 then false else if c.2.1 = -1 then IS c.2.2.1 && IS c.2.2.2.1 else oU w c.2.2.1 && oU w c.2.2.2.1
theorem aam(w:Int)(c:cg)(σ:Hp):ACalls Tryz.prog 169 [.int .i64 w,.agg (Qr c)] σ (az (.bool (fx w c)) σ):=by
 refine okF Tryz.func169 (by kernel_rfl) ?_
 intro aC
 refine aa 0 ?_
 refine ao (fun c2 =>?_) (fun c2 =>?_)
 ·have c2:c.fst<0:=c2
  exact .drop 0 1 (.done ⟨cM (by simp[fx, *]),rfl⟩)
 ·have c2:¬(c.fst<0):=c2
  refine aa 0 ?_
  refine ao (fun c3 =>?_) (fun c3 =>?_)
  ·have c3:w≤c.fst:=c3
   exact .drop 0 1 (.done ⟨cM (by simp[fx, *]),rfl⟩)
  ·have c3:¬(w≤c.fst):=c3
   refine aa 0 ?_
   refine ao (fun c4 =>?_) (fun c4 =>?_)
   ·have c4:c.snd.fst < -1:=c4
    exact .drop 0 1 (.done ⟨cM (by simp[fx, *]),rfl⟩)
   ·have c4:¬(c.snd.fst < -1):=c4
    refine aa 0 ?_
    refine ao (fun c5 =>?_) (fun c5 =>?_)
    ·have c5:4<c.snd.fst:=c5
     exact .drop 0 1 (.done ⟨cM (by simp[fx, *]),rfl⟩)
    ·have c5:¬(4<c.snd.fst):=c5
     refine aa 0 ?_
     refine ao (fun c6 =>?_) (fun c6 =>?_)
     ·have c6:c.snd.fst = -1:=c6
      refine aa 0 ?_
      refine EqAt.mk (by kernel_rfl) (by kernel_rfl) ?_
      refine dx (fun c7 =>?_) (fun c7 =>?_)
      ·have c7:=(FH c.2.2.1).symm.trans c7
       refine aa 0 ?_
       refine EqAt.mk (by kernel_rfl) (by kernel_rfl) ?_
       refine dx (fun c8 =>?_) (fun c8 =>?_)
       ·have c8:=(FH c.2.2.2.1).symm.trans c8
        exact .drop 0 1 (.done ⟨cM (by simp[fx, *]),rfl⟩)
       ·have c8:=(FH c.2.2.2.1).symm.trans c8
        exact .drop 0 1 (.done ⟨cM (by simp[fx, *]),rfl⟩)
      ·have c7:=(FH c.2.2.1).symm.trans c7
       exact .drop 0 1 (.done ⟨cM (by simp[fx, *]),rfl⟩)
     ·have c6:¬(c.snd.fst = -1):=c6
      refine aa 0 ?_
      refine eH [] (Qy w c.2.2.1 _) (fun cA =>?_) (fun cA =>?_)
      ·refine aa 0 ?_
       refine eH [] (Qy w c.2.2.2.1 _) (fun cB =>?_) (fun cB =>?_)
       ·exact .drop 0 1 (.done ⟨cM (by simp[fx, *]),rfl⟩)
       ·exact .drop 0 1 (.done ⟨cM (by simp[fx, *]),rfl⟩)
      ·exact .drop 0 1 (.done ⟨cM (by simp[fx, *]),rfl⟩)
abbrev j7:Sh:=.field (.slice (.int .u64)) (.field (.slice (.int .u64)) (.field (.slice hY) .nil))
abbrev trC(g k:List Int)(l:List cg):List AV:=[.ah (.int .u64) g,.ah (.int .u64) k,.ah hY l]
theorem XE(w:Int)(c:cg)(q:Nat)(σ:Hp):ACalls Tryz.prog 168 [Ec c,.ptr q 0] ((q,[.int .i64 w])::σ) (az (.bool (!fx w c)) ((q,[.int .i64 w])::σ)):=by
 refine okF Tryz.func168 (by kernel_rfl) ?_
 unfold Ec
 intro aC
 refine aa 1 ?_
 refine aa 0 ?_
 refine ax [] (aam w c _) ?_
 exact .drop 0 1 (.done ⟨rfl,rfl⟩)
def vV(what w:Int)(g k:List Int)(l:List cg):Bool:=if what=3 then decide (g.length+k.length=0) && (l.all (fx w)) else decide (l.length=0) && fi g w && fi k w
def er(what w:Int)(g k:List Int)(l:List cg):Int:=if cE what w=true then (if vV what w g k l=true then 0 else 2) else 10
theorem OW{α:Type}(l:List α){p:α→Bool}:l.all p = !l.any fun c => !p c:=List.all_eq_not_any_not ..
theorem Qv{w:Int}(l:List cg){b:Bool}(h:(l.any fun c => !fx w c)=b):l.all (fx w) = !b:=by rw[OW,h]
theorem Jf{what w:Int}{g k:List Int}{l:List cg}(hi:cE what w=true)(ht:vV what w g k l=true):0=er what w g k l:=by unfold er;rw[if_pos hi,if_pos ht]
theorem ur{what w:Int}{g k:List Int}{l:List cg}(hi:cE what w=true)(ht:vV what w g k l=false):2=er what w g k l:=by unfold er;rw[if_pos hi,ht];rfl
theorem IE{what w:Int}{g k:List Int}{l:List cg}(hi:cE what w=false):10=er what w g k l:=by unfold er;rw[hi];rfl
theorem sJ{what w:Int}{g k:List Int}{l:List cg}(h:¬what=3):vV what w g k l=(decide (l.length=0) && fi g w && fi k w):=if_neg h
theorem Bq{what w:Int}{g k:List Int}{l:List cg}(h:what=3):vV what w g k l=(decide (g.length+k.length=0) && (l.all (fx w))):=if_pos h
theorem oS{what w:Int}(h:1≤what∧what≤3∧0≤w∧w≤1024):cE what w=true:=by unfold cE;simp;omega
theorem Iu{what w:Int}(h:¬(1≤what∧what≤3∧0≤w∧w≤1024)):cE what w=false:=by unfold cE;simp;omega
theorem HM(what w:Int)(g k:List Int)(l:List cg)(σ:Hp)(hg:aS g)(hk:aS k)(lg:g.length≤10000)(lk:k.length≤10000)(ll:l.length≤1000000):ACalls Tryz.prog 120 [.int .i64 what,.int .i64 w,.agg (trC g k l)] σ (az (.int .i64 (er what w g k l)) σ):=by
 refine okF Tryz.func120 (by kernel_rfl) ?_
 intro aC
 intro dI
 refine aa 1 ?_
 refine ao (fun c3 =>?_) (fun c3 =>?_)
 ·have c3:w<0:=c3
  exact .drop 0 2 (.done ⟨aN (IE (Iu (by omega))),rfl⟩)
 ·have c3:¬(w<0):=c3
  refine aa 1 ?_
  refine ao (fun c4 =>?_) (fun c4 =>?_)
  ·have c4:1024<w:=c4
   exact .drop 0 2 (.done ⟨aN (IE (Iu (by omega))),rfl⟩)
  ·have c4:¬(1024<w):=c4
   refine ao (fun c5 =>?_) (fun c5 =>?_)
   ·have c5:what=1:=c5
    refine aa 0 ?_
    refine aa 1 ?_
    refine eH [] (Ag g w _ hg lg) (fun cG =>?_) (fun cG =>?_)
    ·refine aa 0 ?_
     refine aa 1 ?_
     refine eH [] (Ag k w _ hk lk) (fun cK =>?_) (fun cK =>?_)
     ·refine aa 0 ?_
      refine ao (fun c6 =>?_) (fun c6 =>?_)
      ·have c6:(↑l.length:Int)=0:=c6
       have fS:decide (l.length=0)=true:=decide_eq_true (by have h0:(l.length:Int)=0:=c6;omega)
       exact .drop 0 2 (.done ⟨aN (Jf (oS (by omega)) (by rw[sJ (by omega),fS,cG,cK];rfl)),rfl⟩)
      ·have c6:¬((↑l.length:Int)=0):=c6
       have fS:decide (l.length=0)=false:=decide_eq_false (by have h0:¬(l.length:Int)=0:=c6;omega)
       exact .drop 0 2 (.done ⟨aN (ur (oS (by omega)) (by rw[sJ (by omega),fS];rfl)),rfl⟩)
     ·exact .drop 0 2 (.done ⟨aN (ur (oS (by omega)) (by rw[sJ (by omega),cK];simp)),rfl⟩)
    ·exact .drop 0 2 (.done ⟨aN (ur (oS (by omega)) (by rw[sJ (by omega),cG];simp)),rfl⟩)
   ·have c5:¬(what=1):=c5
    refine ao (fun c7 =>?_) (fun c7 =>?_)
    ·have c7:what=2:=c7
     refine aa 0 ?_
     refine aa 1 ?_
     refine eH [] (Ag g w _ hg lg) (fun cG =>?_) (fun cG =>?_)
     ·refine aa 0 ?_
      refine aa 1 ?_
      refine eH [] (Ag k w _ hk lk) (fun cK =>?_) (fun cK =>?_)
      ·refine aa 0 ?_
       refine ao (fun c8 =>?_) (fun c8 =>?_)
       ·have c8:(↑l.length:Int)=0:=c8
        have fS:decide (l.length=0)=true:=decide_eq_true (by have h0:(l.length:Int)=0:=c8;omega)
        exact .drop 0 2 (.done ⟨aN (Jf (oS (by omega)) (by rw[sJ (by omega),fS,cG,cK];rfl)),rfl⟩)
       ·have c8:¬((↑l.length:Int)=0):=c8
        have fS:decide (l.length=0)=false:=decide_eq_false (by have h0:¬(l.length:Int)=0:=c8;omega)
        exact .drop 0 2 (.done ⟨aN (ur (oS (by omega)) (by rw[sJ (by omega),fS];rfl)),rfl⟩)
      ·exact .drop 0 2 (.done ⟨aN (ur (oS (by omega)) (by rw[sJ (by omega),cK];simp)),rfl⟩)
     ·exact .drop 0 2 (.done ⟨aN (ur (oS (by omega)) (by rw[sJ (by omega),cG];simp)),rfl⟩)
    ·have c7:¬(what=2):=c7
     refine ao (fun c9 =>?_) (fun c9 =>?_)
     ·have c9:what=3:=c9
      refine aa 0 ?_
      refine aa 0 ?_
      refine ao (fun iq =>?_) (fun iq =>?_)
      ·have iq:IntKind.i64.wrap ((↑g.length:Int)+(↑k.length:Int))=0:=iq
       refine aa 0 ?_
       rw[ck (by omega)]at iq
       refine eH [1] (TL 168 [.ptr aC 0] l (fun c => !fx w c) _ ll (fun i hi=>XE w l[i] aC _)) (fun cL =>?_) (fun cL =>?_)
       ·exact .drop 0 2 (.done ⟨aN (ur (oS (by omega)) (by rw[Bq c9,Qv l cL];simp)),rfl⟩)
       ·exact .drop 0 2 (.done ⟨aN (Jf (oS (by omega)) (by rw[Bq c9,Qv l cL,decide_eq_true (by omega)];rfl)),rfl⟩)
      ·have iq:¬(IntKind.i64.wrap ((↑g.length:Int)+(↑k.length:Int))=0):=iq
       exact .drop 0 2 (.done ⟨aN (ur (oS (by omega)) (by rw[ck (by omega)]at iq;rw[Bq c9,decide_eq_false (by omega)];rfl)),rfl⟩)
     ·have c9:¬(what=3):=c9
      exact .drop 0 2 (.done ⟨aN (IE (Iu (by omega))),rfl⟩)
set_option maxRecDepth 100000
def kd(a:List Int)(r:nm):Int:=if r.1 = -1 then mj r.2.1.1 r.2.1.2.1 else wd a r.1.toNat
def nV(a:List Int)(c:cg):Int:=if c.2.1 = -1 then 1 else kK c.2.1 (kd a c.2.2.1) (kd a c.2.2.2.1)
def qQ(a:List Int)(c:cg):List Int:=a.set c.1.toNat (nV a c)
def iN(a:List Int)(l:List cg):List Int:=l.foldl qQ a
theorem w5(a:List Int)(c:cg):(qQ a c).length=a.length:=List.length_set ..
theorem Gc(a:List Int)(l:List cg):(iN a l).length=a.length:=by
 unfold iN
 induction l generalizing a with
 | nil=>rfl
 | cons c l ih=>exact (ih _).trans (w5 a c)
theorem W7(a:List Int)(l:List cg)(c:cg):iN a (l++[c])=qQ (iN a l) c:=by
 unfold iN;rw[List.foldl_append];rfl
theorem Ps(x y:Int):bf (mj x y):=by
 have h1:=CT x y
 have h2:=GL x y
 unfold bf mj;omega
theorem Ob{a:List Int}(ha:aS a)(r:nm):bf (kd a r):=by
 unfold kd;split
 ·exact Ps _ _
 ·exact lX ha _
theorem Ym(op a b:Int):bf (mZ op a b):=by
 unfold mZ mX
 split
 ·exact⟨by omega,by omega⟩
 ·split
  ·exact⟨by omega,by omega⟩
  ·split
   ·exact Ps _ _
   ·exact⟨by omega,by omega⟩
theorem Z0(op a b:Int):bf (kK op a b):=by unfold kK;split <;> exact Ym _ _ _
theorem YA(a:List Int)(c:cg):bf (nV a c):=by
 unfold nV;split
 ·exact⟨by omega,by omega⟩
 ·exact Z0 _ _ _
theorem ZJ{a:List Int}(ha:aS a){i:Nat}{z:Int}(hz:bf z):aS (a.set i z):=fun x hx=>by
 rcases List.mem_or_eq_of_mem_set hx with h | rfl
 ·exact ha x h
 ·exact hz
theorem PG{a:List Int}(ha:aS a)(l:List cg):aS (iN a l):=by
 unfold iN
 induction l generalizing a with
 | nil=>exact ha
 | cons c l ih=>exact ih (ZJ ha (YA a c))
theorem CN{w:Int}{c:cg}(h:fx w c=true):0≤c.1∧c.1<w:=by
 unfold fx at h
 by_cases h1:c.1<0
 ·rw[if_pos h1]at h;exact absurd h (by decide)
 ·by_cases h2:w≤c.1
  ·rw[if_neg h1,if_pos h2]at h;exact absurd h (by decide)
  ·omega
theorem G9{w:Int}{c:cg}(h:fx w c=true): -1≤c.2.1∧(¬c.2.1 = -1→oU w c.2.2.1=true∧oU w c.2.2.2.1=true):=by
 have hv:=CN h
 unfold fx at h
 rw[if_neg (by omega),if_neg (by omega)]at h
 by_cases h1:c.2.1 < -1
 ·rw[if_pos h1]at h;exact absurd h (by decide)
 ·rw[if_neg h1]at h
  by_cases h2:4<c.2.1
  ·rw[if_pos h2]at h;exact absurd h (by decide)
  ·rw[if_neg h2]at h
   refine⟨by omega,fun h3 =>?_⟩
   rw[if_neg h3]at h
   exact Bool.and_eq_true_iff.1 h
theorem Gu{w:Int}{r:nm}(h:oU w r=true)(h1:¬r.1 = -1):0≤r.1∧r.1<w:=by
 unfold oU at h
 rw[if_neg h1]at h
 simp at h
 exact h.1
theorem acN(a:List Int)(r:nm)(q b:Nat)(σ:Hp)(hr:oU a.length r=true):ACalls Tryz.prog 323 [.agg (Ep r),.ptr q 0] ((q,[.ae b 0 a.length 1])::(b,aU a)::σ) (az (.int .u64 (kd a r)) ((q,[.ae b 0 a.length 1])::(b,aU a)::σ)):=by
 refine okF Tryz.func323 (by kernel_rfl) ?_
 intro aC
 refine aa 0 ?_
 refine ao (fun c2 =>?_) (fun c2 =>?_)
 ·have c2:r.fst = -1:=c2
  refine aa 0 ?_
  refine ax [] (Eb _ _ _) ?_
  have e:kd a r=mj r.2.1.1 r.2.1.2.1:=if_pos c2
  exact .drop 0 1 (.done ⟨aN e.symm,rfl⟩)
 ·have c2:¬(r.fst = -1):=c2
  refine aa 1 ?_
  refine aa 0 ?_
  have hv:=Gu hr c2
  have e:kd a r=wd a r.1.toNat:=if_neg c2
  refine ag.mk ⟨rfl,hv.1,hv.2⟩ ?_
  refine aL 2 rfl (Qq (i:=r.1.toNat) (by omega) (by omega)) ?_
  exact .drop 0 1 (.done ⟨aN e.symm,rfl⟩)
theorem Q9(a:List Int)(n:Nat)(hn:a.length=n)(r:nm)(q b:Nat)(σ:Hp)(hr:oU n r=true):ACalls Tryz.prog 323 [.agg (Ep r),.ptr q 0] ((q,[.ae b 0 n 1])::(b,aU a)::σ) (az (.int .u64 (kd a r)) ((q,[.ae b 0 n 1])::(b,aU a)::σ)):=by
 subst hn
 exact acN a r q b σ hr
theorem O5(l:List Int)(σ:Hp)(hl:l.length≤1000000):ACalls Tryz.prog 150 [.ah (.int .u64) l] σ (fun x σ'=>∃acc,Acc 1 l.length x acc (aU l)∧σ'=acc++σ):=by
 refine ze (fun h=>⟨?_,?_⟩) (fun h =>?_)
 ·subst h
  refine okF Tryz.func150 (by kernel_rfl) ?_
  exact .done ⟨[],.nil,rfl⟩
 ·subst h
  refine okF Tryz.func150 (by kernel_rfl) ?_
  intro b
  refine AppendAt.more 0 b 0 0 [] _ rfl rfl (Nat.le_of_ble_eq_true rfl) .ft (by decide) (by decide) (by decide) (fun b' =>?_)
  exact .done ⟨[(b',[])],.ae b' 0 [] rfl,rfl⟩
 ·refine okF Tryz.func150 (by kernel_rfl) ?_
  refine ag.mk (List.length_pos_iff.2 h) ?_
  intro b
  refine AppendAt.more 0 b 0 l.length [] _ rfl rfl (Nat.le_of_ble_eq_true rfl) (.ah (.int .u64) l rfl) (by omega) (by decide) (by decide) (fun b' =>?_)
  refine .done ⟨[(b',aU l)],?_,?_⟩
  ·rw[Nat.zero_add];exact .ae b' l.length _ (by simp[aU])
  ·show (b',[]++l.flatMap (Sh.cells (.int .u64)))::σ=_
   rw[oL];rfl
theorem acD(a:List Int)(l:List cg)(σ:Hp)(ha:aS a)(la:a.length≤10000)(ll:l.length≤1000000)(hl:l.all (fx a.length)=true):ACalls Tryz.prog 303 [.ah (.int .u64) a,.ah hY l] σ (az (.ah (.int .u64) (iN a l)) σ):=by
 refine okF Tryz.func303 (by kernel_rfl) ?_
 intro q
 refine aa 0 ?_
 refine .mk [] _ (O5 a _ (by omega)) ?_
 rintro v σ' ⟨acc,bP,rfl⟩
 generalize hn:a.length=n at bP la hl
 generalize jf:aU a=cs at bP
 cases bP with
 | nil =>
  have h0:a=[]:=List.length_eq_zero_iff.1 hn
  subst h0
  cases l with
  | cons c l =>
   have:=CN (List.all_eq_true.1 hl c (List.mem_cons_self ..))
   exact absurd this (by omega)
  | nil =>
   refine ai 0 ?_
   refine bO (S:=Unit) (fun _=>[(2,.ptr q 0),(12,.int .i64 0),(13,.int .i64 0)]) (fun _=>(q,[.af])::σ) (fun _=>True) (fun _=>0) () ⟨trivial,⟨rfl,rfl,rfl,trivial⟩,rfl⟩ ?_
   rintro _ _ _
   refine aa 0 ?_
   exact .drop 0 1 (.nil (.nil _) (.done ⟨rfl,rfl⟩))
 | ae b n cs h =>
 subst jf
 refine ai 1 ?_
 refine bO (S:=Nat) (fun s=>[(2,.ptr q 0),(5,.fn (.func 323) [] [.ptr q 0]),(11,.ah hY l),(12,.int .i64 l.length),(13,.int .i64 s)]) (fun s=>(b,aU (iN a (l.take s)))::(q,[.ae b 0 n 1])::σ) (fun s=>s≤l.length) (fun s=>l.length-s) 0 ⟨Nat.zero_le _,⟨rfl,rfl,rfl,rfl,rfl,trivial⟩,rfl⟩ ?_
 intro s t rz
 have hs:s≤l.length:=rz
 clear rz
 have hA:aS (iN a (l.take s)):=PG ha _
 have hlen:(iN a (l.take s)).length=n:=(Gc a _).trans hn
 refine ao (fun ab =>?_) (fun au =>?_)
 ·have ab:s<l.length:=by have ab:(s:Int)<l.length:=ab;omega
  have hd:=W7 a (l.take s) l[s]
  rw[← List.take_succ_eq_append_getElem ab]at hd
  have ny:=List.all_eq_true.1 hl l[s] (List.getElem_mem ab)
  obtain⟨c,hc⟩:∃c:cg,l[s]=c:=⟨_,rfl⟩
  rw[hc]at hd ny
  have hv:=CN ny
  have ho:=G9 ny
  refine ag.mk rfl (bH.mk c (by omega) ((get_some ab).trans (congrArg some hc)) ?_)
  clear hc ny
  generalize iN a (l.take s)=A at hA hlen hd
  intro dI
  refine ai 0 ?_
  refine aa 0 ?_
  refine ao (p:=c.2.1 = -1) (fun d5 =>?_) (fun d5 =>?_)
  ·refine aa 2 ?_
   refine aa 0 ?_
   refine ag.mk ⟨rfl,by omega,by omega⟩ ?_
   have uE:nV A c=1:=if_pos d5
   refine cd 1 rfl (Il (i:=c.1.toNat) (by omega) _ (by omega)) ?_
   refine bg (s+1) (by show l.length-(s+1)<l.length-s;omega) ab ⟨rfl,rfl,rfl,rfl,a8 (by omega),trivial⟩ (.drop 0 1 (aF ?_))
   rw[hd,qQ,uE]
   rfl
  ·have ho2:=ho.2 d5
   have uE:nV A c=kK c.2.1 (kd A c.2.2.1) (kd A c.2.2.2.1):=if_neg d5
   refine .sched [8,12,13] (upto [8,12,13] 16 0) (by kernel_rfl) ?_
   refine aa 2 ?_
   refine aa 0 ?_
   refine aa 0 ?_
   refine aa 0 ?_
   refine aD [2,1] (Q9 A n hlen c.2.2.1 q b _ ho2.1) ?_
   refine aa 0 ?_
   refine aD [2,1] (Q9 A n hlen c.2.2.2.1 q b _ ho2.2) ?_
   refine aD [] (acO _ _ _ _ (Ob hA _) (Ob hA _)) ?_
   refine ag.mk ⟨rfl,by omega,by omega⟩ ?_
   refine cd 1 rfl (Il (i:=c.1.toNat) (by omega) _ (by omega)) ?_
   refine bg (s+1) (by show l.length-(s+1)<l.length-s;omega) ab ⟨rfl,rfl,rfl,rfl,a8 (by omega),trivial⟩ (.drop 0 1 (aF ?_))
   rw[hd,qQ,uE]
   rfl
 ·have au:s=l.length:=by have au:¬(s:Int)<l.length:=au;omega
  subst au
  rw[List.take_length]at hlen ⊢
  refine aa 1 ?_
  have fB:((aU (iN a l)).drop 0).take (n*1)=(iN a l).flatMap (Sh.cells (.int .u64)):=by
   rw[List.drop_zero,← oL];exact List.take_of_length_le (by rw[aU,List.length_map];omega)
  exact .cb 0 b 0 n 1 _ (.int .u64) (iN a l) rfl fB ⟨hlen,rfl,by decide⟩ .here (.drop 0 1 (.done ⟨rfl,rfl⟩))
def fh(what:Int)(g k:List Int)(l:List cg)(a:List Int):List Int:=
 if what=3 then (if (a.any fun z=>decide (0=z))=true then List.replicate a.length 0 else iN a l) else eO kJ (eO gZ a k) g
theorem Gg{what:Int}(h:¬what=3)(g k:List Int)(l:List cg)(a:List Int):fh what g k l a=eO kJ (eO gZ a k) g:=if_neg h
theorem FU{what:Int}(h:what=3){a:List Int}(h0:(a.any fun z=>decide (0=z))=true)(g k:List Int)(l:List cg):fh what g k l a=List.replicate a.length 0:=by unfold fh;rw[if_pos h,if_pos h0]
theorem CQ{what:Int}(h:what=3){a:List Int}(h0:(a.any fun z=>decide (0=z))=false)(g k:List Int)(l:List cg):fh what g k l a=iN a l:=by unfold fh;rw[if_pos h,h0];rfl
def sy(what w:Int)(g k:List Int)(l:List cg)(a:List Int):Int:=if er what w g k l=0 then (if bZ what w a=true then 0 else 2) else er what w g k l
theorem W4{what w:Int}{g k:List Int}{l:List cg}{a:List Int}(h:¬er what w g k l=0):sy what w g k l a=er what w g k l:=if_neg h
theorem HG{what w:Int}{g k:List Int}{l:List cg}{a:List Int}(h:er what w g k l=0)(hv:bZ what w a=true):sy what w g k l a=0:=by unfold sy;rw[if_pos h,if_pos hv]
theorem W3{what w:Int}{g k:List Int}{l:List cg}{a:List Int}(h:er what w g k l=0)(hv:bZ what w a=false):sy what w g k l a=2:=by unfold sy;rw[if_pos h,hv];rfl
theorem Ha{what w:Int}{g k:List Int}{l:List cg}(h:er what w g k l=0):cE what w=true∧vV what w g k l=true:=by
 unfold er at h
 cases hi:cE what w with
 | false=>rw[hi]at h;exact absurd h (by simp)
 | true =>
  rw[hi,if_pos rfl]at h
  cases ht:vV what w g k l with
  | false=>rw[ht]at h;exact absurd h (by simp)
  | true=>exact⟨rfl,rfl⟩
theorem TU{what w:Int}{a:List Int}(h:bZ what w a=true)(h3:what=3):(a.length:Int)=w:=by
 have hl:=tF h
 have hi:cE what w=true:=by unfold bZ at h;simp at h;exact h.1.1
 rw[hl];unfold eE;rw[if_pos hi,if_pos h3]
theorem Xf{what w:Int}{a:List Int}(h:bZ what w a=true)(h3:what=3):gm what w=List.replicate a.length 0:=by
 unfold gm
 rw[if_neg (fun h=>by omega),← tF h,Int.toNat_natCast]
theorem Ze(what w:Int)(g k:List Int)(l:List cg)(a:List Int)(σ:Hp)(hg:aS g)(hk:aS k)(ha:aS a)(lg:g.length≤10000)(lk:k.length≤10000)(la:a.length≤10000)(ll:l.length≤1000000):ACalls Tryz.prog 279 [.int .i64 what,.int .i64 w,.agg (trC g k l),.ah (.int .u64) a] σ (az (.tup [.ah (.int .u64) (qd (sy what w g k l a) (fh what g k l a)),.int .i64 (sy what w g k l a)]) σ):=by
 refine okF Tryz.func279 (by kernel_rfl) ?_
 have hm:(eO gZ a k).length≤10000:=by rw[qA];omega
 intro aC
 refine aa 0 ?_
 refine ax [] (HM what w g k l _ hg hk lg lk ll) ?_
 refine dx (fun c2 =>?_) (fun c2 =>?_)
 ·have c2:¬(er what w g k l=0):=by simpa using c2
  rw[W4 c2,Dj c2]
  exact .nil (dK (.nil _) (.refl _)) (.drop 0 1 (.done ⟨rfl,rfl⟩))
 ·have c2:er what w g k l=0:=by simpa using c2
  refine eH [] (EW what w a _ ha (by omega)) (fun cV =>?_) (fun cV =>?_)
  ·refine dx (fun c3 =>?_) (fun c3 =>?_)
   ·have c3:¬(what=3):=by simpa using c3
    refine .quiet (by kernel_rfl) ?_
    refine aa 0 ?_
    refine aD [] (PQ a k _ (by omega) (by omega)) ?_
    refine aa 0 ?_
    refine aD [] (aal (eO gZ a k) g _ (by omega) (by omega)) ?_
    rw[HG c2 cV,zW rfl,Gg c3]
    exact .drop 0 1 (.done ⟨rfl,rfl⟩)
   ·have c3:what=3:=by simpa using c3
    refine eH [] (TH a 0 _ (by omega)) (fun cZ =>?_) (fun cZ =>?_)
    ·refine ax [] (He what w _) ?_
     rw[HG c2 cV,zW rfl,FU c3 cZ,← Xf cV c3]
     exact .drop 0 1 (.done ⟨rfl,rfl⟩)
    ·refine aa 0 ?_
     have hal:l.all (fx a.length)=true:=by
      have ht:=(Ha c2).2
      rw[Bq c3,Bool.and_eq_true]at ht
      rw[TU cV c3];exact ht.2
     rw[HG c2 cV,zW rfl,CQ c3 cZ]
     refine ax [] (acD a l _ ha la ll hal) ?_
     exact .drop 0 1 (.done ⟨rfl,rfl⟩)
  ·rw[W3 c2 cV,Dj (by decide)]
   exact .nil (dK (.nil _) (.refl _)) (.drop 0 1 (.done ⟨rfl,rfl⟩))
end Go.Proofs.YtnpidbjdilnhlaaGreat
