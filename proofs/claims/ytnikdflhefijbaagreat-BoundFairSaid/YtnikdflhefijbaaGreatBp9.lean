import Derived.Test.YtnikdflhefijbaaGreatBp7
import Derived.Test.YtnikdflhefijbaaGreatBp8
import Derived.Shelf.Slices.CompactI
import Derived.Shelf.Slices.In.SortNone
import Derived.Shelf.Sort.Plain
namespace Go.Proofs.YtnikdflhefijbaaGreat
open Go.RowKit
set_option maxRecDepth 100000
def dC(what width:Int):Bool:=decide (1≤what)&&decide (what≤3)&&decide (0≤width)&&decide (width≤1024)
def er(what:Int)(xs ys:List Int):List Int:=List.zipWith (dx what) xs ys
theorem IY(what width:Int)(σ:Hp):ACalls Tryz.prog 152 [.int .i64 what,.int .i64 width] σ (aE (.bool (dC what width)) σ):=by
 refine aA Tryz.func152 ?_
 have hk:∀w:Int,(1≤w∧w≤3)↔(w=1∨w=2∨w=3):=fun w=>by omega
 have hI:dC what width=(decide (what=1∨what=2∨what=3)&&decide (0≤width)&&decide (width≤1024)):=by
  unfold dC
  rw[← Bool.decide_and,decide_eq_decide.2 (hk what)]
 rw[hI]
 refine aq (fun c1=>?_) (fun c1=>?_)
 ·have c1:what=1:=c1
  have hw:(what=1∨what=2∨what=3):=.inl c1
  refine aq (fun d1=>?_) (fun d1=>?_)
  ·have d1:0≤width:=d1
   refine aq (fun d2=>?_) (fun d2=>?_)
   ·have d2:width≤1024:=d2
    rw[aY hw,aY d1,aY d2]
    exact .done ⟨rfl,rfl⟩
   ·have d2:¬width≤1024:=d2
    rw[aY hw,aY d1,b9 d2]
    exact .done ⟨rfl,rfl⟩
  ·have d1:¬0≤width:=d1
   rw[aY hw,b9 d1]
   exact .done ⟨rfl,rfl⟩
 ·have c1:¬what=1:=c1
  refine aq (fun c2=>?_) (fun c2=>?_)
  ·have c2:what=2:=c2
   have hw:(what=1∨what=2∨what=3):=.inr (.inl c2)
   refine aq (fun d1=>?_) (fun d1=>?_)
   ·have d1:0≤width:=d1
    refine aq (fun d2=>?_) (fun d2=>?_)
    ·have d2:width≤1024:=d2
     rw[aY hw,aY d1,aY d2]
     exact .done ⟨rfl,rfl⟩
    ·have d2:¬width≤1024:=d2
     rw[aY hw,aY d1,b9 d2]
     exact .done ⟨rfl,rfl⟩
   ·have d1:¬0≤width:=d1
    rw[aY hw,b9 d1]
    exact .done ⟨rfl,rfl⟩
  ·have c2:¬what=2:=c2
   refine aq (fun c3=>?_) (fun c3=>?_)
   ·have c3:what=3:=c3
    have hw:(what=1∨what=2∨what=3):=.inr (.inr c3)
    refine aq (fun d1=>?_) (fun d1=>?_)
    ·have d1:0≤width:=d1
     refine aq (fun d2=>?_) (fun d2=>?_)
     ·have d2:width≤1024:=d2
      rw[aY hw,aY d1,aY d2]
      exact .done ⟨rfl,rfl⟩
     ·have d2:¬width≤1024:=d2
      rw[aY hw,aY d1,b9 d2]
      exact .done ⟨rfl,rfl⟩
    ·have d1:¬0≤width:=d1
     rw[aY hw,b9 d1]
     exact .done ⟨rfl,rfl⟩
   ·have c3:¬what=3:=c3
    rw[b9 (p:=what=1∨what=2∨what=3) (fun h=>h.elim c1 fun h=>h.elim c2 c3)]
    exact .done ⟨rfl,rfl⟩
def ft(what width:Int):Int:=if dC what width=true then (if what=3 then width else (eX width:Int)) else 0
theorem Dz(what width:Int)(σ:Hp):ACalls Tryz.prog 85 [.int .i64 what,.int .i64 width] σ (aE (.int .i64 (ft what width)) σ):=by
 refine aA Tryz.func85 ?_
 unfold ft
 refine fM [] (IY what width _) (fun hi=>?_) (fun hi=>?_)
 ·rw[ag hi]
  have h3:(what=1∨what=2∨what=3):=by unfold dC at hi;simp at hi;omega
  refine aq (fun c1=>?_) (fun c1=>?_)
  ·have c1:what=1:=c1
   rw[ah (by omega)]
   refine aB [] (HC width _) ?_
   exact .done ⟨rfl,rfl⟩
  ·have c1:¬what=1:=c1
   refine aq (fun c2=>?_) (fun c2=>?_)
   ·have c2:what=2:=c2
    rw[ah (by omega)]
    refine aB [] (HC width _) ?_
    exact .done ⟨rfl,rfl⟩
   ·have c2:¬what=2:=c2
    rw[ag (by omega)]
    exact .done ⟨rfl,rfl⟩
 ·rw[ah (by rw[hi];decide)]
  exact .done ⟨rfl,rfl⟩
theorem CI(what width:Int):0≤ft what width∧ft what width≤1024:=by
 unfold ft
 by_cases h:dC what width=true
 ·rw[ag h]
  have:=CZ width
  unfold dC at h;simp at h
  split <;> omega
 ·rw[ah h];omega
def okW(a:List Int):Bool:=a.all fun z=>decide (bR z=z)
def cR(what w:Int)(a:List Int):Bool:=dC what w&&decide ((a.length:Int)=ft what w)&&(if what=3 then okW a else gq a w)
theorem ae8(w:Int):(iG w||decide (w=0)||decide (w=1))=decide (bR w=w):=by
 unfold bR
 by_cases h0:w=0
 ·simp[h0]
 ·by_cases h1:w=1
  ·simp[h1]
  ·cases h2:iG w with
   |true=>simp[h0,h1]
   |false=>simp[h0,h1];exact fun h=>h1 h.symm
theorem aiq(z:Int)(σ:Hp):ACalls Tryz.prog 201 [.int .u64 z] σ (aE (.bool (!decide (bR z=z))) σ):=by
 refine aA Tryz.func201 ?_
 refine aB [] (aIs z _) ?_
 rw[ae8]
 exact .done ⟨rfl,rfl⟩
theorem adW(a:List Int):(!a.any fun z=> !decide (bR z=z))=okW a:=by
 unfold okW
 rw[List.all_eq_not_any_not]
theorem IZ(what w:Int)(a:List Int)(σ:Hp)(ha:bA a)(hl:a.length≤1000000):ACalls Tryz.prog 148 [.int .i64 what,.int .i64 w,.ai (.int .u64) a] σ (aE (.bool (cR what w a)) σ):=by
 refine aA Tryz.func148 ?_
 have sR:=CI what w
 unfold cR
 refine fM [] (IY what w _) (fun hi=>?_) (fun hi=>?_)
 ·refine aB [] (Dz what w _) ?_
  refine eG (fun c=>?_) (fun c=>?_)
  ·have c:(!decide ((a.length:Int)=ft what w))=true:=c
   have c:¬((a.length:Int)=ft what w):=by simpa using c
   rw[hi,b9 c]
   exact .done ⟨rfl,rfl⟩
  ·have c:(!decide ((a.length:Int)=ft what w))=false:=c
   have c:(a.length:Int)=ft what w:=by simpa using c
   rw[hi,aY c]
   refine eG (fun c3=>?_) (fun c3=>?_)
   ·have c3:¬(what=3):=by simpa using c3
    rw[ah c3]
    refine aB [] (DC a w _ ha (by omega)) ?_
    exact .done ⟨rfl,rfl⟩
   ·have c3:what=3:=by simpa using c3
    rw[ag c3,← adW]
    refine aB [] (Zm 201 [] a (fun z:Int=> !decide (bR z=z)) _ hl (fun i hi=>aiq _ _)) ?_
    exact .done ⟨rfl,rfl⟩
 ·rw[hi]
  exact .done ⟨rfl,rfl⟩
def DJ(what w:Int)(l:List (List Int)):Int:=if dC what w then (if (l.any fun a=> !cR what w a) then 2 else 0) else 10
theorem aaz{what w:Int}{a b:List Int}(h:DJ what w [a,b]=0):cR what w a=true∧cR what w b=true:=by
 unfold DJ at h
 cases hi:dC what w with
 |false=>rw[hi]at h;exact absurd h (by simp)
 |true=>
  rw[hi,ag rfl]at h
  cases ha:cR what w a with
  |false=>simp[ha]at h
  |true=>
   cases hb:cR what w b with
   |false=>simp[ha,hb]at h
   |true=>exact⟨rfl,rfl⟩
theorem xp{what w:Int}{a:List Int}(h:cR what w a=true):(a.length:Int)=ft what w:=by
 unfold cR at h;simp at h;exact h.1.2
def sO(e:Int)(l:List Int):List Int:=if e=0 then l else []
theorem Dm{e:Int}{l:List Int}(h:e=0):sO e l=l:=ag h
theorem Hs{e:Int}{l:List Int}(h:¬e=0):sO e l=[]:=ah h
theorem xz{what:Int}:∀{xs ys:List Int},bA xs→bA ys→bA (er what xs ys)
 | [],_,_,_=>fun z hz=>by simp[er]at hz
 |_::_,[],_,_=>fun z hz=>by simp[er]at hz
 |x::xs,y::ys,hx,hy=>fun z hz=>by
  rcases da.1 (show z∈dx what x y::er what xs ys from hz) with rfl | hz
  ·exact TL (hx _ (bV ..)) (hy _ (bV ..))
  ·exact xz (fun a ha=>hx a (cE _ ha)) (fun a ha=>hy a (cE _ ha)) z hz
def zg(what w:Int)(xs ys:List Int):Bool:=decide (DJ what w [xs,ys]=0)&&decide (er what xs ys=ys)
def iM(what w:Int):List Int:=if what=2∧dC what w=true then gd w else List.replicate (ft what w).toNat 0
theorem LQ(what w:Int)(σ:Hp):ACalls Tryz.prog 149 [.int .i64 what,.int .i64 w] σ (aE (.ai (.int .u64) (iM what w)) σ):=by
 refine aA Tryz.func149 ?_
 have hw:=CI what w
 have hz:iM what w=List.replicate (ft what w).toNat 0→∀q,Fin (aE (.ai (.int .u64) (iM what w)) σ) (.ae q 0 (ft what w).toNat 1) ((q,cz [.int .u64 0] (ft what w).toNat)::σ):=fun hb q=>by
  rw[L3,← hb]
  have hl:(iM what w).length=(ft what w).toNat:=by rw[hb,fZ]
  generalize iM what w=Z at hl
  refine .cI 0 q 0 _ 1 _ (.int .u64) Z rfl ?_ ⟨hl,rfl,by decide⟩ .here (.done ⟨rfl,rfl⟩)
  rw[iB,← rb]
  exact eZ (by rw[bB,cb,hl];omega)
 refine aq (fun c=>?_) (fun c=>?_)
 ·have c:what=2:=c
  refine fM [] (IY what w _) (fun hi=>?_) (fun hi=>?_)
  ·refine aB [] (Wl w _) ?_
   have hb:iM what w=gd w:=ag ⟨c,hi⟩
   rw[hb]
   exact .done ⟨rfl,rfl⟩
  ·refine aB [] (Dz what w _) ?_
   refine aU ?_
   intro q
   exact hz (ah fun h=>Bool.noConfusion (hi.symm.trans h.2)) q
 ·have c:¬what=2:=c
  refine aB [] (Dz what w _) ?_
  refine aU ?_
  intro q
  exact hz (ah fun h=>c h.1) q
def isN(x y:Int):Bool:=decide (x=aQ x)&&decide (y=aQ y)
def ru(w:Int)(r:pR):Bool:=if r.1 = -1 then isN r.2.1.1 r.2.1.2.1 else decide (0≤r.1)&&decide (r.1<w)&&(decide (r.2.1.1=0)&&decide (r.2.1.2.1=0))
theorem eq2(x y:Int):fH (tT (nC x y) (nC 0 0))=(decide (x=0)&&decide (y=0)):=by
 show (decide (x=0)&&(decide (y=0)&&true))=_
 rw[JG]
theorem Wi(w:Int)(r:pR)(σ:Hp):ACalls Tryz.prog 254 [.int .i64 w,.agg (Iu r)] σ (aE (.bool (ru w r)) σ):=by
 obtain⟨v,⟨x,y,u⟩,u2⟩:=r
 refine aA Tryz.func254 ?_
 unfold ru
 show vP Tryz.prog tt _ [.int .i64 w,.agg [.int .i64 v,.int .i64 x,.int .i64 y]] σ (aE (.bool (if v = -1 then isN x y else decide (0≤v)&&decide (v<w)&&(decide (x=0)&&decide (y=0)))) σ)
 intro aG
 refine aa 0 ?_
 refine aq (fun c2=>?_) (fun c2=>?_)
 ·have c2:v = -1:=c2
  refine aa 0 ?_
  refine aB [] (ai1 _ _ _) ?_
  exact .drop 0 1 (.done ⟨eb (by rw[ag c2];rfl),rfl⟩)
 ·have c2:¬(v = -1):=c2
  refine aa 0 ?_
  refine aq (fun c3=>?_) (fun c3=>?_)
  ·have c3:0≤v:=c3
   refine aa 0 ?_
   refine aq (fun c4=>?_) (fun c4=>?_)
   ·have c4:v<w:=c4
    refine aa 0 ?_
    refine EqAt.mk (by kernel_rfl) (by kernel_rfl) ?_
    refine eG (fun c5=>?_) (fun c5=>?_)
    ·have c5:=(eq2 x y).symm.trans c5
     exact .drop 0 1 (.done ⟨eb (by rw[ah c2,aY c3,aY c4,c5];rfl),rfl⟩)
    ·have c5:=(eq2 x y).symm.trans c5
     exact .drop 0 1 (.done ⟨eb (by rw[ah c2,aY c3,aY c4,c5];rfl),rfl⟩)
   ·have c4:¬(v<w):=c4
    exact .drop 0 1 (.done ⟨eb (by rw[ah c2,aY c3,b9 c4];rfl),rfl⟩)
  ·have c3:¬(0≤v):=c3
   exact .drop 0 1 (.done ⟨eb (by rw[ah c2,b9 c3];rfl),rfl⟩)
def NB(r:pR):Bool:=decide (r.1=0)&&(decide (r.2.1.1=0)&&decide (r.2.1.2.1=0))
theorem Ko(r:pR):fH (tT (Iu r) [.int .i64 0,.int .i64 0,.int .i64 0])=NB r:=by
 show (decide (r.1=0)&&(decide (r.2.1.1=0)&&(decide (r.2.1.2.1=0)&&true)))=_
 rw[JG];rfl
def gE(w:Int)(c:de):Bool:=if c.1<0 then false else if w≤c.1 then false else if c.2.1 < -1 then false else if 4<c.2.1 then false else if c.2.1 = -1 then NB c.2.2.1&&NB c.2.2.2.1 else ru w c.2.2.1&&ru w c.2.2.2.1
theorem ag1(w:Int)(c:de)(σ:Hp):ACalls Tryz.prog 209 [.int .i64 w,.agg (Wb c)] σ (aE (.bool (gE w c)) σ):=by
 refine aA Tryz.func209 ?_
 intro aG
 refine aa 0 ?_
 refine aq (fun c2=>?_) (fun c2=>?_)
 ·have c2:c.fst<0:=c2
  exact .drop 0 1 (.done ⟨eb (by simp[gE, *]),rfl⟩)
 ·have c2:¬(c.fst<0):=c2
  refine aa 0 ?_
  refine aq (fun c3=>?_) (fun c3=>?_)
  ·have c3:w≤c.fst:=c3
   exact .drop 0 1 (.done ⟨eb (by simp[gE, *]),rfl⟩)
  ·have c3:¬(w≤c.fst):=c3
   refine aa 0 ?_
   refine aq (fun c4=>?_) (fun c4=>?_)
   ·have c4:c.snd.fst < -1:=c4
    exact .drop 0 1 (.done ⟨eb (by simp[gE, *]),rfl⟩)
   ·have c4:¬(c.snd.fst < -1):=c4
    refine aa 0 ?_
    refine aq (fun c5=>?_) (fun c5=>?_)
    ·have c5:4<c.snd.fst:=c5
     exact .drop 0 1 (.done ⟨eb (by simp[gE, *]),rfl⟩)
    ·have c5:¬(4<c.snd.fst):=c5
     refine aa 0 ?_
     refine aq (fun c6=>?_) (fun c6=>?_)
     ·have c6:c.snd.fst = -1:=c6
      refine aa 0 ?_
      refine EqAt.mk (by kernel_rfl) (by kernel_rfl) ?_
      refine eG (fun c7=>?_) (fun c7=>?_)
      ·have c7:=(Ko c.2.2.1).symm.trans c7
       refine aa 0 ?_
       refine EqAt.mk (by kernel_rfl) (by kernel_rfl) ?_
       refine eG (fun c8=>?_) (fun c8=>?_)
       ·have c8:=(Ko c.2.2.2.1).symm.trans c8
        exact .drop 0 1 (.done ⟨eb (by simp[gE, *]),rfl⟩)
       ·have c8:=(Ko c.2.2.2.1).symm.trans c8
        exact .drop 0 1 (.done ⟨eb (by simp[gE, *]),rfl⟩)
      ·have c7:=(Ko c.2.2.1).symm.trans c7
       exact .drop 0 1 (.done ⟨eb (by simp[gE, *]),rfl⟩)
     ·have c6:¬(c.snd.fst = -1):=c6
      refine aa 0 ?_
      refine fM [] (Wi w c.2.2.1 _) (fun cA=>?_) (fun cA=>?_)
      ·refine aa 0 ?_
       refine fM [] (Wi w c.2.2.2.1 _) (fun cB=>?_) (fun cB=>?_)
       ·exact .drop 0 1 (.done ⟨eb (by simp[gE, *]),rfl⟩)
       ·exact .drop 0 1 (.done ⟨eb (by simp[gE, *]),rfl⟩)
      ·exact .drop 0 1 (.done ⟨eb (by simp[gE, *]),rfl⟩)
abbrev lX:Sh:=.field (.slice (.int .u64)) (.field (.slice (.int .u64)) (.field (.slice jL) .nil))
abbrev trC(g k:List Int)(l:List de):List AV:=[.ai (.int .u64) g,.ai (.int .u64) k,.ai jL l]
theorem ad8(w:Int)(c:de)(q:Nat)(σ:Hp):ACalls Tryz.prog 208 [Ig c,.ptr q 0] ((q,[.int .i64 w])::σ) (aE (.bool (!gE w c)) ((q,[.int .i64 w])::σ)):=by
 refine aA Tryz.func208 ?_
 unfold Ig
 intro aG
 refine aa 1 ?_
 refine aa 0 ?_
 refine aB [] (ag1 w c _) ?_
 exact .drop 0 1 (.done ⟨rfl,rfl⟩)
def zt(what w:Int)(g k:List Int)(l:List de):Bool:=if what=3 then decide (g.length+k.length=0)&&(l.all (gE w)) else decide (l.length=0)&&gq g w&&gq k w
def fC(what w:Int)(g k:List Int)(l:List de):Int:=if dC what w=true then (if zt what w g k l=true then 0 else 2) else 10
theorem UL{α:Type}(l:List α){p:α→Bool}:l.all p = !l.any fun c=> !p c:=List.all_eq_not_any_not ..
theorem Wf{w:Int}(l:List de){b:Bool}(h:(l.any fun c=> !gE w c)=b):l.all (gE w) = !b:=by rw[UL,h]
theorem N2{what w:Int}{g k:List Int}{l:List de}(hi:dC what w=true)(ht:zt what w g k l=true):0=fC what w g k l:=by unfold fC;rw[ag hi,ag ht]
theorem x8{what w:Int}{g k:List Int}{l:List de}(hi:dC what w=true)(ht:zt what w g k l=false):2=fC what w g k l:=by unfold fC;rw[ag hi,ht];rfl
theorem Nl{what w:Int}{g k:List Int}{l:List de}(hi:dC what w=false):10=fC what w g k l:=by unfold fC;rw[hi];rfl
theorem wj{what w:Int}{g k:List Int}{l:List de}(h:¬what=3):zt what w g k l=(decide (l.length=0)&&gq g w&&gq k w):=ah h
theorem EO{what w:Int}{g k:List Int}{l:List de}(h:what=3):zt what w g k l=(decide (g.length+k.length=0)&&(l.all (gE w))):=ag h
theorem rp{what w:Int}(h:1≤what∧what≤3∧0≤w∧w≤1024):dC what w=true:=by unfold dC;simp;omega
theorem Na{what w:Int}(h:¬(1≤what∧what≤3∧0≤w∧w≤1024)):dC what w=false:=by unfold dC;simp;omega
theorem Mr(what w:Int)(g k:List Int)(l:List de)(σ:Hp)(hg:bA g)(hk:bA k)(lg:g.length≤10000)(lk:k.length≤10000)(ll:l.length≤1000000):ACalls Tryz.prog 151 [.int .i64 what,.int .i64 w,.agg (trC g k l)] σ (aE (.int .i64 (fC what w g k l)) σ):=by
 refine aA Tryz.func151 ?_
 intro aG
 intro eV
 refine aa 1 ?_
 refine aq (fun c3=>?_) (fun c3=>?_)
 ·have c3:w<0:=c3
  exact .drop 0 2 (.done ⟨aW (Nl (Na (by omega))),rfl⟩)
 ·have c3:¬(w<0):=c3
  refine aa 1 ?_
  refine aq (fun c4=>?_) (fun c4=>?_)
  ·have c4:1024<w:=c4
   exact .drop 0 2 (.done ⟨aW (Nl (Na (by omega))),rfl⟩)
  ·have c4:¬(1024<w):=c4
   refine aq (fun c5=>?_) (fun c5=>?_)
   ·have c5:what=1:=c5
    refine aa 0 ?_
    refine aa 1 ?_
    refine fM [] (DC g w _ hg lg) (fun cG=>?_) (fun cG=>?_)
    ·refine aa 0 ?_
     refine aa 1 ?_
     refine fM [] (DC k w _ hk lk) (fun cK=>?_) (fun cK=>?_)
     ·refine aa 0 ?_
      refine aq (fun c6=>?_) (fun c6=>?_)
      ·have c6:(↑l.length:Int)=0:=c6
       have ie:decide (l.length=0)=true:=aY (by have h0:(l.length:Int)=0:=c6;omega)
       exact .drop 0 2 (.done ⟨aW (N2 (rp (by omega)) (by rw[wj (by omega),ie,cG,cK];rfl)),rfl⟩)
      ·have c6:¬((↑l.length:Int)=0):=c6
       have ie:decide (l.length=0)=false:=b9 (by have h0:¬(l.length:Int)=0:=c6;omega)
       exact .drop 0 2 (.done ⟨aW (x8 (rp (by omega)) (by rw[wj (by omega),ie];rfl)),rfl⟩)
     ·exact .drop 0 2 (.done ⟨aW (x8 (rp (by omega)) (by rw[wj (by omega),cK];simp)),rfl⟩)
    ·exact .drop 0 2 (.done ⟨aW (x8 (rp (by omega)) (by rw[wj (by omega),cG];simp)),rfl⟩)
   ·have c5:¬(what=1):=c5
    refine aq (fun c7=>?_) (fun c7=>?_)
    ·have c7:what=2:=c7
     refine aa 0 ?_
     refine aa 1 ?_
     refine fM [] (DC g w _ hg lg) (fun cG=>?_) (fun cG=>?_)
     ·refine aa 0 ?_
      refine aa 1 ?_
      refine fM [] (DC k w _ hk lk) (fun cK=>?_) (fun cK=>?_)
      ·refine aa 0 ?_
       refine aq (fun c8=>?_) (fun c8=>?_)
       ·have c8:(↑l.length:Int)=0:=c8
        have ie:decide (l.length=0)=true:=aY (by have h0:(l.length:Int)=0:=c8;omega)
        exact .drop 0 2 (.done ⟨aW (N2 (rp (by omega)) (by rw[wj (by omega),ie,cG,cK];rfl)),rfl⟩)
       ·have c8:¬((↑l.length:Int)=0):=c8
        have ie:decide (l.length=0)=false:=b9 (by have h0:¬(l.length:Int)=0:=c8;omega)
        exact .drop 0 2 (.done ⟨aW (x8 (rp (by omega)) (by rw[wj (by omega),ie];rfl)),rfl⟩)
      ·exact .drop 0 2 (.done ⟨aW (x8 (rp (by omega)) (by rw[wj (by omega),cK];simp)),rfl⟩)
     ·exact .drop 0 2 (.done ⟨aW (x8 (rp (by omega)) (by rw[wj (by omega),cG];simp)),rfl⟩)
    ·have c7:¬(what=2):=c7
     refine aq (fun c9=>?_) (fun c9=>?_)
     ·have c9:what=3:=c9
      refine aa 0 ?_
      refine aa 0 ?_
      refine aq (fun jV=>?_) (fun jV=>?_)
      ·have jV:IntKind.i64.wrap ((↑g.length:Int)+(↑k.length:Int))=0:=jV
       refine aa 0 ?_
       rw[dh (by omega)]at jV
       refine fM [1] (Zp 208 [.ptr aG 0] l (fun c=> !gE w c) _ ll (fun i hi=>ad8 w l[i] aG _)) (fun cL=>?_) (fun cL=>?_)
       ·exact .drop 0 2 (.done ⟨aW (x8 (rp (by omega)) (by rw[EO c9,Wf l cL];simp)),rfl⟩)
       ·exact .drop 0 2 (.done ⟨aW (N2 (rp (by omega)) (by rw[EO c9,Wf l cL,aY (by omega)];rfl)),rfl⟩)
      ·have jV:¬(IntKind.i64.wrap ((↑g.length:Int)+(↑k.length:Int))=0):=jV
       exact .drop 0 2 (.done ⟨aW (x8 (rp (by omega)) (by rw[dh (by omega)]at jV;rw[EO c9,b9 (by omega)];rfl)),rfl⟩)
     ·have c9:¬(what=3):=c9
      exact .drop 0 2 (.done ⟨aW (Nl (Na (by omega))),rfl⟩)
def l7(a:List Int)(r:pR):Int:=if r.1 = -1 then oN r.2.1.1 r.2.1.2.1 else wd a r.1.toNat
def qx(a:List Int)(c:de):Int:=if c.2.1 = -1 then 1 else mM c.2.1 (l7 a c.2.2.1) (l7 a c.2.2.2.1)
def tN(a:List Int)(c:de):List Int:=a.set c.1.toNat (qx a c)
def kl(a:List Int)(l:List de):List Int:=l.foldl tN a
theorem Al(a:List Int)(c:de):(tN a c).length=a.length:=ck ..
theorem KM(a:List Int)(l:List de):(kl a l).length=a.length:=by
 unfold kl
 induction l generalizing a with
 |nil=>rfl
 |cons c l ih=>exact (ih _).trans (Al a c)
theorem acy(a:List Int)(l:List de)(c:de):kl a (l++[c])=tN (kl a l) c:=by
 unfold kl;rw[sa];rfl
theorem Vg(x y:Int):bM (oN x y):=by
 have h1:=G0 x y
 have h2:=Li x y
 unfold bM oN;omega
theorem TU{a:List Int}(ha:bA a)(r:pR):bM (l7 a r):=by
 unfold l7;split
 ·exact Vg _ _
 ·exact oe ha _
theorem adO(op a b:Int):bM (pJ op a b):=by
 unfold pJ pH
 split
 ·exact⟨by omega,by omega⟩
 ·split
  ·exact⟨by omega,by omega⟩
  ·split
   ·exact Vg _ _
   ·exact⟨by omega,by omega⟩
theorem afw(op a b:Int):bM (mM op a b):=by unfold mM;split <;> exact adO _ _ _
theorem ae2(a:List Int)(c:de):bM (qx a c):=by
 unfold qx;split
 ·exact⟨by omega,by omega⟩
 ·exact afw _ _ _
theorem aff{a:List Int}(ha:bA a){i:Nat}{z:Int}(hz:bM z):bA (a.set i z):=fun x hx=>by
 rcases qb hx with h | rfl
 ·exact ha x h
 ·exact hz
theorem Vt{a:List Int}(ha:bA a)(l:List de):bA (kl a l):=by
 unfold kl
 induction l generalizing a with
 |nil=>exact ha
 |cons c l ih=>exact ih (aff ha (ae2 a c))
theorem GS{w:Int}{c:de}(h:gE w c=true):0≤c.1∧c.1<w:=by
 unfold gE at h
 by_cases h1:c.1<0
 ·rw[ag h1]at h;exact absurd h (by decide)
 ·by_cases h2:w≤c.1
  ·rw[ah h1,ag h2]at h;exact absurd h (by decide)
  ·omega
theorem LK{w:Int}{c:de}(h:gE w c=true): -1≤c.2.1∧(¬c.2.1 = -1→ru w c.2.2.1=true∧ru w c.2.2.2.1=true):=by
 have hv:=GS h
 unfold gE at h
 rw[ah (by omega),ah (by omega)]at h
 by_cases h1:c.2.1 < -1
 ·rw[ag h1]at h;exact absurd h (by decide)
 ·rw[ah h1]at h
  by_cases h2:4<c.2.1
  ·rw[ag h2]at h;exact absurd h (by decide)
  ·rw[ah h2]at h
   refine⟨by omega,fun h3=>?_⟩
   rw[ah h3]at h
   exact Bool.and_eq_true_iff.1 h
theorem K1{w:Int}{r:pR}(h:ru w r=true)(h1:¬r.1 = -1):0≤r.1∧r.1<w:=by
 unfold ru at h
 rw[ah h1]at h
 simp at h
 exact h.1
theorem aiu(a:List Int)(r:pR)(q b:Nat)(σ:Hp)(hr:ru a.length r=true):ACalls Tryz.prog 330 [.agg (Iu r),.ptr q 0] ((q,[.ae b 0 a.length 1])::(b,bB a)::σ) (aE (.int .u64 (l7 a r)) ((q,[.ae b 0 a.length 1])::(b,bB a)::σ)):=by
 refine aA Tryz.func330 ?_
 intro aG
 refine aa 0 ?_
 refine aq (fun c2=>?_) (fun c2=>?_)
 ·have c2:r.fst = -1:=c2
  refine aa 0 ?_
  refine aB [] (Ie _ _ _) ?_
  have e:l7 a r=oN r.2.1.1 r.2.1.2.1:=ag c2
  exact .drop 0 1 (.done ⟨aW e.symm,rfl⟩)
 ·have c2:¬(r.fst = -1):=c2
  refine aa 1 ?_
  refine aa 0 ?_
  have hv:=K1 hr c2
  have e:l7 a r=wd a r.1.toNat:=ah c2
  refine aH.mk ⟨rfl,hv.1,hv.2⟩ ?_
  refine aT 2 rfl (V9 (i:=r.1.toNat) (by omega) (by omega)) ?_
  exact .drop 0 1 (.done ⟨aW e.symm,rfl⟩)
theorem W7(a:List Int)(n:Nat)(hn:a.length=n)(r:pR)(q b:Nat)(σ:Hp)(hr:ru n r=true):ACalls Tryz.prog 330 [.agg (Iu r),.ptr q 0] ((q,[.ae b 0 n 1])::(b,bB a)::σ) (aE (.int .u64 (l7 a r)) ((q,[.ae b 0 n 1])::(b,bB a)::σ)):=by
 subst hn
 exact aiu a r q b σ hr
theorem UU(l:List Int)(σ:Hp)(hl:l.length≤1000000):ACalls Tryz.prog 256 [.ai (.int .u64) l] σ (fun x σ'=>∃acc,Acc 1 l.length x acc (bB l)∧σ'=acc++σ):=by
 refine CH (fun h=>⟨?_,?_⟩) (fun h=>?_)
 ·subst h
  refine aA Tryz.func256 ?_
  exact .done ⟨[],.nil,rfl⟩
 ·subst h
  refine aA Tryz.func256 ?_
  intro b
  refine AppendAt.more 0 b 0 0 [] _ rfl rfl (cT rfl) .gz (by decide) (by decide) (by decide) (fun b'=>?_)
  exact .done ⟨[(b',[])],.ae b' 0 [] rfl,rfl⟩
 ·refine aA Tryz.func256 ?_
  refine aH.mk (mm.2 h) ?_
  intro b
  refine AppendAt.more 0 b 0 l.length [] _ rfl rfl (cT rfl) (.ai (.int .u64) l rfl) (by omega) (by decide) (by decide) (fun b'=>?_)
  refine .done ⟨[(b',bB l)],?_,?_⟩
  ·rw[Nat.zero_add];exact .ae b' l.length _ (by simp[bB])
  ·show (b',[]++l.flatMap (Sh.cells (.int .u64)))::σ=_
   rw[rb];rfl
theorem aik(a:List Int)(l:List de)(σ:Hp)(ha:bA a)(la:a.length≤10000)(ll:l.length≤1000000)(hl:l.all (gE a.length)=true):ACalls Tryz.prog 302 [.ai (.int .u64) a,.ai jL l] σ (aE (.ai (.int .u64) (kl a l)) σ):=by
 refine aA Tryz.func302 ?_
 intro q
 refine aa 0 ?_
 refine .mk [] _ (UU a _ (by omega)) ?_
 rintro v σ' ⟨acc,cC,rfl⟩
 generalize hn:a.length=n at cC la hl
 generalize kH:bB a=cs at cC
 cases cC with
 |nil=>
  have h0:a=[]:=iS.1 hn
  subst h0
  cases l with
  |cons c l=>
   have:=GS (fp.1 hl c (bV ..))
   exact absurd this (by omega)
  |nil=>
   refine an 0 ?_
   refine cj (S:=Unit) (fun _=>[(2,.ptr q 0),(12,.int .i64 0),(13,.int .i64 0)]) (fun _=>(q,[.aj])::σ) (fun _=>True) (fun _=>0) () ⟨trivial,⟨rfl,rfl,rfl,trivial⟩,rfl⟩ ?_
   rintro _ _ _
   refine aa 0 ?_
   exact .drop 0 1 (.nil (.nil _) (.done ⟨rfl,rfl⟩))
 |ae b n cs h=>
 subst kH
 refine an 1 ?_
 refine cj (S:=Nat) (fun s=>[(2,.ptr q 0),(5,.fn (.func 330) [] [.ptr q 0]),(11,.ai jL l),(12,.int .i64 l.length),(13,.int .i64 s)]) (fun s=>(b,bB (kl a (l.take s)))::(q,[.ae b 0 n 1])::σ) (fun s=>s≤l.length) (fun s=>l.length-s) 0 ⟨bK _,⟨rfl,rfl,rfl,rfl,rfl,trivial⟩,rfl⟩ ?_
 intro s t sT
 have hs:s≤l.length:=sT
 clear sT
 have hA:bA (kl a (l.take s)):=Vt ha _
 have hlen:(kl a (l.take s)).length=n:=(KM a _).trans hn
 refine aq (fun ab=>?_) (fun ay=>?_)
 ·have ab:s<l.length:=by have ab:(s:Int)<l.length:=ab;omega
  have hd:=acy a (l.take s) l[s]
  rw[← fQ ab]at hd
  have pZ:=fp.1 hl l[s] (cD ab)
  obtain⟨c,hc⟩:∃c:de,l[s]=c:=⟨_,rfl⟩
  rw[hc]at hd pZ
  have hv:=GS pZ
  have ho:=LK pZ
  refine aH.mk rfl (cg.mk c (by omega) ((get_some ab).trans (congrArg some hc)) ?_)
  clear hc pZ
  generalize kl a (l.take s)=A at hA hlen hd
  intro eV
  refine an 0 ?_
  refine aa 0 ?_
  refine aq (p:=c.2.1 = -1) (fun d5=>?_) (fun d5=>?_)
  ·refine aa 2 ?_
   refine aa 0 ?_
   refine aK ?_
   have rR:qx A c=1:=ag d5
   refine cU 1 rfl (M0 (i:=c.1.toNat) (by omega) _ (by omega)) ?_
   refine aZ (s+1) (by show l.length-(s+1)<l.length-s;omega) ab ⟨rfl,rfl,rfl,rfl,bu (by omega),trivial⟩ (.drop 0 1 (aJ ?_))
   rw[hd,tN,rR]
   rfl
  ·have ho2:=ho.2 d5
   have rR:qx A c=mM c.2.1 (l7 A c.2.2.1) (l7 A c.2.2.2.1):=ah d5
   refine .sched [8,12,13] (upto [8,12,13] 16 0) (by kernel_rfl) ?_
   refine aa 2 ?_
   refine aa 0 ?_
   refine aa 0 ?_
   refine aa 0 ?_
   refine aI [2,1] (W7 A n hlen c.2.2.1 q b _ ho2.1) ?_
   refine aa 0 ?_
   refine aI [2,1] (W7 A n hlen c.2.2.2.1 q b _ ho2.2) ?_
   refine aI [] (aiv _ _ _ _ (TU hA _) (TU hA _)) ?_
   refine aK ?_
   refine cU 1 rfl (M0 (i:=c.1.toNat) (by omega) _ (by omega)) ?_
   refine aZ (s+1) (by show l.length-(s+1)<l.length-s;omega) ab ⟨rfl,rfl,rfl,rfl,bu (by omega),trivial⟩ (.drop 0 1 (aJ ?_))
   rw[hd,tN,rR]
   rfl
 ·have ay:s=l.length:=by have ay:¬(s:Int)<l.length:=ay;omega
  subst ay
  rw[ig]at hlen ⊢
  refine aa 1 ?_
  have gG:((bB (kl a l)).drop 0).take (n*1)=(kl a l).flatMap (Sh.cells (.int .u64)):=by
   rw[iB,← rb];exact eZ (by rw[bB,cb];omega)
  exact .cI 0 b 0 n 1 _ (.int .u64) (kl a l) rfl gG ⟨hlen,rfl,by decide⟩ .here (.drop 0 1 (.done ⟨rfl,rfl⟩))
def gp(what:Int)(g k:List Int)(l:List de)(a:List Int):List Int:=
 if what=3 then (if (a.any fun z=>decide (0=z))=true then List.replicate a.length 0 else kl a l) else fU mL (fU jJ a k) g
theorem KQ{what:Int}(h:¬what=3)(g k:List Int)(l:List de)(a:List Int):gp what g k l a=fU mL (fU jJ a k) g:=ah h
theorem Kz{what:Int}(h:what=3){a:List Int}(h0:(a.any fun z=>decide (0=z))=true)(g k:List Int)(l:List de):gp what g k l a=List.replicate a.length 0:=by unfold gp;rw[ag h,ag h0]
theorem GW{what:Int}(h:what=3){a:List Int}(h0:(a.any fun z=>decide (0=z))=false)(g k:List Int)(l:List de):gp what g k l a=kl a l:=by unfold gp;rw[ag h,h0];rfl
def vU(what w:Int)(g k:List Int)(l:List de)(a:List Int):Int:=if fC what w g k l=0 then (if cR what w a=true then 0 else 2) else fC what w g k l
theorem acu{what w:Int}{g k:List Int}{l:List de}{a:List Int}(h:¬fC what w g k l=0):vU what w g k l a=fC what w g k l:=ah h
theorem Ml{what w:Int}{g k:List Int}{l:List de}{a:List Int}(h:fC what w g k l=0)(hv:cR what w a=true):vU what w g k l a=0:=by unfold vU;rw[ag h,ag hv]
theorem acs{what w:Int}{g k:List Int}{l:List de}{a:List Int}(h:fC what w g k l=0)(hv:cR what w a=false):vU what w g k l a=2:=by unfold vU;rw[ag h,hv];rfl
theorem LL{what w:Int}{g k:List Int}{l:List de}(h:fC what w g k l=0):dC what w=true∧zt what w g k l=true:=by
 unfold fC at h
 cases hi:dC what w with
 |false=>rw[hi]at h;exact absurd h (by simp)
 |true=>
  rw[hi,ag rfl]at h
  cases ht:zt what w g k l with
  |false=>rw[ht]at h;exact absurd h (by simp)
  |true=>exact⟨rfl,rfl⟩
theorem Zx{what w:Int}{a:List Int}(h:cR what w a=true)(h3:what=3):(a.length:Int)=w:=by
 have hl:=xp h
 have hi:dC what w=true:=by unfold cR at h;simp at h;exact h.1.1
 rw[hl];unfold ft;rw[ag hi,ag h3]
theorem acH{what w:Int}{a:List Int}(h:cR what w a=true)(h3:what=3):iM what w=List.replicate a.length 0:=by
 unfold iM
 rw[ah (fun h=>by omega),← xp h,bU]
theorem aeI(what w:Int)(g k:List Int)(l:List de)(a:List Int)(σ:Hp)(hg:bA g)(hk:bA k)(ha:bA a)(lg:g.length≤10000)(lk:k.length≤10000)(la:a.length≤10000)(ll:l.length≤1000000):ACalls Tryz.prog 276 [.int .i64 what,.int .i64 w,.agg (trC g k l),.ai (.int .u64) a] σ (aE (.tup [.ai (.int .u64) (sO (vU what w g k l a) (gp what g k l a)),.int .i64 (vU what w g k l a)]) σ):=by
 refine aA Tryz.func276 ?_
 have hm:(fU jJ a k).length≤10000:=by rw[tg];omega
 intro aG
 refine aa 0 ?_
 refine aB [] (Mr what w g k l _ hg hk lg lk ll) ?_
 refine eG (fun c2=>?_) (fun c2=>?_)
 ·have c2:¬(fC what w g k l=0):=by simpa using c2
  rw[acu c2,Hs c2]
  exact .nil (eH (.nil _) (.refl _)) (.drop 0 1 (.done ⟨rfl,rfl⟩))
 ·have c2:fC what w g k l=0:=by simpa using c2
  refine fM [] (IZ what w a _ ha (by omega)) (fun cV=>?_) (fun cV=>?_)
  ·refine eG (fun c3=>?_) (fun c3=>?_)
   ·have c3:¬(what=3):=by simpa using c3
    refine .quiet (by kernel_rfl) ?_
    refine aa 0 ?_
    refine aI [] (VC a k _ (by omega) (by omega)) ?_
    refine aa 0 ?_
    refine aI [] (ag0 (fU jJ a k) g _ (by omega) (by omega)) ?_
    rw[Ml c2 cV,Dm rfl,KQ c3]
    exact .drop 0 1 (.done ⟨rfl,rfl⟩)
   ·have c3:what=3:=by simpa using c3
    refine fM [] (Zo a 0 _ (by omega)) (fun cZ=>?_) (fun cZ=>?_)
    ·refine aB [] (LQ what w _) ?_
     rw[Ml c2 cV,Dm rfl,Kz c3 cZ,← acH cV c3]
     exact .drop 0 1 (.done ⟨rfl,rfl⟩)
    ·refine aa 0 ?_
     have hal:l.all (gE a.length)=true:=by
      have ht:=(LL c2).2
      rw[EO c3,bL]at ht
      rw[Zx cV c3];exact ht.2
     rw[Ml c2 cV,Dm rfl,GW c3 cZ]
     refine aB [] (aik a l _ ha la ll hal) ?_
     exact .drop 0 1 (.done ⟨rfl,rfl⟩)
  ·rw[acs c2 cV,Hs (by decide)]
   exact .nil (eH (.nil _) (.refl _)) (.drop 0 1 (.done ⟨rfl,rfl⟩))
theorem aaY{x y:Int}(hx:bM x)(hy:bM y)(h:∀k,k<64→x.toNat.testBit k=y.toNat.testBit k):x=y:=by
 have e:x.toNat=y.toNat:=by
  refine Cj fun k=>?_
  rcases go2 k 64 with hk | hk
  ·exact h k hk
  ·rw[wX (sc (xU hx) (uR (by decide:0<2) hk)),wX (sc (xU hy) (uR (by decide:0<2) hk))]
 have h1:=Df hx
 have h2:=Df hy
 omega
def ee(a:List Int)(i k:Nat):Bool:=(wd a i).toNat.testBit k
theorem Hk{a b:List Int}(ha:bA a)(hb:bA b)(hl:a.length=b.length)(h:∀i k,i<a.length→k<64→ee a i k=ee b i k):a=b:=
 AR hl fun i hi=>aaY (oe ha i) (oe hb i) fun k hk=>h i k hi hk
theorem GZ(k:Nat):(0:Int).toNat.testBit k=false:=Nat.zero_testBit k
theorem VU(a b:List Int):bA (fU mL a b):=Mw fun _ _=>afs _ _
theorem Ve{a b:List Int}(ha:bA a)(hb:bA b)(i k:Nat):ee (fU mL a b) i k=(ee a i k||ee b i k):=by
 unfold ee
 rcases go2 i (max a.length b.length) with h | h
 ·rw[Da _ _ _ h,Ui (oe ha i) (oe hb i)]
 ·rw[AH (by rw[tg];exact h),AH (a:=a) (by omega),AH (a:=b) (by omega),GZ];rfl
theorem Vw{a b:List Int}(ha:bA a)(hb:bA b)(i:Nat){k:Nat}(hk:k<64):ee (fU jJ a b) i k=(ee a i k&&!ee b i k):=by
 unfold ee
 rcases go2 i (max a.length b.length) with h | h
 ·rw[Da _ _ _ h,Mp (oe ha i) (oe hb i) hk]
 ·rw[AH (by rw[tg];exact h),AH (a:=a) (by omega),GZ];rfl
theorem n9{a:List Int}{w:Int}(h:gq a w=true):a.length=eX w:=by
 unfold gq at h;rw[bL]at h;exact fP h.1
theorem rh{a:List Int}{w:Int}(ha:bA a)(hl:a.length=eX w):gq a w=true↔∀i k,i<a.length→k<64→eS w≤64*i+k→ee a i k=false:=by
 rw[aal ha hl]
 unfold hasB ee
 constructor
 ·intro h i k hi hk hc
  have:=h (64*i+k) hc (by omega)
  rw[show (64*i+k) / 64=i by omega,show (64*i+k) % 64=k by omega]at this
  exact this
 ·intro h n h1 h2
  exact h (n / 64) (n % 64) (by omega) (by omega) (by omega)
theorem adN{a b:List Int}{w:Int}(ha:bA a)(hb:bA b)(fa:gq a w=true)(fb:gq b w=true):gq (fU mL a b) w=true:=by
 have la:=n9 fa
 have lb:=n9 fb
 have hl:(fU mL a b).length=eX w:=by rw[tg];omega
 rw[rh (VU _ _) hl]
 intro i k hi hk hc
 rw[Ve ha hb,(rh ha la).1 fa i k (by omega) hk hc,(rh hb lb).1 fb i k (by omega) hk hc];rfl
theorem aex{a b:List Int}{w:Int}(ha:bA a)(hb:bA b)(fa:gq a w=true)(lb:b.length≤eX w):gq (fU jJ a b) w=true:=by
 have la:=n9 fa
 have hl:(fU jJ a b).length=eX w:=by rw[tg];omega
 rw[rh (C1 _ _) hl]
 intro i k hi hk hc
 rw[Vw ha hb i hk,(rh ha la).1 fa i k (by omega) hk hc];rfl
def NZ(a:List Int):Prop:=∀z∈a,bR z=z∧z≠0
theorem HF{a:List Int}{i:Nat}(h:i<a.length):wd a i∈a:=by rw[lv a h];exact cD h
theorem SP(x y:Int):bR (oN x y)=oN x y∧oN x y≠0:=⟨norm_num (afz x y),by have:=afA x y;omega⟩
theorem He{a:List Int}(h:NZ a){r:pR}(hr:ru a.length r=true):bR (l7 a r)=l7 a r∧l7 a r≠0:=by
 unfold l7
 split
 ·exact SP _ _
 ·rename_i h1
  have hv:=K1 hr h1
  exact h _ (HF (by omega))
theorem SU:bR 1=1:=rfl
theorem adz(op a b:Int):bR (pH op a b)=pH op a b∧pH op a b≠0:=by
 unfold pH
 split
 ·exact SP _ _
 ·exact⟨rfl,by decide⟩
theorem Uk(op:Int){a b:Int}(ha:bR a≠0)(hb:bR b≠0):bR (pJ op a b)=pJ op a b∧pJ op a b≠0:=by
 unfold pJ
 rw[ah (by omega)]
 split
 ·exact⟨rfl,by decide⟩
 ·exact adz _ _ _
theorem afv(op:Int){a b:Int}(ha:bR a≠0)(hb:bR b≠0):bR (mM op a b)=mM op a b∧mM op a b≠0:=by
 unfold mM
 split
 ·exact Uk _ ha (by rw[Lx];decide)
 ·exact Uk _ ha hb
theorem ae1{a:List Int}(h:NZ a){c:de}(hc:gE a.length c=true):bR (qx a c)=qx a c∧qx a c≠0:=by
 unfold qx
 split
 ·exact⟨rfl,by decide⟩
 ·rename_i h1
  have ho:=(LK hc).2 h1
  have h1:=He h ho.1
  have h2:=He h ho.2
  exact afv _ (by rw[h1.1];exact h1.2) (by rw[h2.1];exact h2.2)
theorem Sr{a:List Int}(h:NZ a){c:de}(hc:gE a.length c=true):NZ (tN a c):=fun z hz=>by
 rcases qb hz with h' | rfl
 ·exact h z h'
 ·exact ae1 h hc
theorem LI(a:List Int)(c:de)(l:List de):kl a (c::l)=kl (tN a c) l:=rfl
theorem all_cons{α:Type}{p:α→Bool}{c:α}{l:List α}(h:(c::l).all p=true):p c=true∧l.all p=true:=by
 rw[List.all_cons,bL]at h;exact h
theorem Vs:∀{l:List de} {a:List Int},NZ a→l.all (gE a.length)=true→NZ (kl a l)
 | [],_,h,_=>h
 |c::l,a,h,hl=>by
  have hl:=all_cons hl
  rw[LI]
  exact Vs (Sr h hl.1) (by rw[Al];exact hl.2)
def zI(a b:List Int):Prop:=a.length=b.length∧∀i,i<a.length→wd a i=wd b i∨wd b i=1
theorem TS{a b:List Int}(h:zI a b){r:pR}(hr:ru a.length r=true):l7 a r=l7 b r∨l7 b r=1:=by
 unfold l7
 by_cases h1:r.1 = -1
 ·rw[ag h1,ag h1];exact .inl rfl
 ·have hv:=K1 hr h1
  rw[ah h1,ah h1]
  exact h.2 _ (by omega)
theorem Uj(op:Int){a b a' b':Int}(JA:bR a'≠0)(yn:bR b'≠0)(h1:a=a'∨a'=1)(h2:b=b'∨b'=1):pJ op a b=pJ op a' b'∨pJ op a' b'=1:=by
 by_cases c:bR a'=1∨bR b'=1
 ·exact .inr (by unfold pJ;rw[ah (by omega),ag c])
 ·rcases h1 with rfl | rfl
  ·rcases h2 with rfl | rfl
   ·exact .inl rfl
   ·exact absurd (Or.inr SU) c
  ·exact absurd (Or.inl SU) c
theorem afu(op:Int){a b a' b':Int}(JA:bR a'≠0)(yn:bR b'≠0)(h1:a=a'∨a'=1)(h2:b=b'∨b'=1):mM op a b=mM op a' b'∨mM op a' b'=1:=by
 unfold mM
 split
 ·exact Uj op JA (by rw[Lx];decide) h1 (.inl rfl)
 ·exact Uj op JA yn h1 h2
theorem ae0{a b:List Int}(hb:NZ b)(h:zI a b){c:de}(hc:gE a.length c=true):qx a c=qx b c∨qx b c=1:=by
 unfold qx
 by_cases h1:c.2.1 = -1
 ·rw[ag h1,ag h1];exact .inl rfl
 ·have ho:=(LK hc).2 h1
  rw[ah h1,ah h1]
  have hl:(a.length:Int)=b.length:=by rw[h.1]
  have n1:=He hb (hl▸ho.1)
  have n2:=He hb (hl▸ho.2)
  exact afu _ (by rw[n1.1];exact n1.2) (by rw[n2.1];exact n2.2) (TS h ho.1) (TS h ho.2)
theorem UW{a:List Int}{i j:Nat}(h:i<a.length)(z:Int):wd (a.set i z) j=if i=j then z else wd a j:=by
 unfold wd
 split
 ·rename_i e;subst e;rw[List.getElem?_set_self h];rfl
 ·rename_i e;rw[Pd e]
theorem ab6{a b:List Int}(hb:NZ b)(h:zI a b){c:de}(hc:gE a.length c=true):zI (tN a c) (tN b c):=by
 have hv:=GS hc
 have hl:=h.1
 refine⟨by rw[Al,Al];exact h.1,fun i hi=>?_⟩
 rw[Al]at hi
 unfold tN
 rw[UW (by omega),UW (by omega)]
 split
 ·exact ae0 hb h hc
 ·exact h.2 i hi
theorem Vr:∀{l:List de} {a b:List Int},NZ b→zI a b→l.all (gE a.length)=true→zI (kl a l) (kl b l)
 | [],_,_,_,h,_=>h
 |c::l,a,b,hb,h,hl=>by
  have hl:=all_cons hl
  rw[LI,LI]
  exact Vr (Sr hb (h.1▸hl.1)) (ab6 hb h hl.1) (by rw[Al];exact hl.2)
theorem My{what w:Int}{g k:List Int}{l:List de}(h:fC what w g k l=0)(h3:¬what=3):gq g w=true∧gq k w=true∧l=[]:=by
 have h:=(LL h).2
 rw[wj h3,bL,bL]at h
 exact⟨h.1.2,h.2,iS.1 (fP h.1.1)⟩
theorem TX{what w:Int}{g k:List Int}{l:List de}(h:fC what w g k l=0)(h3:what=3):g=[]∧k=[]∧l.all (gE w)=true:=by
 have h:=(LL h).2
 rw[EO h3,bL]at h
 have h0:=fP h.1
 exact⟨iS.1 (by omega),iS.1 (by omega),h.2⟩
theorem Re{what w:Int}(hi:dC what w=true)(h3:¬what=3):ft what w=eX w:=by unfold ft;rw[ag hi,ah h3]
theorem Qp{what w:Int}(hi:dC what w=true)(h3:what=3):ft what w=w:=by unfold ft;rw[ag hi,ag h3]
theorem mC{what w:Int}{a:List Int}(h:cR what w a=true):dC what w=true:=by unfold cR at h;rw[bL,bL]at h;exact h.1.1
theorem qd{what w:Int}{a:List Int}(hi:dC what w=true)(h3:¬what=3):cR what w a=true↔gq a w=true:=by
 unfold cR
 rw[ah h3,hi,z8,bL,Re hi h3]
 refine⟨fun h=>h.2,fun h=>⟨aY ?_,h⟩⟩
 rw[n9 h]
theorem jK{what w:Int}{a:List Int}(hi:dC what w=true)(h3:what=3):cR what w a=true↔(a.length:Int)=w∧okW a=true:=by
 unfold cR
 rw[ag h3,hi,z8,bL,Qp hi h3,decide_eq_true_eq]
theorem y5{a:List Int}:okW a=true↔∀z∈a,bR z=z:=by unfold okW;rw[fp];exact forall₂_congr fun _ _=>decide_eq_true_iff
theorem any_zero{a:List Int}:(a.any fun z=>decide (0=z))=true↔0∈a:=by
 rw[nT]
 exact⟨fun ⟨z,hz,h⟩=>(fP h)▸hz,fun h=>⟨0,h,aY rfl⟩⟩
theorem VW{a:List Int}(h:okW a=true)(h0:(a.any fun z=>decide (0=z))=false):NZ a:=fun z hz=>⟨y5.1 h z hz,fun e=>by subst e;rw[any_zero.2 hz]at h0;exact Bool.noConfusion h0⟩
theorem agB{a:List Int}(h:NZ a):(a.any fun z=>decide (0=z))=false:=by
 cases hb:a.any fun z=>decide (0=z) with
 |false=>rfl
 |true=>exact absurd rfl (h 0 (any_zero.1 hb)).2
theorem SN(n:Nat):okW (List.replicate n 0)=true:=y5.2 fun z hz=>by rw[(O8.1 hz).2];rfl
theorem Mz(n:Nat):bA (List.replicate n (0:Int)):=fun z hz=>by rw[(O8.1 hz).2];exact⟨by omega,by omega⟩
theorem Ay{what:Int}{g k:List Int}{l:List de}{a:List Int}(ha:bA a):bA (gp what g k l a):=by
 unfold gp
 split
 ·split
  ·exact Mz _
  ·exact Vt ha l
 ·exact VU _ _
theorem yJ{what w:Int}{g k:List Int}{l:List de}{a:List Int}(hc:fC what w g k l=0)(hv:cR what w a=true):(gp what g k l a).length=a.length:=by
 unfold gp
 split
 ·split
  ·exact fZ
  ·exact KM _ _
 ·rename_i h3
  have hf:=My hc h3
  have h1:=n9 hf.1
  have h2:=n9 hf.2.1
  have h3:=n9 ((qd (mC hv) h3).1 hv)
  rw[tg,tg];omega
theorem GV{what w:Int}{g k:List Int}{l:List de}{a:List Int}(hg:bA g)(hk:bA k)(ha:bA a)(hc:fC what w g k l=0)(hv:cR what w a=true):cR what w (gp what g k l a)=true:=by
 have hi:=mC hv
 by_cases h3:what=3
 ·have oQ:=(jK hi h3).1 hv
  rw[jK hi h3,yJ hc hv]
  refine⟨oQ.1,?_⟩
  have hl:=(TX hc h3).2.2
  cases hz:a.any fun z=>decide (0=z) with
  |true=>rw[Kz h3 hz];exact SN _
  |false=>
   rw[GW h3 hz]
   exact y5.2 fun z hm=>(Vs (VW oQ.2 hz) (by rw[oQ.1];exact hl) z hm).1
 ·have hf:=My hc h3
  have oQ:=(qd hi h3).1 hv
  rw[qd hi h3,KQ h3]
  exact adN (C1 _ _) hg (aex ha hk oQ (z7 (n9 hf.2.1))) hf.1
def ET(a b:List Int):Prop:=a.length=b.length∧∀i,i<a.length→wd a i=wd b i∨wd a i=0∨wd b i=1
theorem y7{what:Int}{a b:List Int}{i:Nat}(h:i<a.length)(h2:i<b.length):wd (er what a b) i=dx what (wd a i) (wd b i):=by
 have hj:i<(er what a b).length:=by unfold er;rw[List.length_zipWith];omega
 rw[lv _ hj,lv _ h,lv _ h2]
 simp[er]
theorem QQ(a b:Int):bR (np a b)=np a b:=by
 have hn:∀w,bR (bR w)=bR w:=fun w=>by
  unfold bR
  by_cases h0:w=0
  ·simp[h0]
  ·by_cases h1:w=1
   ·simp[h1]
   ·cases hk:iG w with
    |true=>simp[h0,h1,hk]
    |false=>simp[h0,h1]
 unfold np
 split
 ·exact hn _
 ·split
  ·exact hn _
  ·rfl
theorem rr(a b:Int):dx 3 a b=np a b:=rfl
theorem iU{what:Int}{a b:List Int}(h:a.length=b.length):(er what a b).length=a.length:=by unfold er;rw[List.length_zipWith];omega
theorem ac3{a b:List Int}:okW (er 3 a b)=true:=y5.2 fun z hz=>by
 obtain⟨i,hi,rfl⟩:=wW.1 hz
 simp only[er,List.getElem_zipWith]
 exact QQ _ _
theorem xv{a:List Int}(h:okW a=true){i:Nat}(hi:i<a.length):bR (wd a i)=wd a i:=y5.1 h _ (HF hi)
theorem ae7{a b:List Int}(ha:okW a=true)(hb:okW b=true)(hl:a.length=b.length):ET a (er 3 a b)∧ET b (er 3 a b):=by
 refine⟨⟨(iU hl).symm,fun i hi=>?_⟩,⟨by rw[iU hl];exact hl.symm,fun i hi=>?_⟩⟩
 ·rw[y7 hi (by omega),rr]
  have h1:=xv ha hi
  unfold np
  rw[h1]
  split
  ·exact .inl rfl
  ·split
   ·rename_i h;exact .inr (.inl h)
   ·exact .inr (.inr rfl)
 ·rw[y7 (by omega) hi,rr]
  have h1:=xv ha (i:=i) (by omega)
  have h2:=xv hb hi
  unfold np
  rw[h1,h2]
  split
  ·rename_i h
   rcases h with h | h
   ·exact .inl h.symm
   ·exact .inr (.inl h)
  ·split
   ·exact .inl rfl
   ·exact .inr (.inr rfl)
theorem S7{a b:List Int}(ha:okW a=true)(hb:okW b=true)(h:ET a b):er 3 a b=b:=by
 refine AR ((iU h.1).trans h.1) fun i hi=>?_
 rw[iU h.1]at hi
 have h1:=xv ha hi
 have h2:=xv hb (i:=i) (by have:=h.1;omega)
 rw[y7 hi (by have:=h.1;omega),rr]
 unfold np
 rw[h1,h2]
 rcases h.2 i hi with e | e | e
 ·rw[ag (.inl e),e]
 ·rw[e]
  by_cases hc:(0:Int)=wd b i∨wd b i=0
  ·rw[ag hc];omega
  ·rw[ah hc,ag rfl]
 ·rw[e]
  by_cases hc:wd a i=1∨(1:Int)=0
  ·rw[ag hc];omega
  ·rw[ah hc];split <;> rfl
theorem R7{w:Int}{g k:List Int}{l:List de}{a b:List Int}(hc:fC 3 w g k l=0)(ha:cR 3 w a=true)(hb:cR 3 w b=true)(h:ET a b):ET (gp 3 g k l a) (gp 3 g k l b):=by
 have hi:=mC ha
 have va:=(jK hi rfl).1 ha
 have vb:=(jK hi rfl).1 hb
 refine⟨by rw[yJ hc ha,yJ hc hb];exact h.1,fun i ab=>?_⟩
 rw[yJ hc ha]at ab
 cases hz:a.any fun z=>decide (0=z) with
 |true=>
  rw[Kz rfl hz]
  refine .inr (.inl ?_)
  rw[lv _ (by rw[fZ];exact ab),Ke]
 |false=>
  have na:=VW va.2 hz
  have hl:=h.1
  have up:zI a b:=⟨hl,fun j hj=>by
   rcases h.2 j hj with e | e | e
   ·exact .inl e
   ·exact absurd e (na _ (HF hj)).2
   ·exact .inr e⟩
  have nb:NZ b:=fun z hz=>by
   refine⟨y5.1 vb.2 z hz,fun e=>?_⟩
   obtain⟨j,hj,rfl⟩:=wW.1 hz
   have e:wd b j=0:=by rw[lv _ hj];exact e
   rcases up.2 j (by omega) with e2 | e2
   ·exact (na _ (HF (i:=j) (by omega))).2 (e2.trans e)
   ·rw[e2]at e;exact absurd e (by decide)
  rw[GW rfl hz,GW rfl (agB nb)]
  have:=Vr nb up (by rw[va.1];exact (TX hc rfl).2.2)
  rcases this.2 i (by rw[KM];exact ab) with e | e
  ·exact .inl e
  ·exact .inr (.inr e)
def ji(what:Int)(x y:Bool):Bool:=if what=1 then x||y else x&&y
theorem afY{x y:Int}(hx:bM x)(hy:bM y)(k:Nat):(bits .and .u64 x y).toNat.testBit k=(x.toNat.testBit k&&y.toNat.testBit k):=by
 have e:bits .and .u64 x y=((BitVec.ofInt 64 x &&& BitVec.ofInt 64 y).toNat:Int):=by
  show IntKind.u64.wrap _=_
  exact zb (BitVec.isLt _)
 rw[e,bU,BitVec.toNat_and,JR,toNat_ofInt hx,toNat_ofInt hy]
theorem HP{what w:Int}(hi:dC what w=true)(h3:¬what=3):what=1∨what=2:=by
 unfold dC at hi;simp at hi;omega
theorem o9{what:Int}(h:what=1∨what=2){a b:List Int}(ha:bA a)(hb:bA b)(hl:a.length=b.length)(i k:Nat)(hi:i<a.length):ee (er what a b) i k=ji what (ee a i k) (ee b i k):=by
 unfold ee ji
 rw[y7 hi (by omega)]
 rcases h with rfl | rfl
 ·rw[ag rfl]
  exact Ui (oe ha i) (oe hb i) k
 ·rw[ah (by decide)]
  exact afY (oe ha i) (oe hb i) k
theorem abH(what:Int)(x y g k:Bool):ji what ((x&&!k)||g) ((y&&!k)||g)=((ji what x y&&!k)||g):=by
 unfold ji;split <;> cases x <;> cases y <;> cases g <;> cases k <;> rfl
theorem MD(what:Int)(x y:Bool):ji what x (ji what x y)=ji what x y∧ji what y (ji what x y)=ji what x y∧ji what x x=x:=by
 unfold ji;split <;> cases x <;> cases y <;> exact⟨rfl,rfl,rfl⟩
theorem aaa{what w:Int}(h:what=1∨what=2){a b:List Int}(ha:bA a)(hb:bA b)(fa:gq a w=true)(fb:gq b w=true):gq (er what a b) w=true:=by
 have la:=n9 fa
 have lb:=n9 fb
 have hl:=iU (what:=what) (la.trans lb.symm)
 rw[rh (xz ha hb) (hl.trans la)]
 intro i k hi hk hc
 rw[hl]at hi
 rw[o9 h ha hb (la.trans lb.symm) i k hi,(rh ha la).1 fa i k hi hk hc,(rh hb lb).1 fb i k (by omega) hk hc]
 unfold ji;split <;> rfl
theorem LA{what w:Int}{a b:List Int}(ha:bA a)(hb:bA b)(va:cR what w a=true)(vb:cR what w b=true):cR what w (er what a b)=true:=by
 have hi:=mC va
 by_cases h3:what=3
 ·subst h3
  have v1:=(jK hi rfl).1 va
  have v2:=(jK hi rfl).1 vb
  rw[jK hi rfl,iU (by omega)]
  exact⟨v1.1,ac3⟩
 ·rw[qd hi h3]
  exact aaa (HP hi h3) ha hb ((qd hi h3).1 va) ((qd hi h3).1 vb)
theorem aaA{what w:Int}{a b:List Int}(va:cR what w a=true)(vb:cR what w b=true):DJ what w [a,b]=0:=by
 unfold DJ
 rw[ag (mC va)]
 simp[va,vb]
theorem CV{what w:Int}{a b:List Int}(va:cR what w a=true)(vb:cR what w b=true)(h:er what a b=b):zg what w a b=true:=by
 unfold zg
 rw[aaA va vb,h];simp
theorem aaJ{what w:Int}{a b:List Int}:zg what w a b=true↔cR what w a=true∧cR what w b=true∧er what a b=b:=by
 constructor
 ·intro h
  unfold zg at h
  rw[bL]at h
  have hc:=aaz (fP h.1)
  exact⟨hc.1,hc.2,fP h.2⟩
 ·exact fun h=>CV h.1 h.2.1 h.2.2
theorem agw{what w:Int}{g k a b:List Int}{l:List de}(hg:bA g)(hk:bA k)(ha:bA a)(hb:bA b)(hc:fC what w g k l=0)(va:cR what w a=true)(vb:cR what w b=true):
  zg what w (gp what g k l a) (gp what g k l (er what a b))=true∧zg what w (gp what g k l b) (gp what g k l (er what a b))=true∧(¬what=3→er what (gp what g k l a) (gp what g k l b)=gp what g k l (er what a b)):=by
 have hi:=mC va
 have NN:bA (er what a b):=xz ha hb
 have vj:=LA ha hb va vb
 have vx:=GV hg hk ha hc va
 have vy:=GV hg hk hb hc vb
 have vz:=GV hg hk NN hc vj
 have nQ:a.length=b.length:=by have h1:=xp va;have h2:=xp vb;omega
 by_cases h3:what=3
 ·subst h3
  have v1:=(jK hi rfl).1 va
  have v2:=(jK hi rfl).1 vb
  have hu:=ae7 v1.2 v2.2 nQ
  have o:∀{x:List Int},cR 3 w x=true→okW x=true:=fun h=>((jK hi rfl).1 h).2
  exact⟨CV vx vz (S7 (o vx) (o vz) (R7 hc va vj hu.1)),CV vy vz (S7 (o vy) (o vz) (R7 hc vb vj hu.2)),fun h=>absurd rfl h⟩
 ·have hs:=HP hi h3
  have hf:=My hc h3
  have lx:=yJ hc va
  have ly:=yJ hc vb
  have lz:=yJ hc vj
  have lj:=iU (what:=what) nQ
  have I5:bA (gp what g k l a):=Ay ha
  have I4:bA (gp what g k l b):=Ay hb
  have z64:bA (gp what g k l (er what a b)):=Ay NN
  have bx:∀{c:List Int},bA c→∀i k',k'<64→ee (gp what g k l c) i k'=((ee c i k'&&!ee k i k')||ee g i k'):=fun hc i k' eN=>by
   rw[KQ h3,Ve (C1 _ _) hg,Vw hc hk i eN]
  have hz:∀i k',i<a.length→k'<64→ee (gp what g k l (er what a b)) i k'=ji what (ee (gp what g k l a) i k') (ee (gp what g k l b) i k'):=fun i k' fo eN=>by
   rw[bx NN i k' eN,bx ha i k' eN,bx hb i k' eN,o9 hs ha hb nQ i k' fo,abH]
  refine⟨CV vx vz ?_,CV vy vz ?_,fun _=>?_⟩
  ·refine Hk (xz I5 z64) z64 (by rw[iU (by omega)];omega) fun i k' fo eN=>?_
   rw[iU (by omega)]at fo
   rw[o9 hs I5 z64 (by omega) i k' fo,hz i k' (by omega) eN,(MD ..).1]
  ·refine Hk (xz I4 z64) z64 (by rw[iU (by omega)];omega) fun i k' fo eN=>?_
   rw[iU (by omega)]at fo
   rw[o9 hs I4 z64 (by omega) i k' fo,hz i k' (by omega) eN,(MD ..).2.1]
  ·refine Hk (xz I5 I4) z64 (by rw[iU (by omega)];omega) fun i k' fo eN=>?_
   rw[iU (by omega)]at fo
   rw[o9 hs I5 I4 (by omega) i k' fo,hz i k' (by omega) eN]
theorem Zi{f:FuncId}{xs:List AV}{σ:Hp}{R R':AV→Hp→Prop}(h:ACalls Tryz.prog f xs σ R)(hv:∀r σ',R r σ'→r.leaf=true∧R' (.via r) σ'):ACalls Tryz.prog f xs σ R':=
 ⟨h.1,fun F w vs bX aC=>(h.2 F w vs bX aC).mono fun _ _ ⟨r,v,σ',F',h1,h2,h3,h4,h5⟩=>⟨.via r,v,σ',F',h1,h2,h3,.via _ _ (hv r σ' h5).1 h4,(hv r σ' h5).2⟩⟩
theorem M3{n:Int}(h:bM n):bA [n]:=fun z hz=>by rw[a8.1 hz];exact h
abbrev dG:Sh:=.field (.int .i64) (.field (.int .i64) .nil)
abbrev bg:Type:=Int×Int×Unit
abbrev mq:Type:=List Int×List Int×List de×Unit
abbrev VS:Sh:=.field (.int .i64) (.field (.int .i64) (.field (.int .i64) (.field (.slice dG) (.field (.slice (.int .i64)) (.field (.slice (.int .u64)) (.field (.slice lX) .nil))))))
structure Sy where
 what:Int
 w:Int
 n:Int
 aL:List bg
 entry:List Int
 init:List Int
 T:List mq
abbrev cd(s:Sy):List AV:=[.int .i64 s.what,.int .i64 s.w,.int .i64 s.n,.ai dG s.aL,.ai (.int .i64) s.entry,.ai (.int .u64) s.init,.ai lX s.T]
def ahu(x:VS.T):Sy:=⟨x.1,x.2.1,x.2.2.1,x.2.2.2.1,x.2.2.2.2.1,x.2.2.2.2.2.1,x.2.2.2.2.2.2.1⟩
def okT(t:mq):Prop:=bA t.1∧bA t.2.1∧t.1.length≤10000∧t.2.1.length≤10000∧t.2.2.1.length≤100000
structure Fit(s:Sy):Prop where
 i64:bA s.init
 IA:s.init.length≤10000
 x5:s.aL.length≤100000
 Ek:s.entry.length≤100000
 Ny:s.T.length≤100000
 ts:∀t∈s.T,okT t
def dL(n a:Int):Bool:=decide (0≤a)&&decide (a<n)
theorem Il(n a:Int)(σ:Hp):ACalls Tryz.prog 206 [.int .i64 n,.int .i64 a] σ (aE (.bool (dL n a)) σ):=by
 refine aA Tryz.func206 ?_
 refine aq (fun c1=>?_) (fun c1=>?_)
 ·have c1:0≤a:=c1
  refine aq (fun c2=>?_) (fun c2=>?_)
  ·have c2:a<n:=c2
   exact .done ⟨eb (by unfold dL;simp;omega),rfl⟩
  ·have c2:¬(a<n):=c2
   exact .done ⟨eb (by unfold dL;simp;omega),rfl⟩
 ·have c1:¬(0≤a):=c1
  exact .done ⟨eb (by unfold dL;simp;omega),rfl⟩
def Bi(e:bg):AV:=.agg [.int .i64 e.1,.int .i64 e.2.1]
theorem aeO(n:Int)(e:bg)(q:Nat)(σ:Hp):ACalls Tryz.prog 205 [Bi e,.ptr q 0] ((q,[.int .i64 n])::σ) (aE (.bool (!(dL n e.1&&dL n e.2.1))) ((q,[.int .i64 n])::σ)):=by
 refine aA Tryz.func205 ?_
 unfold Bi
 intro aG
 refine aa 1 ?_
 refine aa 0 ?_
 refine fM [] (Il n e.1 _) (fun c1=>?_) (fun c1=>?_)
 ·refine aa 1 ?_
  refine aa 0 ?_
  refine fM [] (Il n e.2.1 _) (fun c2=>?_) (fun c2=>?_)
  ·exact .drop 0 1 (.done ⟨eb (by rw[c1,c2];rfl),rfl⟩)
  ·exact .drop 0 1 (.done ⟨eb (by rw[c1,c2];rfl),rfl⟩)
 ·exact .drop 0 1 (.done ⟨eb (by rw[c1];rfl),rfl⟩)
theorem acY(g:Nat)(cap:List AV)(l:List (Sh.T dG))(p:Sh.T dG→Bool)(σ:Hp)(hl:l.length≤1000000)(hg:∀(i:Nat) (hi:i<l.length),ACalls Tryz.prog g (Bi l[i]::cap) σ (aE (.bool (p l[i])) σ)):ACalls Tryz.prog 252 [.ai dG l,.fn (.func g) [] cap] σ (fun r σ'=>∃n:Int,r=.int .i64 n∧σ'=σ∧decide (0≤n)=l.any p):=by
 refine aA Tryz.func252 ?_
 refine cj (S:=Nat) (fun s=>[(0,.ai dG l),(1,.fn (.func g) [] cap),(7,.int .i64 l.length),(8,.int .i64 s)]) (fun _=>σ) (fun s=>s≤l.length∧(l.take s).any p=false) (fun s=>l.length-s) 0 ⟨⟨bK _,rfl⟩,⟨rfl,rfl,rfl,rfl,trivial⟩,rfl⟩ ?_
 rintro k t ⟨bD,fY⟩
 have hk:k≤l.length:=bD
 have hn:(l.take k).any p=false:=fY
 clear bD fY
 refine aq (fun ab=>?_) (fun ay=>?_)
 ·have ab:k<l.length:=by have ab:(k:Int)<l.length:=ab;omega
  have hs:=vr ab p
  rw[hn,qS]at hs
  refine aH.mk rfl (cg.mk l[k] (by omega) (get_some ab) ?_)
  refine fM [] (hg k ab) (fun c=>?_) (fun c=>?_)
  ·have hp:l.any p=true:=nT.2 ⟨l[k],cD ab,c⟩
   exact .done ⟨_,rfl,rfl,by rw[hp];exact aY (by omega)⟩
  ·exact aZ (k+1) (by show l.length-(k+1)<l.length-k;omega) ⟨ab,hs.trans c⟩ ⟨rfl,rfl,rfl,bu (by omega),trivial⟩ (.refl _)
 ·have ay:k=l.length:=by have ay:¬(k:Int)<l.length:=ay;omega
  subst ay
  rw[ig]at hn
  exact .done ⟨_,rfl,rfl,by rw[hn];rfl⟩
theorem Qn(g:Nat)(cap:List AV)(l:List (Sh.T dG))(p:Sh.T dG→Bool)(σ:Hp)(hl:l.length≤1000000)(hg:∀(i:Nat) (hi:i<l.length),ACalls Tryz.prog g (Bi l[i]::cap) σ (aE (.bool (p l[i])) σ)):ACalls Tryz.prog 204 [.ai dG l,.fn (.func g) [] cap] σ (aE (.bool (l.any p)) σ):=by
 refine aA Tryz.func204 ?_
 refine .mk [] _ (acY g cap l p _ hl hg) ?_
 rintro _ _ ⟨n,rfl,rfl,hn⟩
 rw[← hn]
 refine aq (fun c=>?_) (fun c=>?_)
 ·have c:0≤n:=c
  rw[aY c]
  exact .done ⟨rfl,rfl⟩
 ·have c:¬0≤n:=c
  rw[b9 c]
  exact .done ⟨rfl,rfl⟩
def fu(n:Int)(l:List bg):Bool:=decide (1≤n)&&decide (n≤256)&&decide (l.length≤1024)&&l.all fun e=>dL n e.1&&dL n e.2.1
theorem Wg{n:Int}(l:List bg){b:Bool}(h:(l.any fun e=> !(dL n e.1&&dL n e.2.1))=b):(l.all fun e=>dL n e.1&&dL n e.2.1) = !b:=by rw[UL,h]
theorem DK(n:Int)(l:List bg)(σ:Hp)(hl:l.length≤1000000):ACalls Tryz.prog 150 [.int .i64 n,.ai dG l] σ (aE (.bool (fu n l)) σ):=by
 refine aA Tryz.func150 ?_
 intro aG
 refine aa 0 ?_
 refine aq (fun c2=>?_) (fun c2=>?_)
 ·have c2:n<1:=c2
  exact .drop 0 1 (.done ⟨eb (by unfold fu;simp;omega),rfl⟩)
 ·have c2:¬(n<1):=c2
  refine aa 0 ?_
  refine aq (fun c3=>?_) (fun c3=>?_)
  ·have c3:256<n:=c3
   exact .drop 0 1 (.done ⟨eb (by unfold fu;simp;omega),rfl⟩)
  ·have c3:¬(256<n):=c3
   refine aq (fun c4=>?_) (fun c4=>?_)
   ·have c4:1024<(↑l.length:Int):=c4
    exact .drop 0 1 (.done ⟨eb (by unfold fu;simp;omega),rfl⟩)
   ·have c4:¬(1024<(↑l.length:Int)):=c4
    refine fM [] (Qn 205 [.ptr aG 0] l (fun e=> !(dL n e.1&&dL n e.2.1)) _ hl (fun i hi=>aeO n l[i] aG _)) (fun cL=>?_) (fun cL=>?_)
    ·exact .drop 0 1 (.done ⟨eb (by unfold fu;rw[Wg l cL];simp),rfl⟩)
    ·exact .drop 0 1 (.done ⟨eb (by unfold fu;rw[Wg l cL];simp;omega),rfl⟩)
def dZ(what w:Int):Int:=if dC what w=true then (if what=3 then 2*w else w) else 0
theorem LP(what w:Int)(σ:Hp):ACalls Tryz.prog 131 [.int .i64 what,.int .i64 w] σ (aE (.int .i64 (dZ what w)) σ):=by
 refine aA Tryz.func131 ?_
 refine fM [] (IY what w _) (fun c0=>?_) (fun c0=>?_)
 ·refine aq (fun c1=>?_) (fun c1=>?_)
  ·have c1:what=3:=c1
   exact .done ⟨aW (by unfold dC at c0;simp at c0;unfold dZ;rw[if_pos (rp (by omega)),if_pos c1,dh (by omega)]),rfl⟩
  ·have c1:¬(what=3):=c1
   exact .done ⟨aW (by unfold dZ;rw[ag c0,ah c1]),rfl⟩
 ·exact .done ⟨aW (by unfold dZ;rw[c0];rfl),rfl⟩
theorem aai(w:Int):gq (gd w) w=true:=by
 unfold gq
 rw[aY (qZ w),z8,fp]
 intro i hi
 have hi:=fA.1 hi
 rw[qZ]at hi
 rw[decide_eq_true_eq,C7 w hi,bU]
 have:=Cb (min 64 (eS w-64*i))
 omega
theorem HB{what w:Int}(h:dC what w=true):cR what w (iM what w)=true:=by
 by_cases h3:what=3
 ·rw[jK h h3]
  unfold iM
  rw[ah (fun h=>by omega),Qp h h3]
  unfold dC at h;simp at h
  exact⟨by rw[fZ];omega,SN _⟩
 ·rw[qd h h3]
  unfold iM
  split
  ·exact aai w
  ·rw[Re h h3,bU]
   refine (rh (Mz _) fZ).2 fun i k hi _ _=>?_
   unfold ee
   rw[lv _ hi,Ke];exact GZ k
theorem HW(what w:Int):bA (iM what w):=by
 unfold iM;split
 ·exact Tn w
 ·exact Mz _
theorem aeq(what w:Int):(iM what w).length≤1024:=by
 unfold iM;split
 ·rw[qZ];have:=CZ w;omega
 ·rw[fZ];have:=CI what w;omega
def dH(s:Sy):Int:=if dC s.what s.w=true then (if fu s.n s.aL=true∧(s.T.length:Int)=s.n then (if (s.entry.any fun v=> !dL s.n v)=true then 1 else if cR s.what s.w s.init=true then (if (s.T.any fun t=> !decide (fC s.what s.w t.1 t.2.1 t.2.2.1=0))=true then 2 else 0) else 2) else 1) else 10
theorem afS{s:Sy}(h:dC s.what s.w=false):10=dH s:=by unfold dH;rw[h];rfl
theorem Ih{s:Sy}(hi:dC s.what s.w=true)(h:¬(fu s.n s.aL=true∧(s.T.length:Int)=s.n)):1=dH s:=by unfold dH;rw[ag hi,ah h]
theorem HT{s:Sy}(hi:dC s.what s.w=true)(h:fu s.n s.aL=true∧(s.T.length:Int)=s.n)(he:(s.entry.any fun v=> !dL s.n v)=true):1=dH s:=by unfold dH;rw[ag hi,ag h,ag he]
theorem Wc{s:Sy}(hi:dC s.what s.w=true)(h:fu s.n s.aL=true∧(s.T.length:Int)=s.n)(he:(s.entry.any fun v=> !dL s.n v)=false)(hv:cR s.what s.w s.init=false):2=dH s:=by unfold dH;rw[ag hi,ag h,he,hv];rfl
theorem Vu{s:Sy}(hi:dC s.what s.w=true)(h:fu s.n s.aL=true∧(s.T.length:Int)=s.n)(he:(s.entry.any fun v=> !dL s.n v)=false)(hv:cR s.what s.w s.init=true)(ht:(s.T.any fun t=> !decide (fC s.what s.w t.1 t.2.1 t.2.2.1=0))=true):2=dH s:=by unfold dH;rw[ag hi,ag h,he,hv,ht];rfl
theorem Nk{s:Sy}(hi:dC s.what s.w=true)(h:fu s.n s.aL=true∧(s.T.length:Int)=s.n)(he:(s.entry.any fun v=> !dL s.n v)=false)(hv:cR s.what s.w s.init=true)(ht:(s.T.any fun t=> !decide (fC s.what s.w t.1 t.2.1 t.2.2.1=0))=false):0=dH s:=by unfold dH;rw[ag hi,ag h,he,hv,ht];rfl
theorem GX(s:Sy)(σ:Hp)(hf:Fit s):ACalls Tryz.prog 84 [.agg (cd s)] σ (aE (.int .i64 (dH s)) σ):=by
 refine aA Tryz.func84 ?_
 intro aG
 refine .quiet (by kernel_rfl) ?_
 refine aa 0 ?_
 refine aa 0 ?_
 refine aI [] (LP _ _ _) ?_
 refine aq (fun c1=>?_) (fun c1=>?_)
 ·have c1:dZ s.what s.w=0:=c1
  refine aa 0 ?_
  refine aa 0 ?_
  refine aa 0 ?_
  refine aa 0 ?_
  refine aI [] (LQ _ _ _) ?_
  refine ML [] (IZ s.what s.w (iM s.what s.w) _ (HW _ _) (fy (aeq _ _) (by decide))) (fun c2=>?_) (fun c2=>?_)
  ·have hi:=mC c2
   refine aa 0 ?_
   refine aa 0 ?_
   refine fM [] (DK s.n s.aL _ (fy hf.x5 (by decide))) (fun cr=>?_) (fun cr=>?_)
   ·refine aa 0 ?_
    refine aa 0 ?_
    refine eG (fun ct=>?_) (fun ct=>?_)
    ·have ct:(!decide ((s.T.length:Int)=s.n))=true:=ct
     have ct:¬(s.T.length:Int)=s.n:=by simpa using ct
     exact .fwd 1 (.drop 0 1 (.done ⟨aW (Ih hi fun h=>ct h.2),rfl⟩))
    ·have ct:(!decide ((s.T.length:Int)=s.n))=false:=ct
     have ct:(s.T.length:Int)=s.n:=by simpa using ct
     have hr:fu s.n s.aL=true∧(s.T.length:Int)=s.n:=⟨cr,ct⟩
     refine aa 0 ?_
     refine cj (S:=Nat) (fun k=>[(1,.ptr aG 0),(3,.int .i64 1),(42,.ai (.int .i64) s.entry),(43,.int .i64 s.entry.length),(44,.int .i64 k)]) (fun _=>(aG,cd s)::σ) (fun k=>k≤s.entry.length∧((s.entry.take k).any fun v=> !dL s.n v)=false) (fun k=>s.entry.length-k) 0 ⟨⟨bK _,rfl⟩,⟨rfl,rfl,rfl,rfl,rfl,trivial⟩,rfl⟩ ?_
     rintro k g ⟨bD,s7⟩
     have hk:k≤s.entry.length:=bD
     have ha:((s.entry.take k).any fun v=> !dL s.n v)=false:=s7
     clear bD s7
     refine aq (fun ab=>?_) (fun ay=>?_)
     ·have ab:k<s.entry.length:=by have ab:(k:Int)<s.entry.length:=ab;omega
      have hs:=vr ab fun v=> !dL s.n v
      rw[ha,qS]at hs
      have EA:dL s.n s.entry[k]=false→(s.entry.any fun v=> !dL s.n v)=true:=fun h=>nT.2 ⟨s.entry[k],cD ab,by rw[h];rfl⟩
      refine aH.mk rfl (cg.mk s.entry[k] (by omega) (get_some ab) ?_)
      refine aq (p:=s.entry[k]<0) (fun d1=>?_) (fun d1=>?_)
      ·exact .fwd 1 (.drop 0 1 (.done ⟨aW (HT hi hr (EA (by unfold dL;simp;omega))),rfl⟩))
      ·refine aa 0 ?_
       refine aq (p:=s.n≤s.entry[k]) (fun d2=>?_) (fun d2=>?_)
       ·exact .fwd 1 (.drop 0 1 (.done ⟨aW (HT hi hr (EA (by unfold dL;simp;omega))),rfl⟩))
       ·exact aZ (k+1) (by show s.entry.length-(k+1)<s.entry.length-k;omega) ⟨ab,hs.trans (by unfold dL;simp;omega)⟩ ⟨rfl,rfl,rfl,rfl,bu (by have:=hf.Ek;omega),trivial⟩ (.refl _)
     ·have ay:k=s.entry.length:=by have ay:¬(k:Int)<s.entry.length:=ay;omega
      subst ay
      rw[ig]at ha
      refine aa 0 ?_
      refine aa 0 ?_
      refine aa 0 ?_
      refine fM [] (IZ s.what s.w s.init _ hf.i64 (fy hf.IA (by decide))) (fun cv=>?_) (fun cv=>?_)
      ·refine aa 0 ?_
       refine cj (S:=Nat) (fun k=>[(1,.ptr aG 0),(3,.int .i64 2),(66,.ai lX s.T),(67,.int .i64 s.T.length),(68,.int .i64 k)]) (fun _=>(aG,cd s)::σ) (fun k=>k≤s.T.length∧((s.T.take k).any fun t=> !decide (fC s.what s.w t.1 t.2.1 t.2.2.1=0))=false) (fun k=>s.T.length-k) 0 ⟨⟨bK _,rfl⟩,⟨rfl,rfl,rfl,rfl,rfl,trivial⟩,rfl⟩ ?_
       rintro k g ⟨bD,kY⟩
       have hk:k≤s.T.length:=bD
       have ht:((s.T.take k).any fun t=> !decide (fC s.what s.w t.1 t.2.1 t.2.2.1=0))=false:=kY
       clear bD kY
       refine aq (fun ab=>?_) (fun ay=>?_)
       ·have ab:k<s.T.length:=by have ab:(k:Int)<s.T.length:=ab;omega
        have hs:=vr ab fun t=> !decide (fC s.what s.w t.1 t.2.1 t.2.2.1=0)
        rw[ht,qS]at hs
        have ho:=hf.ts _ (cD ab)
        have hm:=cD ab
        obtain⟨t,iz⟩:∃t:mq,s.T[k]=t:=⟨_,rfl⟩
        rw[iz]at hs ho hm
        refine aH.mk rfl (cg.mk t (by omega) ((get_some ab).trans (congrArg some iz)) ?_)
        intro eV
        refine an 0 ?_
        refine aa 1 ?_
        refine aa 1 ?_
        refine aa 0 ?_
        refine aB [] (Mr s.what s.w t.1 t.2.1 t.2.2.1 _ ho.1 ho.2.1 ho.2.2.1 ho.2.2.2.1 (fy ho.2.2.2.2 (by decide))) ?_
        refine eG (fun d1=>?_) (fun d1=>?_)
        ·exact .fwd 1 (.drop 0 2 (.done ⟨aW (Vu hi hr ha cv (nT.2 ⟨t,hm,d1⟩)),rfl⟩))
        ·exact aZ (k+1) (by show s.T.length-(k+1)<s.T.length-k;omega) ⟨ab,hs.trans d1⟩ ⟨rfl,rfl,rfl,rfl,bu (by have:=hf.Ny;omega),trivial⟩ (.drop 0 1 (.refl _))
       ·have ay:k=s.T.length:=by have ay:¬(k:Int)<s.T.length:=ay;omega
        subst ay
        rw[ig]at ht
        exact .drop 0 1 (.done ⟨aW (Nk hi hr ha cv ht),rfl⟩)
      ·exact .fwd 1 (.drop 0 1 (.done ⟨aW (Wc hi hr ha cv),rfl⟩))
   ·exact .fwd 1 (.drop 0 1 (.done ⟨aW (Ih hi fun h=>by rw[h.1]at cr;cases cr),rfl⟩))
  ·have hi:dC s.what s.w=false:=by
    cases h:dC s.what s.w with
    |false=>rfl
    |true=>rw[HB h]at c2;cases c2
   exact .fwd 1 (.drop 0 1 (.done ⟨aW (afS hi),rfl⟩))
 ·have c1:¬dZ s.what s.w=0:=c1
  refine aa 0 ?_
  refine aa 0 ?_
  have hi:dC s.what s.w=true:=by
   cases h:dC s.what s.w with
   |true=>rfl
   |false=>exact absurd (by unfold dZ;rw[h];rfl) c1
  refine fM [] (DK s.n s.aL _ (fy hf.x5 (by decide))) (fun cr=>?_) (fun cr=>?_)
  ·refine aa 0 ?_
   refine aa 0 ?_
   refine eG (fun ct=>?_) (fun ct=>?_)
   ·have ct:(!decide ((s.T.length:Int)=s.n))=true:=ct
    have ct:¬(s.T.length:Int)=s.n:=by simpa using ct
    exact .fwd 1 (.drop 0 1 (.done ⟨aW (Ih hi fun h=>ct h.2),rfl⟩))
   ·have ct:(!decide ((s.T.length:Int)=s.n))=false:=ct
    have ct:(s.T.length:Int)=s.n:=by simpa using ct
    have hr:fu s.n s.aL=true∧(s.T.length:Int)=s.n:=⟨cr,ct⟩
    refine aa 0 ?_
    refine cj (S:=Nat) (fun k=>[(1,.ptr aG 0),(3,.int .i64 1),(42,.ai (.int .i64) s.entry),(43,.int .i64 s.entry.length),(44,.int .i64 k)]) (fun _=>(aG,cd s)::σ) (fun k=>k≤s.entry.length∧((s.entry.take k).any fun v=> !dL s.n v)=false) (fun k=>s.entry.length-k) 0 ⟨⟨bK _,rfl⟩,⟨rfl,rfl,rfl,rfl,rfl,trivial⟩,rfl⟩ ?_
    rintro k g ⟨bD,s7⟩
    have hk:k≤s.entry.length:=bD
    have ha:((s.entry.take k).any fun v=> !dL s.n v)=false:=s7
    clear bD s7
    refine aq (fun ab=>?_) (fun ay=>?_)
    ·have ab:k<s.entry.length:=by have ab:(k:Int)<s.entry.length:=ab;omega
     have hs:=vr ab fun v=> !dL s.n v
     rw[ha,qS]at hs
     have EA:dL s.n s.entry[k]=false→(s.entry.any fun v=> !dL s.n v)=true:=fun h=>nT.2 ⟨s.entry[k],cD ab,by rw[h];rfl⟩
     refine aH.mk rfl (cg.mk s.entry[k] (by omega) (get_some ab) ?_)
     refine aq (p:=s.entry[k]<0) (fun d1=>?_) (fun d1=>?_)
     ·exact .fwd 1 (.drop 0 1 (.done ⟨aW (HT hi hr (EA (by unfold dL;simp;omega))),rfl⟩))
     ·refine aa 0 ?_
      refine aq (p:=s.n≤s.entry[k]) (fun d2=>?_) (fun d2=>?_)
      ·exact .fwd 1 (.drop 0 1 (.done ⟨aW (HT hi hr (EA (by unfold dL;simp;omega))),rfl⟩))
      ·exact aZ (k+1) (by show s.entry.length-(k+1)<s.entry.length-k;omega) ⟨ab,hs.trans (by unfold dL;simp;omega)⟩ ⟨rfl,rfl,rfl,rfl,bu (by have:=hf.Ek;omega),trivial⟩ (.refl _)
    ·have ay:k=s.entry.length:=by have ay:¬(k:Int)<s.entry.length:=ay;omega
     subst ay
     rw[ig]at ha
     refine aa 0 ?_
     refine aa 0 ?_
     refine aa 0 ?_
     refine fM [] (IZ s.what s.w s.init _ hf.i64 (fy hf.IA (by decide))) (fun cv=>?_) (fun cv=>?_)
     ·refine aa 0 ?_
      refine cj (S:=Nat) (fun k=>[(1,.ptr aG 0),(3,.int .i64 2),(66,.ai lX s.T),(67,.int .i64 s.T.length),(68,.int .i64 k)]) (fun _=>(aG,cd s)::σ) (fun k=>k≤s.T.length∧((s.T.take k).any fun t=> !decide (fC s.what s.w t.1 t.2.1 t.2.2.1=0))=false) (fun k=>s.T.length-k) 0 ⟨⟨bK _,rfl⟩,⟨rfl,rfl,rfl,rfl,rfl,trivial⟩,rfl⟩ ?_
      rintro k g ⟨bD,kY⟩
      have hk:k≤s.T.length:=bD
      have ht:((s.T.take k).any fun t=> !decide (fC s.what s.w t.1 t.2.1 t.2.2.1=0))=false:=kY
      clear bD kY
      refine aq (fun ab=>?_) (fun ay=>?_)
      ·have ab:k<s.T.length:=by have ab:(k:Int)<s.T.length:=ab;omega
       have hs:=vr ab fun t=> !decide (fC s.what s.w t.1 t.2.1 t.2.2.1=0)
       rw[ht,qS]at hs
       have ho:=hf.ts _ (cD ab)
       have hm:=cD ab
       obtain⟨t,iz⟩:∃t:mq,s.T[k]=t:=⟨_,rfl⟩
       rw[iz]at hs ho hm
       refine aH.mk rfl (cg.mk t (by omega) ((get_some ab).trans (congrArg some iz)) ?_)
       intro eV
       refine an 0 ?_
       refine aa 1 ?_
       refine aa 1 ?_
       refine aa 0 ?_
       refine aB [] (Mr s.what s.w t.1 t.2.1 t.2.2.1 _ ho.1 ho.2.1 ho.2.2.1 ho.2.2.2.1 (fy ho.2.2.2.2 (by decide))) ?_
       refine eG (fun d1=>?_) (fun d1=>?_)
       ·exact .fwd 1 (.drop 0 2 (.done ⟨aW (Vu hi hr ha cv (nT.2 ⟨t,hm,d1⟩)),rfl⟩))
       ·exact aZ (k+1) (by show s.T.length-(k+1)<s.T.length-k;omega) ⟨ab,hs.trans d1⟩ ⟨rfl,rfl,rfl,rfl,bu (by have:=hf.Ny;omega),trivial⟩ (.drop 0 1 (.refl _))
      ·have ay:k=s.T.length:=by have ay:¬(k:Int)<s.T.length:=ay;omega
       subst ay
       rw[ig]at ht
       exact .drop 0 1 (.done ⟨aW (Nk hi hr ha cv ht),rfl⟩)
     ·exact .fwd 1 (.drop 0 1 (.done ⟨aW (Wc hi hr ha cv),rfl⟩))
  ·exact .fwd 1 (.drop 0 1 (.done ⟨aW (Ih hi fun h=>by rw[h.1]at cr;cases cr),rfl⟩))
theorem aeW(l:List Int)(x:Int)(σ:Hp)(hl:l.length≤1000000):ACalls Tryz.prog 287 [.ai (.int .i64) l,.int .i64 x] σ (fun r σ'=>∃n:Int,r=.int .i64 n∧σ'=σ∧decide (0≤n)=l.any fun z=>decide (x=z)):=by
 refine aA Tryz.func287 ?_
 refine cj (S:=Nat) (fun s=>[(0,.ai (.int .i64) l),(1,.int .i64 x),(7,.int .i64 l.length),(8,.int .i64 s)]) (fun _=>σ) (fun s=>s≤l.length∧((l.take s).any fun z=>decide (x=z))=false) (fun s=>l.length-s) 0 ⟨⟨bK _,rfl⟩,⟨rfl,rfl,rfl,rfl,trivial⟩,rfl⟩ ?_
 rintro k t ⟨bD,fY⟩
 have hk:k≤l.length:=bD
 have hn:((l.take k).any fun z=>decide (x=z))=false:=fY
 clear bD fY
 refine aq (fun ab=>?_) (fun ay=>?_)
 ·have ab:k<l.length:=by have ab:(k:Int)<l.length:=ab;omega
  have hs:=vr ab fun z=>decide (x=z)
  rw[hn,qS]at hs
  refine aH.mk rfl (cg.mk l[k] (by omega) (get_some ab) ?_)
  refine aq (fun c=>?_) (fun c=>?_)
  ·have c:x=l[k]:=c
   have hp:(l.any fun z=>decide (x=z))=true:=nT.2 ⟨l[k],cD ab,aY c⟩
   exact .done ⟨_,rfl,rfl,by rw[hp];exact aY (by omega)⟩
  ·have c:¬x=l[k]:=c
   exact aZ (k+1) (by show l.length-(k+1)<l.length-k;omega) ⟨ab,hs.trans (b9 c)⟩ ⟨rfl,rfl,rfl,bu (by omega),trivial⟩ (.refl _)
 ·have ay:k=l.length:=by have ay:¬(k:Int)<l.length:=ay;omega
  subst ay
  rw[ig]at hn
  exact .done ⟨_,rfl,rfl,by rw[hn];rfl⟩
theorem Zn(l:List Int)(x:Int)(σ:Hp)(hl:l.length≤1000000):ACalls Tryz.prog 255 [.ai (.int .i64) l,.int .i64 x] σ (aE (.bool (l.any fun z=>decide (x=z))) σ):=by
 refine aA Tryz.func255 ?_
 refine .mk [] _ (aeW l x _ hl) ?_
 rintro _ _ ⟨n,rfl,rfl,hn⟩
 rw[← hn]
 refine aq (fun c=>?_) (fun c=>?_)
 ·have c:0≤n:=c
  rw[aY c]
  exact .done ⟨rfl,rfl⟩
 ·have c:¬0≤n:=c
  rw[b9 c]
  exact .done ⟨rfl,rfl⟩
theorem af2(l:List Int)(σ:Hp)(hl:l.length≤1000000):ACalls Tryz.prog 256 [.ai (.int .u64) l] σ (aE (.ai (.int .u64) l) σ):=by
 refine (UU l σ hl).fin ?_
 rintro v σ' ⟨acc,cC,rfl⟩
 exact xB (s:=.int .u64) [] cC rfl (rb l) (by decide) (.done ⟨rfl,rfl⟩)
def ik(s:Sy)(v:Int):List Int:=if (s.entry.any fun z=>decide (v=z))=true then s.init else iM s.what s.w
theorem ag2(s:Sy)(v:Int)(σ:Hp)(hf:Fit s):ACalls Tryz.prog 212 [.agg (cd s),.int .i64 v] σ (aE (.ai (.int .u64) (ik s v)) σ):=by
 refine aA Tryz.func212 ?_
 intro aG
 refine aa 0 ?_
 refine fM [] (Zn s.entry v _ (fy hf.Ek (by decide))) (fun c=>?_) (fun c=>?_)
 ·refine aa 0 ?_
  refine aB [] (af2 s.init _ (fy hf.IA (by decide))) ?_
  exact .drop 0 1 (.done ⟨by unfold ik;rw[c];rfl,rfl⟩)
 ·refine aa 0 ?_
  refine aa 0 ?_
  refine aB [] (LQ _ _ _) ?_
  exact .drop 0 1 (.done ⟨by unfold ik;rw[c];rfl,rfl⟩)
def zi(s:Sy)(a:List (List Int)):Bool:=decide ((a.length:Int)=s.n)&&a.all (cR s.what s.w)
def Ej(a:List (List Int)):Prop:=a.length≤100000∧∀x∈a,bA x∧x.length≤10000
structure Good(s:Sy):Prop where
 uu:dC s.what s.w=true
 n1:1≤s.n
 n2:s.n≤256
 el:s.aL.length≤1024
 vW:∀e∈s.aL,(0≤e.1∧e.1<s.n)∧0≤e.2.1∧e.2.1<s.n
 tl:(s.T.length:Int)=s.n
 ent:∀v∈s.entry,0≤v∧v<s.n
 ini:cR s.what s.w s.init=true
 I7:∀t∈s.T,fC s.what s.w t.1 t.2.1 t.2.2.1=0
theorem kM{n a:Int}:dL n a=true↔0≤a∧a<n:=by unfold dL;simp
theorem Mj{s:Sy}(h:dH s=0):Good s:=by
 unfold dH at h
 split at h
 ·rename_i h1
  split at h
  ·rename_i h2
   split at h
   ·cases h
   ·rename_i h3
    split at h
    ·rename_i h4
     split at h
     ·cases h
     ·rename_i h5
      have h3:(s.entry.any fun v=> !dL s.n v)=false:=by simpa using h3
      have h5:(s.T.any fun t=> !decide (fC s.what s.w t.1 t.2.1 t.2.2.1=0))=false:=by simpa using h5
      have hr:=h2.1
      unfold fu at hr
      simp only[bL,decide_eq_true_eq]at hr
      refine⟨h1,hr.1.1.1,hr.1.1.2,hr.1.2,fun e he=>?_,h2.2,fun v hv=>?_,h4,fun t ht=>?_⟩
      ·have:=fp.1 hr.2 e he
       rw[bL,kM,kM]at this
       exact this
      ·have:=Ce.1 h3 v hv
       exact kM.1 (by simpa using this)
      ·have:=Ce.1 h5 t ht
       simpa using this
    ·cases h
  ·cases h
 ·cases h
theorem Lb{s:Sy}(h:Good s):dH s=0:=by
 refine (Nk h.uu ⟨?_,h.tl⟩ (Ce.2 fun v hv=>?_) h.ini (Ce.2 fun t ht=>?_)).symm
 ·unfold fu
  simp only[bL,decide_eq_true_eq]
  refine⟨⟨⟨h.n1,h.n2⟩,h.el⟩,fp.2 fun e he=>?_⟩
  rw[bL,kM,kM];exact h.vW e he
 ·rw[kM.2 (h.ent v hv)];decide
 ·rw[h.I7 t ht];decide
def jO(s:Sy)(x:List Int)(v:Nat):List Int:=gp s.what (s.T.getD v ([],[],[],())).1 (s.T.getD v ([],[],[],())).2.1 (s.T.getD v ([],[],[],())).2.2.1 x
def zm(s:Sy)(a:List (List Int))(v:Nat)(x:List Int)(e:bg):List Int:=if e.2.1=v then er s.what x (jO s (a.getD e.1.toNat []) e.1.toNat) else x
def og(s:Sy)(a:List (List Int))(k v:Nat):List Int:=(s.aL.take k).foldl (zm s a v) (ik s v)
def H5(s:Sy)(a:List (List Int))(k:Nat):List (List Int):=(List.range s.n.toNat).map (og s a k)
def jN(s:Sy)(a:List (List Int)):List (List Int):=H5 s a s.aL.length
theorem Xx(s:Sy)(a:List (List Int))(k:Nat):(H5 s a k).length=s.n.toNat:=by unfold H5;simp
theorem Ap(s:Sy)(a:List (List Int)){k:Nat}(h:k<s.aL.length)(v:Nat):og s a (k+1) v=zm s a v (og s a k v) s.aL[k]:=by
 unfold og;rw[fQ h,sa];rfl
theorem CY{s:Sy}{a:List (List Int)}:zi s a=true↔(a.length:Int)=s.n∧∀x∈a,cR s.what s.w x=true:=by
 unfold zi;rw[bL,decide_eq_true_eq,fp]
theorem Rh{what w:Int}{x:List Int}(h:cR what w x=true):x.length≤1024:=by
 have h1:=xp h
 have:=CI what w;omega
theorem Ns{s:Sy}(hg:Good s){v:Nat}(h:(v:Int)<s.n):∃h2:v<s.T.length,s.T.getD v ([],[],[],())=s.T[v]:=by
 have h2:v<s.T.length:=by have:=hg.tl;omega
 exact⟨h2,by rw[aR,bc h2];rfl⟩
theorem L7{s:Sy}(hf:Fit s)(hg:Good s){x:List Int}(mV:bA x)(hv:cR s.what s.w x=true){v:Nat}(h:(v:Int)<s.n):cR s.what s.w (jO s x v)=true∧bA (jO s x v):=by
 obtain⟨h2,e⟩:=Ns hg h
 unfold jO
 rw[e]
 have ho:=hf.ts _ (cD h2)
 exact⟨GV ho.1 ho.2.1 mV (hg.I7 _ (cD h2)) hv,Ay mV⟩
theorem KW{s:Sy}(hf:Fit s)(hg:Good s)(v:Int):cR s.what s.w (ik s v)=true∧bA (ik s v):=by
 unfold ik;split
 ·exact⟨hg.ini,hf.i64⟩
 ·exact⟨HB hg.uu,HW _ _⟩
theorem GC{s:Sy}(hf:Fit s)(hg:Good s){a:List (List Int)}(ha:Ej a)(hv:zi s a=true)(v:Nat):∀k,k≤s.aL.length→cR s.what s.w (og s a k v)=true∧bA (og s a k v)
 | 0,_=>by
  show cR s.what s.w (ik s v)=true∧bA (ik s v)
  exact KW hf hg v
 |k+1,h=>by
  have ih:=GC hf hg ha hv v k (by omega)
  rw[Ap s a (by omega)]
  unfold zm
  split
  ·have he:=hg.vW _ (cD (show k<s.aL.length by omega))
   have Jg:=CY.1 hv
   generalize s.aL[k]=e at he
   have hl:e.1.toNat<a.length:=by omega
   have hm:a.getD e.1.toNat []∈a:=by rw[aR,bc hl];exact cD hl
   have ho:=L7 hf hg (ha.2 _ hm).1 (Jg.2 _ hm) (v:=e.1.toNat) (by omega)
   exact⟨LA ih.2 ho.2 ih.1 ho.1,xz ih.2 ho.2⟩
  ·exact ih
theorem Qz{s:Sy}(hf:Fit s)(hg:Good s){a:List (List Int)}(ha:Ej a)(hv:zi s a=true):zi s (jN s a)=true∧Ej (jN s a):=by
 have hx:∀x∈jN s a,cR s.what s.w x=true∧bA x:=fun x hx=>by
  obtain⟨v,_,rfl⟩:=cY.1 hx
  exact GC hf hg ha hv v _ (aM _)
 have hn:=hg.n1
 have kD:=hg.n2
 have hl:(jN s a).length=s.n.toNat:=Xx _ _ _
 exact⟨CY.2 ⟨by omega,fun x h=>(hx x h).1⟩,by omega,fun x h=>⟨(hx x h).2,by have:=Rh (hx x h).1;omega⟩⟩
theorem tD{i:TI}(hs:i.size=1){cs:List AV}{o:Nat}{v:AV}(hv:v.cells?=some [v])(ho:o<cs.length):kn i cs o v=some (cs.set o v):=by
 unfold kn
 rw[hv]
 simp only
 have e1:Nat.beq ([v]:List AV).length i.size=true:=by rw[hs];rfl
 have e2:Nat.ble (o+i.size) cs.length=true:=Kl (by omega)
 rw[e1,e2]
 rfl
theorem iY{i:TI}(hw:i.wide=false){cs:List AV}{o:Nat}{v:AV}(h:cs[o]?=some v):dP i cs o=some v:=by unfold dP;rw[hw];exact h
def za(s:Sy):List (List Int):=List.replicate s.n.toNat (iM s.what s.w)
theorem Xk(s:Sy):(za s).length=s.n.toNat:=fZ
def bE(b:List Bool):List AV:=b.map .bool
theorem aet{b:List Bool}{k:Nat}(h:k<b.length){z:Int}(hz:z=k):(bE b)[0+z.toNat*1]?=some (.bool (b.getD k false)):=by
 subst hz
 rw[bU,eo,dK]
 unfold bE
 rw[eU,bc h,aR,bc h];rfl
theorem aer(b:List Bool)(k:Nat)(x:Bool){z:Int}(hz:z=k):(bE b).set (0+z.toNat*1) (.bool x)=bE (b.set k x):=by
 subst hz
 rw[bU,eo,dK]
 unfold bE
 rw[nS]
theorem Di(n:Nat):cz [.bool false] n=bE (List.replicate n false):=by
 induction n with
 |zero=>rfl
 |succ n ih=>show AV.bool false::cz [.bool false] n=_;rw[ih];rfl
def xO(n:Int)(b:List Bool)(a:Int):List Bool:=if 0≤a∧a<n then b.set a.toNat true else b
def rZ(n:Int)(b:List Bool)(e:bg):List Bool:=if (0≤e.1∧e.1<n)∧(0≤e.2.1∧e.2.1<n)∧b.getD e.1.toNat false=true then b.set e.2.1.toNat true else b
def po(n:Int)(l:List bg)(b:List Bool):List Bool:=l.foldl (rZ n) b
def vt(n:Int)(l:List bg):Nat→List Bool→List Bool
 | 0,b=>b
 |k+1,b=>vt n l k (po n l b)
def M7(b:List Bool)(k:Nat):List Int:=((List.range k).filter fun i=>b.getD i false).map fun i:Nat=>(i:Int)
def DG(n:Int)(l:List bg)(fr:List Int):List Bool:=vt n l n.toNat (fr.foldl (xO n) (List.replicate n.toNat false))
def MA(n:Int)(l:List bg)(fr:List Int):List Int:=M7 (DG n l fr) n.toNat
theorem PW(n:Int)(b:List Bool)(a:Int):(xO n b a).length=b.length:=by unfold xO;split;exact ck;rfl
theorem QU(n:Int)(b:List Bool)(e:bg):(rZ n b e).length=b.length:=by unfold rZ;split;exact ck;rfl
theorem aes(b:List Bool):(bE b).length=b.length:=cb _
theorem rounds_succ(n:Int)(l:List bg)(k:Nat)(b:List Bool):vt n l (k+1) b=vt n l k (po n l b):=rfl
theorem yV{i:TI}(hs:i.size=1){b:List Bool}(x:Bool){a:Int}(h1:0≤a)(h2:a<b.length):kn i (bE b) (0+a.toNat*1) (.bool x)=some (bE (b.set a.toNat x)):=by
 rw[tD hs rfl (by rw[aes];omega),aer b a.toNat x (by omega)]
theorem tw{i:TI}(hw:i.wide=false){b:List Bool}{a:Int}(h1:0≤a)(h2:a<b.length):dP i (bE b) (0+a.toNat*1)=some (.bool (b.getD a.toNat false)):=iY hw (aet (by omega) (by omega))
def sQ(l:List Int)(x:Int):Bool:=l.any fun z=>decide (x=z)
theorem Dr{l:List Int}{x:Int}:sQ l x=true↔x∈l:=by unfold sQ;simp
theorem Mg(l:List Int):(ak l).length=l.length:=cb _
def BG(n:Int)(l:List bg)(a b:Int):Bool:=sQ (MA n l [a]) b
def MB(n:Int)(l:List bg)(a:Int)(k:Nat):List Int:=((List.range k).filter fun b:Nat=>BG n l a b&&BG n l b a).map fun i:Nat=>(i:Int)
def ry(n:Int)(l:List bg)(a:Int):List Int:=MB n l a n.toNat
def Nj(l:List bg)(part told:List Int):Bool:=l.all fun e=> !(sQ part e.2.1&&!sQ part e.1&&!sQ told e.1)
theorem KK{b:List Bool}{i j:Nat}{x:Bool}:(b.set i x).getD j false=if i=j∧j<b.length then x else b.getD j false:=by
 simp only[aR,dY]
 by_cases h:i=j
 ·subst h
  by_cases h2:i<b.length
  ·simp[h2]
  ·simp[h2]
 ·simp[h]
theorem aa2{n:Nat}{l:List bg}{a z:Int}:z∈ry n l a↔∃i:Nat,i<n∧(BG n l a i&&BG n l i a)=true∧z=i:=by
 unfold ry MB
 rw[cY,bU]
 constructor
 ·rintro⟨i,hi,rfl⟩
  rw[ki,fA]at hi
  exact⟨i,hi.1,hi.2,rfl⟩
 ·rintro⟨i,h1,h2,rfl⟩
  exact⟨i,by rw[ki,fA];exact⟨h1,h2⟩,rfl⟩
def cq(ps:List (List Int)):List AV:=ps.map (.ai (.int .i64))
theorem xj:∀ps:List (List Int),cq ps=ps.flatMap (Sh.cells (.slice (.int .i64)))
 | []=>rfl
 |p::ps=>congrArg (AV.ai (.int .i64) p :: ·) (xj ps)
theorem Uw{nx:List Int}(h:0<nx.length):nx[((0:Int)).toNat]?=some (nx.headD 0):=by
 cases nx with
 |nil=>simp at h
 |cons z nx=>rfl
end Go.Proofs.YtnikdflhefijbaaGreat
namespace Go.Proofs.YtnikdflhefijbaaGreat
open Go.Shelf
def Ya:Go.Shelf.Ren:=⟨fun | 189=>312 | 125=>233 | 257=>338 | 128=>274 | 129=>275 | 294=>346 | 295=>347 | 296=>348 | 297=>349 | 298=>350 | 299=>351 | 216=>352 | 300=>353 | 301=>354 | 328=>360 | 329=>296 | 330=>297 | 331=>361 | 332=>362 | 215=>234 | 343=>365 | n=>n,fun | 28=>23 | 3=>3 | 46=>253 | 0=>0 | 51=>284 | 53=>56 | 4=>4 | 183=>308 | 182=>307 | 131=>312 | 5=>5 | 9=>9 | 218=>331 | 222=>335 | 228=>353 | 229=>50 | n=>n,fun | n=>n⟩
theorem Mc:Go.Proofs.Lays.n189 Tryz.prog Ya:= {
 mixed:=by kernel_rfl
 f125:=Tryz.func233.trans (congrArg some (by kernel_rfl))
 f128:=Tryz.func274.trans (congrArg some (by kernel_rfl))
 f129:=Tryz.func275.trans (congrArg some (by kernel_rfl))
 f189:=Tryz.func312.trans (congrArg some (by kernel_rfl))
 f215:=Tryz.func234.trans (congrArg some (by kernel_rfl))
 f216:=Tryz.func352.trans (congrArg some (by kernel_rfl))
 f257:=Tryz.func338.trans (congrArg some (by kernel_rfl))
 f294:=Tryz.func346.trans (congrArg some (by kernel_rfl))
 f295:=Tryz.func347.trans (congrArg some (by kernel_rfl))
 f296:=Tryz.func348.trans (congrArg some (by kernel_rfl))
 f297:=Tryz.func349.trans (congrArg some (by kernel_rfl))
 f298:=Tryz.func350.trans (congrArg some (by kernel_rfl))
 f299:=Tryz.func351.trans (congrArg some (by kernel_rfl))
 f300:=Tryz.func353.trans (congrArg some (by kernel_rfl))
 f301:=Tryz.func354.trans (congrArg some (by kernel_rfl))
 f328:=Tryz.func360.trans (congrArg some (by kernel_rfl))
 f329:=Tryz.func296.trans (congrArg some (by kernel_rfl))
 f330:=Tryz.func297.trans (congrArg some (by kernel_rfl))
 f331:=Tryz.func361.trans (congrArg some (by kernel_rfl))
 f332:=Tryz.func362.trans (congrArg some (by kernel_rfl))
 f343:=Tryz.func365.trans (congrArg some (by kernel_rfl))
 t0:=Tryz.underlying0
 a0:=Tryz.isAgg0
 z0:=Tryz.sizeOf0
 v0:=Tryz.zeroValue0
 t3:=Tryz.underlying3
 a3:=Tryz.isAgg3
 z3:=Tryz.sizeOf3
 v3:=Tryz.zeroValue3
 t4:=Tryz.underlying4
 a4:=Tryz.isAgg4
 z4:=Tryz.sizeOf4
 v4:=Tryz.zeroValue4
 t5:=Tryz.underlying5
 a5:=Tryz.isAgg5
 z5:=Tryz.sizeOf5
 v5:=Tryz.zeroValue5
 t9:=Tryz.underlying9
 a9:=Tryz.isAgg9
 z9:=Tryz.sizeOf9
 v9:=Tryz.zeroValue9
 t28:=Tryz.underlying23
 a28:=Tryz.isAgg23
 z28:=Tryz.sizeOf23
 v28:=Tryz.zeroValue23
 t46:=Tryz.underlying253
 a46:=Tryz.isAgg253
 z46:=Tryz.sizeOf253
 v46:=Tryz.zeroValue253
 t51:=Tryz.underlying284
 a51:=Tryz.isAgg284
 z51:=Tryz.sizeOf284
 v51:=Tryz.zeroValue284
 t53:=Tryz.underlying56
 a53:=Tryz.isAgg56
 z53:=Tryz.sizeOf56
 v53:=Tryz.zeroValue56
 t131:=Tryz.underlying312
 a131:=Tryz.isAgg312
 z131:=Tryz.sizeOf312
 v131:=Tryz.zeroValue312
 t182:=Tryz.underlying307
 a182:=Tryz.isAgg307
 z182:=Tryz.sizeOf307
 v182:=Tryz.zeroValue307
 t183:=Tryz.underlying308
 a183:=Tryz.isAgg308
 z183:=Tryz.sizeOf308
 v183:=Tryz.zeroValue308
 t218:=Tryz.underlying331
 a218:=Tryz.isAgg331
 z218:=Tryz.sizeOf331
 v218:=Tryz.zeroValue331
 t222:=Tryz.underlying335
 a222:=Tryz.isAgg335
 z222:=Tryz.sizeOf335
 v222:=Tryz.zeroValue335
 t228:=Tryz.underlying353
 a228:=Tryz.isAgg353
 z228:=Tryz.sizeOf353
 v228:=Tryz.zeroValue353
 t229:=Tryz.underlying50
 a229:=Tryz.isAgg50
 z229:=Tryz.sizeOf50
 v229:=Tryz.zeroValue50 }
def X9:Go.Shelf.Ren:=⟨fun | 20=>313 | n=>n,fun | 22=>23 | 3=>3 | 4=>4 | 0=>0 | n=>n,fun | n=>n⟩
theorem Mb:Go.Proofs.Lays2.n20 Tryz.prog X9:= {
 mixed:=by kernel_rfl
 f20:=Tryz.func313.trans (congrArg some (by kernel_rfl))
 t0:=Tryz.underlying0
 a0:=Tryz.isAgg0
 z0:=Tryz.sizeOf0
 v0:=Tryz.zeroValue0
 t3:=Tryz.underlying3
 a3:=Tryz.isAgg3
 z3:=Tryz.sizeOf3
 v3:=Tryz.zeroValue3
 t4:=Tryz.underlying4
 a4:=Tryz.isAgg4
 z4:=Tryz.sizeOf4
 v4:=Tryz.zeroValue4
 t22:=Tryz.underlying23
 a22:=Tryz.isAgg23
 z22:=Tryz.sizeOf23
 v22:=Tryz.zeroValue23
 i3:=by kernel_rfl }
end Go.Proofs.YtnikdflhefijbaaGreat
