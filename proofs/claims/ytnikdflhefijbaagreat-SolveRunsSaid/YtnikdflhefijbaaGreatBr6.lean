import Derived.Test.YtnikdflhefijbaaGreatBr5
namespace Go.Proofs.YtnikdflhefijbaaGreat
open Go.RowKit
set_option maxRecDepth 100000
def aP(ws:List Int):List AV:=ws.map (.int .u64)
theorem tw(n:Nat):cN [.int .u64 0] n=aP (List.replicate n 0):=by
 unfold aP
 induction n with
 |zero=>rfl
 |succ n ih=>simp[cN,ih,List.replicate_succ]
theorem jK:∀(ws:List Int),aP ws=ws.flatMap (Sh.cells (.int .u64))
 | []=>rfl
 |z::ws=>congrArg (AV.int .u64 z :: ·) (jK ws)
theorem RK(n:Int)(σ:Hp):ACalls Tryz.prog 335 [.int .i64 n] σ (fun r σ'=>∃m,r=.int .i64 m∧σ'=σ):=by
 refine au Tryz.func335 ?_
 refine dX ?_
 refine aj (fun h1=>?_) (fun h1=>?_)
 ·have h1:32767<n.tmod 65536:=h1
  exact .done ⟨_,rfl,rfl⟩
 ·have h1:¬(32767<n.tmod 65536):=h1
  refine aj (fun h2=>?_) (fun h2=>?_)
  ·have h2:n.tmod 65536 < -32768:=h2
   exact .done ⟨_,rfl,rfl⟩
  ·have h2:¬(n.tmod 65536 < -32768):=h2
   exact .done ⟨_,rfl,rfl⟩
theorem aeA(a b:Int)(σ:Hp):ACalls Tryz.prog 309 [.int .i64 a,.int .i64 b] σ (fun r σ'=>∃x y,r=.agg [.int .i64 x,.int .i64 y]∧σ'=σ):=by
 refine au Tryz.func309 ?_
 intro b1
 (refine .mk [] _ (RK _ _) ?_;rintro _ _ ⟨x,rfl,rfl⟩)
 (refine .mk [] _ (RK _ _) ?_;rintro _ _ ⟨x,rfl,rfl⟩)
 refine ag 0 ?_
 refine aa 0 ?_
 exact .drop 0 1 (.done ⟨_,_,rfl,rfl⟩)
theorem Bi{w:Int}{k m:Nat}(hk:min (Int.toNat (k:Int)) IntKind.u64.bits=m):w.fdiv (2 ^ min (Int.toNat (k:Int)) IntKind.u64.bits)=w / 2 ^ m:=by
 rw[hk];exact Int.fdiv_eq_ediv_of_nonneg _ (Int.le_of_lt (Int.pow_pos (by decide)))
theorem Fw(w:Int):bits .and .u64 w 3=w % 4:=by
 show IntKind.u64.wrap ((BitVec.ofInt 64 w &&& BitVec.ofInt 64 3).toNat:Int)=_
 have h3:(BitVec.ofInt 64 3:BitVec 64).toNat=2 ^ 2-1:=by decide
 rw[BitVec.toNat_and,h3,L5,BitVec.toNat_ofInt,IntKind.wrap_u64]
 omega
def eA(w:Int):Bool:=decide (w % 4=2)&&decide (0≤w∧w<17179869184)
theorem aak(w:Int)(σ:Hp):ACalls Tryz.prog 285 [.int .u64 w] σ (fun r σ'=>∃x y,r=.tup [.agg [.int .i64 x,.int .i64 y],.bool (decide (0≤w∧w<4294967296))]∧σ'=σ):=by
 have e:=Bi (k:=32) (m:=32) (w:=w) (by decide)
 refine au Tryz.func285 ?_
 intro b1
 refine dX ?_
 refine cQ (fun h2=>?_) (fun h2=>?_)
 ·have h2:¬(w.fdiv (2 ^ min (Int.toNat 32) IntKind.u64.bits)=0):=by simpa using h2
  have hw:¬(0≤w∧w<4294967296):=fun h=>h2 (by rw[show w.fdiv (2 ^ min (Int.toNat 32) IntKind.u64.bits)=w / 2 ^ 32 from e];omega)
  refine ag 0 ?_
  refine aa 0 ?_
  exact .drop 0 1 (.done ⟨_,_,by rw[cy hw];rfl,rfl⟩)
 ·have h2:w.fdiv (2 ^ min (Int.toNat 32) IntKind.u64.bits)=0:=by simpa using h2
  have hw:0≤w∧w<4294967296:=by rw[show w.fdiv (2 ^ min (Int.toNat 32) IntKind.u64.bits)=w / 2 ^ 32 from e]at h2;omega
  refine dX ?_
  (refine .mk [] _ (aeA _ _ _) ?_;rintro _ _ ⟨x,y,rfl,rfl⟩)
  refine ag 0 ?_
  refine aa 0 ?_
  exact .drop 0 1 (.done ⟨_,_,by rw[bj hw];rfl,rfl⟩)
theorem aew(w:Int)(σ:Hp):ACalls Tryz.prog 251 [.int .u64 w] σ (fun r σ'=>∃x y,r=.tup [.agg [.int .i64 x,.int .i64 y],.bool (eA w)]∧σ'=σ):=by
 have e:=Bi (k:=2) (m:=2) (w:=w) (by decide)
 refine au Tryz.func251 ?_
 intro b1
 refine cQ (fun h2=>?_) (fun h2=>?_)
 ·have h2:¬(bits BinOp.and IntKind.u64 w 3=2):=by simpa using h2
  rw[Fw]at h2
  refine ag 0 ?_
  refine aa 0 ?_
  exact .drop 0 1 (.done ⟨_,_,by rw[show eA w=false by simp[eA,h2]];rfl,rfl⟩)
 ·have h2:bits BinOp.and IntKind.u64 w 3=2:=by simpa using h2
  rw[Fw]at h2
  refine dX ?_
  have e':w.fdiv (2 ^ min (Int.toNat 2) IntKind.u64.bits)=w / 4:=e
  refine .mk [] _ (aak _ _) ?_
  rintro _ _ ⟨x,y,rfl,rfl⟩
  have hk:decide (0≤w.fdiv (2 ^ min (Int.toNat 2) IntKind.u64.bits)∧w.fdiv (2 ^ min (Int.toNat 2) IntKind.u64.bits)<4294967296)=eA w:=by
   rw[e',show eA w=decide (0≤w∧w<17179869184) by simp[eA,h2]];exact decide_eq_decide.2 (by omega)
  refine ag 0 ?_
  refine aa 0 ?_
  exact .drop 0 1 (.done ⟨_,_,by rw[hk];rfl,rfl⟩)
def aS(w:Int):Int:=if w=0 then 0 else if w=1 then 1 else if eA w then w else 1
theorem Im{w:Int}(h:eA w=true):w≠0∧w≠1:=by
 unfold eA at h;simp at h;omega
theorem aIs(w:Int)(σ:Hp):ACalls Tryz.prog 202 [.int .u64 w] σ (aD (.bool (eA w||decide (w=0)||decide (w=1))) σ):=by
 refine au Tryz.func202 ?_
 refine .mk [] _ (aew w _) ?_
 rintro _ _ ⟨x,y,rfl,rfl⟩
 cases hn:eA w
 ·intro aB
  refine ag 0 ?_
  refine aj (fun c2=>?_) (fun c2=>?_)
  ·have c2:w=0:=c2
   exact .drop 0 1 (.done ⟨cd (by simp[*]),rfl⟩)
  ·have c2:¬(w=0):=c2
   refine aj (fun c3=>?_) (fun c3=>?_)
   ·have c3:w=1:=c3
    exact .drop 0 1 (.done ⟨cd (by simp[*]),rfl⟩)
   ·have c3:¬(w=1):=c3
    exact .drop 0 1 (.done ⟨cd (by simp[*]),rfl⟩)
 ·intro aB
  refine ag 0 ?_
  exact .drop 0 1 (.done ⟨cd (by simp[*]),rfl⟩)
theorem JR(w:Int)(σ:Hp):ACalls Tryz.prog 333 [.int .u64 w] σ (aD (.int .u64 (aS w)) σ):=by
 refine au Tryz.func333 ?_
 refine dr [] (aIs w σ) (fun h=>?_) (fun h=>?_)
 ·refine .done ⟨aR ?_,rfl⟩
  unfold aS
  simp at h
  rcases h with (h | h) | h
  ·simp[h,Im h]
  ·simp[h]
  ·simp[h]
 ·exact .done ⟨aR (by unfold aS;simp at h;simp[h]),rfl⟩
def nJ(a b:Int):Int:=if aS a=aS b∨aS b=0 then aS a else if aS a=0 then aS b else 1
theorem acm(a b:Int)(σ:Hp):ACalls Tryz.prog 304 [.int .u64 a,.int .u64 b] σ (aD (.int .u64 (nJ a b)) σ):=by
 refine au Tryz.func304 ?_
 refine ar [] (JR _ _) ?_
 refine ar [] (JR _ _) ?_
 refine aj (fun c1=>?_) (fun c1=>?_)
 ·have c1:aS a=aS b:=c1
  exact .done ⟨aR (by unfold nJ;split <;> (try split) <;> omega),rfl⟩
 ·have c1:¬(aS a=aS b):=c1
  refine aj (fun c2=>?_) (fun c2=>?_)
  ·have c2:aS b=0:=c2
   exact .done ⟨aR (by unfold nJ;split <;> (try split) <;> omega),rfl⟩
  ·have c2:¬(aS b=0):=c2
   refine aj (fun c3=>?_) (fun c3=>?_)
   ·have c3:aS a=0:=c3
    exact .done ⟨aR (by unfold nJ;split <;> (try split) <;> omega),rfl⟩
   ·have c3:¬(aS a=0):=c3
    exact .done ⟨aR (by unfold nJ;split <;> (try split) <;> omega),rfl⟩
def eW(ai a b:Int):Int:=if ai=1 then bits .or .u64 a b else if ai=2 then bits .and .u64 a b else if ai=3 then nJ a b else 0
theorem Su(ai a b:Int)(σ:Hp):ACalls Tryz.prog 279 [.int .i64 ai,.int .u64 a,.int .u64 b] σ (aD (.int .u64 (eW ai a b)) σ):=by
 refine au Tryz.func279 ?_
 refine aj (fun c1=>?_) (fun c1=>?_)
 ·have c1:ai=1:=c1
  exact .done ⟨aR (by simp[eW, *]),rfl⟩
 ·have c1:¬(ai=1):=c1
  refine aj (fun c2=>?_) (fun c2=>?_)
  ·have c2:ai=2:=c2
   exact .done ⟨aR (by simp[eW, *]),rfl⟩
  ·have c2:¬(ai=2):=c2
   refine aj (fun c3=>?_) (fun c3=>?_)
   ·have c3:ai=3:=c3
    refine ar [] (acm _ _ _) ?_
    exact .done ⟨aR (by simp[eW, *]),rfl⟩
   ·have c3:¬(ai=3):=c3
    exact .done ⟨aR (by simp[eW, *]),rfl⟩
theorem QL(n:Int)(σ:Hp):ACalls Tryz.prog 261 [.int .i64 n] σ (fun r σ'=>∃m,r=.int .i64 m∧σ'=σ):=by
 refine au Tryz.func261 ?_
 refine dX ?_
 refine dX ?_
 exact .done ⟨_,rfl,rfl⟩
theorem ade(a b:Int)(σ:Hp):ACalls Tryz.prog 223 [.int .i64 a,.int .i64 b] σ (fun r σ'=>∃x y,r=.agg [.int .i64 x,.int .i64 y]∧σ'=σ):=by
 refine au Tryz.func223 ?_
 intro aB
 (refine .mk [] _ (QL _ _) ?_;rintro _ _ ⟨x,rfl,rfl⟩)
 (refine .mk [] _ (QL _ _) ?_;rintro _ _ ⟨x,rfl,rfl⟩)
 refine ag 0 ?_
 refine aa 0 ?_
 exact .drop 0 1 (.done ⟨_,_,rfl,rfl⟩)
theorem ad9(w:Int)(σ:Hp)(h0:0≤w)(h2:w<18446744073709551616):ACalls Tryz.prog 179 [.int .u64 w] σ (fun r σ'=>∃x y,r=.tup [.agg [.int .i64 x,.int .i64 y],.bool (eA w)]∧σ'=σ):=by
 have e1:w.tmod 4=w % 4:=sa h0
 have e2:IntKind.u64.wrap (w.tdiv 4)=w / 4:=by rw[AA h0,IntKind.wrap_u64];omega
 refine au Tryz.func179 ?_
 intro aB
 refine dX ?_
 refine cQ (fun c2=>?_) (fun c2=>?_)
 ·have c2:¬(w.tmod 4=2):=by simpa using c2
  refine ag 0 ?_
  refine aa 0 ?_
  exact .drop 0 1 (.done ⟨_,_,by rw[show eA w=false by unfold eA;simp;omega];rfl,rfl⟩)
 ·have c2:w.tmod 4=2:=by simpa using c2
  refine dX ?_
  refine aj (fun c3=>?_) (fun c3=>?_)
  ·have c3:4294967296≤IntKind.u64.wrap (w.tdiv 4):=c3
   refine ag 0 ?_
   refine aa 0 ?_
   exact .drop 0 1 (.done ⟨_,_,by rw[show eA w=false by unfold eA;simp;omega];rfl,rfl⟩)
  ·have c3:¬(4294967296≤IntKind.u64.wrap (w.tdiv 4)):=c3
   refine dX ?_
   refine dX ?_
   refine dX ?_
   (refine .mk [] _ (ade _ _ _) ?_;rintro _ _ ⟨x,y,rfl,rfl⟩)
   refine ag 0 ?_
   refine aa 0 ?_
   exact .drop 0 1 (.done ⟨_,_,by rw[show eA w=true by unfold eA;simp;omega];rfl,rfl⟩)
theorem BD(w:Int)(σ:Hp)(h0:0≤w)(h2:w<18446744073709551616):ACalls Tryz.prog 129 [.int .u64 w] σ (aD (.int .u64 (aS w)) σ):=by
 refine au Tryz.func129 ?_
 refine .mk [] _ (ad9 w _ h0 h2) ?_
 rintro _ _ ⟨x,y,rfl,rfl⟩
 cases hn:eA w
 ·intro aB
  refine ag 0 ?_
  refine cQ (fun c2=>?_) (fun c2=>?_)
  ·have c2:¬(w=0):=by simpa using c2
   exact .drop 0 1 (.done ⟨aR (by simp[aS, *]),rfl⟩)
  ·have c2:w=0:=by simpa using c2
   exact .drop 0 1 (.done ⟨aR (by simp[aS, *]),rfl⟩)
 ·have bc:=Im hn
  intro aB
  refine ag 0 ?_
  refine cQ (fun c2=>?_) (fun c2=>?_)
  ·have c2:¬(w=0):=by simpa using c2
   exact .drop 0 1 (.done ⟨aR (by simp[aS, *]),rfl⟩)
  ·have c2:w=0:=by simpa using c2
   exact .drop 0 1 (.done ⟨aR (by simp[aS, *]),rfl⟩)
theorem ac5(a b:Int)(σ:Hp)(h0:0≤a)(h1:0≤b)(h2:a<18446744073709551616)(h3:b<18446744073709551616):ACalls Tryz.prog 231 [.int .u64 a,.int .u64 b] σ (aD (.int .u64 (nJ a b)) σ):=by
 refine au Tryz.func231 ?_
 refine ar [] (BD _ _ h0 h2) ?_
 refine ar [] (BD _ _ h1 h3) ?_
 refine aj (fun c1=>?_) (fun c1=>?_)
 ·have c1:aS a=0:=c1
  exact .done ⟨aR (by unfold nJ;split <;> (try split) <;> omega),rfl⟩
 ·have c1:¬(aS a=0):=c1
  refine aj (fun c2=>?_) (fun c2=>?_)
  ·have c2:aS a=aS b:=c2
   exact .done ⟨aR (by unfold nJ;split <;> (try split) <;> omega),rfl⟩
  ·have c2:¬(aS a=aS b):=c2
   refine aj (fun c3=>?_) (fun c3=>?_)
   ·have c3:aS b=0:=c3
    exact .done ⟨aR (by unfold nJ;split <;> (try split) <;> omega),rfl⟩
   ·have c3:¬(aS b=0):=c3
    exact .done ⟨aR (by unfold nJ;split <;> (try split) <;> omega),rfl⟩
theorem RD(ai a b:Int)(σ:Hp)(h0:0≤a)(h1:0≤b)(h2:a<18446744073709551616)(h3:b<18446744073709551616):ACalls Tryz.prog 177 [.int .i64 ai,.int .u64 a,.int .u64 b] σ (aD (.int .u64 (eW ai a b)) σ):=by
 refine au Tryz.func177 ?_
 refine aj (fun c1=>?_) (fun c1=>?_)
 ·have c1:ai=1:=c1
  exact .done ⟨aR (by simp[eW, *]),rfl⟩
 ·have c1:¬(ai=1):=c1
  refine aj (fun c2=>?_) (fun c2=>?_)
  ·have c2:ai=2:=c2
   exact .done ⟨aR (by simp[eW, *]),rfl⟩
  ·have c2:¬(ai=2):=c2
   refine aj (fun c3=>?_) (fun c3=>?_)
   ·have c3:ai=3:=c3
    refine ar [] (ac5 _ _ _ h0 h1 h2 h3) ?_
    exact .done ⟨aR (by simp[eW, *]),rfl⟩
   ·have c3:¬(ai=3):=c3
    exact .done ⟨aR (by simp[eW, *]),rfl⟩
def wd(a:List Int)(i:Nat):Int:=(a[i]?).getD 0
def bP(z:Int):Prop:=0≤z∧z<18446744073709551616
def bX(l:List Int):Prop:=∀z∈l,bP z
theorem Bf(n:Int):bP (IntKind.u64.wrap n):=by rw[IntKind.wrap_u64];unfold bP;omega
theorem EK{w:Int}(h:bP w):bP (aS w):=by
 unfold aS
 split
 ·exact⟨by decide,by decide⟩
 ·split
  ·exact⟨by decide,by decide⟩
  ·split
   ·exact h
   ·exact⟨by decide,by decide⟩
theorem Zi{ai a b:Int}(ha:bP a)(hb:bP b):bP (eW ai a b):=by
 unfold eW
 split
 ·exact Bf _
 ·split
  ·exact Bf _
  ·split
   ·unfold nJ
    split
    ·exact EK ha
    ·split
     ·exact EK hb
     ·exact⟨by decide,by decide⟩
   ·exact⟨by decide,by decide⟩
theorem lT{l:List Int}(h:bX l)(i:Nat):bP (wd l i):=by
 unfold wd
 cases hq:l[i]? with
 |none=>exact⟨by decide,by decide⟩
 |some x=>exact h x (dm hq)
def rC(ws:List Int)(a:Int):Bool:=decide (0≤a)&&decide (a<ws.length)
def bV(ws:List Int)(a:Int):Int:=if a<0 then 0 else ws.getD a.toNat 0
def fy(ws:List Int)(a x:Int):List Int:=if a<0 then ws else ws.set a.toNat x
def nY(n:Int):Nat:=(min (max n 0) 1048576).toNat
theorem QD(n:Int):nY n≤1048576:=by unfold nY;omega
theorem HX{ws:List Int}{a:Int}(h:0≤a)(h1:a<ws.length):rC ws a=true:=by simp[rC,h,h1]
theorem Bd(a n:Int)(h:0≤a)(h1:a<n):(decide (0≤a)&&decide (a<n))=true:=by simp[h,h1]
theorem A3(a n:Int)(h:¬(0≤a∧a<n)):(decide (0≤a)&&decide (a<n))=false:=by simp;omega
theorem ov{ws:List Int}{a:Nat}:bV ws (a:Int)=ws.getD a 0:=by
 unfold bV;rw[aA (by omega)];rfl
theorem Oh{ws:List Int}{a:Int}(h:¬(0≤a∧a<(ws.length:Int))):bV ws a=0:=by
 unfold bV
 split
 ·rfl
 ·rw[List.getD,r9 (by omega)];rfl
theorem mn{ws:List Int}{a:Nat}(x:Int):fy ws (a:Int) x=ws.set a x:=by
 unfold fy;rw[aA (by omega)];rfl
theorem Nc{ws:List Int}{a x:Int}(h:¬(0≤a∧a<(ws.length:Int))):fy ws a x=ws:=by
 unfold fy
 split
 ·rfl
 ·exact List.set_eq_of_length_le (by omega)
theorem yA(ws:List Int)(a x:Int):(fy ws a x).length=ws.length:=by unfold fy;split <;> simp
def gL(ws:List Int)(a old:Int):Bool:=rC ws a&&(bV ws a == old)
def gj(ws:List Int)(a old to:Int):List Int:=if gL ws a old then fy ws a to else ws
theorem uX(ws:List Int)(a o t:Int):(gj ws a o t).length=ws.length:=by unfold gj;split <;> simp[yA]
def pG(ws:List Int)(a d:Int):Int:=if rC ws a then (bV ws a+d) % 18446744073709551616 else 0
def k9(ws:List Int)(a d:Int):List Int:=if rC ws a then fy ws a ((bV ws a+d) % 18446744073709551616) else ws
theorem Mx(ws:List Int)(a d:Int):(k9 ws a d).length=ws.length:=by unfold k9;split <;> simp[yA]
def yx(ws:List Int)(k at_ a:Int):Int:=if k=1 then bV ws at_ else if k=2∨k=3 then 0 else pG ws at_ a
def cP(ws:List Int)(k at_ a:Int):Bool:=if k=3 then gL ws at_ a else false
def qH(ws:List Int)(k at_ a b:Int):List Int:=if k=1 then ws else if k=2 then fy ws at_ a else if k=3 then gj ws at_ a b else k9 ws at_ a
def sQ(q n:Nat):List AV:=[.int .i64 n,.ah q 0 n 1]
theorem vy{ws:List Int}{k:Nat}(h:k<ws.length):(aP ws)[0+((k:Int)).toNat*1]?=some (.int .u64 (ws.getD k 0)):=by
 simp[aP,h,List.getD]
theorem Zj{ws:List Int}{k:Nat}(x:Int):(aP ws).set k (.int .u64 x)=aP (ws.set k x):=by simp[aP,List.map_set]
theorem yQ{ws:List Int}{k:Nat}(x:Int)(h:k<ws.length):kC ⟨.int .u64,1,8,[.int .u64 0]⟩ (aP ws) (0+((k:Int)).toNat*1) (.int .u64 x)=some (aP (ws.set k x)):=by
 have e:0+((k:Int)).toNat*1=k:=by omega
 have h2:Nat.ble (k+1) (aP ws).length=true:=Nat.ble_eq_true_of_le (by simp[aP];omega)
 rw[e]
 show (match Nat.beq 1 1,Nat.ble (k+1) (aP ws).length with | true,true=>some (gi (aP ws) k [.int .u64 x]) | _,_=>none)=_
 rw[h2]
 show some ((aP ws).set k (.int .u64 x))=_
 rw[Zj]
theorem Gc(n a:Int)(σ:Hp):ACalls Tryz.prog 387 [.agg [.int .i64 n],.int .i64 a] σ (aD (.bool (decide (0≤a)&&decide (a<n))) σ):=by
 refine au Tryz.func387 ?_
 intro b
 refine aj (fun h=>?_) (fun h=>?_)
 ·refine aa 0 ?_
  refine aj (fun h2=>?_) (fun h2=>?_)
  ·exact .drop 0 1 (.done ⟨cd (by simp[h,h2]),rfl⟩)
  ·exact .drop 0 1 (.done ⟨cd (by simp[h2]),rfl⟩)
 ·exact .drop 0 1 (.done ⟨cd (by simp[h]),rfl⟩)
theorem Ti(n:Int)(σ:Hp):ACalls Tryz.prog 155 [.int .i64 n] σ (aD (.agg [.int .i64 (nY n)]) σ):=by
 refine au Tryz.func155 ?_
 intro b
 refine ag 0 ?_
 refine aa 0 ?_
 refine .drop 0 1 (.done ⟨?_,rfl⟩)
 show AV.agg [.int .i64 (if (1048576:Int)<(if n<0 then 0 else n) then 1048576 else (if n<0 then 0 else n))]=_
 have e:(if (1048576:Int)<(if n<0 then 0 else n) then 1048576 else (if n<0 then 0 else n))=((nY n:Nat):Int):=by
  unfold nY
  by_cases h:n<0
  ·simp only[az h];omega
  ·simp only[aA h];split <;> omega
 rw[e]
theorem aex(n:Int)(σ:Hp):ACalls Tryz.prog 90 [.int .i64 n] σ (fun r σ'=>∃p q,r=.ptr p 0∧σ'=(p,sQ q (nY n))::(q,aP (List.replicate (nY n) 0))::σ):=by
 have hc:=QD n
 refine au Tryz.func90 ?_
 refine ar [] (Ti n σ) ?_
 refine ar [] (Ti n σ) ?_
 refine aw.mk ⟨by omega,dA _,by omega,by decide⟩ ?_
 intro q p
 refine .done ⟨p,q,rfl,?_⟩
 show (p,_)::(q,_)::σ=_
 rw[show ((nY n:Int)).toNat=nY n by omega,show (cN [AV.int .u64 0] (nY n))=_ from tw _]
 rfl
theorem aLoad(p q:Nat)(ws:List Int)(a:Int)(σ:Hp):ACalls Tryz.prog 385 [.ptr p 0,.int .i64 a] ((p,sQ q ws.length)::(q,aP ws)::σ) (aD (.int .u64 (bV ws a)) ((p,sQ q ws.length)::(q,aP ws)::σ)):=by
 refine au Tryz.func385 ?_
 refine aa 0 ?_
 refine ar [] (Gc ws.length a _) ?_
 by_cases hh:0≤a∧a<(ws.length:Int)
 ·rw[Bd a ws.length hh.1 hh.2]
  obtain⟨k,rfl⟩:=qV hh.1
  have hk:k<ws.length:=by omega
  refine aa 0 ?_
  refine aw.mk ⟨rfl,hh.1,hh.2⟩ ?_
  refine aW 1 rfl (vy hk) ?_
  exact .done ⟨aR ov.symm,rfl⟩
 ·rw[A3 a ws.length hh]
  exact .done ⟨aR (Oh hh).symm,rfl⟩
abbrev bD(p q:Nat)(ws:List Int)(σ:Hp):Hp:=(p,sQ q ws.length)::(q,aP ws)::σ
theorem aStore(p q:Nat)(ws:List Int)(a x:Int)(σ:Hp):ACalls Tryz.prog 386 [.ptr p 0,.int .i64 a,.int .u64 x] (bD p q ws σ) (aD (.tup []) (bD p q (fy ws a x) σ)):=by
 refine au Tryz.func386 ?_
 refine aa 0 ?_
 refine ar [] (Gc ws.length a _) ?_
 by_cases hh:0≤a∧a<(ws.length:Int)
 ·rw[Bd a ws.length hh.1 hh.2]
  obtain⟨k,rfl⟩:=qV hh.1
  have hk:k<ws.length:=by omega
  refine aa 0 ?_
  refine aw.mk ⟨rfl,hh.1,hh.2⟩ ?_
  refine cu 1 rfl (yQ x hk) ?_
  refine .done ⟨rfl,?_⟩
  show (p,sQ q ws.length)::(q,aP (ws.set k x))::σ=_
  rw[mn];unfold bD;rw[dV]
 ·rw[A3 a ws.length hh]
  refine .done ⟨rfl,?_⟩
  rw[Nc hh];rfl
theorem aCas(p q:Nat)(ws:List Int)(a x y:Int)(σ:Hp):ACalls Tryz.prog 383 [.ptr p 0,.int .i64 a,.int .u64 x,.int .u64 y] (bD p q ws σ) (aD (.bool (gL ws a x)) (bD p q (gj ws a x y) σ)):=by
 refine au Tryz.func383 ?_
 refine aa 0 ?_
 refine ar [] (Gc ws.length a _) ?_
 by_cases hh:0≤a∧a<(ws.length:Int)
 ·rw[Bd a ws.length hh.1 hh.2]
  have hH:=HX hh.1 hh.2
  obtain⟨k,rfl⟩:=qV hh.1
  have hk:k<ws.length:=by omega
  refine aa 0 ?_
  refine aw.mk ⟨rfl,hh.1,hh.2⟩ ?_
  refine aW 1 rfl (vy hk) ?_
  refine cQ (fun he=>?_) (fun he=>?_)
  ·have he:¬ws.getD k 0=x:=by simpa using he
   have e1:gL ws k x=false:=by unfold gL;rw[hH,ov];simpa using he
   refine .done ⟨by rw[e1];rfl,?_⟩
   rw[show gj ws k x y=ws by simp[gj,e1]];rfl
  ·have he:ws.getD k 0=x:=by simpa using he
   have e1:gL ws k x=true:=by unfold gL;rw[hH,ov,he];simp
   refine aa 0 ?_
   refine aw.mk ⟨rfl,hh.1,hh.2⟩ ?_
   refine cu 1 rfl (yQ y hk) ?_
   refine .done ⟨by rw[e1];rfl,?_⟩
   show (p,sQ q ws.length)::(q,aP (ws.set k y))::σ=_
   rw[show gj ws k x y=ws.set k y by simp[gj,e1,mn]];unfold bD;rw[List.length_set]
 ·have hb:=A3 a ws.length hh
  rw[hb]
  have e1:gL ws a x=false:=by simp only[gL,rC,hb,Am]
  refine .done ⟨by rw[e1];rfl,?_⟩
  rw[show gj ws a x y=ws by simp[gj,e1]];rfl
theorem aAdd(p q:Nat)(ws:List Int)(a d:Int)(σ:Hp):ACalls Tryz.prog 382 [.ptr p 0,.int .i64 a,.int .u64 d] (bD p q ws σ) (aD (.int .u64 (pG ws a d)) (bD p q (k9 ws a d) σ)):=by
 refine au Tryz.func382 ?_
 refine aa 0 ?_
 refine ar [] (Gc ws.length a _) ?_
 by_cases hh:0≤a∧a<(ws.length:Int)
 ·rw[Bd a ws.length hh.1 hh.2]
  have hH:=HX hh.1 hh.2
  obtain⟨k,rfl⟩:=qV hh.1
  have hk:k<ws.length:=by omega
  have e1:pG ws k d=IntKind.u64.wrap (ws.getD k 0+d):=by rw[IntKind.wrap_u64];simp only[pG,hH,if_true,ov]
  have e2:k9 ws k d=ws.set k (IntKind.u64.wrap (ws.getD k 0+d)):=by rw[IntKind.wrap_u64];simp only[k9,hH,if_true,ov,mn]
  refine aa 0 ?_
  refine aw.mk ⟨rfl,hh.1,hh.2⟩ ?_
  refine aW 1 rfl (vy hk) ?_
  refine aw.mk ⟨rfl,hh.1,hh.2⟩ ?_
  refine cu 1 rfl (yQ _ hk) ?_
  refine aa 0 ?_
  refine aw.mk ⟨rfl,hh.1,hh.2⟩ ?_
  refine aW 1 rfl (vy (ws:=ws.set k (IntKind.u64.wrap (ws.getD k 0+d))) (by rw[dV];exact hk)) ?_
  refine .done ⟨aR (by rw[e1];simp[List.getD,hk]),?_⟩
  rw[e2];unfold bD;rw[dV];rfl
 ·have hb:=A3 a ws.length hh
  rw[hb]
  refine .done ⟨aR (by unfold pG;unfold rC;rw[hb];rfl),?_⟩
  rw[show k9 ws a d=ws by unfold k9 rC;rw[hb];rfl];rfl
theorem Tf(p q:Nat)(ws:List Int)(σ:Hp):ACalls Tryz.prog 384 [.ptr p 0] (bD p q ws σ) (aD (.int .i64 ws.length) (bD p q ws σ)):=by
 refine au Tryz.func384 ?_
 refine aa 0 ?_
 exact .done ⟨rfl,rfl⟩
theorem mLen_ : Meth Tryz.prog 94 "Len" 384 := fun a w => by kernel_rfl
theorem mLoad_ : Meth Tryz.prog 94 "Load" 385 := fun a w => by kernel_rfl
theorem mStore_ : Meth Tryz.prog 94 "Store" 386 := fun a w => by kernel_rfl
theorem mCAS_ : Meth Tryz.prog 94 "CAS" 383 := fun a w => by kernel_rfl
theorem mAdd_ : Meth Tryz.prog 94 "Add" 382 := fun a w => by kernel_rfl
theorem hStore_ {b o : Nat} : AheadOk Tryz.prog 94 "Store" (.ptr b o) := fun a w => by kernel_rfl
theorem hCAS_ {b o : Nat} : AheadOk Tryz.prog 94 "CAS" (.ptr b o) := fun a w => by kernel_rfl
theorem hAdd_ {b o : Nat} : AheadOk Tryz.prog 94 "Add" (.ptr b o) := fun a w => by kernel_rfl
theorem hLoad_ {b o : Nat} : AheadOk Tryz.prog 94 "Load" (.ptr b o) := fun a w => by kernel_rfl
abbrev kp(p:Nat):AV:=.iface 94 (.ptr p 0)
theorem dF(t:Nat)(x:AV)(σ:Hp):ACalls Tryz.prog 110 [.iface t x] σ (aD (.iface t x) σ):=by
 refine au Tryz.func110 ?_
 exact .done ⟨rfl,rfl⟩
structure jz where
 A:Type
 ld:A→Int→Int×A
 st:A→Int→Int→A
 cs:A→Int→Int→Int→Bool×A
 ad:A→Int→Int→Int×A
 ln:A→Int
 free:A→Prop
abbrev bF:jz where
 A:=List Int
 ld ws a:=(bV ws a,ws)
 st ws a x:=fy ws a x
 cs ws a x y:=(gL ws a x,gj ws a x y)
 ad ws a d:=(pG ws a d,k9 ws a d)
 ln ws:=ws.length
 free _:=True
structure AMem where
 O:jz
 S:Type
 abs:S→O.A
 B:S→Hp
 t:TypeId
 x0:AV
 p:Nat
 load : ∃ g, MethX Tryz.prog t "Load" x0 g (.ptr p 0) ∧ ∀ (s : S) (a : Int) (σ : Hp), O.free (abs s) → ACalls Tryz.prog g [.ptr p 0, .int .i64 a] (B s ++ σ) (fun r σ' => ∃ s', abs s' = (O.ld (abs s) a).2 ∧ r = .int .u64 (O.ld (abs s) a).1 ∧ σ' = B s' ++ σ)
 store : ∃ g, MethX Tryz.prog t "Store" x0 g (.ptr p 0) ∧ ∀ (s : S) (a x : Int) (σ : Hp), O.free (abs s) → ACalls Tryz.prog g [.ptr p 0, .int .i64 a, .int .u64 x] (B s ++ σ) (fun r σ' => ∃ s', abs s' = O.st (abs s) a x ∧ r = .tup [] ∧ σ' = B s' ++ σ)
 cas : ∃ g, MethX Tryz.prog t "CAS" x0 g (.ptr p 0) ∧ ∀ (s : S) (a x y : Int) (σ : Hp), O.free (abs s) → ACalls Tryz.prog g [.ptr p 0, .int .i64 a, .int .u64 x, .int .u64 y] (B s ++ σ) (fun r σ' => ∃ s', abs s' = (O.cs (abs s) a x y).2 ∧ r = .bool (O.cs (abs s) a x y).1 ∧ σ' = B s' ++ σ)
 add : ∃ g, MethX Tryz.prog t "Add" x0 g (.ptr p 0) ∧ ∀ (s : S) (a d : Int) (σ : Hp), O.free (abs s) → ACalls Tryz.prog g [.ptr p 0, .int .i64 a, .int .u64 d] (B s ++ σ) (fun r σ' => ∃ s', abs s' = (O.ad (abs s) a d).2 ∧ r = .int .u64 (O.ad (abs s) a d).1 ∧ σ' = B s' ++ σ)
 hL : AheadOk Tryz.prog t "Load" x0
 hS : AheadOk Tryz.prog t "Store" x0
 hC : AheadOk Tryz.prog t "CAS" x0
 hA : AheadOk Tryz.prog t "Add" x0
 len : ∃ g, MethX Tryz.prog t "Len" x0 g (.ptr p 0) ∧ ∀ (s : S) (σ : Hp), ACalls Tryz.prog g [.ptr p 0] (B s ++ σ) (fun r σ' => ∃ s', abs s' = abs s ∧ r = .int .i64 (O.ln (abs s)) ∧ σ' = B s' ++ σ)
abbrev AMem.v(M:AMem):AV:=.iface M.t M.x0
theorem si(fr b σ:Hp):(b++(fr++σ)).Perm (fr++(b++σ)):=by
 rw[← dh,← dh]
 exact List.Perm.append_right _ GY
section
variable (M:AMem) (fr:Hp) {s:M.S} {σ:Hp} {K:AV→Hp→Prop}
theorem AMem.aLoad {a : Int} (hf : M.O.free (M.abs s)) (k : ∀ s', M.abs s' = (M.O.ld (M.abs s) a).2 → K (.int .u64 (M.O.ld (M.abs s) a).1) (fr ++ (M.B s' ++ σ))) : InvAt Tryz.prog M.t "Load" M.x0 fun g u => CallAt Tryz.prog g K [u, .int .i64 a] (fr ++ (M.B s ++ σ)) := by
 obtain⟨g,h1,h2⟩:=M.load
 refine .CF g _ h1 (.perm _ (si fr (M.B s) σ) (h2 s a (fr++σ) hf) ?_)
 rintro r σ' ⟨s',h3,rfl,rfl⟩
 exact⟨_,(si fr (M.B s') σ).symm,k s' h3⟩
theorem AMem.aStore {a x : Int} (hf : M.O.free (M.abs s)) (k : ∀ s', M.abs s' = M.O.st (M.abs s) a x → K (.tup []) (fr ++ (M.B s' ++ σ))) : InvAt Tryz.prog M.t "Store" M.x0 fun g u => CallAt Tryz.prog g K [u, .int .i64 a, .int .u64 x] (fr ++ (M.B s ++ σ)) := by
 obtain⟨g,h1,h2⟩:=M.store
 refine .CF g _ h1 (.perm _ (si fr (M.B s) σ) (h2 s a x (fr++σ) hf) ?_)
 rintro r σ' ⟨s',h3,rfl,rfl⟩
 exact⟨_,(si fr (M.B s') σ).symm,k s' h3⟩
theorem AMem.aCas {a x y : Int} (hf : M.O.free (M.abs s)) (k : ∀ s', M.abs s' = (M.O.cs (M.abs s) a x y).2 → K (.bool (M.O.cs (M.abs s) a x y).1) (fr ++ (M.B s' ++ σ))) : InvAt Tryz.prog M.t "CAS" M.x0 fun g u => CallAt Tryz.prog g K [u, .int .i64 a, .int .u64 x, .int .u64 y] (fr ++ (M.B s ++ σ)) := by
 obtain⟨g,h1,h2⟩:=M.cas
 refine .CF g _ h1 (.perm _ (si fr (M.B s) σ) (h2 s a x y (fr++σ) hf) ?_)
 rintro r σ' ⟨s',h3,rfl,rfl⟩
 exact⟨_,(si fr (M.B s') σ).symm,k s' h3⟩
theorem AMem.aCasB {a x y : Int} (hf : M.O.free (M.abs s)) (k1 : ∀ s', M.abs s' = (M.O.cs (M.abs s) a x y).2 → (M.O.cs (M.abs s) a x y).1 = true → K (.bool true) (fr ++ (M.B s' ++ σ))) (k2 : ∀ s', M.abs s' = (M.O.cs (M.abs s) a x y).2 → (M.O.cs (M.abs s) a x y).1 = false → K (.bool false) (fr ++ (M.B s' ++ σ))) : InvAt Tryz.prog M.t "CAS" M.x0 fun g u => CallAt Tryz.prog g K [u, .int .i64 a, .int .u64 x, .int .u64 y] (fr ++ (M.B s ++ σ)) :=
 M.aCas fr hf fun s' h=>by
  cases hb:(M.O.cs (M.abs s) a x y).1 with
  |true=>exact k1 s' h hb
  |false=>exact k2 s' h hb
theorem AMem.aAdd {a d : Int} (hf : M.O.free (M.abs s)) (k : ∀ s', M.abs s' = (M.O.ad (M.abs s) a d).2 → K (.int .u64 (M.O.ad (M.abs s) a d).1) (fr ++ (M.B s' ++ σ))) : InvAt Tryz.prog M.t "Add" M.x0 fun g u => CallAt Tryz.prog g K [u, .int .i64 a, .int .u64 d] (fr ++ (M.B s ++ σ)) := by
 obtain⟨g,h1,h2⟩:=M.add
 refine .CF g _ h1 (.perm _ (si fr (M.B s) σ) (h2 s a d (fr++σ) hf) ?_)
 rintro r σ' ⟨s',h3,rfl,rfl⟩
 exact⟨_,(si fr (M.B s') σ).symm,k s' h3⟩
end
def tI(p q:Nat):AMem where
 O:=bF
 S:=List Int
 abs ws:=ws
 B ws:=[(p,sQ q ws.length),(q,aP ws)]
 t:=94
 x0:=.ptr p 0
 p:=p
 load:=⟨_,⟨mLoad_,rfl⟩,fun ws a σ _=>(Go.Proofs.YtnikdflhefijbaaGreat.aLoad p q ws a σ).mono fun _ _ h=>⟨ws,rfl,h.1,h.2⟩⟩
 store:=⟨_,⟨mStore_,rfl⟩,fun ws a x σ _=>(Go.Proofs.YtnikdflhefijbaaGreat.aStore p q ws a x σ).mono fun _ _ h=>⟨_,rfl,h.1,h.2⟩⟩
 cas:=⟨_,⟨mCAS_,rfl⟩,fun ws a x y σ _=>(Go.Proofs.YtnikdflhefijbaaGreat.aCas p q ws a x y σ).mono fun _ _ h=>⟨_,rfl,h.1,h.2⟩⟩
 add:=⟨_,⟨mAdd_,rfl⟩,fun ws a d σ _=>(Go.Proofs.YtnikdflhefijbaaGreat.aAdd p q ws a d σ).mono fun _ _ h=>⟨_,rfl,h.1,h.2⟩⟩
 hL:=hLoad_
 hS:=hStore_
 hC:=hCAS_
 hA:=hAdd_
 len:=⟨_,⟨mLen_,rfl⟩,fun ws σ=>(Go.Proofs.YtnikdflhefijbaaGreat.Tf p q ws σ).mono fun _ _ h=>⟨ws,rfl,h.1,h.2⟩⟩
abbrev wr(n:Int):Int:=IntKind.i64.wrap n
structure Tk where
 f:Int
 c:Int
 v:Int
 new:Bool
 ended:Bool
 jH:Bool
def xW(t:Tk):List AV:=[.int .i64 t.f,.int .i64 t.c,.int .i64 t.v,.bool t.new,.bool t.ended,.bool t.jH]
def mr(O:jz)(t:Tk)(a:O.A):Tk×O.A×Bool:=
 if t.ended then (t,a,true)
 else if t.jH then ({ t with ended:=true },(O.ad a t.c 1).2,true)
 else if 0≤t.v then
  (if (O.cs a (wr (t.f+t.v)) 0 1).1 then ({ t with jH:=true,new:=true },(O.cs a (wr (t.f+t.v)) 0 1).2,false) else ({ t with jH:=true,new:=false,ended:=true },(O.cs a (wr (t.f+t.v)) 0 1).2,true))
 else ({ t with jH:=true,new:=false,ended:=true },a,true)
def pF(M:AMem)(σ:Hp){X:Type}(B:X→List AV)(r:Nat)(res:X×M.O.A×Bool):AV→Hp→Prop:=
 fun x σ'=>∃m',M.abs m'=res.2.1∧x=.bool res.2.2∧σ'=(r,B res.1)::(M.B m'++σ)
theorem j8{M:AMem}{σ:Hp}{X:Type}{B:X→List AV}{r:Nat}{res:X×M.O.A×Bool}{x:X}{a:M.O.A}{b:Bool}{m':M.S}(h:res=(x,a,b))(hm:M.abs m'=a):pF M σ B r res (.bool b) ((r,B x)::(M.B m'++σ)):=by
 subst h
 exact⟨m',hm,rfl,rfl⟩
theorem Fy(M:AMem)(r:Nat)(t:Tk)(m:M.S)(d:Int)(σ:Hp)(hf:M.O.free (M.abs m)):ACalls Tryz.prog 408 [.ptr r 0,M.v,.int .i64 d] ((r,xW t)::(M.B m++σ)) (pF M σ xW r (mr M.O t (M.abs m))):=by
 refine au Tryz.func408 ?_
 refine eH.ij 0 _ _ rfl rfl (fun h0=>?_) (fun h0=>?_)
 ·exact .done (j8 (x:=t) (by simp[mr,h0]) rfl)
 refine ar [] (dF _ _ _) ?_
 refine eH.ij 0 _ _ rfl rfl (fun h1=>?_) (fun h1=>?_)
 ·refine .each (by kernel_rfl) ?_
  refine aa 0 ?_
  refine eY.mk M.hA ?_
  refine M.aAdd [_] hf fun m' hm=>?_
  refine .fwd 1 ?_
  refine ag 0 ?_
  exact .done (j8 (x:= { t with ended:=true }) (by simp[mr,h0,h1]) hm)
 refine ag 0 ?_
 refine .each (by kernel_rfl) ?_
 by_cases h2:0≤t.v
 ·repeat' first
   |refine And.intro ?_ ?_
   |refine aa 0 ?_
   |refine aj (fun _=>?_) (fun h=>absurd h2 h)
   |refine eY.mk M.hC ?_
  all_goals
   refine M.aCasB [_] hf (fun m' hm hb=>?_) (fun m' hm hb=>?_)
   ·refine ag 0 ?_
    refine aa 0 ?_
    exact .done (j8 (x:= { t with jH:=true,new:=true }) (by simp[mr,h0,h1,h2,hb]) hm)
   ·refine ag 0 ?_
    refine aa 0 ?_
    refine ag 0 ?_
    exact .done (j8 (x:= { t with jH:=true,new:=false,ended:=true }) (by simp[mr,h0,h1,h2,hb]) hm)
 ·repeat' first
   |refine And.intro ?_ ?_
   |refine aa 0 ?_
   |refine aj (fun h=>absurd h h2) (fun _=>?_)
   |refine ag 0 ?_
  all_goals
   exact .done (j8 (x:= { t with jH:=true,new:=false,ended:=true }) (by simp[mr,h0,h1,h2]) rfl)
structure Ck where
 f:Int
 c:Int
 v:Int
 ended:Bool
def DB(t:Ck):List AV:=[.int .i64 t.f,.int .i64 t.c,.int .i64 t.v,.bool t.ended]
def rh(O:jz)(t:Ck)(a:O.A):Ck×O.A×Bool:=
 if t.ended then (t,a,true) else ({ t with ended:=true },if 0≤t.v then O.st a (wr (t.f+t.v)) 0 else a,true)
theorem RP(M:AMem)(r:Nat)(t:Ck)(m:M.S)(d:Int)(σ:Hp)(hf:M.O.free (M.abs m)):ACalls Tryz.prog 405 [.ptr r 0,M.v,.int .i64 d] ((r,DB t)::(M.B m++σ)) (pF M σ DB r (rh M.O t (M.abs m))):=by
 refine au Tryz.func405 ?_
 refine eH.ij 0 _ _ rfl rfl (fun h0=>?_) (fun h0=>?_)
 ·exact .done (j8 (x:=t) (by simp[rh,h0]) rfl)
 refine ag 0 ?_
 refine aa 0 ?_
 refine aj (fun h2=>?_) (fun h2=>?_)
 ·have h2:0≤t.v:=h2
  refine .each (by kernel_rfl) ?_
  repeat' first
   |refine And.intro ?_ ?_
   |refine aa 0 ?_
   |refine ar [] (dF _ _ _) ?_
   |refine eY.mk M.hS ?_
  all_goals
   refine M.aStore [_] hf fun m' hm=>?_
   exact .done (j8 (x:= { t with ended:=true }) (by simp[rh,h0,h2]) hm)
 ·have h2:¬0≤t.v:=h2
  exact .done (j8 (x:= { t with ended:=true }) (by simp[rh,h0,h2]) rfl)
structure Rk where
 f:Int
 c:Int
 left:Int
 ended:Bool
def CC(t:Rk):List AV:=[.int .i64 t.f,.int .i64 t.c,.int .i64 t.left,.bool t.ended]
def so(O:jz)(t:Rk)(a:O.A):Rk×O.A×Bool:=
 if t.ended then (t,a,true) else ({ t with ended:=true,left:=wr (O.ad a t.c 18446744073709551615).1 },(O.ad a t.c 18446744073709551615).2,true)
theorem QG(M:AMem)(r:Nat)(t:Rk)(m:M.S)(d:Int)(σ:Hp)(hf:M.O.free (M.abs m)):ACalls Tryz.prog 410 [.ptr r 0,M.v,.int .i64 d] ((r,CC t)::(M.B m++σ)) (pF M σ CC r (so M.O t (M.abs m))):=by
 refine au Tryz.func410 ?_
 refine eH.ij 0 _ _ rfl rfl (fun h0=>?_) (fun h0=>?_)
 ·exact .done (j8 (x:=t) (by simp[so,h0]) rfl)
 refine ag 0 ?_
 refine .each (by kernel_rfl) ?_
 repeat' first
  |refine And.intro ?_ ?_
  |refine aa 0 ?_
  |refine ar [] (dF _ _ _) ?_
  |refine eY.mk M.hA ?_
 all_goals
  refine M.aAdd [_] hf fun m' hm=>?_
  refine ag 0 ?_
  exact .done (j8 (x:= { t with ended:=true,left:=wr (M.O.ad (M.abs m) t.c 18446744073709551615).1 }) (by simp[so,h0]) hm)
structure Qk where
 f:Int
 c:Int
 is:Bool
 ended:Bool
def CD(t:Qk):List AV:=[.int .i64 t.f,.int .i64 t.c,.bool t.is,.bool t.ended]
def qt(O:jz)(t:Qk)(a:O.A):Qk×O.A×Bool:=
 if t.ended then (t,a,true) else ({ t with ended:=true,is:=decide ((O.ld a t.c).1=0) },(O.ld a t.c).2,true)
theorem Fa(M:AMem)(r:Nat)(t:Qk)(m:M.S)(d:Int)(σ:Hp)(hf:M.O.free (M.abs m)):ACalls Tryz.prog 404 [.ptr r 0,M.v,.int .i64 d] ((r,CD t)::(M.B m++σ)) (pF M σ CD r (qt M.O t (M.abs m))):=by
 refine au Tryz.func404 ?_
 refine eH.ij 0 _ _ rfl rfl (fun h0=>?_) (fun h0=>?_)
 ·exact .done (j8 (x:=t) (by simp[qt,h0]) rfl)
 refine ag 0 ?_
 refine .each (by kernel_rfl) ?_
 repeat' first
  |refine And.intro ?_ ?_
  |refine aa 0 ?_
  |refine ar [] (dF _ _ _) ?_
  |refine eY.mk M.hL ?_
 all_goals
  refine M.aLoad [_] hf fun m' hm=>?_
  refine aj (fun h2=>?_) (fun h2=>?_)
  ·have h2:(M.O.ld (M.abs m) t.c).1=0:=h2
   refine ag 0 ?_
   exact .done (j8 (x:= { t with ended:=true,is:=true }) (by simp[qt,h0,h2]) hm)
  ·have h2:¬(M.O.ld (M.abs m) t.c).1=0:=h2
   refine ag 0 ?_
   exact .done (j8 (x:= { t with ended:=true,is:=false }) (by simp[qt,h0,h2]) hm)
theorem aaR(M:AMem)(f c:Int)(m:M.S)(σ:Hp)(hf:M.O.free (M.abs m)):ACalls Tryz.prog 46 [.agg [.int .i64 f,.int .i64 c],M.v] (M.B m++σ) (fun x σ'=>∃m',M.abs m'=(M.O.ld (M.abs m) c).2∧x=.int .i64 (wr (M.O.ld (M.abs m) c).1)∧σ'=M.B m'++σ):=by
 refine au Tryz.func46 ?_
 intro b
 refine .each (by kernel_rfl) ?_
 repeat' first
  |refine And.intro ?_ ?_
  |refine aa 0 ?_
  |refine ar [] (dF _ _ _) ?_
 all_goals
  refine M.aLoad [_] hf fun m' hm=>?_
  exact .drop 0 1 (.done ⟨m',hm,rfl,rfl⟩)
theorem abM(M:AMem)(f c v:Int)(m:M.S)(σ:Hp)(hf:M.O.free (M.abs m)):ACalls Tryz.prog 49 [.agg [.int .i64 f,.int .i64 c],M.v,.int .i64 v] (M.B m++σ) (fun x σ'=>∃m',M.abs m'=(if 0≤v then (M.O.ld (M.abs m) (wr (f+v))).2 else M.abs m)∧x=.bool (decide (0≤v)&&decide ((M.O.ld (M.abs m) (wr (f+v))).1=1))∧σ'=M.B m'++σ):=by
 refine au Tryz.func49 ?_
 intro b
 refine .each (by kernel_rfl) ?_
 by_cases h:0≤v
 ·repeat' first
   |refine And.intro ?_ ?_
   |refine aj (fun _=>?_) (fun h2=>absurd h h2)
   |refine aa 0 ?_
   |refine ar [] (dF _ _ _) ?_
  all_goals
   refine M.aLoad [_] hf fun m' hm=>?_
   refine aj (fun h2=>?_) (fun h2=>?_)
   ·have h2:(M.O.ld (M.abs m) (wr (f+v))).1=1:=h2
    exact .drop 0 1 (.done ⟨m',by rw[if_pos h];exact hm,cd (by simp[h,h2]),rfl⟩)
   ·have h2:¬(M.O.ld (M.abs m) (wr (f+v))).1=1:=h2
    exact .drop 0 1 (.done ⟨m',by rw[if_pos h];exact hm,cd (by simp[h2]),rfl⟩)
 ·repeat' first
   |refine And.intro ?_ ?_
   |refine aj (fun h2=>absurd h2 h) (fun _=>?_)
  all_goals
   exact .drop 0 1 (.done ⟨m,by rw[if_neg h],cd (by simp[h]),rfl⟩)
theorem Ix(f c:Int)(p q:Nat)(ws:List Int)(σ:Hp):ACalls Tryz.prog 46 [.agg [.int .i64 f,.int .i64 c],kp p] (bD p q ws σ) (aD (.int .i64 (wr (bV ws c))) (bD p q ws σ)):=
 (aaR (tI p q) f c ws σ trivial).mono fun _ _ ⟨m',h1,h2,h3⟩=>by
  have h1:m'=ws:=h1
  subst h1
  exact⟨h2,h3⟩
theorem aag(f c v:Int)(p q:Nat)(ws:List Int)(σ:Hp):ACalls Tryz.prog 49 [.agg [.int .i64 f,.int .i64 c],kp p,.int .i64 v] (bD p q ws σ) (aD (.bool (decide (0≤v)&&decide (bV ws (wr (f+v))=1))) (bD p q ws σ)):=
 (abM (tI p q) f c v ws σ trivial).mono fun _ _ ⟨m',h1,h2,h3⟩=>by
  have h1:m'=ws:=by
   refine h1.trans ?_
   show (if 0≤v then ws else ws)=ws
   split <;> rfl
  subst h1
  exact⟨h2,h3⟩
abbrev bu(m q:Nat)(ws:List Int)(σ:Hp):Hp:=(m,[AV.ah q 0 ws.length 1])::(q,aP ws)::σ
theorem ada(n:Int)(σ:Hp):ACalls Tryz.prog 81 [.int .i64 n] σ (fun r σ'=>∃m q,r=.ptr m 0∧σ'=bu m q (List.replicate (nY n) 0) σ):=by
 have hc:=QD n
 have e:(if (1048576:Int)<(if n<0 then 0 else n) then 1048576 else (if n<0 then 0 else n))=((nY n:Nat):Int):=by
  unfold nY
  by_cases h:n<0
  ·simp only[az h];omega
  ·simp only[aA h];split <;> omega
 refine au Tryz.func81 ?_
 refine aw.mk ⟨by rw[e];omega,dA _,by rw[e];omega,by decide⟩ ?_
 intro q m
 refine .done ⟨m,q,rfl,?_⟩
 show (m,[AV.ah q 0 (if (1048576:Int)<(if n<0 then 0 else n) then 1048576 else (if n<0 then 0 else n)).toNat 1])::(q,cN [AV.int .u64 0] (if (1048576:Int)<(if n<0 then 0 else n) then 1048576 else (if n<0 then 0 else n)).toNat)::σ=_
 rw[e,bR,tw]
 unfold bu
 rw[gY]
theorem adb(m q:Nat)(ws:List Int)(a:Int)(σ:Hp):ACalls Tryz.prog 176 [.ptr m 0,.int .i64 a] (bu m q ws σ) (aD (.bool (decide (0≤a)&&decide (a<ws.length))) (bu m q ws σ)):=by
 refine au Tryz.func176 ?_
 refine aj (fun h=>?_) (fun h=>?_)
 ·refine aa 0 ?_
  refine aj (fun h2=>?_) (fun h2=>?_)
  ·have h2:a<ws.length:=h2
   exact .done ⟨cd (by simp[h,h2]),rfl⟩
  ·have h2:¬a<ws.length:=h2
   exact .done ⟨cd (by simp[h2]),rfl⟩
 ·exact .done ⟨cd (by simp[h]),rfl⟩
theorem Jw(m q:Nat)(ws:List Int)(i:Nat)(x:Int)(σ:Hp):(m,[AV.ah q 0 ws.length 1])::(q,aP (ws.set i x))::σ=bu m q (ws.set i x) σ:=by unfold bu;rw[dV]
theorem wZ(m q:Nat)(ws:List Int)(k t a b:Int)(σ:Hp):ACalls Tryz.prog 121 [.ptr m 0,.agg [.int .i64 k,.int .i64 t,.int .u64 a,.int .u64 b]] (bu m q ws σ) (aD (.tup [.int .u64 (yx ws k t a),.bool (cP ws k t a)]) (bu m q (qH ws k t a b) σ)):=by
 refine au Tryz.func121 ?_
 intro c
 refine aa 0 ?_
 refine ar [2,2] (adb m q ws t ((c,[.int .i64 k,.int .i64 t,.int .u64 a,.int .u64 b])::σ)) ?_
 by_cases hh:0≤t∧t<(ws.length:Int)
 ·rw[Bd t ws.length hh.1 hh.2]
  have hH:=HX hh.1 hh.2
  obtain⟨i,rfl⟩:=qV hh.1
  have hi:i<ws.length:=by omega
  refine aa 2 ?_
  refine aj (fun h1=>?_) (fun h1=>?_)
  ·refine .quiet (by kernel_rfl) ?_
   refine aa 0 ?_
   refine aa 2 ?_
   refine aw.mk ⟨rfl,hh.1,hh.2⟩ ?_
   refine aW 1 rfl (vy hi) ?_
   refine .drop 2 1 (.done ⟨?_,?_⟩)
   ·show AV.tup [.int .u64 (ws.getD i 0),.bool false]=_
    simp[yx,cP,h1,ov]
   ·simp[qH,h1]
  refine aa 2 ?_
  refine aj (fun h2=>?_) (fun h2=>?_)
  ·refine .each (by kernel_rfl) ?_
   refine aa 0 ?_
   refine aa 2 ?_
   refine aa 2 ?_
   refine aw.mk ⟨rfl,hh.1,hh.2⟩ ?_
   refine cu 1 rfl (yQ a hi) ?_
   refine .drop 2 1 (.done ⟨?_,?_⟩)
   ·show AV.tup [.int .u64 0,.bool false]=_
    simp[yx,cP,h2]
   ·refine (Jw m q ws i a σ).trans ?_
    simp[qH,h2,mn]
  refine aa 2 ?_
  refine aj (fun h3=>?_) (fun h3=>?_)
  ·refine .quiet (by kernel_rfl) ?_
   refine aa 0 ?_
   refine aa 2 ?_
   refine aw.mk ⟨rfl,hh.1,hh.2⟩ ?_
   refine aW 1 rfl (vy hi) ?_
   refine aa 2 ?_
   refine aj (fun he=>?_) (fun he=>?_)
   ·have e1:gL ws i a=true:=by unfold gL;rw[hH,ov,he];simp
    refine .each (by kernel_rfl) ?_
    refine aa 0 ?_
    refine aa 2 ?_
    refine aa 2 ?_
    refine aw.mk ⟨rfl,hh.1,hh.2⟩ ?_
    refine cu 1 rfl (yQ b hi) ?_
    refine .drop 2 1 (.done ⟨?_,?_⟩)
    ·show AV.tup [.int .u64 0,.bool true]=_
     simp[yx,cP,h3,e1]
    ·refine (Jw m q ws i b σ).trans ?_
     simp[qH,h3,gj,e1,mn]
   ·have e1:gL ws i a=false:=by unfold gL;rw[hH,ov];simpa using he
    refine .drop 2 1 (.done ⟨?_,?_⟩)
    ·show AV.tup [.int .u64 0,.bool false]=_
     simp[yx,cP,h3,e1]
    ·show bu m q ws σ=_
     simp[qH,h3,gj,e1]
  ·have e1:pG ws i a=IntKind.u64.wrap (ws.getD i 0+a):=by rw[IntKind.wrap_u64];simp only[pG,hH,if_true,ov]
   have e2:k9 ws i a=ws.set i (IntKind.u64.wrap (ws.getD i 0+a)):=by rw[IntKind.wrap_u64];simp only[k9,hH,if_true,ov,mn]
   refine .each (by kernel_rfl) ?_
   refine aa 0 ?_
   refine aa 2 ?_
   refine aa 0 ?_
   refine aa 2 ?_
   refine aw.mk ⟨rfl,hh.1,hh.2⟩ ?_
   refine aW 1 rfl (vy hi) ?_
   refine aa 2 ?_
   refine aw.mk ⟨rfl,hh.1,hh.2⟩ ?_
   refine cu 1 rfl (yQ _ hi) ?_
   refine .quiet (by kernel_rfl) ?_
   refine aa 0 ?_
   refine aa 2 ?_
   refine aw.mk ⟨rfl,hh.1,hh.2⟩ ?_
   refine aW 1 rfl (vy (ws:=ws.set i (IntKind.u64.wrap (ws.getD i 0+a))) (by rw[dV];exact hi)) ?_
   refine .drop 2 1 (.done ⟨?_,?_⟩)
   ·show AV.tup [.int .u64 ((ws.set i (IntKind.u64.wrap (ws.getD i 0+a))).getD i 0),.bool false]=_
    simp[yx,cP,h1,h2,h3,e1,hi]
   ·refine (Jw m q ws i _ σ).trans ?_
    simp[qH,h1,h2,h3,e2]
 ·have hb:=A3 t ws.length hh
  rw[hb]
  have e1:gL ws t a=false:=by simp only[gL,rC,hb,Am]
  have e2:bV ws t=0:=Oh hh
  have e3:pG ws t a=0:=by unfold pG;unfold rC;rw[hb];rfl
  have e4:k9 ws t a=ws:=by unfold k9 rC;rw[hb];rfl
  refine .drop 2 1 (.done ⟨?_,?_⟩)
  ·show AV.tup [.int .u64 0,.bool false]=_
   simp[yx,cP,e1,e2,e3]
  ·show bu m q ws σ=_
   simp[qH,Nc hh,gj,e1,e4]
end Go.Proofs.YtnikdflhefijbaaGreat
namespace Go.Proofs.YtnikdflhefijbaaGreat
set_option maxRecDepth 100000 in
theorem abb(xs ys:List Int)(σ:Hp)(h1:xs.length≤1000000):ACalls Tryz.prog 63 [.af (.int .u64) xs,.af (.int .u64) ys] σ (fun r σ'=>r=.bool (decide (xs=ys))∧σ'=σ):=by
 refine au Tryz.func63 ?_
 refine cQ (fun hl=>?_) (fun hl=>?_)
 ·have:xs≠ys:=by rintro rfl;simp at hl
  exact .done ⟨by simp[this];rfl,rfl⟩
 ·have hl:(!decide ((xs.length:Int)=(ys.length:Int)))=false:=hl
  have hlen:xs.length=ys.length:=by simp at hl;omega
  refine bh (S:=Nat) (fun k=>[(0,.af (.int .u64) xs),(1,.af (.int .u64) ys),(12,.int .i64 xs.length),(13,.int .i64 k)]) (fun _=>σ) (fun k=>k≤xs.length∧xs.take k=ys.take k) (fun k=>xs.length-k) 0 ⟨⟨aY _,rfl⟩,⟨rfl,rfl,rfl,rfl,trivial⟩,rfl⟩ ?_
  rintro k g ⟨hk,dR⟩
  refine aj (fun ab=>?_) (fun aq=>?_)
  ·have eO:k<xs.length:=by omega
   have vU:k<ys.length:=by omega
   refine fX.quiet (by kernel_rfl) ?_
   refine aw.mk rfl (aX.mk xs[k] (by omega) (get_some eO) ?_)
   refine aw.mk rfl (aX.mk ys[k] (by omega) (get_some vU) ?_)
   refine cQ (fun hx=>?_) (fun hx=>?_)
   ·have:xs≠ys:=by rintro rfl;simp at hx
    exact .done ⟨by simp[this];rfl,rfl⟩
   ·have uw:xs[k]=ys[k]:=by simpa using hx
    refine next (k+1) (Nat.sub_lt_sub_left eO (ym k)) ⟨eO,?_⟩ ⟨rfl,rfl,rfl,aL (by omega),trivial⟩ rfl
    rw[eT eO,eT vU,dR,uw]
  ·obtain rfl:k=xs.length:=by omega
   have:xs=ys:=by
    rw[dW]at dR
    rw[dR,hlen,dW]
   exact .done ⟨by simp[this];rfl,rfl⟩
set_option maxRecDepth 100000
theorem oK(m q:Nat)(ws:List Int)(a:Int)(σ:Hp):ACalls Tryz.prog 61 [.ptr m 0,.int .i64 a] (bu m q ws σ) (aD (.int .u64 (bV ws a)) (bu m q ws σ)):=by
 refine au Tryz.func61 ?_
 refine ar [] (wZ m q ws 1 a 0 0 σ) ?_
 exact .done ⟨rfl,rfl⟩
theorem yY(m q:Nat)(ws:List Int)(a x:Int)(σ:Hp):ACalls Tryz.prog 230 [.ptr m 0,.int .i64 a,.int .u64 x] (bu m q ws σ) (aD (.tup []) (bu m q (fy ws a x) σ)):=by
 refine au Tryz.func230 ?_
 refine ar [] (wZ m q ws 2 a x 0 σ) ?_
 exact .done ⟨rfl,rfl⟩
structure RT where
 kind:Int
 v:Int
 f:Int
 c:Int
 at_:Int
 new:Bool
 ended:Bool
 is:Bool
 left:Int
def wh(t:RT):List AV:=[.int .i64 t.kind,.int .i64 t.v,.int .i64 t.f,.int .i64 t.c,.int .i64 t.at_,.bool t.new,.bool t.ended,.bool t.is,.int .i64 t.left]
def iS(t:RT)(ws:List Int):RT×List Int:=
 if t.ended then (t,ws)
 else if t.kind=1 then
  (if wr (t.at_+1)=2 then ({ t with at_:=wr (t.at_+1),ended:=true },k9 ws t.c 1)
  else if 0≤t.v then ({ t with at_:=wr (t.at_+1),new:=gL ws (wr (t.f+t.v)) 0,ended:= !gL ws (wr (t.f+t.v)) 0 },gj ws (wr (t.f+t.v)) 0 1)
  else ({ t with at_:=wr (t.at_+1),ended:=true },ws))
 else if t.kind=2 then ({ t with at_:=wr (t.at_+1),ended:=true },if 0≤t.v then fy ws (wr (t.f+t.v)) 0 else ws)
 else if t.kind=3 then ({ t with at_:=wr (t.at_+1),ended:=true,left:=wr (pG ws t.c 18446744073709551615) },k9 ws t.c 18446744073709551615)
 else ({ t with at_:=wr (t.at_+1),ended:=true,is:=decide (bV ws t.c=0) },ws)
def Ff(r m q:Nat)(t:RT)(ws:List Int)(σ:Hp):AV→Hp→Prop:=aD (.bool (iS t ws).1.ended) ((r,wh (iS t ws).1)::bu m q (iS t ws).2 σ)
theorem tF{r m q:Nat}{t t':RT}{ws ws':List Int}{σ:Hp}{b:Bool}(h:iS t ws=(t',ws'))(hb:t'.ended=b):Ff r m q t ws σ (.bool b) ((r,wh t')::bu m q ws' σ):=by
 unfold Ff aD
 rw[h]
 exact⟨by rw[hb],rfl⟩
theorem aaw(r m q:Nat)(t:RT)(ws:List Int)(σ:Hp):ACalls Tryz.prog 175 [.ptr r 0,.ptr m 0] ((r,wh t)::bu m q ws σ) (Ff r m q t ws σ):=by
 refine au Tryz.func175 ?_
 refine eH.ij 0 _ _ rfl rfl (fun h0=>?_) (fun h0=>?_)
 ·exact .done (tF (t':=t) (by simp[iS,h0]) h0)
 refine aa 0 ?_
 refine ag 0 ?_
 refine ag 0 ?_
 refine aa 0 ?_
 refine aj (fun h1=>?_) (fun h1=>?_)
 ·have h1:t.kind=1:=h1
  refine aa 0 ?_
  refine aj (fun h2=>?_) (fun h2=>?_)
  ·have h2:wr (t.at_+1)=2:=h2
   refine aa 0 ?_
   refine ar [2,2] (wZ m q ws 4 _ 1 0 _) ?_
   refine aa 2 ?_
   exact .pull [2] (.done (tF (t':= { t with at_:=wr (t.at_+1),ended:=true }) (by simp[iS,h0,h1,h2];rfl) rfl))
  have h2:¬wr (t.at_+1)=2:=h2
  refine aa 0 ?_
  refine aj (fun h3=>?_) (fun h3=>?_)
  ·have h3:0≤t.v:=h3
   refine .each (by kernel_rfl) ?_
   have ye:=fun σ=>wZ m q ws 3 (wr (t.f+t.v)) 0 1 σ
   rw[show cP ws 3 (wr (t.f+t.v)) 0=gL ws (wr (t.f+t.v)) 0 from rfl,show qH ws 3 (wr (t.f+t.v)) 0 1=gj ws (wr (t.f+t.v)) 0 1 from rfl]at ye
   have fin:iS t ws=({ t with at_:=wr (t.at_+1),new:=gL ws (wr (t.f+t.v)) 0,ended:= !gL ws (wr (t.f+t.v)) 0 },gj ws (wr (t.f+t.v)) 0 1):=by simp[iS,h0,h1,h2,h3]
   generalize gL ws (wr (t.f+t.v)) 0=is at ye fin
   cases is
   all_goals
    repeat' first
     |refine And.intro ?_ ?_
     |refine aa 0 ?_
     |refine ar [2,2] (ye _) ?_
    all_goals
     refine ag 2 ?_
     refine ag 2 ?_
     refine aa 2 ?_
     exact .pull [2] (.done (tF fin rfl))
  ·have h3:¬0≤t.v:=h3
   refine aa 0 ?_
   exact .done (tF (t':= { t with at_:=wr (t.at_+1),ended:=true }) (by simp[iS,h0,h1,h2,h3]) rfl)
 have h1:¬t.kind=1:=h1
 refine aa 0 ?_
 refine aj (fun h2=>?_) (fun h2=>?_)
 ·have h2:t.kind=2:=h2
  refine aa 0 ?_
  refine aj (fun h3=>?_) (fun h3=>?_)
  ·have h3:0≤t.v:=h3
   refine .each (by kernel_rfl) ?_
   repeat' first
    |refine And.intro ?_ ?_
    |refine aa 0 ?_
    |refine ar [2,2] (yY m q ws _ 0 _) ?_
   all_goals
    refine aa 2 ?_
    exact .pull [2] (.done (tF (t':= { t with at_:=wr (t.at_+1),ended:=true }) (by simp[iS,h0,h2,h3]) rfl))
  ·have h3:¬0≤t.v:=h3
   refine aa 0 ?_
   exact .done (tF (t':= { t with at_:=wr (t.at_+1),ended:=true }) (by simp[iS,h0,h2,h3]) rfl)
 have h2:¬t.kind=2:=h2
 refine aa 0 ?_
 refine aj (fun h3=>?_) (fun h3=>?_)
 ·have h3:t.kind=3:=h3
  refine aa 0 ?_
  refine ar [2,2] (wZ m q ws 4 _ 18446744073709551615 0 _) ?_
  refine ag 2 ?_
  refine aa 2 ?_
  exact .pull [2] (.done (tF (t':= { t with at_:=wr (t.at_+1),ended:=true,left:=wr (pG ws t.c 18446744073709551615) }) (by simp[iS,h0,h3,qH]) rfl))
 have h3:¬t.kind=3:=h3
 refine aa 0 ?_
 refine ar [2,2] (oK m q ws _ _) ?_
 refine aj (fun h4=>?_) (fun h4=>?_)
 ·have h4:bV ws t.c=0:=h4
  refine ag 2 ?_
  refine aa 2 ?_
  exact .pull [2] (.done (tF (t':= { t with at_:=wr (t.at_+1),ended:=true,is:=true }) (by simp[iS,h0,h1,h2,h3,h4]) rfl))
 ·have h4:¬bV ws t.c=0:=h4
  refine ag 2 ?_
  refine aa 2 ?_
  exact .pull [2] (.done (tF (t':= { t with at_:=wr (t.at_+1),ended:=true,is:=false }) (by simp[iS,h0,h1,h2,h3,h4]) rfl))
theorem xk{r m q:Nat}{t t':RT}{ws ws':List Int}(σ:Hp)(e:iS t ws=(t',ws')):ACalls Tryz.prog 175 [.ptr r 0,.ptr m 0] ((r,wh t)::bu m q ws σ) (aD (.bool t'.ended) ((r,wh t')::bu m q ws' σ)):=by
 refine (aaw r m q t ws σ).mono fun x σ' h=>?_
 unfold Ff at h
 rw[e]at h
 exact h
theorem Bw:wr 1=1∧wr 2=2:=by decide
theorem HC{α:Type}{f:α→Hp}{l:List α}{j:Nat}(h:j<l.length):(l.flatMap f).Perm (f l[j]++(l.eraseIdx j).flatMap f):=by
 induction l generalizing j with
 |nil=>simp at h
 |cons x l ih=>
  cases j with
  |zero=>exact List.Perm.refl _
  |succ j=>
   rw[uS]
   have:=ih (j:=j) (by simpa using h)
   refine (List.Perm.append_left _ this).trans ?_
   simp only[List.getElem_cons_succ,List.eraseIdx_cons_succ,uS,← dh]
   exact List.Perm.append_right _ GY
theorem Oy{α:Type}{f:α→Hp}{l:List α}{j:Nat}(h:j<l.length)(y:α):((l.set j y).flatMap f).Perm (f y++(l.eraseIdx j).flatMap f):=by
 have:=HC (f:=f) (l:=l.set j y) (j:=j) (by simpa using h)
 rw[List.getElem_set_self,LQ]at this
 exact this
set_option maxHeartbeats 4000000
theorem yH{β:Type}(f:Nat→β)(c:β→AV)(i:Nat):((List.range (i+1)).map f).map c=((List.range i).map f).map c++[c (f i)]:=by
 rw[qe,cC,cC];rfl
theorem zJ{e k:Nat}{v:AV}{acc:Hp}{cs cs':List AV}(h:cs=cs')(ha:Acc e k v acc cs'):Acc e k v acc cs:=h▸ha
theorem acg(g:FuncId)(cap:List AV)(St:List Nat→Hp→Prop)(S0 σ:Hp)(h0:St [] S0)(n:Nat)(hn:n≤100000)(uC:∀(L:List Nat) (S τ:Hp),L.length<n→St L S→ACalls Tryz.prog g (.int .i64 L.length::cap) (S++τ) (fun r σ'=>∃w S',r=.ptr w 0∧σ'=S'++τ∧St (L++[w]) S')):ACalls Tryz.prog 98 [.int .i64 n,.fn (.func g) [] cap] (S0++σ) (fun r σ'=>∃L S' acc,L.length=n∧St L S'∧Acc 1 n r acc (L.map fun w=>.ptr w 0)∧σ'=acc++(S'++σ)):=by
 refine au Tryz.func98 ?_
 refine .wrap 5 .ak rfl rfl ?_
 refine bh (S:=List Nat×AV×Hp×{S:Hp // True}) (fun t=>[(1,.fn (.func g) [] cap),(5,.via t.2.1),(7,.int .i64 n),(8,.int .i64 t.1.length)]) (fun t=>t.2.2.1++(t.2.2.2.1++σ)) (fun t=>t.1.length≤n∧Acc 1 t.1.length t.2.1 t.2.2.1 (t.1.map (fun w=>AV.ptr w 0))∧St t.1 t.2.2.2.1) (fun t=>n-t.1.length) ([],.ak,[],⟨S0,trivial⟩) ⟨⟨aY _,.nil,h0⟩,⟨rfl,rfl,rfl,rfl,trivial⟩,rfl⟩ ?_
 rintro⟨L,v,acc,⟨S,_⟩⟩ g2 ⟨dc,h0,C9⟩
 have hi:L.length≤n:=dc
 have h:Acc 1 L.length v acc (L.map (fun w=>AV.ptr w 0)):=h0
 have hS:St L S:=C9
 clear dc h0 C9
 refine aj (p:=(L.length:Int)<(n:Int)) (fun ab=>?_) (fun aq=>?_)
 rotate_left
 ·have aq:L.length=n:=by omega
  exact .done ⟨L,S,acc,aq,hS,aq▸h,rfl⟩
 have ab:L.length<n:=by omega
 refine .perm (σ2:=S++(acc++σ)) _ (ez acc S σ) (uC L S (acc++σ) ab hS) ?_
 rintro _ _ ⟨w,S',rfl,rfl,Af⟩
 refine⟨_,(ez acc S' σ).symm,?_⟩
 intro b1
 refine eU [_] h (.ah 0 b1 0 1 _ rfl (cp rfl)) rfl (by omega) (by decide) (by decide) (fun v' aU h'=>?_)
 refine aM (L++[w],v',aU,⟨S',trivial⟩) (by show n-(L++[w]).length<n-L.length;rw[bG];simp only[yv];omega) ⟨by rw[bG];exact ab,?_,Af⟩ ⟨rfl,rfl,rfl,?_,trivial⟩ (.drop 0 1 (.refl _))
 ·show Acc 1 (L++[w]).length v' aU ((L++[w]).map (fun w=>AV.ptr w 0))
  rw[bG,cC]
  exact h'
 ·rw[bG]
  exact aL (show L.length<1000000000 by omega)
theorem RM(g:FuncId)(cap:List AV)(St:List Nat→Hp→Prop)(S0 σ:Hp)(h0:St [] S0)(n:Nat)(hn:n≤100000)(uC:∀(L:List Nat) (S τ:Hp),L.length<n→St L S→ACalls Tryz.prog g (.int .i64 L.length::cap) (S++τ) (fun r σ'=>∃w S',r=.iface 168 (.ptr w 0)∧σ'=S'++τ∧St (L++[w]) S')):ACalls Tryz.prog 102 [.int .i64 n,.fn (.func g) [] cap] (S0++σ) (fun r σ'=>∃L S' acc,L.length=n∧St L S'∧Acc 1 n r acc (L.map fun w=>.iface 168 (.ptr w 0))∧σ'=acc++(S'++σ)):=by
 refine au Tryz.func102 ?_
 refine .wrap 5 .ak rfl rfl ?_
 refine bh (S:=List Nat×AV×Hp×{S:Hp // True}) (fun t=>[(1,.fn (.func g) [] cap),(5,.via t.2.1),(7,.int .i64 n),(8,.int .i64 t.1.length)]) (fun t=>t.2.2.1++(t.2.2.2.1++σ)) (fun t=>t.1.length≤n∧Acc 1 t.1.length t.2.1 t.2.2.1 (t.1.map (fun w=>AV.iface 168 (.ptr w 0)))∧St t.1 t.2.2.2.1) (fun t=>n-t.1.length) ([],.ak,[],⟨S0,trivial⟩) ⟨⟨aY _,.nil,h0⟩,⟨rfl,rfl,rfl,rfl,trivial⟩,rfl⟩ ?_
 rintro⟨L,v,acc,⟨S,_⟩⟩ g2 ⟨dc,h0,C9⟩
 have hi:L.length≤n:=dc
 have h:Acc 1 L.length v acc (L.map (fun w=>AV.iface 168 (.ptr w 0))):=h0
 have hS:St L S:=C9
 clear dc h0 C9
 refine aj (p:=(L.length:Int)<(n:Int)) (fun ab=>?_) (fun aq=>?_)
 rotate_left
 ·have aq:L.length=n:=by omega
  exact .done ⟨L,S,acc,aq,hS,aq▸h,rfl⟩
 have ab:L.length<n:=by omega
 refine .perm (σ2:=S++(acc++σ)) _ (ez acc S σ) (uC L S (acc++σ) ab hS) ?_
 rintro _ _ ⟨w,S',rfl,rfl,Af⟩
 refine⟨_,(ez acc S' σ).symm,?_⟩
 intro b1
 refine eU [_] h (.ah 0 b1 0 1 _ rfl (cp rfl)) rfl (by omega) (by decide) (by decide) (fun v' aU h'=>?_)
 refine aM (L++[w],v',aU,⟨S',trivial⟩) (by show n-(L++[w]).length<n-L.length;rw[bG];simp only[yv];omega) ⟨by rw[bG];exact ab,?_,Af⟩ ⟨rfl,rfl,rfl,?_,trivial⟩ (.drop 0 1 (.refl _))
 ·show Acc 1 (L++[w]).length v' aU ((L++[w]).map (fun w=>AV.iface 168 (.ptr w 0)))
  rw[bG,cC]
  exact h'
 ·rw[bG]
  exact aL (show L.length<1000000000 by omega)
theorem RN(g:FuncId)(cap:List AV)(S σ:Hp)(f:Nat→Int)(n:Nat)(hn:n≤100000)(uC:∀i:Nat,i<n→∀τ,ACalls Tryz.prog g (.int .i64 i::cap) (S++τ) (aD (.int .i64 (f i)) (S++τ))):ACalls Tryz.prog 50 [.int .i64 n,.fn (.func g) [] cap] (S++σ) (aD (.af (.int .i64) ((List.range n).map f)) (S++σ)):=by
 refine au Tryz.func50 ?_
 refine .wrap 5 .ak rfl rfl ?_
 refine bh (S:=Nat×AV×Hp) (fun t=>[(1,.fn (.func g) [] cap),(5,.via t.2.1),(7,.int .i64 n),(8,.int .i64 t.1)]) (fun t=>t.2.2++(S++σ)) (fun t=>t.1≤n∧Acc 1 t.1 t.2.1 t.2.2 (((List.range t.1).map f).map (AV.int .i64))) (fun t=>n-t.1) (0,.ak,[]) ⟨⟨aY _,.nil⟩,⟨rfl,rfl,rfl,rfl,trivial⟩,rfl⟩ ?_
 rintro⟨i,v,acc⟩ g ⟨dc,h0⟩
 have hi:i≤n:=dc
 have h:Acc 1 i v acc (((List.range i).map f).map (AV.int .i64)):=h0
 clear dc h0
 refine aj (p:=(i:Int)<(n:Int)) (fun ab=>?_) (fun aq=>?_)
 rotate_left
 ·have aq:i=n:=by omega
  subst aq
  have hlen:((List.range i).map f).length=i:=by rw[cm,kx]
  exact kZ [] (s:=(.int .i64)) h hlen.symm (As ..) Ai (.done ⟨rfl,rfl⟩)
 have ab:i<n:=by omega
 refine .perm (σ2:=S++(acc++σ)) _ (ez acc S σ) (uC i ab (acc++σ)) ?_
 rintro _ _ ⟨rfl,rfl⟩
 refine⟨_,(ez acc S σ).symm,?_⟩
 intro b1
 refine eU [_] h (.ah 0 b1 0 1 _ rfl (cp rfl)) rfl (by omega) (by decide) (by decide) (fun v' aU h'=>?_)
 refine aM (i+1,v',aU) (by show n-(i+1)<n-i;omega) ⟨ab,?_⟩ ⟨rfl,rfl,rfl,aL (by omega),trivial⟩ (.drop 0 1 (.refl _))
 show Acc 1 (i+1) v' aU (((List.range (i+1)).map f).map (AV.int .i64))
 exact zJ (yH f (AV.int .i64) i) h'
theorem aci(g:FuncId)(cap:List AV)(S σ:Hp)(f:Nat→Bool)(n:Nat)(hn:n≤100000)(uC:∀i:Nat,i<n→∀τ,ACalls Tryz.prog g (.int .i64 i::cap) (S++τ) (aD (.bool (f i)) (S++τ))):ACalls Tryz.prog 47 [.int .i64 n,.fn (.func g) [] cap] (S++σ) (aD (.af .bool ((List.range n).map f)) (S++σ)):=by
 refine au Tryz.func47 ?_
 refine .wrap 5 .ak rfl rfl ?_
 refine bh (S:=Nat×AV×Hp) (fun t=>[(1,.fn (.func g) [] cap),(5,.via t.2.1),(7,.int .i64 n),(8,.int .i64 t.1)]) (fun t=>t.2.2++(S++σ)) (fun t=>t.1≤n∧Acc 1 t.1 t.2.1 t.2.2 (((List.range t.1).map f).map AV.bool)) (fun t=>n-t.1) (0,.ak,[]) ⟨⟨aY _,.nil⟩,⟨rfl,rfl,rfl,rfl,trivial⟩,rfl⟩ ?_
 rintro⟨i,v,acc⟩ g ⟨dc,h0⟩
 have hi:i≤n:=dc
 have h:Acc 1 i v acc (((List.range i).map f).map AV.bool):=h0
 clear dc h0
 refine aj (p:=(i:Int)<(n:Int)) (fun ab=>?_) (fun aq=>?_)
 rotate_left
 ·have aq:i=n:=by omega
  subst aq
  have hlen:((List.range i).map f).length=i:=by rw[cm,kx]
  exact kZ [] (s:=.bool) h hlen.symm (As ..) Ai (.done ⟨rfl,rfl⟩)
 have ab:i<n:=by omega
 refine .perm (σ2:=S++(acc++σ)) _ (ez acc S σ) (uC i ab (acc++σ)) ?_
 rintro _ _ ⟨rfl,rfl⟩
 refine⟨_,(ez acc S σ).symm,?_⟩
 intro b1
 refine eU [_] h (.ah 0 b1 0 1 _ rfl (cp rfl)) rfl (by omega) (by decide) (by decide) (fun v' aU h'=>?_)
 refine aM (i+1,v',aU) (by show n-(i+1)<n-i;omega) ⟨ab,?_⟩ ⟨rfl,rfl,rfl,aL (by omega),trivial⟩ (.drop 0 1 (.refl _))
 show Acc 1 (i+1) v' aU (((List.range (i+1)).map f).map AV.bool)
 exact zJ (yH f AV.bool i) h'
theorem ach(g:FuncId)(cap:List AV)(S σ:Hp)(f:Nat→List Int)(n:Nat)(hn:n≤100000)(uC:∀i:Nat,i<n→∀τ,ACalls Tryz.prog g (.int .i64 i::cap) (S++τ) (aD (.af (.int .u64) (f i)) (S++τ))):ACalls Tryz.prog 104 [.int .i64 n,.fn (.func g) [] cap] (S++σ) (aD (.af (.slice (.int .u64)) ((List.range n).map f)) (S++σ)):=by
 refine au Tryz.func104 ?_
 refine .wrap 5 .ak rfl rfl ?_
 refine bh (S:=Nat×AV×Hp) (fun t=>[(1,.fn (.func g) [] cap),(5,.via t.2.1),(7,.int .i64 n),(8,.int .i64 t.1)]) (fun t=>t.2.2++(S++σ)) (fun t=>t.1≤n∧Acc 1 t.1 t.2.1 t.2.2 (((List.range t.1).map f).map (AV.af (.int .u64)))) (fun t=>n-t.1) (0,.ak,[]) ⟨⟨aY _,.nil⟩,⟨rfl,rfl,rfl,rfl,trivial⟩,rfl⟩ ?_
 rintro⟨i,v,acc⟩ g ⟨dc,h0⟩
 have hi:i≤n:=dc
 have h:Acc 1 i v acc (((List.range i).map f).map (AV.af (.int .u64))):=h0
 clear dc h0
 refine aj (p:=(i:Int)<(n:Int)) (fun ab=>?_) (fun aq=>?_)
 rotate_left
 ·have aq:i=n:=by omega
  subst aq
  have hlen:((List.range i).map f).length=i:=by rw[cm,kx]
  exact kZ [] (s:=(.slice (.int .u64))) h hlen.symm (As ..) Ai (.done ⟨rfl,rfl⟩)
 have ab:i<n:=by omega
 refine .perm (σ2:=S++(acc++σ)) _ (ez acc S σ) (uC i ab (acc++σ)) ?_
 rintro _ _ ⟨rfl,rfl⟩
 refine⟨_,(ez acc S σ).symm,?_⟩
 intro b1
 refine eU [_] h (.ah 0 b1 0 1 _ rfl (cp rfl)) rfl (by omega) (by decide) (by decide) (fun v' aU h'=>?_)
 refine aM (i+1,v',aU) (by show n-(i+1)<n-i;omega) ⟨ab,?_⟩ ⟨rfl,rfl,rfl,aL (by omega),trivial⟩ (.drop 0 1 (.refl _))
 show Acc 1 (i+1) v' aU (((List.range (i+1)).map f).map (AV.af (.int .u64)))
 exact zJ (yH f (AV.af (.int .u64)) i) h'
theorem Kz(l:List Int)(x:Int)(σ:Hp)(hl:l.length≤1000000):ACalls Tryz.prog 144 [.af (.int .i64) l,.int .i64 x] σ (aD (.bool (l.any fun z=>decide (x=z))) σ):=by
 refine au Tryz.func144 ?_
 refine bh (S:=Nat) (fun k=>[(1,.int .i64 x),(7,.af (.int .i64) l),(8,.int .i64 l.length),(9,.int .i64 k)]) (fun _=>σ) (fun k=>k≤l.length∧((l.take k).any fun z=>decide (x=z))=false) (fun k=>l.length-k) 0 ⟨⟨aY _,rfl⟩,⟨rfl,rfl,rfl,rfl,trivial⟩,rfl⟩ ?_
 rintro k g ⟨aO,gp⟩
 have hk:k≤l.length:=aO
 have ha:((l.take k).any fun z=>decide (x=z))=false:=gp
 clear aO gp
 refine aj (fun ab=>?_) (fun aq=>?_)
 ·have ab:k<l.length:=by have ab:(k:Int)<l.length:=ab;omega
  have hs:=mQ ab fun z:Int=>decide (x=z)
  rw[ha,mj]at hs
  refine aw.mk rfl (aX.mk l[k] (by omega) (get_some ab) ?_)
  refine aj (p:=l[k]=x) (fun d1=>?_) (fun d1=>?_)
  ·exact .done ⟨cd (kv.2 ⟨l[k],cq ab,bj d1.symm⟩).symm,rfl⟩
  ·exact aM (k+1) (by show l.length-(k+1)<l.length-k;omega) ⟨ab,hs.trans (cy fun h=>d1 h.symm)⟩ ⟨rfl,rfl,rfl,aL (by omega),trivial⟩ (.refl _)
 ·have aq:k=l.length:=by have aq:¬(k:Int)<l.length:=aq;omega
  subst aq
  rw[dW]at ha
  exact .done ⟨cd ha.symm,rfl⟩
end Go.Proofs.YtnikdflhefijbaaGreat
namespace Go.Proofs.YtnikdflhefijbaaGreat
def cf:List Nat→Nat
 | []=>0
 |b::l=>cf l*256+b
theorem A2(a b c d:Nat)(hb:b<256)(hd:d<256):(a*256+b) &&& (c*256+d)=(a &&& c)*256+(b &&& d):=by
 have yh:b &&& d<256:=GV Nat.and_le_left hb
 refine Dt fun i=>?_
 rw[Nat.testBit_and,Ak a,Ak c,Ak (a &&& c),show (256:Nat)=2 ^ 8 by decide,L0 a hb,L0 c hd,L0 (a &&& c) yh]
 split
 ·rw[Nat.testBit_and]
 ·rw[Nat.testBit_and]
def g1(b:Nat):Nat:=(b / 2 &&& 85)+(b &&& 85)
def g2(b:Nat):Nat:=(b / 4 &&& 51)+(b &&& 51)
def g3(b:Nat):Nat:=(b / 16+b) &&& 15
theorem ad0:∀h<2,∀b<256,(h*128+b / 2) &&& 85=b / 2 &&& 85:=by decide +kernel
theorem acZ:∀h<4,∀b<256,(h*64+b / 4) &&& 51=b / 4 &&& 51:=by decide +kernel
theorem Yh:∀b<256,g1 b≤170:=by decide +kernel
theorem Yg:∀b<256,g2 (g1 b) % 16≤4∧g2 (g1 b) / 16≤4:=by decide +kernel
theorem acY:∀h≤4,∀l≤4,∀k≤4,(k*16+((h*16+l) / 16+(h*16+l))) &&& 15=g3 (h*16+l)∧k*16+((h*16+l) / 16+(h*16+l))<256:=by decide +kernel
def tX(b:Nat):Nat:=g3 (g2 (g1 b))
theorem tA:∀b<256,tX b≤8:=by decide +kernel
theorem Wc:∀b<256,tX b=0→b=0:=by decide +kernel
theorem QZ:∀(l:List Nat),(∀b∈l,b<256)→(cf l / 2 &&& cf (l.map fun _=>85))+(cf l &&& cf (l.map fun _=>85))=cf (l.map g1)
 | [],_=>rfl
 |b::l,h=>by
  have hb:=h b (.head _)
  have ih:=QZ l (fun x hx=>h x (.tail _ hx))
  show (((cf l*256+b) / 2) &&& (cf (l.map fun _=>85)*256+85))+((cf l*256+b) &&& (cf (l.map fun _=>85)*256+85))=cf (l.map g1)*256+g1 b
  have e:(cf l*256+b) / 2=cf l / 2*256+(cf l % 2*128+b / 2):=by omega
  rw[e,A2 _ _ _ _ (by omega) (by decide),A2 _ _ _ _ hb (by decide),ad0 _ (wL _ (by decide)) _ hb,← ih]
  show _=_*256+((b / 2 &&& 85)+(b &&& 85))
  generalize cf l / 2 &&& cf (l.map fun _=>85)=A
  generalize cf l &&& cf (l.map fun _=>85)=B
  generalize b / 2 &&& 85=C
  generalize b &&& 85=D
  omega
theorem QY:∀(l:List Nat),(∀b∈l,b<256)→(cf l / 4 &&& cf (l.map fun _=>51))+(cf l &&& cf (l.map fun _=>51))=cf (l.map g2)
 | [],_=>rfl
 |b::l,h=>by
  have hb:=h b (.head _)
  have ih:=QY l (fun x hx=>h x (.tail _ hx))
  show (((cf l*256+b) / 4) &&& (cf (l.map fun _=>51)*256+51))+((cf l*256+b) &&& (cf (l.map fun _=>51)*256+51))=cf (l.map g2)*256+g2 b
  have e:(cf l*256+b) / 4=cf l / 4*256+(cf l % 4*64+b / 4):=by omega
  rw[e,A2 _ _ _ _ (by omega) (by decide),A2 _ _ _ _ hb (by decide),acZ _ (wL _ (by decide)) _ hb,← ih]
  show _=_*256+((b / 4 &&& 51)+(b &&& 51))
  generalize cf l / 4 &&& cf (l.map fun _=>51)=A
  generalize cf l &&& cf (l.map fun _=>51)=B
  generalize b / 4 &&& 51=C
  generalize b &&& 51=D
  omega
theorem Xs:∀(l:List Nat),(∀b∈l,b % 16≤4∧b / 16≤4)→cf l % 16≤4
 | [],_=>by decide
 |b::l,h=>by
  have:=(h b (.head _)).1
  show (cf l*256+b) % 16≤4
  omega
theorem QX:∀(l:List Nat),(∀b∈l,b % 16≤4∧b / 16≤4)→((cf l / 16+cf l) &&& cf (l.map fun _=>15))=cf (l.map g3)
 | [],_=>rfl
 |b::l,h=>by
  obtain⟨h1,h2⟩:=h b (.head _)
  have ih:=QX l (fun x hx=>h x (.tail _ hx))
  have hm:=Xs l (fun x hx=>h x (.tail _ hx))
  show (((cf l*256+b) / 16+(cf l*256+b)) &&& (cf (l.map fun _=>15)*256+15))=cf (l.map g3)*256+g3 b
  have rT:b=b / 16*16+b % 16:=by omega
  obtain⟨f1,f2⟩:=acY _ h2 _ h1 _ hm
  rw[← rT]at f1 f2
  have e:(cf l*256+b) / 16+(cf l*256+b)=(cf l / 16+cf l)*256+(cf l % 16*16+(b / 16+b)):=by omega
  rw[e,A2 _ _ _ _ f2 (by decide),f1,ih]
def tJ(x:Nat):List Nat:=[x % 256,x / 256 % 256,x / 65536 % 256,x / 16777216 % 256,x / 4294967296 % 256,x / 1099511627776 % 256,x / 281474976710656 % 256,x / 72057594037927936 % 256]
theorem ND{x:Nat}(h:x<18446744073709551616):cf (tJ x)=x:=by
 unfold tJ cf cf cf cf cf cf cf cf cf
 omega
theorem H5(x:Nat):∀b∈tJ x,b<256:=by
 intro b hb
 simp only[tJ,ei,s9,or_false]at hb
 omega
def sH(x:Nat):Nat:=((tJ x).map tX).sum
theorem ZG(x:Nat):sH x≤64:=by
 have h:=H5 x
 unfold sH tJ at *
 simp only[o8,List.map_nil,GD,List.sum_nil,ei,s9,or_false,forall_eq_or_imp,forall_eq]at *
 obtain⟨h0,h1,h2,h3,h4,h5,h6,h7⟩:=h
 have:=tA _ h0
 have:=tA _ h1
 have:=tA _ h2
 have:=tA _ h3
 have:=tA _ h4
 have:=tA _ h5
 have:=tA _ h6
 have:=tA _ h7
 omega
theorem Wb{x:Nat}(hx:x<18446744073709551616)(h:sH x=0):x=0:=by
 have hb:=H5 x
 have hv:=ND hx
 unfold sH at h
 generalize tJ x=l at *
 have hz:∀b∈l,b=0:=by
  intro b hm
  refine Wc b (hb b hm) ?_
  have hle:∀(l:List Nat),b∈l→tX b≤(l.map tX).sum:=by
   intro l
   induction l with
   |nil=>intro h;cases h
   |cons c l ih=>
    intro h
    rw[o8,GD]
    rcases ei.1 h with rfl | h
    ·omega
    ·have:=ih h;omega
  have:=hle l hm
  omega
 have:∀(l:List Nat),(∀b∈l,b=0)→cf l=0:=by
  intro l
  induction l with
  |nil=>intro _;rfl
  |cons b l ih=>
   intro h
   show cf l*256+b=0
   rw[ih (fun x hx=>h x (.tail _ hx)),h b (.head _)]
 rw[← hv,this l hz]
theorem acT{e0 e1 e2 e3 e4 e5 e6 e7 x3 y1 y2 y3:Nat}(h:e0≤8∧e1≤8∧e2≤8∧e3≤8∧e4≤8∧e5≤8∧e6≤8∧e7≤8)(hx:x3=cf [e0,e1,e2,e3,e4,e5,e6,e7])(h1:y1=x3+x3 / 256)(h2:y2=y1+y1 / 65536)(h3:y3=y2+y2 / 4294967296):y3 % 128=e0+e1+e2+e3+e4+e5+e6+e7∧y3<9223372036854775808∧y2<18446744073709551616∧y1<18446744073709551616:=by
 obtain⟨k0,k1,k2,k3,k4,k5,k6,k7⟩:=h
 obtain⟨T1,LC⟩:∃T,T=cf [e1,e2,e3,e4,e5,e6,e7]:=⟨_,rfl⟩
 obtain⟨T2,C6⟩:∃T,T=cf [e2,e3,e4,e5,e6,e7]:=⟨_,rfl⟩
 obtain⟨T3,LB⟩:∃T,T=cf [e3,e4,e5,e6,e7]:=⟨_,rfl⟩
 obtain⟨T4,LA⟩:∃T,T=cf [e4,e5,e6,e7]:=⟨_,rfl⟩
 obtain⟨T5,Lz⟩:∃T,T=cf [e5,e6,e7]:=⟨_,rfl⟩
 obtain⟨T6,Ly⟩:∃T,T=cf [e6,e7]:=⟨_,rfl⟩
 obtain⟨T7,Lx⟩:∃T,T=cf [e7]:=⟨_,rfl⟩
 have hx:x3=T1*256+e0:=by rw[hx,LC];rfl
 have t1:T1=T2*256+e1:=by rw[LC,C6];rfl
 have t2:T2=T3*256+e2:=by rw[C6,LB];rfl
 have t3:T3=T4*256+e3:=by rw[LB,LA];rfl
 have t4:T4=T5*256+e4:=by rw[LA,Lz];rfl
 have t5:T5=T6*256+e5:=by rw[Lz,Ly];rfl
 have t6:T6=T7*256+e6:=by rw[Ly,Lx];rfl
 have t7:T7=e7:=by rw[Lx];exact dU _
 clear LC C6 LB LA Lz Ly Lx
 have d1:x3 / 256=T1:=by clear h1 h2 h3 t1 t2 t3 t4 t5 t6 t7;omega
 have u1:y1=(T2+T3)*65536+(e1*256+e2*256+e0+e1):=by rw[h1,d1];clear h1 h2 h3 d1 t3 t4 t5 t6 t7;omega
 have d2:y1 / 65536=T2+T3:=by clear h1 h2 h3 t1 t2 t3 t4 t5 t6 t7 d1 hx;omega
 have u2:y2=(T4+T5+T6+T7)*4294967296+((e0+e1+e2+e3)+(e1+e2+e3+e4)*256+(e2+e3+e4+e5)*65536+(e3+e4+e5+e6)*16777216):=by rw[h2,d2,u1];clear h1 h2 h3 d1 d2 u1 hx t7;omega
 have d3:y2 / 4294967296=T4+T5+T6+T7:=by clear h1 h2 h3 t1 t2 t3 t4 t5 t6 t7 d1 d2 hx u1;omega
 have u3:y3=(T4+T5+T6+T7)*4294967296+((e0+e1+e2+e3)+(e1+e2+e3+e4)*256+(e2+e3+e4+e5)*65536+(e3+e4+e5+e6)*16777216)+(T4+T5+T6+T7):=by rw[h3,d3,u2]
 have b7:T7≤8:=by omega
 have b6:T6≤2056:=by clear u1 u2 u3 d1 d2 d3 h1 h2 h3 hx;omega
 have b5:T5≤526344:=by clear u1 u2 u3 d1 d2 d3 h1 h2 h3 hx;omega
 have b4:T4≤134744072:=by clear u1 u2 u3 d1 d2 d3 h1 h2 h3 hx;omega
 have b3:T3≤34494482440:=by clear u1 u2 u3 d1 d2 d3 h1 h2 h3 hx;omega
 have b2:T2≤8830587504648:=by clear u1 u2 u3 d1 d2 d3 h1 h2 h3 hx;omega
 refine⟨?_,?_,?_,?_⟩
 ·clear u1 u2 d1 d2 d3 h1 h2 h3 hx b2 b3 b4 b5 b6 b7 t1 t2 t3;omega
 ·clear u1 u2 d1 d2 d3 h1 h2 h3 hx t1 t2 t3 t4 t5 t6 t7;omega
 ·clear u1 u3 d1 d2 d3 h1 h2 h3 hx t1 t2 t3 t4 t5 t6 t7;omega
 ·clear u2 u3 d1 d2 d3 h1 h2 h3 hx t1 t2 t3 t4 t5 t6 t7;omega
set_option maxRecDepth 100000
theorem Bg{z:Int}(h:bP z):(z.toNat:Int)=z:=by unfold bP at h;omega
theorem vR{z:Int}(h:bP z):z.toNat<18446744073709551616:=by unfold bP at h;omega
theorem Zm{n:Nat}(h:n<18446744073709551616):bP (n:Int):=by unfold bP;omega
theorem AH{a b:Nat}(ha:a<18446744073709551616)(hb:b<18446744073709551616):bits .and .u64 (a:Int) (b:Int)=((a &&& b:Nat):Int):=by
 show IntKind.u64.wrap ((BitVec.ofInt 64 (a:Int) &&& BitVec.ofInt 64 (b:Int)).toNat:Int)=_
 rw[BitVec.toNat_and,BitVec.ofInt_natCast,BitVec.ofInt_natCast,BitVec.toNat_ofNat,BitVec.toNat_ofNat,ta ha,ta hb,IntKind.wrap_u64]
 have:a &&& b≤a:=Nat.and_le_left
 omega
theorem Hq{a b:Nat}(ha:a<18446744073709551616)(hb:b<18446744073709551616):bits .or .u64 (a:Int) (b:Int)=((a ||| b:Nat):Int):=by
 show IntKind.u64.wrap ((BitVec.ofInt 64 (a:Int) ||| BitVec.ofInt 64 (b:Int)).toNat:Int)=_
 rw[BitVec.toNat_or,BitVec.ofInt_natCast,BitVec.ofInt_natCast,BitVec.toNat_ofNat,BitVec.toNat_ofNat,ta ha,ta hb,IntKind.wrap_u64]
 have:a ||| b<2 ^ 64:=Nat.or_lt_two_pow ha hb
 have jV:(2:Nat) ^ 64=18446744073709551616:=by decide
 omega
theorem Ev(a:Nat)(k:Nat)(j:Int)(hj:min j.toNat IntKind.u64.bits=k):(a:Int).fdiv (2 ^ min j.toNat IntKind.u64.bits)=((a / 2 ^ k:Nat):Int):=by
 rw[hj,Int.fdiv_eq_ediv_of_nonneg _ (Int.pow_nonneg (by decide)),Int.natCast_ediv,Int.natCast_pow];rfl
theorem IA:∀(l:List Nat),(∀b∈l,b<256)→cf l<256 ^ l.length
 | [],_=>by decide
 |b::l,h=>by
  have:=IA l (fun x hx=>h x (.tail _ hx))
  have hb:=h b (.head _)
  show cf l*256+b<256 ^ (l.length+1)
  rw[Nat.pow_succ]
  omega
def oA(k m x:Int):Int:=IntKind.u64.wrap (bits .and .u64 (x.fdiv (2 ^ min k.toNat IntKind.u64.bits)) m+bits .and .u64 x m)
def oB(x:Int):Int:=bits .and .u64 (IntKind.u64.wrap (x.fdiv (2 ^ min (4:Int).toNat IntKind.u64.bits)+x)) 1085102592571150095
def oC(k x:Int):Int:=IntKind.u64.wrap (x+x.fdiv (2 ^ min k.toNat IntKind.u64.bits))
def oD(x:Int):Int:=bits .and .i64 (IntKind.i64.wrap x) 127
theorem y5{n:Nat}(h:n<18446744073709551616):IntKind.u64.wrap (n:Int)=n:=by rw[IntKind.wrap_u64];omega
theorem abK(n:Nat)(h:n<9223372036854775808):oD (n:Int)=((n % 128:Nat):Int):=by
 unfold oD
 rw[show IntKind.i64.wrap (n:Int)=n by rw[IntKind.wrap_i64];omega]
 show IntKind.i64.wrap ((BitVec.ofInt 64 (n:Int) &&& BitVec.ofInt 64 (127:Int)).toNat:Int)=_
 rw[BitVec.toNat_and,BitVec.ofInt_natCast,BitVec.toNat_ofNat,ta (show n<2 ^ 64 from Nat.lt_trans h (by decide)),show (BitVec.ofInt 64 (127:Int)).toNat=2 ^ 7-1 by decide,L5,IntKind.wrap_i64]
 have:(2:Nat) ^ 7=128:=by decide
 omega
theorem XS{n:Nat}(h:n<18446744073709551616):oD (oC 32 (oC 16 (oC 8 (oB (oA 2 3689348814741910323 (oA 1 6148914691236517205 (n:Int)))))))=(sH n:Int):=by
 have hb:=H5 n
 have hv:=ND h
 obtain⟨l,hl⟩:∃l,l=tJ n:=⟨_,rfl⟩
 have hlen:l.length=8:=by rw[hl];rfl
 rw[← hl]at hb hv
 have Kn:(256:Nat) ^ 8=18446744073709551616:=by decide
 have mh:∀b∈l.map g1,b<256:=fun b hm=>by
  obtain⟨c,hc,rfl⟩:=fi.1 hm
  have:=Yh c (hb c hc);omega
 have wC:∀b∈(l.map g1).map g2,b % 16≤4∧b / 16≤4:=fun b hm=>by
  obtain⟨c,hc,rfl⟩:=fi.1 hm
  obtain⟨d,hd,rfl⟩:=fi.1 hc
  exact Yg d (hb d hd)
 have aeb:∀b∈(l.map g1).map g2,b<256:=fun b hm=>by have:=wC b hm;omega
 have m1:cf (l.map fun _=>85)=6148914691236517205:=by rw[List.map_const',hlen];rfl
 have m2:cf ((l.map g1).map fun _=>51)=3689348814741910323:=by rw[List.map_const',cm,hlen];rfl
 have m3:cf (((l.map g1).map g2).map fun _=>15)=1085102592571150095:=by rw[List.map_const',cm,cm,hlen];rfl
 have s1:=QZ l hb
 have s2:=QY (l.map g1) mh
 have s3:=QX ((l.map g1).map g2) wC
 rw[m1,hv]at s1
 rw[m2]at s2
 rw[m3]at s3
 have l1:=IA _ mh
 have l2:=IA _ aeb
 rw[cm,hlen,Kn]at l1
 rw[cm,cm,hlen,Kn]at l2
 have hA:∀(x m y k:Nat) (j:Int),min j.toNat IntKind.u64.bits=k→x<18446744073709551616→m<18446744073709551616→(x / 2 ^ k &&& m)+(x &&& m)=y→y<18446744073709551616→oA j (m:Int) (x:Int)=(y:Int):=by
  intro x m y k j hj hx hm hy Gl
  unfold oA
  rw[Ev x k j hj,AH (GV (Nat.div_le_self _ _) hx) hm,AH hx hm,← r7,hy]
  exact y5 Gl
 have e1:=hA n 6148914691236517205 _ 1 1 rfl h (by decide) s1 l1
 have e2:=hA _ 3689348814741910323 _ 2 2 rfl l1 (by decide) s2 l2
 have qQ:cf ((l.map g1).map g2) / 16+cf ((l.map g1).map g2)<18446744073709551616:=by
  have hz:∀(q:List Nat),(∀b∈q,b % 16≤4∧b / 16≤4)→cf q*2<256 ^ q.length∨q=[]:=by
   intro q
   induction q with
   |nil=>intro _;exact .inr rfl
   |cons b q ih=>
    intro h
    have hb:=h b (.head _)
    refine .inl ?_
    show (cf q*256+b)*2<256 ^ (q.length+1)
    rw[Nat.pow_succ]
    rcases ih (fun x hx=>h x (.tail _ hx)) with h1 | rfl
    ·omega
    ·show (0*256+b)*2<256 ^ 0*256
     omega
  rcases hz _ wC with h1 | h1
  ·rw[cm,cm,hlen,Kn]at h1
   omega
  ·have:=congrArg List.length h1
   rw[cm,cm,hlen]at this
   cases this
 have e3:oB (cf ((l.map g1).map g2):Int)=(cf (((l.map g1).map g2).map g3):Int):=by
  unfold oB
  rw[Ev _ 4 4 rfl,← r7,show (2:Nat) ^ 4=16 by decide,y5 qQ]
  have:=AH (b:=1085102592571150095) qQ (by decide)
  rw[s3]at this
  exact this
 have hC:∀(x k:Nat) (j:Int),min j.toNat IntKind.u64.bits=k→x+x / 2 ^ k<18446744073709551616→oC j (x:Int)=((x+x / 2 ^ k:Nat):Int):=by
  intro x k j hj hx
  unfold oC
  rw[Ev x k j hj,← r7]
  exact y5 hx
 have adS:((l.map g1).map g2).map g3=l.map tX:=by simp[tX,Function.comp_def]
 rw[adS]at e3
 obtain⟨e0,f1,f2,f3,f4,f5,f6,f7,hq,adM,hle⟩:∃e0 e1 e2 e3 e4 e5 e6 e7,l.map tX=[e0,e1,e2,e3,e4,e5,e6,e7]∧sH n=e0+e1+e2+e3+e4+e5+e6+e7∧(e0≤8∧e1≤8∧e2≤8∧e3≤8∧e4≤8∧e5≤8∧e6≤8∧e7≤8):=by
  refine⟨_,_,_,_,_,_,_,_,by rw[hl];rfl,?_,?_⟩
  ·unfold sH tJ
   simp only[o8,List.map_nil,GD,List.sum_nil]
   omega
  ·refine⟨?_,?_,?_,?_,?_,?_,?_,?_⟩ <;> exact tA _ (wL _ (by decide))
 obtain⟨X,hX⟩:∃X,X=cf (l.map tX):=⟨_,rfl⟩
 rw[← hX]at e3
 rw[hq]at hX
 obtain⟨g1',g2',g3',g4'⟩:=acT hle hX rfl rfl rfl
 have e4:=hC X 8 8 rfl g4'
 have e5:=hC (X+X / 256) 16 16 rfl g3'
 have e6:=hC (X+X / 256+(X+X / 256) / 65536) 32 32 rfl (Nat.lt_trans g2' (by decide))
 have Lb:oA 1 6148914691236517205 (n:Int)=_:=e1
 rw[Lb]
 have sU:oA 2 3689348814741910323 (cf (l.map g1):Int)=_:=e2
 rw[sU,e3,e4]
 have e5:oC 16 ((X+X / 256:Nat):Int)=_:=e5
 have e6:oC 32 ((X+X / 256+(X+X / 256) / 65536:Nat):Int)=_:=e6
 rw[show ((X+X / 2 ^ 8:Nat):Int)=((X+X / 256:Nat):Int) from rfl,e5,show ((X+X / 256+(X+X / 256) / 2 ^ 16:Nat):Int)=((X+X / 256+(X+X / 256) / 65536:Nat):Int) from rfl,e6]
 rw[abK _ g2',adM,← g1']
theorem adg{x:Int}(h:bP x)(σ:Hp):ACalls Tryz.prog 306 [.int .u64 x] σ (aD (.int .i64 (sH x.toNat)) σ):=by
 refine au Tryz.func306 ?_
 have hv:=XS (vR h)
 rw[Bg h]at hv
 refine aw.mk (by decide) ?_
 refine dX ?_
 refine dX ?_
 refine dX ?_
 refine dX ?_
 refine dX ?_
 exact .done ⟨aR hv,rfl⟩
def hasB(a:List Int)(n:Nat):Bool:=(wd a (n / 64)).toNat.testBit (n % 64)
def dC(f:Int→Int→Int)(a b:List Int):List Int:=(List.range (max a.length b.length)).map fun i=>f (wd a i) (wd b i)
theorem pj(f:Int→Int→Int)(a b:List Int):(dC f a b).length=max a.length b.length:=by simp[dC]
theorem xm(f:Int→Int→Int)(a b:List Int){i:Nat}(h:i<max a.length b.length):wd (dC f a b) i=f (wd a i) (wd b i):=by
 unfold dC wd
 rw[fm,wR h]
 rfl
theorem xo{a:List Int}{i:Nat}(h:a.length≤i):wd a i=0:=by unfold wd;rw[r9 h];rfl
theorem oE(b:List Int){i:Nat}(h:i<b.length):wd b i=b[i]:=by unfold wd;rw[bN h];rfl
theorem I4{a b:List Int}(hl:a.length=b.length)(h:∀i,i<a.length→wd a i=wd b i):a=b:=by
 refine L7 hl fun i h1 h2=>?_
 have:=h i h1
 rw[oE a h1,oE b h2]at this
 exact this
theorem Bv{n:Nat}{f:Nat→Int}(h:∀i,i<n→bP (f i)):bX ((List.range n).map f):=fun z hz=>by
 obtain⟨i,hi,rfl⟩:=fi.1 hz
 exact h i (gq.1 hi)
abbrev ig(x y:Int):Int:=bits .or .u64 x y
abbrev fH(x y:Int):Int:=bits .andNot .u64 x y
theorem Rc(x y:Int):bP (ig x y):=Bf _
theorem E6(x y:Int):bP (fH x y):=Bf _
theorem toNat_ofInt{z:Int}(h:bP z):(BitVec.ofInt 64 z).toNat=z.toNat:=by
 have:=vR h
 rw[BitVec.toNat_ofInt]
 unfold bP at h
 omega
theorem Qj{x y:Int}(hx:bP x)(hy:bP y)(k:Nat):(ig x y).toNat.testBit k=(x.toNat.testBit k||y.toNat.testBit k):=by
 have e:ig x y=((BitVec.ofInt 64 x ||| BitVec.ofInt 64 y).toNat:Int):=by
  show IntKind.u64.wrap _=_
  exact y5 (BitVec.isLt _)
 rw[e,bR,BitVec.toNat_or,GH,toNat_ofInt hx,toNat_ofInt hy]
theorem EP{x y:Int}(hx:bP x)(hy:bP y){k:Nat}(hk:k<64):(fH x y).toNat.testBit k=(x.toNat.testBit k&&!y.toNat.testBit k):=by
 have e:fH x y=((BitVec.ofInt 64 x &&& ~~~BitVec.ofInt 64 y).toNat:Int):=by
  show IntKind.u64.wrap _=_
  exact y5 (BitVec.isLt _)
 rw[e,bR,BitVec.testBit_toNat,BitVec.getLsbD_and,BitVec.getLsbD_not,bj hk,yj,← BitVec.testBit_toNat,← BitVec.testBit_toNat,toNat_ofInt hx,toNat_ofInt hy]
def fQ(T:List Int)(n:Nat):List Int:=(List.range T.length).map fun i=>(((wd T i).toNat % 2 ^ min 64 (n-64*i):Nat):Int)
theorem pn(T:List Int)(n:Nat):(fQ T n).length=T.length:=by simp[fQ]
theorem xt(T:List Int)(n:Nat){i:Nat}(h:i<T.length):wd (fQ T n) i=(((wd T i).toNat % 2 ^ min 64 (n-64*i):Nat):Int):=by
 unfold fQ
 unfold wd
 rw[fm,wR h]
 rfl
theorem Ej(T:List Int):fQ T 0=List.replicate T.length 0:=by
 refine List.ext_getElem (by simp[fQ]) fun i h1 h2=>?_
 rw[List.getElem_replicate,← oE _ h1,xt T 0 (by simpa [fQ]using h1),Nat.zero_sub,Nat.min_zero,Nat.pow_zero,Nat.mod_one]
 rfl
theorem Qh{T:List Int}(hT:bX T):fQ T (64*T.length)=T:=by
 refine I4 (pn _ _) fun i hi=>?_
 rw[pn]at hi
 rw[xt T _ hi,show min 64 (64*T.length-64*i)=64 by omega]
 have h:=lT hT i
 rw[ta (vR h),Bg h]
theorem mod_succ(x k:Nat):x % 2 ^ (k+1)=if x.testBit k then x % 2 ^ k ||| 2 ^ k else x % 2 ^ k:=by
 refine Dt fun i=>?_
 cases hb:x.testBit k with
 |false=>
  rw[aA (by decide),G0,G0]
  by_cases h1:i<k
  ·rw[bj (show i<k+1 by omega),bj h1]
  ·by_cases h2:i=k
   ·subst h2;rw[hb];simp
   ·rw[cy (show ¬i<k+1 by omega),cy h1]
 |true=>
  rw[az rfl,GH,G0,G0,LP]
  by_cases h1:i<k
  ·rw[decide_eq_true (show i<k+1 by omega),decide_eq_true h1,decide_eq_false (show ¬k=i by omega)];simp
  ·by_cases h2:i=k
   ·subst h2;rw[hb];simp
   ·rw[cy (show ¬i<k+1 by omega),cy h1,cy (show ¬k=i by omega)];rfl
theorem Ij{T:List Int}{n:Nat}(h:n<64*T.length):fQ T (n+1)=if hasB T n then (fQ T n).set (n / 64) (ig (wd (fQ T n) (n / 64)) ((2 ^ (n % 64):Nat):Int)) else fQ T n:=by
 have hi:n / 64<T.length:=by omega
 have hk:n % 64<64:=wL _ (by decide)
 have ab:∀m,(wd T (n / 64)).toNat % 2 ^ min 64 m<18446744073709551616:=fun m=>by
  have h1:(wd T (n / 64)).toNat % 2 ^ min 64 m<2 ^ min 64 m:=wL _ (Ao _)
  have h2:2 ^ min 64 m≤2 ^ 64:=wS (by decide) (Nat.min_le_left _ _)
  have h3:(2:Nat) ^ 64=18446744073709551616:=by decide
  omega
 have hp:2 ^ (n % 64)<18446744073709551616:=by
  have h2:2 ^ (n % 64)<2 ^ 64:=Nat.pow_lt_pow_right (by decide) hk
  exact h2
 have e1:min 64 (n-64*(n / 64))=n % 64:=by omega
 have e2:min 64 (n+1-64*(n / 64))=n % 64+1:=by omega
 have hm:=mod_succ (wd T (n / 64)).toNat (n % 64)
 have Ri:∀i,i≠n / 64→min 64 (n+1-64*i)=min 64 (n-64*i):=fun i bc=>by omega
 unfold hasB
 refine I4 ?_ fun i Gw=>?_
 ·rw[pn]
  split
  ·rw[dV,pn]
  ·rw[pn]
 ·rw[pn]at Gw
  rw[xt T _ Gw]
  cases hb:(wd T (n / 64)).toNat.testBit (n % 64) with
  |true=>
   rw[hb,az rfl]at hm
   rw[az rfl]
   by_cases hc:i=n / 64
   ·subst hc
    have hs:wd ((fQ T n).set (n / 64) (ig (wd (fQ T n) (n / 64)) ((2 ^ (n % 64):Nat):Int))) (n / 64)=ig (wd (fQ T n) (n / 64)) ((2 ^ (n % 64):Nat):Int):=by
     unfold wd
     rw[List.getElem?_set_self (by rw[pn];exact hi)];rfl
    have Kd:=ab (n-64*(n / 64))
    rw[hs,xt T n hi,show ig _ _=_ from Hq Kd hp,e2,e1,hm]
   ·have hs:wd ((fQ T n).set (n / 64) (ig (wd (fQ T n) (n / 64)) ((2 ^ (n % 64):Nat):Int))) i=wd (fQ T n) i:=by
     unfold wd
     rw[List.getElem?_set_ne (fun h=>hc h.symm)]
    rw[hs,xt T n Gw,Ri i hc]
  |false=>
   rw[hb,aA (by decide)]at hm
   rw[aA (by decide),xt T n Gw]
   by_cases hc:i=n / 64
   ·subst hc
    rw[e2,e1,hm]
   ·rw[Ri i hc]
def eC(w:Int):Nat:=(min (max w 0) 1024).toNat
def dK(w:Int):Nat:=(eC w+63) / 64
theorem Bp(w:Int):eC w≤1024:=by unfold eC;omega
theorem xj(w:Int):dK w≤16:=by have:=Bp w;unfold dK;omega
theorem PH(n:Int):(if (1024:Int)<(if n<0 then 0 else n) then (1024:Int) else (if n<0 then 0 else n))=((eC n:Nat):Int):=by
 unfold eC
 by_cases h:n<0
 ·simp only[az h];omega
 ·simp only[aA h];split <;> omega
def fC(w:Int):List Int:=(List.range (dK w)).map fun i=>((2 ^ min 64 (eC w-64*i)-1:Nat):Int)
theorem nz(w:Int):(fC w).length=dK w:=by simp[fC]
theorem Es(w:Int){i:Nat}(h:i<dK w):wd (fC w) i=((2 ^ min 64 (eC w-64*i)-1:Nat):Int):=by
 unfold fC wd
 rw[fm,wR h]
 rfl
theorem acx(m:Nat):2 ^ min 64 m≤18446744073709551616:=wS (by decide) (Nat.min_le_left _ _)
theorem PA(w:Int):bX (fC w):=Bv fun i _=>Zm (by
 have:=acx (eC w-64*i)
 have:=Ao (min 64 (eC w-64*i))
 omega)
def fW(a:List Int)(w:Int):Bool:=decide (a.length=dK w)&&(List.range a.length).all fun i=>decide ((wd a i).toNat<2 ^ min 64 (eC w-64*i))
theorem H2{a:List Int}{w:Int}(jV:bX a)(hl:a.length=dK w):fW a w=true↔∀n,eC w≤n→n<64*a.length→hasB a n=false:=by
 unfold fW hasB
 rw[bj hl,yj,fN]
 constructor
 ·intro h n h1 h2
  have hi:n / 64<a.length:=by omega
  have:=h (n / 64) (gq.2 hi)
  simp only[decide_eq_true_eq]at this
  refine yq (tc this (wS (by decide) ?_))
  omega
 ·intro h i hi
  have hi:=gq.1 hi
  rw[decide_eq_true_eq]
  have S7:=vR (lT jV i)
  rcases s6 (eC w-64*i) 64 with hc | hc
  ·rw[Nat.min_eq_right (by omega)]
   refine Nat.lt_pow_two_of_testBit _ fun k hk=>?_
   rcases s6 k 64 with cY | cY
   ·have:=h (64*i+k) (by omega) (by omega)
    rw[show (64*i+k) / 64=i by omega,show (64*i+k) % 64=k by omega]at this
    exact this
   ·refine yq (tc S7 ?_)
    exact wS (by decide:0<2) cY
  ·rw[LV hc]
   exact S7
theorem WE{a:List Int}{w:Int}(jV:bX a)(hl:a.length=dK w):fW a w=true↔∀i,i<a.length→fH (wd a i) (wd (fC w) i)=0:=by
 unfold fW
 rw[bj hl,yj,fN]
 have hf:∀i,i<a.length→((wd a i).toNat<2 ^ min 64 (eC w-64*i)↔fH (wd a i) (wd (fC w) i)=0):=by
  intro i hi
  have ha:=lT jV i
  have hb:=lT (PA w) i
  have hn:(wd (fC w) i).toNat=2 ^ min 64 (eC w-64*i)-1:=by rw[Es w (by omega),bR]
  constructor
  ·intro h
   have hz:(fH (wd a i) (wd (fC w) i)).toNat=0:=by
    refine Dt fun k=>?_
    rw[Nat.zero_testBit]
    rcases s6 k 64 with hk | hk
    ·rw[EP ha hb hk,hn,L1]
     by_cases cY:k<min 64 (eC w-64*i)
     ·rw[decide_eq_true cY];simp
     ·rw[yq (tc h (wS (by decide) (by omega)))];rfl
    ·exact yq (tc (vR (E6 _ _)) (wS (by decide:0<2) hk))
   have:=Bg (E6 (wd a i) (wd (fC w) i))
   omega
  ·intro h
   refine Nat.lt_pow_two_of_testBit _ fun k hk=>?_
   rcases s6 k 64 with cY | cY
   ·have hz:=EP ha hb cY
    rw[h,hn,L1,cy (by omega)]at hz
    have h0:(0:Int).toNat.testBit k=false:=Nat.zero_testBit k
    rw[h0]at hz
    simpa using hz.symm
   ·exact yq (tc (vR ha) (wS (by decide:0<2) cY))
 constructor
 ·intro h i hi
  exact (hf i hi).1 (by simpa using h i (List.mem_range.2 hi))
 ·intro h i hi
  have hi:=gq.1 hi
  rw[decide_eq_true_eq]
  exact (hf i hi).2 (h i hi)
theorem QF(a:List Int)(i:Nat)(σ:Hp):ACalls Tryz.prog 334 [.af (.int .u64) a,.int .i64 i] σ (aD (.int .u64 (wd a i)) σ):=by
 refine au Tryz.func334 ?_
 refine aj (fun c=>?_) (fun c=>?_)
 ·have c:(a.length:Int)≤(i:Int):=c
  exact .done ⟨aR (xo (by omega)).symm,rfl⟩
 ·have c:i<a.length:=by have c:¬(a.length:Int)≤(i:Int):=c;omega
  refine aw.mk rfl (aX.mk a[i] (by omega) (get_some c) ?_)
  exact .done ⟨aR (oE a c).symm,rfl⟩
theorem RO(n:Int)(σ:Hp):ACalls Tryz.prog 210 [.int .i64 n] σ (aD (.int .i64 (eC n)) σ):=by
 refine au Tryz.func210 ?_
 exact .done ⟨aR (PH n),rfl⟩
theorem Xz(n:Int):(IntKind.i64.wrap (IntKind.i64.wrap ((eC n:Nat)+64)-1)).tdiv 64=((dK n:Nat):Int):=by
 have:=Bp n
 rw[IntKind.wrap_i64,IntKind.wrap_i64]
 unfold dK
 rw[AA (by omega)]
 omega
theorem NL(n:Int):IntKind.i64.wrap ((dK n:Nat):Int)=((dK n:Nat):Int):=by
 have:=xj n
 rw[IntKind.wrap_i64];omega
theorem ES(n:Int)(σ:Hp):ACalls Tryz.prog 153 [.int .i64 n] σ (aD (.int .i64 (dK n)) σ):=by
 refine au Tryz.func153 ?_
 refine ar [] (RO n _) ?_
 refine aw.mk (by decide) ?_
 exact .done ⟨aR (by rw[Xz,NL]),rfl⟩
theorem RQ(g:FuncId)(f:Int→Int→Int)(hg:∀(x y:Int) (σ:Hp),ACalls Tryz.prog g [.int .u64 x,.int .u64 y] σ (aD (.int .u64 (f x y)) σ))(a b:List Int)(σ:Hp)(ha:a.length≤100000)(hb:b.length≤100000):ACalls Tryz.prog 307 [.af (.int .u64) a,.af (.int .u64) b,.fn (.func g) [] []] σ (aD (.af (.int .u64) (dC f a b)) σ):=by
 refine au Tryz.func307 ?_
 obtain⟨n,hn⟩:∃n,n=max a.length b.length:=⟨_,rfl⟩
 have lu:(if (a.length:Int)<b.length then (b.length:Int) else a.length)=(n:Int):=by split <;> omega
 have pZ:(dC f a b).length=n:=by rw[pj,hn]
 refine .wrap 7 _ rfl rfl ?_
 refine bh (S:=Nat×AV×Hp) (fun s=>[(0,.af (.int .u64) a),(1,.af (.int .u64) b),(2,.fn (.func g) [] []),(7,.via s.2.1),(13,.int .i64 n),(14,.int .i64 s.1)]) (fun s=>s.2.2++σ) (fun s=>s.1≤n∧Acc 1 s.1 s.2.1 s.2.2 (aP ((dC f a b).take s.1))) (fun s=>n-s.1) (0,.ak,[]) ⟨⟨aY _,.nil⟩,⟨rfl,rfl,rfl,rfl,aR lu,rfl,trivial⟩,rfl⟩ ?_
 rintro⟨k,v,acc⟩ s ⟨aO,gQ⟩
 have hk:k≤n:=aO
 have bS:Acc 1 k v acc (aP ((dC f a b).take k)):=gQ
 clear aO gQ
 refine aj (fun ab=>?_) (fun aq=>?_)
 ·have ab:k<n:=by have ab:(k:Int)<n:=ab;omega
  have he:(dC f a b)[k]'(by omega)=f (wd a k) (wd b k):=by rw[← oE,xm f a b (by omega)]
  refine ar [] (QF a k _) ?_
  refine ar [] (QF b k _) ?_
  refine ar [] (hg _ _ _) ?_
  intro aB
  refine eU [_] bS (.ah 0 aB 0 1 _ rfl (cp rfl)) rfl (by omega) (by decide) (by decide) (fun v' aU h'=>?_)
  refine aM (k+1,v',aU) (by show n-(k+1)<n-k;omega) ⟨ab,?_⟩ ⟨rfl,rfl,rfl,rfl,rfl,aL (by omega),trivial⟩ (.drop 0 1 (aN rfl))
  show Acc 1 (k+1) v' aU (aP ((dC f a b).take (k+1)))
  rw[eT (by omega),he,aP,cC]
  exact h'
 ·have aq:k=n:=by have aq:¬(k:Int)<n:=aq;omega
  subst aq
  rw[dN (by omega)]at bS
  exact kZ (s:=.int .u64) (l:=dC f a b) [] bS pZ.symm (by rw[jK]) (by decide) (.done ⟨rfl,rfl⟩)
theorem aal(x y:Int)(σ:Hp):ACalls Tryz.prog 328 [.int .u64 x,.int .u64 y] σ (aD (.int .u64 (ig x y)) σ):=by
 refine au Tryz.func328 ?_
 exact .done ⟨rfl,rfl⟩
theorem aaS(x y:Int)(σ:Hp):ACalls Tryz.prog 308 [.int .u64 x,.int .u64 y] σ (aD (.int .u64 (fH x y)) σ):=by
 refine au Tryz.func308 ?_
 exact .done ⟨rfl,rfl⟩
theorem abO(a b:List Int)(σ:Hp)(ha:a.length≤100000)(hb:b.length≤100000):ACalls Tryz.prog 300 [.af (.int .u64) a,.af (.int .u64) b] σ (aD (.af (.int .u64) (dC ig a b)) σ):=by
 refine au Tryz.func300 ?_
 refine ar [] (RQ _ _ aal a b _ ha hb) ?_
 exact .done ⟨rfl,rfl⟩
theorem RH(a b:List Int)(σ:Hp)(ha:a.length≤100000)(hb:b.length≤100000):ACalls Tryz.prog 284 [.af (.int .u64) a,.af (.int .u64) b] σ (aD (.af (.int .u64) (dC fH a b)) σ):=by
 refine au Tryz.func284 ?_
 refine ar [] (RQ _ _ aaS a b _ ha hb) ?_
 exact .done ⟨rfl,rfl⟩
theorem JK(n:Nat)(h:n≤100000000):IntKind.i64.wrap ((n:Int).tdiv 64)=((n / 64:Nat):Int):=by
 rw[AA (by omega),IntKind.wrap_i64];omega
theorem Jz(n:Nat):(n:Int).tmod 64=((n % 64:Nat):Int):=by
 rw[sa (by omega)];omega
theorem RX(k:Nat)(h:k<64):IntKind.u64.wrap (1*2 ^ min ((k:Nat):Int).toNat IntKind.u64.bits)=((2 ^ k:Nat):Int):=by
 have e:min ((k:Nat):Int).toNat IntKind.u64.bits=k:=by show min k 64=k;omega
 rw[e,Int.one_mul,show ((2:Int) ^ k)=((2 ^ k:Nat):Int) by rw[Int.natCast_pow];rfl]
 exact y5 (tc (Nat.pow_lt_pow_right (by decide) h) (bJ _))
theorem qx{l:List Int}{i:Nat}(h:i<l.length)(x:Int){z:Int}(hz:z=i):kC ⟨.int .u64,1,8,[.int .u64 0]⟩ (aP l) (0+z.toNat*1) (.int .u64 x)=some (aP (l.set i x)):=by
 subst hz
 have e:0+((i:Int)).toNat*1=i:=by omega
 rw[e]
 have h2:Nat.ble (i+1) (aP l).length=true:=Nat.ble_eq_true_of_le (by simp[aP];omega)
 show (match Nat.beq 1 1,Nat.ble (i+1) (aP l).length with | true,true=>some (gi (aP l) i [.int .u64 x]) | _,_=>none)=_
 rw[h2]
 show some ((aP l).set i (.int .u64 x))=_
 simp[aP,List.map_set]
theorem zo{l:List Int}{i:Nat}(h:i<l.length){z:Int}(hz:z=i):eF ⟨.int .u64,1,8,[.int .u64 0]⟩ (aP l) (0+z.toNat*1)=some (.int .u64 (wd l i)):=by
 subst hz
 have e:0+((i:Int)).toNat*1=i:=by omega
 rw[e]
 show (aP l)[i]?=_
 unfold aP wd
 rw[fm,bN h];rfl
theorem Ou(w:Int){n:Nat}(h:n<eC w):fQ (fC w) (n+1)=(fQ (fC w) n).set (n / 64) (ig (wd (fQ (fC w) n) (n / 64)) ((2 ^ (n % 64):Nat):Int)):=by
 have hs:(fC w).length=dK w:=nz w
 have hl:n<64*(fC w).length:=by rw[hs];unfold dK;omega
 have hb:hasB (fC w) n=true:=by
  unfold hasB
  rw[Es w (by unfold dK;omega),bR,L1]
  exact bj (by omega)
 rw[Ij hl,az hb]
theorem Pz(w:Int):fQ (fC w) (eC w)=fC w:=by
 refine I4 (pn _ _) fun i hi=>?_
 rw[pn]at hi
 rw[xt _ _ hi]
 rw[nz]at hi
 rw[Es w hi,bR,ta]
 have:=Ao (min 64 (eC w-64*i))
 omega
theorem SB(w:Int)(σ:Hp):ACalls Tryz.prog 203 [.int .i64 w] σ (aD (.af (.int .u64) (fC w)) σ):=by
 refine au Tryz.func203 ?_
 have eE:=xj w
 have GA:=Bp w
 refine ar [] (ES w _) ?_
 refine bg ?_
 intro q
 refine ar [] (RO w _) ?_
 refine bh (S:=Nat) (fun s=>[(3,.ah q 0 (dK w) 1),(9,.int .i64 (eC w)),(10,.int .i64 s)]) (fun s=>(q,aP (fQ (fC w) s))::σ) (fun s=>s≤eC w) (fun s=>eC w-s) 0 ⟨aY _,⟨rfl,rfl,rfl,trivial⟩,?_⟩ ?_
 ·show (q,cN [.int .u64 0] (((dK w:Nat):Int)).toNat)::σ=(q,aP (fQ (fC w) 0))::σ
  rw[Ej,nz,bR,tw]
 intro n g fF
 have hn:n≤eC w:=fF
 clear fF
 refine aj (fun ab=>?_) (fun aq=>?_)
 ·have ab:n<eC w:=by have ab:(n:Int)<eC w:=ab;omega
  have hi:n / 64<(fQ (fC w) n).length:=by rw[pn,nz];unfold dK;omega
  have z7:n / 64<dK w:=by unfold dK;omega
  have hd:=JK n (by omega)
  have hm:=Jz n
  refine .sched [] (upto [] 11 0) (by kernel_rfl) ?_
  refine dX ?_
  refine aQ ?_
  refine aW 0 rfl (zo hi hd) ?_
  have DA:=RX (n % 64) (by omega)
  rw[← hm]at DA
  refine dX ?_
  refine dX ?_
  refine aQ ?_
  refine cu 0 rfl (qx hi _ hd) ?_
  refine aM (n+1) (by show eC w-(n+1)<eC w-n;omega) ab ⟨rfl,rfl,aL (by omega),trivial⟩ (aN ?_)
  rw[Ou w ab,← DA]
  rfl
 ·have aq:n=eC w:=by have aq:¬(n:Int)<eC w:=aq;omega
  subst aq
  rw[Pz]
  exact .cH 0 q 0 (dK w) 1 _ (.int .u64) (fC w) rfl (by rw[List.drop_zero,← jK];exact List.take_of_length_le (by simp[aP,nz])) ⟨nz w,rfl,by decide⟩ .here (.done ⟨rfl,rfl⟩)
def nZ(a:List Int):Nat:=(a.map fun z=>sH z.toNat).sum
theorem aa5(a:List Int):nZ a≤64*a.length:=by
 unfold nZ
 induction a with
 |nil=>simp
 |cons x a ih=>have:=ZG x.toNat;simp only[o8,GD,iE];omega
theorem WN(a:List Int){k:Nat}(h:k<a.length):nZ (a.take (k+1))=nZ (a.take k)+sH (a[k]).toNat:=by
 unfold nZ
 rw[List.take_succ_eq_append_getElem h,List.map_append,List.sum_append];simp
theorem WM{a:List Int}(ha:bX a):nZ a=0↔∀i,i<a.length→wd a i=0:=by
 unfold nZ
 rw[List.sum_eq_zero_iff_forall_eq_nat]
 constructor
 ·intro h i hi
  have h1:=h _ (fi.2 ⟨a[i],cq hi,rfl⟩)
  have:=Wb (vR (ha _ (cq hi))) h1
  have hw:=Bg (ha _ (cq hi))
  rw[oE a hi,← hw,this];rfl
 ·intro h x hx
  obtain⟨z,hz,rfl⟩:=fi.1 hx
  obtain⟨i,hi,rfl⟩:=Au.1 hz
  have:=h i hi
  rw[oE a hi]at this
  rw[this];rfl
theorem ad1{a b:Nat}(h:a+b<1000000000):IntKind.i64.wrap ((a:Int)+(b:Int))=((a+b:Nat):Int):=by rw[IntKind.wrap_i64];omega
theorem acb(a:List Int)(σ:Hp)(hl:a.length≤100000)(ha:bX a):ACalls Tryz.prog 283 [.af (.int .u64) a] σ (aD (.int .i64 (nZ a)) σ):=by
 refine au Tryz.func283 ?_
 refine bh (S:=Nat) (fun s=>[(3,.int .i64 (nZ (a.take s))),(6,.af (.int .u64) a),(7,.int .i64 a.length),(8,.int .i64 s)]) (fun _=>σ) (fun s=>s≤a.length) (fun s=>a.length-s) 0 ⟨aY _,⟨rfl,rfl,rfl,rfl,trivial⟩,rfl⟩ ?_
 intro k g aO
 have hk:k≤a.length:=aO
 clear aO
 refine aj (fun ab=>?_) (fun aq=>?_)
 ·have ab:k<a.length:=by have ab:(k:Int)<a.length:=ab;omega
  refine aw.mk rfl (aX.mk a[k] (by omega) (get_some ab) ?_)
  refine ar [] (adg (ha _ (cq ab)) _) ?_
  have h1:=aa5 (a.take (k+1))
  have h2:=WN a ab
  rw[uT]at h1
  refine aM (k+1) (by show a.length-(k+1)<a.length-k;omega) ab ⟨aR (by rw[h2];exact ad1 (by omega)),rfl,rfl,aL (by omega),trivial⟩ (.refl _)
 ·have aq:k=a.length:=by have aq:¬(k:Int)<a.length:=aq;omega
  subst aq
  rw[dW]
  exact .done ⟨rfl,rfl⟩
theorem Ba(a b:List Int):bX (dC fH a b):=Bv fun _ _=>E6 _ _
theorem aaf(a b:List Int)(σ:Hp)(ha:a.length≤10000)(hb:b.length≤10000):ACalls Tryz.prog 249 [.af (.int .u64) a,.af (.int .u64) b] σ (aD (.bool (decide (nZ (dC fH a b)=0))) σ):=by
 refine au Tryz.func249 ?_
 refine ar [] (RH a b _ (by omega) (by omega)) ?_
 refine ar [] (acb _ _ (by rw[pj];omega) (Ba a b)) ?_
 refine aj (fun c=>?_) (fun c=>?_)
 ·have c:nZ (dC fH a b)=0:=by have c:((nZ (dC fH a b):Nat):Int)=0:=c;omega
  exact .done ⟨cd (bj c).symm,rfl⟩
 ·have c:nZ (dC fH a b)≠0:=by have c:¬((nZ (dC fH a b):Nat):Int)=0:=c;omega
  exact .done ⟨cd (cy c).symm,rfl⟩
theorem TZ{a:List Int}{w:Int}(jV:bX a)(hl:a.length=dK w):decide (nZ (dC fH a (fC w))=0)=fW a w:=by
 rw[Bool.eq_iff_iff,decide_eq_true_eq,WM (Ba _ _),WE jV hl,pj,nz,hl,Nat.max_self]
 refine⟨fun h i hi=>?_,fun h i hi=>?_⟩
 ·rw[← xm fH a (fC w) (by rw[hl];omega)];exact h i hi
 ·rw[xm fH a (fC w) (by rw[hl];omega)];exact h i hi
theorem Bt(a:List Int)(w:Int)(σ:Hp)(jV:bX a)(ha:a.length≤10000):ACalls Tryz.prog 199 [.af (.int .u64) a,.int .i64 w] σ (aD (.bool (fW a w)) σ):=by
 refine au Tryz.func199 ?_
 refine ar [] (ES w _) ?_
 have eE:=xj w
 refine aj (fun c=>?_) (fun c=>?_)
 ·have c:a.length=dK w:=by have c:(a.length:Int)=dK w:=c;omega
  refine ar [] (SB w _) ?_
  refine ar [] (aaf a _ _ ha (by rw[nz];omega)) ?_
  exact .done ⟨cd (TZ jV c),rfl⟩
 ·have c:a.length≠dK w:=by have c:¬(a.length:Int)=dK w:=c;omega
  have hf:fW a w=false:=by unfold fW;rw[cy c];rfl
  rw[hf]
  exact .done ⟨rfl,rfl⟩
theorem IY(n:Int)(σ:Hp):ACalls Tryz.prog 165 [.int .i64 n] σ (aD (.int .i64 (eC n)) σ):=by
 refine au Tryz.func165 ?_
 exact .done ⟨aR (PH n),rfl⟩
theorem VW(n:Int):(IntKind.i64.wrap ((eC n:Nat)+63)).tdiv 64=((dK n:Nat):Int):=by
 have:=Bp n
 rw[IntKind.wrap_i64]
 unfold dK
 rw[AA (by omega)]
 omega
theorem Jg(n:Int)(σ:Hp):ACalls Tryz.prog 115 [.int .i64 n] σ (aD (.int .i64 (dK n)) σ):=by
 refine au Tryz.func115 ?_
 refine ar [] (IY n _) ?_
 refine aw.mk (by decide) ?_
 exact .done ⟨aR (by rw[VW,NL]),rfl⟩
theorem Z5{x:Int}(ha:bP x){k:Nat}(h:k<64){z:Int}(hz:z=k):(bits .and .u64 (x.fdiv (2 ^ min z.toNat IntKind.u64.bits)) 1=1)↔x.toNat.testBit k=true:=by
 subst hz
 have e:min ((k:Int)).toNat IntKind.u64.bits=k:=by show min k 64=k;omega
 have hw:=Bg ha
 rw[← hw,Ev _ _ _ e]
 have ab:=vR ha
 rw[show (1:Int)=((1:Nat):Int) from rfl,AH (GV (Nat.div_le_self _ _) ab) (by decide)]
 rw[bR,Nat.and_one_is_mod,Nat.testBit_eq_decide_div_mod_eq,decide_eq_true_eq]
 omega
theorem B0(a:List Int)(n:Nat)(σ:Hp)(jV:bX a)(hn:n≤1000000):ACalls Tryz.prog 178 [.af (.int .u64) a,.int .i64 n] σ (aD (.bool (hasB a n)) σ):=by
 refine au Tryz.func178 ?_
 have hd:=JK n (by omega)
 have hm:=Jz n
 refine dX ?_
 refine aj (fun c1=>?_) (fun c1=>?_)
 ·have c1:IntKind.i64.wrap ((↑n:Int).tdiv 64)<(↑a.length:Int):=c1
  refine dX ?_
  have hi:n / 64<a.length:=by omega
  refine aw.mk rfl (aX.mk a[n / 64] (by omega) (by rw[hd];exact get_some hi) ?_)
  have hq:=Z5 (ha:=jV _ (cq hi)) (k:=n % 64) (by omega) hm
  have hb:hasB a n=a[n / 64].toNat.testBit (n % 64):=by unfold hasB;rw[oE a hi]
  refine dX ?_
  refine dX ?_
  refine aj (fun c2=>.done ⟨cd ?_,rfl⟩) (fun c2=>.done ⟨cd ?_,rfl⟩)
  ·rw[hb];exact (hq.1 c2).symm
  ·rw[hb];exact (yl.2 fun h=>c2 (hq.2 h)).symm
 ·have c1:¬(IntKind.i64.wrap ((↑n:Int).tdiv 64)<(↑a.length:Int)):=c1
  have hb:hasB a n=false:=by unfold hasB;rw[xo (by omega)];simp
  rw[hb]
  exact .done ⟨rfl,rfl⟩
theorem Je(l:List Int)(n q len:Nat)(σ:Hp)(hl:l.length=len)(hm:len≤10000)(hn:n / 64<len):ACalls Tryz.prog 280 [.ah q 0 len 1,.int .i64 n] ((q,aP l)::σ) (fun r σ'=>∃b,r=.ah b 0 len 1∧σ'=(b,aP (l.set (n / 64) (ig (wd l (n / 64)) ((2 ^ (n % 64):Nat):Int))))::(q,aP l)::σ):=by
 refine au Tryz.func280 ?_
 have hd:=JK n (by omega)
 have hm:=Jz n
 intro aB
 have ae0:(aP l).length=len*1:=by simp[aP,hl]
 have hle:0+len*1≤(aP l).length:=by omega
 have iK:((aP l).drop 0).take (len*1)=aP l:=dN (by rw[fG];omega)
 refine eU [] (acc:=[(aB,[])]) (k:=0) (cs:=[]) (n:=len) (.ah aB 0 [] rfl) (.ah 1 q 0 len (aP l) rfl hle) (by rw[iK];exact ae0) (by omega) (by decide) (by decide) (fun v' aU h'=>?_)
 rw[dU,iK,uP]at h'
 generalize fw:aP l=cs at h'
 cases h' with
 |nil=>omega
 |ah b k cs h=>
 subst fw
 have hi:n / 64<l.length:=by omega
 refine .sched [] (upto [] 14 0) (by kernel_rfl) ?_
 refine dX ?_
 refine dX ?_
 refine aQ ?_
 refine aW 0 rfl (zo hi hd) ?_
 have DA:=RX (n % 64) (by omega)
 rw[← hm]at DA
 refine dX ?_
 refine dX ?_
 refine aQ ?_
 refine cu 0 rfl (qx hi _ hd) ?_
 rw[← DA]
 exact .done ⟨_,rfl,rfl⟩
set_option maxHeartbeats 4000000 in
theorem ab2(a b:List Int)(σ:Hp)(ha:bX a)(hb:bX b)(la:a.length≤10000)(lb:b.length≤10000):ACalls Tryz.prog 263 [.af (.int .u64) a,.af (.int .u64) b,.int .i64 1] σ (aD (.af (.int .u64) (dC ig a b)) σ):=by
 refine au Tryz.func263 ?_
 obtain⟨n,hn⟩:∃n,n=max a.length b.length:=⟨_,rfl⟩
 have lu:(if (a.length:Int)<b.length then (b.length:Int) else a.length)=(n:Int):=by split <;> omega
 have hT:(dC ig a b).length=n:=by rw[pj,hn]
 have Kk:bX (dC ig a b):=Bv fun _ _=>Rc _ _
 have Ki:∀k,k<64*n→hasB (dC ig a b) k=((hasB a k).or (hasB b k)):=fun k hk=>by
  unfold hasB
  rw[xm ig a b (by omega)]
  exact Qj (lT ha _) (lT hb _) _
 have hM:(0:Int)≤(if (a.length:Int)<b.length then (b.length:Int) else a.length)∧(if (a.length:Int)<b.length then (b.length:Int) else a.length)≤1048576:=by rw[lu];omega
 refine aw.mk ⟨hM.1,dA _,hM.2,by decide⟩ ?_
 intro q
 refine bh (S:=Nat×Nat) (fun s=>[(0,.af (.int .u64) a),(1,.af (.int .u64) b),(2,.int .i64 1),(7,.ah s.2 0 n 1),(8,.int .i64 s.1)]) (fun s=>(s.2,aP (fQ (dC ig a b) s.1))::σ) (fun s=>s.1≤64*n) (fun s=>64*n-s.1) (0,q) ⟨aY _,⟨rfl,rfl,rfl,?_,rfl,trivial⟩,?_⟩ ?_
 ·show AV.ah q 0 (if (a.length:Int)<b.length then (b.length:Int) else a.length).toNat 1=.ah q 0 n 1
  rw[lu,bR]
 ·show (q,cN [.int .u64 0] (if (a.length:Int)<b.length then (b.length:Int) else a.length).toNat)::σ=(q,aP (fQ (dC ig a b) 0))::σ
  rw[lu,bR,Ej,hT,tw]
 rintro⟨k,p⟩ g aO
 have hk:k≤64*n:=aO
 clear aO
 have hlen:(fQ (dC ig a b) k).length=n:=by rw[pn,hT]
 refine aj (fun ab=>?_) (fun aq=>?_)
 ·have ab:k<64*n:=by
   have ab:(k:Int)<IntKind.i64.wrap (64*(n:Int)):=ab
   rw[IntKind.wrap_i64]at ab;omega
  have hs:=Ij (T:=dC ig a b) (n:=k) (by omega)
  have mI:=Ki k ab
  refine dr [] (B0 a k _ ha (by omega)) (fun cA=>?_) (fun cA=>?_) <;> refine dr [] (B0 b k _ hb (by omega)) (fun cB=>?_) (fun cB=>?_) <;> rw[cA,cB]at mI <;> rw[mI]at hs
  all_goals first
   |(refine .mk [] _ (Je _ k _ _ _ hlen (by omega) (by omega)) ?_
     rintro r σ' ⟨b',rfl,rfl⟩
     refine aM (k+1,b') (by show 64*n-(k+1)<64*n-k;omega) ab ⟨rfl,rfl,rfl,rfl,aL (by omega),trivial⟩ (.drop 1 1 (aN ?_))
     rw[hs.trans (az rfl)]
     rfl)
   |(refine aM (k+1,p) (by show 64*n-(k+1)<64*n-k;omega) ab ⟨rfl,rfl,rfl,rfl,aL (by omega),trivial⟩ (aN ?_)
     rw[hs.trans (aA (by decide))]
     rfl)
 ·have aq:k=64*n:=by
   have aq:¬(k:Int)<IntKind.i64.wrap (64*(n:Int)):=aq
   rw[IntKind.wrap_i64]at aq;omega
  subst aq
  rw[← hT,Qh Kk]
  exact .cH 0 p 0 _ 1 _ (.int .u64) (dC ig a b) rfl (by rw[List.drop_zero,← jK];exact List.take_of_length_le (by simp[aP];exact Nat.le_refl _)) ⟨rfl,rfl,by decide⟩ .here (.done ⟨rfl,rfl⟩)
set_option maxHeartbeats 4000000 in
theorem ab1(a b:List Int)(σ:Hp)(ha:bX a)(hb:bX b)(la:a.length≤10000)(lb:b.length≤10000):ACalls Tryz.prog 263 [.af (.int .u64) a,.af (.int .u64) b,.int .i64 3] σ (aD (.af (.int .u64) (dC fH a b)) σ):=by
 refine au Tryz.func263 ?_
 obtain⟨n,hn⟩:∃n,n=max a.length b.length:=⟨_,rfl⟩
 have lu:(if (a.length:Int)<b.length then (b.length:Int) else a.length)=(n:Int):=by split <;> omega
 have hT:(dC fH a b).length=n:=by rw[pj,hn]
 have Kk:bX (dC fH a b):=Bv fun _ _=>E6 _ _
 have Ki:∀k,k<64*n→hasB (dC fH a b) k=((hasB a k).and (!hasB b k)):=fun k hk=>by
  unfold hasB
  rw[xm fH a b (by omega)]
  exact EP (lT ha _) (lT hb _) (by omega)
 have hM:(0:Int)≤(if (a.length:Int)<b.length then (b.length:Int) else a.length)∧(if (a.length:Int)<b.length then (b.length:Int) else a.length)≤1048576:=by rw[lu];omega
 refine aw.mk ⟨hM.1,dA _,hM.2,by decide⟩ ?_
 intro q
 refine bh (S:=Nat×Nat) (fun s=>[(0,.af (.int .u64) a),(1,.af (.int .u64) b),(2,.int .i64 3),(7,.ah s.2 0 n 1),(8,.int .i64 s.1)]) (fun s=>(s.2,aP (fQ (dC fH a b) s.1))::σ) (fun s=>s.1≤64*n) (fun s=>64*n-s.1) (0,q) ⟨aY _,⟨rfl,rfl,rfl,?_,rfl,trivial⟩,?_⟩ ?_
 ·show AV.ah q 0 (if (a.length:Int)<b.length then (b.length:Int) else a.length).toNat 1=.ah q 0 n 1
  rw[lu,bR]
 ·show (q,cN [.int .u64 0] (if (a.length:Int)<b.length then (b.length:Int) else a.length).toNat)::σ=(q,aP (fQ (dC fH a b) 0))::σ
  rw[lu,bR,Ej,hT,tw]
 rintro⟨k,p⟩ g aO
 have hk:k≤64*n:=aO
 clear aO
 have hlen:(fQ (dC fH a b) k).length=n:=by rw[pn,hT]
 refine aj (fun ab=>?_) (fun aq=>?_)
 ·have ab:k<64*n:=by
   have ab:(k:Int)<IntKind.i64.wrap (64*(n:Int)):=ab
   rw[IntKind.wrap_i64]at ab;omega
  have hs:=Ij (T:=dC fH a b) (n:=k) (by omega)
  have mI:=Ki k ab
  refine dr [] (B0 a k _ ha (by omega)) (fun cA=>?_) (fun cA=>?_) <;> refine dr [] (B0 b k _ hb (by omega)) (fun cB=>?_) (fun cB=>?_) <;> rw[cA,cB]at mI <;> rw[mI]at hs
  all_goals first
   |(refine .mk [] _ (Je _ k _ _ _ hlen (by omega) (by omega)) ?_
     rintro r σ' ⟨b',rfl,rfl⟩
     refine aM (k+1,b') (by show 64*n-(k+1)<64*n-k;omega) ab ⟨rfl,rfl,rfl,rfl,aL (by omega),trivial⟩ (.drop 1 1 (aN ?_))
     rw[hs.trans (az rfl)]
     rfl)
   |(refine aM (k+1,p) (by show 64*n-(k+1)<64*n-k;omega) ab ⟨rfl,rfl,rfl,rfl,aL (by omega),trivial⟩ (aN ?_)
     rw[hs.trans (aA (by decide))]
     rfl)
 ·have aq:k=64*n:=by
   have aq:¬(k:Int)<IntKind.i64.wrap (64*(n:Int)):=aq
   rw[IntKind.wrap_i64]at aq;omega
  subst aq
  rw[← hT,Qh Kk]
  exact .cH 0 p 0 _ 1 _ (.int .u64) (dC fH a b) rfl (by rw[List.drop_zero,← jK];exact List.take_of_length_le (by simp[aP];exact Nat.le_refl _)) ⟨rfl,rfl,by decide⟩ .here (.done ⟨rfl,rfl⟩)
theorem Jm(a:List Int)(w:Int)(σ:Hp)(jV:bX a):ACalls Tryz.prog 128 [.af (.int .u64) a,.int .i64 w] σ (aD (.bool (fW a w)) σ):=by
 refine au Tryz.func128 ?_
 have eE:=xj w
 have GA:=Bp w
 refine ar [] (Jg w _) ?_
 refine cQ (fun c=>?_) (fun c=>?_)
 ·have c:a.length≠dK w:=by have c:(!decide ((a.length:Int)=(dK w:Int)))=true:=c;simp at c;omega
  have hf:fW a w=false:=by unfold fW;rw[cy c];rfl
  rw[hf]
  exact .done ⟨rfl,rfl⟩
 ·have c:a.length=dK w:=by have c:(!decide ((a.length:Int)=(dK w:Int)))=false:=c;simp at c;omega
  refine ar [] (IY w _) ?_
  refine bh (S:=Nat) (fun s=>[(0,.af (.int .u64) a),(5,.int .i64 s)]) (fun _=>σ) (fun s=>eC w≤s∧s≤64*a.length∧∀n,eC w≤n→n<s→hasB a n=false) (fun s=>64*a.length-s) (eC w) ⟨⟨bJ _,?_,fun n h1 h2=>by omega⟩,⟨rfl,rfl,trivial⟩,rfl⟩ ?_
  ·rw[c];unfold dK;omega
  intro k g aO
  obtain⟨jE,cY,hk3⟩:eC w≤k∧k≤64*a.length∧∀n,eC w≤n→n<k→hasB a n=false:=aO
  refine aj (fun ab=>?_) (fun aq=>?_)
  ·have ab:k<64*a.length:=by
    have ab:(k:Int)<IntKind.i64.wrap (64*(a.length:Int)):=ab
    rw[IntKind.wrap_i64]at ab;omega
   refine dr [] (B0 a k _ jV (by omega)) (fun cA=>?_) (fun cA=>?_)
   ·have hf:fW a w=false:=yl.2 fun h=>by
     have:=(H2 jV c).1 h k jE ab
     rw[cA]at this;exact absurd this (by decide)
    rw[hf]
    exact .done ⟨rfl,rfl⟩
   ·refine aM (k+1) (by show 64*a.length-(k+1)<64*a.length-k;omega) ⟨by omega,by omega,fun n h1 h2=>?_⟩ ⟨rfl,aL (by omega),trivial⟩ (.refl _)
    rcases s6 n k with h3 | h3
    ·exact hk3 n h1 h3
    ·rw[show n=k by omega];exact cA
  ·have aq:k=64*a.length:=by
    have aq:¬(k:Int)<IntKind.i64.wrap (64*(a.length:Int)):=aq
    rw[IntKind.wrap_i64]at aq;omega
   have hf:fW a w=true:=(H2 jV c).2 fun n h1 h2=>hk3 n h1 (by omega)
   rw[hf]
   exact .done ⟨rfl,rfl⟩
end Go.Proofs.YtnikdflhefijbaaGreat
