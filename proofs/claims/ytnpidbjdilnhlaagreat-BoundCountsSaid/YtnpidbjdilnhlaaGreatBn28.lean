import Derived.Test.YtnpidbjdilnhlaaGreatBn27
import Derived.Test.YtnpidbjdilnhlaaGreatBn11
import Derived.Test.YtnpidbjdilnhlaaGreatBn25
import Derived.Test.YtnpidbjdilnhlaaGreatBn12
namespace Go.Proofs.YtnpidbjdilnhlaaGreat
open Go.RowKit
set_option maxRecDepth 100000
theorem aaW{l:Lay}(h:2≤l.k∧l.k≤64):nK l≠0∧l.k≠0:=by
 unfold nK
 show IntKind.i64.wrap (l.k-1)≠0∧_
 rw[IntKind.wrap_i64]
 omega
theorem Tf(l:Lay)(n:Int):oQ l n=8∨oQ l n=3:=by unfold oQ;split;exact .inl rfl;exact .inr rfl
theorem Tg(nx:List Int):iP nx=8∨(iP nx=5∧0<nx.tail.length):=by
 unfold iP;split
 ·exact .inl rfl
 ·exact .inr ⟨rfl,by omega⟩
theorem Uh(s:Sy)(node:Int):sc s node=8∨(sc s node=5∧0<(an s.n s.aR node).length):=by
 unfold sc;split
 ·exact .inl rfl
 ·exact .inr ⟨rfl,by omega⟩
theorem Sa(l:Lay):oN l=2∨(oN l=1∧2≤l.k):=by
 unfold oN;split
 ·exact .inl rfl
 ·exact .inr ⟨rfl,by omega⟩
theorem SY(l:Lay):rX l=0∨(rX l=1∧2≤l.k):=by
 unfold rX;split
 ·exact .inl rfl
 ·exact .inr ⟨rfl,by omega⟩
theorem Lb{f:FuncId}{xs:List AV}{σ:Hp}{R R':AV→Hp→Prop}(h:ACalls Tryz.prog f xs σ R)(hR:∀r σ',R r σ'→∃(i k b:Nat) (cs:List AV) (e:Sh),σ'[i]?=some (b,cs)∧cs[k]?=some .af∧R' r (σ'.set i (b,cs.set k (.ah e [])))):ACalls Tryz.prog f xs σ R':=
 ⟨h.1,fun F w vs bz ay=>(h.2 F w vs bz ay).mono fun _ _ ⟨r,v,σ',F',h1,h2,h3,h4,h5⟩=>by
  obtain⟨i,k,b,cs,e,q1,q2,q3⟩:=hR r σ' h5
  exact⟨r,v,_,F',h1,h2,OF h3 e q1 q2,h4,q3⟩⟩
def nr:WS:=⟨0,0,false,0,.none,0,false,[],[]⟩
theorem Z8{s:Sy}{L:Lay}(h:gP s L.k=L)(he:bF s L.k=0):AV.tup [.agg (fH (gP s L.k)),.int .i64 (bF s L.k)]=.tup [.agg (fH L),.int .i64 0]:=by rw[h,he]
theorem Ww(A:Lay):¬(!eA (qV (List.take 4 (List.drop 0 (eF [AV.int .i64 0,AV.int .i64 0,AV.int .i64 0,AV.int .i64 0] 0 (fH A)))) (List.take 4 (List.drop 0 (fH A)))))=true:=by
 show ¬(!eA [decide (A.what=A.what),decide (A.words=A.words),decide (A.n=A.n),decide (A.k=A.k)])=true
 simp[eA]
theorem aax(s:Sy)(L:Lay)(who:Int)(σ:Hp)(hf:Fit s)(he:bF s L.k=0)(hL:gP s L.k=L)(h0:0≤who)(h1:who<L.k):ACalls Tryz.prog 126 [.agg (bD s),.agg (fH L),.int .i64 who] σ (fun r σ'=>∃w,r=.tup [.ptr w 0,.int .i64 0]∧σ'=WB s L who w 0 .af [] nr++σ):=by
 have hg:ACalls Tryz.prog 126 [.agg (bD s),.agg (fH L),.int .i64 who] σ (fun r σ'=>∃w,r=.tup [.ptr w 0,.int .i64 0]∧σ'=(w,[.int .i64 0,.int .i64 0,.bool false,.int .i64 s.what,.int .i64 s.w,.int .i64 s.n,.ah cI s.aR,.ah (.int .i64) s.entry,.ah (.int .u64) s.init,.ah j7 s.T,.int .i64 L.what,.int .i64 L.words,.int .i64 L.n,.int .i64 L.k,.int .i64 who,.int .i64 0,.nilif,.int .i64 0,.bool false,.af,.af,.bool true])::σ):=by
  refine okF Tryz.func126 (by kernel_rfl) ?_
  intro aC
  intro dI
  refine aa 1 ?_
  refine aa 0 ?_
  refine ax [] (xf (DU s L.k _ hf) (Z8 hL he)) ?_
  intro pB
  refine ai 0 ?_
  refine aa 0 ?_
  refine aa 1 ?_
  refine .mk (by kernel_rfl) (by kernel_rfl) ?_
  refine dx (fun c4 =>?_) (fun c4 =>?_)
  ·have c4:(!eA (qV (List.take 4 (List.drop 0 (eF [AV.int IntKind.i64 0,AV.int IntKind.i64 0,AV.int IntKind.i64 0,AV.int IntKind.i64 0] 0 (fH L)))) (List.take 4 (List.drop 0 (fH L)))))=true:=c4
   exact absurd c4 (Ww L)
  ·have c4:(!eA (qV (List.take 4 (List.drop 0 (eF [AV.int IntKind.i64 0,AV.int IntKind.i64 0,AV.int IntKind.i64 0,AV.int IntKind.i64 0] 0 (fH L)))) (List.take 4 (List.drop 0 (fH L)))))=false:=c4
   refine ao (fun c5 =>?_) (fun c5 =>?_)
   ·have c5:who<0:=c5
    exact absurd c5 (by omega)
   ·have c5:¬(who<0):=c5
    refine aa 1 ?_
    refine ao (fun c6 =>?_) (fun c6 =>?_)
    ·have c6:L.k≤who:=c6
     exact absurd c6 (by omega)
    ·refine .sched [1] (upto [1] 8 0) (by kernel_rfl) ?_
     refine aa 2 ?_
     refine aD [] (Vt s _ hf) ?_
     refine aa 1 ?_
     intro bl7
     exact .drop 1 3 (.done ⟨_,rfl,rfl⟩)
 refine Lb (Lb hg (R':=fun r σ'=>∃w,r=.tup [.ptr w 0,.int .i64 0]∧σ'=(w,[.int .i64 0,.int .i64 0,.bool false,.int .i64 s.what,.int .i64 s.w,.int .i64 s.n,.ah cI s.aR,.ah (.int .i64) s.entry,.ah (.int .u64) s.init,.ah j7 s.T,.int .i64 L.what,.int .i64 L.words,.int .i64 L.n,.int .i64 L.k,.int .i64 who,.int .i64 0,.nilif,.int .i64 0,.bool false,.ah (.int .i64) ([]:List Int),.af,.bool true])::σ) ?_) ?_
 ·rintro r σ' ⟨w,rfl,rfl⟩
  exact⟨0,19,w,_,.int .i64,rfl,rfl,w,rfl,rfl⟩
 ·rintro r σ' ⟨w,rfl,rfl⟩
  exact⟨0,20,w,_,.int .u64,rfl,rfl,w,rfl,rfl⟩
theorem acC(p q w r:Nat)(c:AV)(acc:Hp)(s:Sy)(l:Lay)(who:Int)(x:WS)(d:Int)(ws:List Int)(σ:Hp)(hf:Fit s)(hv:aS ws)(ok:IT l x)(rd:v7 c acc x.now){x':WS}{ws':List Int}{b:Bool}(ak:cz aT s l who x d ws=(x',ws',b)):
  ACalls Tryz.prog 357 [.ptr w 0,iY p,.int .i64 d] (WB s l who w r c acc x++aX p q ws σ) (fun z σ'=>∃r c acc,v7 c acc x'.now∧z=.bool b∧σ'=WB s l who w r c acc x'++aX p q ws' σ):=by
 refine (aak (sd p q) w r c acc s l who x d ws σ hf trivial (fun a=>Dk hv a) ok rd).mono ?_
 rintro z σ' ⟨m',r,c,acc,h1,h2,rfl,rfl⟩
 have h2:m'=(cz aT s l who x d ws).2.1:=h2
 refine⟨r,c,acc,?_,?_,?_⟩
 ·have:=h1
  rw[show cz (sd p q).O s l who x d ((sd p q).abs ws)=cz aT s l who x d ws from rfl,ak]at this
  exact this
 ·rw[show cz (sd p q).O s l who x d ((sd p q).abs ws)=cz aT s l who x d ws from rfl,ak]
 ·rw[show cz (sd p q).O s l who x d ((sd p q).abs ws)=cz aT s l who x d ws from rfl,h2,ak]
  rfl
theorem UW{R:AV→Hp→Prop}{r:AV}(a:Hp){σ:Hp}(h:Fin R r σ):Fin R r (a++σ):=.drop 0 a.length (by rw[List.take_zero,Nat.zero_add,List.drop_left];exact h)
set_option maxRecDepth 100000
set_option maxHeartbeats 4000000
theorem MU{ws:List Int}(h:aS ws)(a:Int){x:Int}(hx:bf x):aS (fN ws a x):=by
 unfold fN
 split
 ·exact h
 ·intro z hz
  rcases List.mem_or_eq_of_mem_set hz with hz | rfl
  ·exact h z hz
  ·exact hx
end Go.Proofs.YtnpidbjdilnhlaaGreat
