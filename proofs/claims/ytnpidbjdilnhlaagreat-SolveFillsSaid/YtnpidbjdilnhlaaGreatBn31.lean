import Derived.Test.YtnpidbjdilnhlaaGreatBn30
import Derived.Test.YtnpidbjdilnhlaaGreatBn28
import Derived.Test.YtnpidbjdilnhlaaGreatBn13
namespace Go.Proofs.YtnpidbjdilnhlaaGreat
open Go.RowKit
set_option maxRecDepth 100000
theorem V5{l:Lay}(h:2≤l.k∧l.k≤64):nK l≠0∧l.k≠0:=by
 unfold nK
 show IntKind.i64.wrap (l.k-1)≠0∧_
 rw[IntKind.wrap_i64]
 omega
theorem OS(l:Lay)(n:Int):oZ l n=8∨oZ l n=3:=by unfold oZ;split;exact .inl rfl;exact .inr rfl
theorem OT(nx:List Int):mX nx=8∨(mX nx=5∧0<nx.tail.length):=by
 unfold mX;split
 ·exact .inl rfl
 ·exact .inr ⟨rfl,by omega⟩
theorem PA(s:Sy)(node:Int):uS s node=8∨(uS s node=5∧0<(au s.n s.bQ node).length):=by
 unfold uS;split
 ·exact .inl rfl
 ·exact .inr ⟨rfl,by omega⟩
theorem NQ(l:Lay):s6 l=2∨(s6 l=1∧2≤l.k):=by
 unfold s6;split
 ·exact .inl rfl
 ·exact .inr ⟨rfl,by omega⟩
theorem OA(l:Lay):w7 l=0∨(w7 l=1∧2≤l.k):=by
 unfold w7;split
 ·exact .inl rfl
 ·exact .inr ⟨rfl,by omega⟩
set_option maxRecDepth 100000
theorem He{f:FuncId}{xs:List AV}{σ:Hp}{R R':AV→Hp→Prop}(h:ACalls Tryz.prog f xs σ R)(hR:∀r σ',R r σ'→∃(i k b:Nat) (cs:List AV) (e:Sh),σ'[i]?=some (b,cs)∧cs[k]?=some .aj∧R' r (σ'.set i (b,cs.set k (.af e [])))):ACalls Tryz.prog f xs σ R':=
 ⟨h.1,fun F w vs bD aD=>(h.2 F w vs bD aD).mono fun _ _ ⟨r,v,σ',F',h1,h2,h3,h4,h5⟩=>by
  obtain⟨i,k,b,cs,e,q1,q2,q3⟩:=hR r σ' h5
  exact⟨r,v,_,F',h1,h2,Kg h3 e q1 q2,h4,q3⟩⟩
def pG:WS:=⟨0,0,false,0,.none,0,false,[],[]⟩
theorem U3{s:Sy}{L:Lay}(h:eP s L.k=L)(he:cb s L.k=0):AV.tup [.agg (de (eP s L.k)),.int .i64 (cb s L.k)]=.tup [.agg (de L),.int .i64 0]:=by rw[h,he]
theorem Rt(A:Lay):¬(!ew (nY (List.take 4 (List.drop 0 (er [AV.int .i64 0,AV.int .i64 0,AV.int .i64 0,AV.int .i64 0] 0 (de A)))) (List.take 4 (List.drop 0 (de A)))))=true:=by
 show ¬(!ew [decide (A.ag=A.ag),decide (A.words=A.words),decide (A.n=A.n),decide (A.k=A.k)])=true
 simp[ew]
theorem VJ(s:Sy)(L:Lay)(aw:Int)(σ:Hp)(hf:Fit s)(he:cb s L.k=0)(hL:eP s L.k=L)(h0:0≤aw)(h1:aw<L.k):ACalls Tryz.prog 126 [.agg (bg s),.agg (de L),.int .i64 aw] σ (fun r σ'=>∃w,r=.tup [.ptr w 0,.int .i64 0]∧σ'=WB s L aw w 0 .aj [] pG++σ):=by
 have hg:ACalls Tryz.prog 126 [.agg (bg s),.agg (de L),.int .i64 aw] σ (fun r σ'=>∃w,r=.tup [.ptr w 0,.int .i64 0]∧σ'=(w,[.int .i64 0,.int .i64 0,.bool false,.int .i64 s.ag,.int .i64 s.w,.int .i64 s.n,.af bA s.bQ,.af (.int .i64) s.entry,.af (.int .u64) s.init,.af gR s.T,.int .i64 L.ag,.int .i64 L.words,.int .i64 L.n,.int .i64 L.k,.int .i64 aw,.int .i64 0,.nilif,.int .i64 0,.bool false,.aj,.aj,.bool true])::σ):=by
  refine okF Tryz.func126 (by kernel_rfl) ?_
  intro aC
  intro bM
  refine aa.mk 1 _ _ rfl rfl ?_
  refine aa.mk 0 _ _ rfl rfl ?_
  refine az [] (s4 (vb s L.k _ hf) (U3 hL he)) ?_
  intro rq
  refine ai.mk 0 _ _ rfl rfl ?_
  refine aa.mk 0 _ _ rfl rfl ?_
  refine aa.mk 1 _ _ rfl rfl ?_
  refine .mk (by kernel_rfl) (by kernel_rfl) ?_
  refine bS (fun c4 =>?_) (fun c4 =>?_)
  ·have c4:(!ew (nY (List.take 4 (List.drop 0 (er [AV.int IntKind.i64 0,AV.int IntKind.i64 0,AV.int IntKind.i64 0,AV.int IntKind.i64 0] 0 (de L)))) (List.take 4 (List.drop 0 (de L)))))=true:=c4
   exact absurd c4 (Rt L)
  ·have c4:(!ew (nY (List.take 4 (List.drop 0 (er [AV.int IntKind.i64 0,AV.int IntKind.i64 0,AV.int IntKind.i64 0,AV.int IntKind.i64 0] 0 (de L)))) (List.take 4 (List.drop 0 (de L)))))=false:=c4
   refine an (fun c5 =>?_) (fun c5 =>?_)
   ·have c5:aw<0:=c5
    exact absurd c5 (by omega)
   ·have c5:¬(aw<0):=c5
    refine aa.mk 1 _ _ rfl rfl ?_
    refine an (fun c6 =>?_) (fun c6 =>?_)
    ·have c6:L.k≤aw:=c6
     exact absurd c6 (by omega)
    ·have c6:¬(L.k≤aw):=c6
     refine .sched [1] (upto [1] 8 0) (by kernel_rfl) ?_
     refine aa.mk 2 _ _ rfl rfl ?_
     refine aJ [] (QF s _ hf) ?_
     refine aa.mk 1 _ _ rfl rfl ?_
     intro bl7
     exact .drop 1 3 (.done ⟨_,rfl,rfl⟩)
 refine He (He hg (R':=fun r σ'=>∃w,r=.tup [.ptr w 0,.int .i64 0]∧σ'=(w,[.int .i64 0,.int .i64 0,.bool false,.int .i64 s.ag,.int .i64 s.w,.int .i64 s.n,.af bA s.bQ,.af (.int .i64) s.entry,.af (.int .u64) s.init,.af gR s.T,.int .i64 L.ag,.int .i64 L.words,.int .i64 L.n,.int .i64 L.k,.int .i64 aw,.int .i64 0,.nilif,.int .i64 0,.bool false,.af (.int .i64) ([]:List Int),.aj,.bool true])::σ) ?_) ?_
 ·rintro r σ' ⟨w,rfl,rfl⟩
  exact⟨0,19,w,_,.int .i64,rfl,rfl,w,rfl,rfl⟩
 ·rintro r σ' ⟨w,rfl,rfl⟩
  exact⟨0,20,w,_,.int .u64,rfl,rfl,w,rfl,rfl⟩
set_option maxRecDepth 100000
def lN:Lay:=⟨1,1,1,1⟩
theorem XU(p q w r:Nat)(c:AV)(acc:Hp)(s:Sy)(l:Lay)(aw:Int)(x:WS)(d:Int)(ws:List Int)(σ:Hp)(hf:Fit s)(hv:bJ ws)(ok:EX l x)(rd:tA c acc x.now){x':WS}{ws':List Int}{b:Bool}(ar:dq dK s l aw x d ws=(x',ws',b)):
  ACalls Tryz.prog 357 [.ptr w 0,gx p,.int .i64 d] (WB s l aw w r c acc x++aY p q ws σ) (fun z σ'=>∃r c acc,tA c acc x'.now∧z=.bool b∧σ'=WB s l aw w r c acc x'++aY p q ws' σ):=by
 refine (Vn (tc p q) w r c acc s l aw x d ws σ hf trivial (fun a=>Ay hv a) ok rd).mono ?_
 rintro z σ' ⟨m',r,c,acc,h1,h2,rfl,rfl⟩
 have h2:m'=(dq dK s l aw x d ws).2.1:=h2
 refine⟨r,c,acc,?_,?_,?_⟩
 ·have:=h1
  rw[show dq (tc p q).O s l aw x d ((tc p q).abs ws)=dq dK s l aw x d ws from rfl,ar]at this
  exact this
 ·rw[show dq (tc p q).O s l aw x d ((tc p q).abs ws)=dq dK s l aw x d ws from rfl,ar]
 ·rw[show dq (tc p q).O s l aw x d ((tc p q).abs ws)=dq dK s l aw x d ws from rfl,h2,ar]
  rfl
theorem Dw{f:FuncId}{xs ys:List AV}{σ:Hp}{K:AV→Hp→Prop}(j b off len es:Nat)(cs:List AV)(e:Sh)(l:List e.T)(h1:σ[j]?=some (b,cs))(h2:(cs.drop off).take (len*es)=l.flatMap e.cells)(h3:l.length=len∧e.size=es∧0<es)(i k b':Nat)(cs':List AV)(hi:(σ.eraseIdx j)[i]?=some (b',cs'))(hk:cs'[k]?=some (.ae b off len es))(h4:dp b off len es e l (.tup xs) (.tup ys))(h:CallAt Tryz.prog f K ys ((σ.eraseIdx j).set i (b',cs'.set k (.af e l)))):CallAt Tryz.prog f K xs σ:=
 .mk [] K ⟨(sW h).1,fun F w vs bD aD=>by
  obtain⟨ar,kR,hh⟩:=ql aD h1 h2 h3
  have hv:=sP ar hh h4 (.tuple vs) (.tup _ _ bD.1 bD.2)
  cases hv with
  | tup _ _ hs hr =>
   refine ((sW h).2 _ w vs ⟨hs,hr⟩ (wW kR hh hi hk)).mono ?_
   rintro e w' ⟨r,v,σ',F',rfl,q1,q2,q3,q4⟩
   exact⟨r,v,σ',F',rfl,ar.trans q1,q2,q3,q4⟩⟩ fun _ _ h=>h
theorem R2{f:FuncId}{xs ys:List AV}{σ:Hp}{K:AV→Hp→Prop}(hr:dp 0 0 0 0 .bool [] (.tup xs) (.tup ys))(h:CallAt Tryz.prog f K ys σ):CallAt Tryz.prog f K xs σ:=.mk [] K (CL hr (sW h)) fun _ _ h=>h
theorem IE{R:AV→Hp→Prop}{r:AV}(a:Hp){σ:Hp}(h:Fin R r σ):Fin R r (a++σ):=.drop 0 a.length (by rw[List.take_zero,Nat.zero_add,List.drop_left];exact h)
end Go.Proofs.YtnpidbjdilnhlaaGreat
namespace Go.Proofs.YtnpidbjdilnhlaaGreat
open Go.RowKit
set_option maxRecDepth 100000
set_option maxHeartbeats 4000000
theorem Un(n:Int)(σ:Hp):ACalls Tryz.prog 123 [.int .i64 n] σ (aB (.int .i64 (cw n)) σ):=by
 refine okF Tryz.func123 (by kernel_rfl) ?_
 exact .done ⟨aN (Lf n),rfl⟩
end Go.Proofs.YtnpidbjdilnhlaaGreat
namespace Go.Proofs.YtnpidbjdilnhlaaGreat
open Go.RowKit
set_option maxRecDepth 100000
set_option maxHeartbeats 4000000
theorem IW{ws:List Int}(h:bJ ws)(a:Int){x:Int}(hx:bh x):bJ (fj ws a x):=by
 unfold fj
 split
 ·exact h
 ·intro z hz
  rcases List.mem_or_eq_of_mem_set hz with hz | rfl
  ·exact h z hz
  ·exact hx
theorem Ur(m q:Nat)(ws:List Int)(b n:Int)(σ:Hp):ACalls Tryz.prog 64 [.ptr m 0,.int .i64 b,.int .i64 n] (fF m q ws σ) (aB (.af (.int .u64) (gZ b ws (cw n))) (fF m q ws σ)):=by
 have hc:=tq n
 refine okF Tryz.func64 (by kernel_rfl) ?_
 refine .wrap 7 _ rfl rfl ?_
 refine aU (S:=Nat×AV×Hp) (fun s=>[(0,.ptr m 0),(1,.int .i64 b),(2,.int .i64 n),(7,.via s.2.1),(8,.int .i64 s.1)]) (fun s=>s.2.2++fF m q ws σ) (fun s=>s.1≤cw n∧Acc 1 s.1 s.2.1 s.2.2 (aL (gZ b ws s.1))) (fun s=>cw n-s.1) (0,.aj,[]) ⟨⟨Nat.zero_le _,.nil⟩,⟨rfl,rfl,rfl,rfl,rfl,trivial⟩,rfl⟩ ?_
 rintro⟨k,v,acc⟩ g ⟨hk,bc⟩
 have hk:k≤cw n:=hk
 have bc:Acc 1 k v acc (aL (gZ b ws k)):=bc
 refine az [] (Un n (acc++fF m q ws σ)) ?_
 refine an (fun h =>?_) (fun h =>?_)
 ·have h:(k:Int)<cw n:=h
  refine .perm (σ2:=fF m q ws (acc++σ)) _ ?_ (VE m q ws _ _) ?_
  ·exact dJ acc [_,_] σ
  rintro _ _ ⟨rfl,rfl⟩
  refine⟨_,(dJ acc [_,_] σ).symm,?_⟩
  intro aC
  refine dX [_] bc (.ae 0 aC 0 1 _ rfl (Nat.le_of_ble_eq_true rfl)) rfl (by omega) (by decide) (by decide) (fun v' aP h' =>?_)
  refine aH (k+1,v',aP) ?_ ⟨?_,?_⟩ ⟨rfl,rfl,rfl,rfl,aI (by omega),trivial⟩ (.drop 0 1 (aF rfl))
  ·show cw n-(k+1)<cw n-k;omega
  ·show k+1≤cw n;omega
  ·show Acc 1 (k+1) v' aP (aL (gZ b ws (k+1)))
   rw[Iv,aL,List.map_append]
   exact h'
 ·have h:¬(k:Int)<cw n:=h
  obtain rfl:k=cw n:=by omega
  exact jR (s:=.int .u64) (l:=gZ b ws (cw n)) [] bc (G7 b ws _).symm (by rw[ka]) (by decide) (.done ⟨rfl,rfl⟩)
end Go.Proofs.YtnpidbjdilnhlaaGreat
