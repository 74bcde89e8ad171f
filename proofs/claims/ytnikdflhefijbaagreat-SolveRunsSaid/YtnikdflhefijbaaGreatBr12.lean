import Derived.Test.YtnikdflhefijbaaGreatBr11
import Derived.Test.YtnikdflhefijbaaGreatBr10
import Derived.Test.YtnikdflhefijbaaGreatBr6
namespace Go.Proofs.YtnikdflhefijbaaGreat
open Go.RowKit
set_option maxRecDepth 100000
theorem R6{l:Lay}(h:2≤l.k∧l.k≤64):nK l≠0∧l.k≠0:=by
 unfold nK
 show IntKind.i64.wrap (l.k-1)≠0∧_
 rw[IntKind.wrap_i64]
 omega
theorem Vp(l:Lay)(n:Int):jM l n=8∨jM l n=3:=by unfold jM;split;exact .inl rfl;exact .inr rfl
theorem Vq(nx:List Int):jq nx=8∨(jq nx=5∧0<nx.tail.length):=by
 unfold jq;split
 ·exact .inl rfl
 ·exact .inr ⟨rfl,by omega⟩
theorem V4(s:Sy)(node:Int):tH s node=8∨(tH s node=5∧0<(ax s.n s.cI node).length):=by
 unfold tH;split
 ·exact .inl rfl
 ·exact .inr ⟨rfl,by omega⟩
theorem Uo(l:Lay):qm l=2∨(qm l=1∧2≤l.k):=by
 unfold qm;split
 ·exact .inl rfl
 ·exact .inr ⟨rfl,by omega⟩
theorem U8(l:Lay):tz l=0∨(tz l=1∧2≤l.k):=by
 unfold tz;split
 ·exact .inl rfl
 ·exact .inr ⟨rfl,by omega⟩
theorem M3{f:FuncId}{xs:List AV}{σ:Hp}{R R':AV→Hp→Prop}(h:ACalls Tryz.prog f xs σ R)(hR:∀r σ',R r σ'→∃(i k b:Nat) (cs:List AV) (e:Sh),σ'[i]?=some (b,cs)∧cs[k]?=some .ak∧R' r (σ'.set i (b,cs.set k (.af e [])))):ACalls Tryz.prog f xs σ R':=
 ⟨h.1,fun F w vs cg aJ=>(h.2 F w vs cg aJ).mono fun _ _ ⟨r,v,σ',F',h1,h2,h3,h4,h5⟩=>by
  obtain⟨i,k,b,cs,e,q1,q2,q3⟩:=hR r σ' h5
  exact⟨r,v,_,F',h1,h2,Qq h3 e q1 q2,h4,q3⟩⟩
def kn:WS:=⟨0,0,false,0,.none,0,false,[],[]⟩
theorem abu{s:Sy}{L:Lay}(h:gH s L.k=L)(he:cO s L.k=0):AV.tup [.agg (cU (gH s L.k)),.int .i64 (cO s L.k)]=.tup [.agg (cU L),.int .i64 0]:=by rw[h,he]
theorem X5(A:Lay):¬(!gl (rn (List.take 4 (List.drop 0 (gi [AV.int .i64 0,AV.int .i64 0,AV.int .i64 0,AV.int .i64 0] 0 (cU A)))) (List.take 4 (List.drop 0 (cU A)))))=true:=by
 show ¬(!gl [decide (A.ai=A.ai),decide (A.words=A.words),decide (A.n=A.n),decide (A.k=A.k)])=true
 simp[gl]
theorem aca(s:Sy)(L:Lay)(who:Int)(σ:Hp)(hf:Fit s)(he:cO s L.k=0)(hL:gH s L.k=L)(h0:0≤who)(h1:who<L.k):ACalls Tryz.prog 100 [.agg (a7 s),.agg (cU L),.int .i64 who] σ (fun r σ'=>∃w,r=.tup [.ptr w 0,.int .i64 0]∧σ'=WB s L who w 0 .ak [] kn++σ):=by
 have hg:ACalls Tryz.prog 100 [.agg (a7 s),.agg (cU L),.int .i64 who] σ (fun r σ'=>∃w,r=.tup [.ptr w 0,.int .i64 0]∧σ'=(w,[.int .i64 0,.int .i64 0,.bool false,.int .i64 s.ai,.int .i64 s.w,.int .i64 s.n,.af cb s.cI,.af (.int .i64) s.entry,.af (.int .u64) s.init,.af jL s.T,.int .i64 L.ai,.int .i64 L.words,.int .i64 L.n,.int .i64 L.k,.int .i64 who,.int .i64 0,.nilif,.int .i64 0,.bool false,.ak,.ak,.bool true])::σ):=by
  refine au Tryz.func100 ?_
  intro aB
  intro cE
  refine aa 1 ?_
  refine aa 0 ?_
  refine ar [] (qj (Fb s L.k _ hf) (abu hL he)) ?_
  intro qg
  refine ag 0 ?_
  refine aa 0 ?_
  refine aa 1 ?_
  refine .mk (by kernel_rfl) (by kernel_rfl) ?_
  refine cQ (fun c4=>?_) (fun c4=>?_)
  ·have c4:(!gl (rn (List.take 4 (List.drop 0 (gi [AV.int IntKind.i64 0,AV.int IntKind.i64 0,AV.int IntKind.i64 0,AV.int IntKind.i64 0] 0 (cU L)))) (List.take 4 (List.drop 0 (cU L)))))=true:=c4
   exact absurd c4 (X5 L)
  ·have c4:(!gl (rn (List.take 4 (List.drop 0 (gi [AV.int IntKind.i64 0,AV.int IntKind.i64 0,AV.int IntKind.i64 0,AV.int IntKind.i64 0] 0 (cU L)))) (List.take 4 (List.drop 0 (cU L)))))=false:=c4
   refine aj (fun c5=>?_) (fun c5=>?_)
   ·have c5:who<0:=c5
    exact absurd c5 (by omega)
   ·have c5:¬(who<0):=c5
    refine aa 1 ?_
    refine aj (fun c6=>?_) (fun c6=>?_)
    ·have c6:L.k≤who:=c6
     exact absurd c6 (by omega)
    ·refine .sched [1] (upto [1] 8 0) (by kernel_rfl) ?_
     refine aa 2 ?_
     refine aK [] (Xc s _ hf) ?_
     refine aa 1 ?_
     intro bl7
     exact .drop 1 3 (.done ⟨_,rfl,rfl⟩)
 refine M3 (M3 hg (R':=fun r σ'=>∃w,r=.tup [.ptr w 0,.int .i64 0]∧σ'=(w,[.int .i64 0,.int .i64 0,.bool false,.int .i64 s.ai,.int .i64 s.w,.int .i64 s.n,.af cb s.cI,.af (.int .i64) s.entry,.af (.int .u64) s.init,.af jL s.T,.int .i64 L.ai,.int .i64 L.words,.int .i64 L.n,.int .i64 L.k,.int .i64 who,.int .i64 0,.nilif,.int .i64 0,.bool false,.af (.int .i64) ([]:List Int),.ak,.bool true])::σ) ?_) ?_
 ·rintro r σ' ⟨w,rfl,rfl⟩
  exact⟨0,19,w,_,.int .i64,rfl,rfl,w,rfl,rfl⟩
 ·rintro r σ' ⟨w,rfl,rfl⟩
  exact⟨0,20,w,_,.int .u64,rfl,rfl,w,rfl,rfl⟩
def oT:Lay:=⟨1,1,1,1⟩
theorem aet(p q w r:Nat)(c:AV)(acc:Hp)(s:Sy)(l:Lay)(who:Int)(x:WS)(d:Int)(ws:List Int)(σ:Hp)(hf:Fit s)(hv:bX ws)(ok:J3 l x)(rd:xH c acc x.now){x':WS}{ws':List Int}{b:Bool}(ao:cW bF s l who x d ws=(x',ws',b)):
  ACalls Tryz.prog 390 [.ptr w 0,kp p,.int .i64 d] (WB s l who w r c acc x++bD p q ws σ) (fun z σ'=>∃r c acc,xH c acc x'.now∧z=.bool b∧σ'=WB s l who w r c acc x'++bD p q ws' σ):=by
 refine (abN (tI p q) w r c acc s l who x d ws σ hf trivial (fun a=>yW hv a) ok rd).mono ?_
 rintro z σ' ⟨m',r,c,acc,h1,h2,rfl,rfl⟩
 have h2:m'=(cW bF s l who x d ws).2.1:=h2
 refine⟨r,c,acc,?_,?_,?_⟩
 ·have:=h1
  rw[show cW (tI p q).O s l who x d ((tI p q).abs ws)=cW bF s l who x d ws from rfl,ao]at this
  exact this
 ·rw[show cW (tI p q).O s l who x d ((tI p q).abs ws)=cW bF s l who x d ws from rfl,ao]
 ·rw[show cW (tI p q).O s l who x d ((tI p q).abs ws)=cW bF s l who x d ws from rfl,h2,ao]
  rfl
theorem Iw{f:FuncId}{xs ys:List AV}{σ:Hp}{K:AV→Hp→Prop}(j b off len es:Nat)(cs:List AV)(e:Sh)(l:List e.T)(h1:σ[j]?=some (b,cs))(h2:(cs.drop off).take (len*es)=l.flatMap e.cells)(h3:l.length=len∧e.size=es∧0<es)(i k b':Nat)(cs':List AV)(hi:(σ.eraseIdx j)[i]?=some (b',cs'))(hk:cs'[k]?=some (.ah b off len es))(h4:eI b off len es e l (.tup xs) (.tup ys))(h:CallAt Tryz.prog f K ys ((σ.eraseIdx j).set i (b',cs'.set k (.af e l)))):CallAt Tryz.prog f K xs σ:=
 .mk [] K ⟨(ve h).1,fun F w vs cg aJ=>by
  obtain⟨ao,mA,hh⟩:=su aJ h1 h2 h3
  have hv:=w8 ao hh h4 (.tuple vs) (.tup _ _ cg.1 cg.2)
  cases hv with
  |tup _ _ hs hr=>
   refine ((ve h).2 _ w vs ⟨hs,hr⟩ (yM mA hh hi hk)).mono ?_
   rintro e w' ⟨r,v,σ',F',rfl,q1,q2,q3,q4⟩
   exact⟨r,v,σ',F',rfl,ao.trans q1,q2,q3,q4⟩⟩ fun _ _ h=>h
theorem YC{f:FuncId}{xs ys:List AV}{σ:Hp}{K:AV→Hp→Prop}(hr:eI 0 0 0 0 .bool [] (.tup xs) (.tup ys))(h:CallAt Tryz.prog f K ys σ):CallAt Tryz.prog f K xs σ:=.mk [] K (HK hr (ve h)) fun _ _ h=>h
theorem H3{R:AV→Hp→Prop}{r:AV}(a:Hp){σ:Hp}(h:Fin R r σ):Fin R r (a++σ):=.drop 0 a.length (by rw[Dq,dU,List.drop_left];exact h)
set_option maxHeartbeats 4000000
theorem QI(n:Int)(σ:Hp):ACalls Tryz.prog 123 [.int .i64 n] σ (aD (.int .i64 (cw n)) σ):=by
 refine au Tryz.func123 ?_
 exact .done ⟨aR (Rs n),rfl⟩
theorem Tc(a:List Int)(i:Nat)(σ:Hp):ACalls Tryz.prog 229 [.af (.int .u64) a,.int .i64 i] σ (aD (.int .u64 (wd a i)) σ):=by
 refine au Tryz.func229 ?_
 refine aj (fun h=>?_) (fun h=>?_)
 ·have h:(i:Int)<a.length:=h
  have hi:i<a.length:=by omega
  refine aw.mk rfl (aX.mk a[i] (by omega) (get_some hi) ?_)
  exact .done ⟨aR (by simp[wd,hi]),rfl⟩
 ·have h:¬(i:Int)<a.length:=h
  exact .done ⟨aR (by simp[wd,List.getElem?_eq_none (show a.length≤i by omega)]),rfl⟩
set_option maxHeartbeats 4000000
def zO(j:Jn):List AV:=[.int .i64 j.base,.int .i64 j.ai,.int .i64 j.words,.af (.int .u64) j.a,.int .i64 j.at_,.bool j.eV,.int .u64 j.x,.bool j.changed,.bool j.ended,.int .i64 j.tries]
def Jn.ok(j:Jn):Prop:=j.at_≤cw j.words∧bX j.a∧bP j.x
theorem OT{ws:List Int}(h:bX ws)(a:Int){x:Int}(hx:bP x):bX (fy ws a x):=by
 unfold fy
 split
 ·exact h
 ·intro z hz
  rcases Ay hz with hz | rfl
  ·exact h z hz
  ·exact hx
theorem tL{r m q:Nat}{σ ie:Hp}{S:Jn×List Int×Bool}{j':Jn}{ws':List Int}{b b1:Bool}(h:S=(j',ws',b))(j1:Jn)(Cx:List Int)(aJ:ie=(r,zO j1)::bu m q Cx σ)(hS:S=(j1,Cx,b1)):aD (.bool b) ((r,zO j')::bu m q ws' σ) (.bool b1) ie:=by
 rw[hS]at h;cases h;exact⟨rfl,aJ⟩
theorem adE{j:Jn}{ws:List Int}(h:j.ended=true):fo bF j ws=({ j with ended:=true },ws,true):=by
 obtain⟨base,ai,words,a,changed,ended,tries,at_,eV,x⟩:=j
 have h:ended=true:=h
 subst h;rfl
theorem adD{j:Jn}{ws:List Int}(h:j.ended=false)(ha:j.at_=cw j.words):fo bF j ws=({ j with ended:=true },ws,true):=by
 unfold fo
 rw[aA (by rw[h];decide),az ha]
theorem adC{j:Jn}{ws:List Int}(h:j.ended=false)(ha:¬j.at_=cw j.words)(hl:j.eV=true)(hd:gL ws (wr (j.base+j.at_)) j.x=false):fo bF j ws=({ j with eV:=false,tries:=wr (j.tries+1) },gj ws (wr (j.base+j.at_)) j.x (eW j.ai j.x (wd j.a j.at_)),false):=by
 unfold fo
 rw[aA (by rw[h];decide),aA ha,az hl]
 rw[aA (show ¬(bF.cs ws (wr (j.base+j.at_)) j.x (eW j.ai j.x (wd j.a j.at_))).1=true from by show ¬gL ws (wr (j.base+j.at_)) j.x=true;rw[hd];decide)]
theorem adB{j:Jn}{ws:List Int}(h:j.ended=false)(ha:¬j.at_=cw j.words)(hl:j.eV=true)(hd:gL ws (wr (j.base+j.at_)) j.x=true)(hn:j.at_+1=cw j.words):fo bF j ws=({ j with eV:=false,changed:=true,at_:=j.at_+1,ended:=true },gj ws (wr (j.base+j.at_)) j.x (eW j.ai j.x (wd j.a j.at_)),true):=by
 unfold fo oG
 dsimp only
 rw[aA (by rw[h];decide),aA ha,az hl]
 rw[az (show (bF.cs ws (wr (j.base+j.at_)) j.x (eW j.ai j.x (wd j.a j.at_))).1=true from hd),aA (show ¬j.at_+1<cw j.words by omega)]
theorem adA{j:Jn}{ws:List Int}(h:j.ended=false)(ha:j.at_<cw j.words)(hl:j.eV=true)(hd:gL ws (wr (j.base+j.at_)) j.x=true)(hn:¬j.at_+1=cw j.words):fo bF j ws=({ j with eV:=false,changed:=true,at_:=j.at_+1,ended:=false },gj ws (wr (j.base+j.at_)) j.x (eW j.ai j.x (wd j.a j.at_)),false):=by
 unfold fo oG
 dsimp only
 rw[aA (by rw[h];decide),aA (show ¬j.at_=cw j.words by omega),az hl]
 rw[az (show (bF.cs ws (wr (j.base+j.at_)) j.x (eW j.ai j.x (wd j.a j.at_))).1=true from hd),az (show j.at_+1<cw j.words by omega)]
 rw[h]
theorem adz{j:Jn}{ws:List Int}(h:j.ended=false)(ha:¬j.at_=cw j.words)(hl:j.eV=false)(hd:eW j.ai (bV ws (wr (j.base+j.at_))) (wd j.a j.at_)=bV ws (wr (j.base+j.at_)))(hn:j.at_+1=cw j.words):fo bF j ws=({ j with x:=bV ws (wr (j.base+j.at_)),at_:=j.at_+1,ended:=true },ws,true):=by
 unfold fo oG
 dsimp only
 rw[aA (by rw[h];decide),aA ha,aA (by rw[hl];decide)]
 rw[az (show eW j.ai (bF.ld ws (wr (j.base+j.at_))).1 (wd j.a j.at_)=(bF.ld ws (wr (j.base+j.at_))).1 from hd),aA (show ¬j.at_+1<cw j.words by omega)]
theorem ady{j:Jn}{ws:List Int}(h:j.ended=false)(ha:j.at_<cw j.words)(hl:j.eV=false)(hd:eW j.ai (bV ws (wr (j.base+j.at_))) (wd j.a j.at_)=bV ws (wr (j.base+j.at_)))(hn:¬j.at_+1=cw j.words):fo bF j ws=({ j with x:=bV ws (wr (j.base+j.at_)),at_:=j.at_+1,ended:=false },ws,false):=by
 unfold fo oG
 dsimp only
 rw[aA (by rw[h];decide),aA (show ¬j.at_=cw j.words by omega),aA (by rw[hl];decide)]
 rw[az (show eW j.ai (bF.ld ws (wr (j.base+j.at_))).1 (wd j.a j.at_)=(bF.ld ws (wr (j.base+j.at_))).1 from hd),az (show j.at_+1<cw j.words by omega)]
 rw[h]
theorem adx{j:Jn}{ws:List Int}(h:j.ended=false)(ha:¬j.at_=cw j.words)(hl:j.eV=false)(hd:¬eW j.ai (bV ws (wr (j.base+j.at_))) (wd j.a j.at_)=bV ws (wr (j.base+j.at_))):fo bF j ws=({ j with x:=bV ws (wr (j.base+j.at_)),eV:=true,ended:=false },ws,false):=by
 unfold fo
 rw[aA (by rw[h];decide),aA ha,aA (by rw[hl];decide)]
 rw[aA (show ¬eW j.ai (bF.ld ws (wr (j.base+j.at_))).1 (wd j.a j.at_)=(bF.ld ws (wr (j.base+j.at_))).1 from hd)]
 rw[h]
theorem AE(r m q:Nat)(j:Jn)(ws:List Int)(σ:Hp)(hj:j.ok)(hw:bX ws){j':Jn}{ws':List Int}{b:Bool}(h:fo bF j ws=(j',ws',b)):ACalls Tryz.prog 173 [.ptr r 0,.ptr m 0] ((r,zO j)::bu m q ws σ) (aD (.bool b) ((r,zO j')::bu m q ws' σ)):=by
 have hc:=vN j.words
 obtain⟨h1,h2,h3⟩:=hj
 have tM:IntKind.i64.wrap ((j.at_:Int)+1)=((j.at_+1:Nat):Int):=by rw[IntKind.wrap_i64];omega
 refine au Tryz.func173 ?_
 refine aa 0 ?_
 refine ar [] (QI _ _) ?_
 refine eH.ij 0 _ _ rfl rfl (fun ce=>?_) (fun ce=>?_)
 ·refine ag 0 ?_
  exact .done (tL h { j with ended:=true } ws (by first | rfl | (rw[tM];rfl)) (adE ce))
 ·refine aa 0 ?_
  refine aj (fun ca=>?_) (fun ca=>?_)
  ·have ca:(↑(cw j.words):Int)≤(↑j.at_:Int):=ca
   refine ag 0 ?_
   exact .done (tL h { j with ended:=true } ws (by first | rfl | (rw[tM];rfl)) (adD ce (by omega)))
  ·have ca:¬((↑(cw j.words):Int)≤(↑j.at_:Int)):=ca
   refine .quiet (by kernel_rfl) ?_
   refine aa 0 ?_
   refine aa 0 ?_
   refine aa 0 ?_
   refine aa 0 ?_
   refine aK [] (Tc _ _ _) ?_
   refine aK [] (RD _ _ _ _ h3.1 (lT h2 _).1 h3.2 (lT h2 _).2) ?_
   refine eH.ij 0 _ _ rfl rfl (fun cl=>?_) (fun cl=>?_)
   ·refine ag 0 ?_
    refine .sched [] (upto [] 22 0) (by kernel_rfl) ?_
    refine aa 0 ?_
    refine aa 0 ?_
    refine aa 0 ?_
    refine ar [2,2] (wZ m q ws 3 _ _ _ _) ?_
    cases fw:cP ws 3 (IntKind.i64.wrap (j.base+(j.at_:Int))) j.x
    ·refine aa 2 ?_
     refine ag 2 ?_
     exact .pull [2] (.done (tL h { j with eV:=false,tries:=wr (j.tries+1) } (gj ws (wr (j.base+j.at_)) j.x (eW j.ai j.x (wd j.a j.at_))) (by first | rfl | (rw[tM];rfl)) (adC ce (by omega) cl fw)))
    ·refine ag 2 ?_
     refine aa 2 ?_
     refine ag 2 ?_
     refine aa 2 ?_
     refine aj (fun c1=>?_) (fun c1=>?_)
     ·have c1:IntKind.i64.wrap ((↑j.at_:Int)+1)=(↑(cw j.words):Int):=c1
      refine ag 2 ?_
      refine aa 2 ?_
      exact .pull [2] (.done (tL h { j with eV:=false,changed:=true,at_:=j.at_+1,ended:=true } (gj ws (wr (j.base+j.at_)) j.x (eW j.ai j.x (wd j.a j.at_))) (by first | rfl | (rw[tM];rfl)) (adB ce (by omega) cl fw (by omega))))
     ·have c1:¬(IntKind.i64.wrap ((↑j.at_:Int)+1)=(↑(cw j.words):Int)):=c1
      refine ag 2 ?_
      refine aa 2 ?_
      exact .pull [2] (.done (tL h { j with eV:=false,changed:=true,at_:=j.at_+1,ended:=false } (gj ws (wr (j.base+j.at_)) j.x (eW j.ai j.x (wd j.a j.at_))) (by first | rfl | (rw[tM];rfl)) (adA ce (by omega) cl fw (by omega))))
   ·refine .sched [] (upto [] 15 0) (by kernel_rfl) ?_
    refine aa 0 ?_
    refine aa 0 ?_
    refine ar [2,2] (oK m q ws _ _) ?_
    refine ag 2 ?_
    refine .quiet (by kernel_rfl) ?_
    refine aa 2 ?_
    refine aa 2 ?_
    refine aa 2 ?_
    refine aa 2 ?_
    refine aK [] (Tc _ _ _) ?_
    refine aK [] (RD _ _ _ _ (yW hw _).1 (lT h2 _).1 (yW hw _).2 (lT h2 _).2) ?_
    refine aa 2 ?_
    refine aj (fun c1=>?_) (fun c1=>?_)
    ·have c1:eW j.ai (bV ws (IntKind.i64.wrap (j.base+(↑j.at_:Int)))) (wd j.a j.at_)=bV ws (IntKind.i64.wrap (j.base+(↑j.at_:Int))):=c1
     refine aa 2 ?_
     refine ag 2 ?_
     refine aa 2 ?_
     refine aj (fun c2=>?_) (fun c2=>?_)
     ·have c2:IntKind.i64.wrap ((↑j.at_:Int)+1)=(↑(cw j.words):Int):=c2
      refine ag 2 ?_
      refine aa 2 ?_
      exact .pull [2] (.done (tL h { j with x:=bV ws (wr (j.base+j.at_)),at_:=j.at_+1,ended:=true } ws (by first | rfl | (rw[tM];rfl)) (adz ce (by omega) cl c1 (by omega))))
     ·have c2:¬(IntKind.i64.wrap ((↑j.at_:Int)+1)=(↑(cw j.words):Int)):=c2
      refine ag 2 ?_
      refine aa 2 ?_
      exact .pull [2] (.done (tL h { j with x:=bV ws (wr (j.base+j.at_)),at_:=j.at_+1,ended:=false } ws (by first | rfl | (rw[tM];rfl)) (ady ce (by omega) cl c1 (by omega))))
    ·have c1:¬(eW j.ai (bV ws (IntKind.i64.wrap (j.base+(↑j.at_:Int)))) (wd j.a j.at_)=bV ws (IntKind.i64.wrap (j.base+(↑j.at_:Int)))):=c1
     refine ag 2 ?_
     refine aa 2 ?_
     refine aj (fun c3=>?_) (fun c3=>?_)
     ·have c3:(↑j.at_:Int)=(↑(cw j.words):Int):=c3
      refine ag 2 ?_
      refine aa 2 ?_
      exact .pull [2] (.done (tL h { j with x:=bV ws (wr (j.base+j.at_)),eV:=true,ended:=true } ws (by first | rfl | (rw[tM];rfl)) (absurd c3 (by omega))))
     ·have c3:¬((↑j.at_:Int)=(↑(cw j.words):Int)):=c3
      refine ag 2 ?_
      refine aa 2 ?_
      exact .pull [2] (.done (tL h { j with x:=bV ws (wr (j.base+j.at_)),eV:=true,ended:=false } ws (by first | rfl | (rw[tM];rfl)) (adx ce (by omega) cl c1)))
theorem aaL(m q:Nat)(ws:List Int)(b n:Int)(σ:Hp):ACalls Tryz.prog 64 [.ptr m 0,.int .i64 b,.int .i64 n] (bu m q ws σ) (aD (.af (.int .u64) (ki b ws (cw n))) (bu m q ws σ)):=by
 have hc:=vN n
 refine au Tryz.func64 ?_
 refine .wrap 7 _ rfl rfl ?_
 refine bh (S:=Nat×AV×Hp) (fun s=>[(0,.ptr m 0),(1,.int .i64 b),(2,.int .i64 n),(7,.via s.2.1),(8,.int .i64 s.1)]) (fun s=>s.2.2++bu m q ws σ) (fun s=>s.1≤cw n∧Acc 1 s.1 s.2.1 s.2.2 (aP (ki b ws s.1))) (fun s=>cw n-s.1) (0,.ak,[]) ⟨⟨aY _,.nil⟩,⟨rfl,rfl,rfl,rfl,rfl,trivial⟩,rfl⟩ ?_
 rintro⟨k,v,acc⟩ g ⟨hk,bS⟩
 have hk:k≤cw n:=hk
 have bS:Acc 1 k v acc (aP (ki b ws k)):=bS
 refine ar [] (QI n (acc++bu m q ws σ)) ?_
 refine aj (fun h=>?_) (fun h=>?_)
 ·have h:(k:Int)<cw n:=h
  refine .perm (σ2:=bu m q ws (acc++σ)) _ ?_ (oK m q ws _ _) ?_
  ·exact ez acc [_,_] σ
  rintro _ _ ⟨rfl,rfl⟩
  refine⟨_,(ez acc [_,_] σ).symm,?_⟩
  intro aB
  refine eU [_] bS (.ah 0 aB 0 1 _ rfl (cp rfl)) rfl (by omega) (by decide) (by decide) (fun v' aU h'=>?_)
  refine aM (k+1,v',aU) ?_ ⟨?_,?_⟩ ⟨rfl,rfl,rfl,rfl,aL (by omega),trivial⟩ (.drop 0 1 (aN rfl))
  ·show cw n-(k+1)<cw n-k;omega
  ·show k+1≤cw n;omega
  ·show Acc 1 (k+1) v' aU (aP (ki b ws (k+1)))
   rw[Oo,aP,cC]
   exact h'
 ·have h:¬(k:Int)<cw n:=h
  obtain rfl:k=cw n:=by omega
  exact kZ (s:=.int .u64) (l:=ki b ws (cw n)) [] bS (MW b ws _).symm (by rw[jK]) (by decide) (.done ⟨rfl,rfl⟩)
def ju(ai w:Int)(i:Nat)(z:Int):Prop:=bP z∧(if ai=3 then aS z=z else z.toNat<2 ^ min 64 (eC w-64*i))
theorem UR(ai w:Int)(i:Nat):ju ai w i 0:=by
 refine⟨⟨by decide,by decide⟩,?_⟩
 split
 ·rfl
 ·exact Ao _
theorem US{ai w:Int}(h:ai=1∨ai=2∨ai=3){i:Nat}{x y:Int}(hx:ju ai w i x)(hy:ju ai w i y):ju ai w i (eW ai x y):=by
 refine⟨Zi hx.1 hy.1,?_⟩
 have ux:=hx.1
 have uy:=hy.1
 obtain⟨a,rfl⟩:=qV ux.1
 obtain⟨b,rfl⟩:=qV uy.1
 have ha:a<18446744073709551616:=by have:=ux.2;omega
 have hb:b<18446744073709551616:=by have:=uy.2;omega
 rcases h with rfl | rfl | rfl
 ·have h1:=hx.2
  have h2:=hy.2
  rw[aA (by decide)]at h1 h2 ⊢
  rw[show eW 1 (a:Int) b=bits .or .u64 (a:Int) b from rfl,Hq ha hb,bR]
  exact Nat.or_lt_two_pow h1 h2
 ·have h1:=hx.2
  rw[aA (by decide)]at h1 ⊢
  rw[show eW 2 (a:Int) b=bits .and .u64 (a:Int) b from rfl,AH ha hb,bR]
  exact GV Nat.and_le_left h1
 ·rw[az rfl]
  exact Vk _ _
theorem AU{ai w:Int}{a:List Int}(hi:dp ai w=true):mO ai w a↔((a.length:Int)=ej ai w∧∀i,i<a.length→ju ai w i (wd a i)):=by
 constructor
 ·intro ⟨hv,jV⟩
  refine⟨EA hv,fun i h=>⟨lT jV i,?_⟩⟩
  by_cases h3:ai=3
  ·rw[az h3]
   exact ZV ((A7 hi h3).1 hv).2 h
  ·rw[aA h3]
   have:=(yS hi h3).1 hv
   unfold fW at this
   rw[b9,fN]at this
   simpa using this.2 i (List.mem_range.2 h)
 ·intro ⟨hl,hk⟩
  have jV:bX a:=fun z hz=>by
   obtain⟨i,hi,rfl⟩:=Au.1 hz
   rw[← oE a hi];exact (hk i hi).1
  refine⟨?_,jV⟩
  by_cases h3:ai=3
  ·subst h3
   refine (A7 hi rfl).2 ⟨?_,Bk.2 fun z hz=>?_⟩
   ·rw[hl];unfold ej;rw[az hi,az rfl]
   ·obtain⟨i,hi,rfl⟩:=Au.1 hz
    have:=(hk i hi).2
    rw[az rfl,oE a hi]at this
    exact this
  ·refine (yS hi h3).2 ?_
   have Le:a.length=dK w:=by
    have:ej ai w=(dK w:Int):=by unfold ej;rw[az hi,aA h3]
    omega
   unfold fW
   rw[b9,fN]
   refine⟨by simpa using Le,fun i hi=>?_⟩
   have:=(hk i (gq.1 hi)).2
   rw[aA h3]at this
   simpa using this
structure LS(s:Sy)(l:Lay):Prop where
 fit:Fit s
 kO:Good s
 ai:l.ai=s.ai
 words:l.words=ej s.ai s.w
 n:l.n=s.n
 k1:1≤l.k
 k2:l.k≤64
abbrev nN(s:Sy):Nat:=s.n.toNat
abbrev nW(l:Lay):Nat:=cw l.words
theorem LS.nn{s:Sy}{l:Lay}(h:LS s l):s.n=(nN s:Int)∧1≤nN s∧nN s≤256:=by have:=h.kO.n1;have:=h.kO.n2;unfold nN;omega
theorem LS.ww{s:Sy}{l:Lay}(h:LS s l):l.words=(nW l:Int)∧nW l≤1024:=by
 have:=xf s.ai s.w
 have:=h.words
 unfold nW cw;omega
theorem IU{N W v i:Nat}(hv:v<N)(hi:i<W):v*W+i<N*W:=by
 have:(v+1)*W≤N*W:=pf _ hv
 rw[qT]at this
 omega
theorem YA{W u v i j:Nat}(hi:i<W)(hj:j<W)(h:u*W+i=v*W+j):u=v∧i=j:=by
 have h1:(u*W+i) / W=u:=by rw[Ak,Nat.mul_add_div (by omega),Nat.div_eq_of_lt hi,uN]
 have h2:(v*W+j) / W=v:=by rw[Ak,Nat.mul_add_div (by omega),Nat.div_eq_of_lt hj,uN]
 have h3:u=v:=by rw[← h1,← h2,h]
 subst h3
 exact⟨rfl,by omega⟩
theorem sx{N W:Nat}(hN:N≤256)(hW:W≤1024):N*W≤262144:=qa hN hW
theorem iq{z:Int}(h0:0≤z)(h1:z<9223372036854775808):wr z=z:=by
 show IntKind.i64.wrap z=z
 rw[IntKind.wrap_i64];omega
section
variable {s:Sy} {l:Lay} (hs:LS s l)
include hs
theorem LS.flags:de l=((nN s*nW l:Nat):Int):=by
 have h1:=hs.nn
 have h2:=hs.ww
 have:=sx h1.2.2 h2.2
 unfold de
 rw[hs.n,h1.1,h2.1,← Dr]
 exact iq (by omega) (by omega)
theorem LS.count:da l=((nN s*nW l+nN s:Nat):Int):=by
 have h1:=hs.nn
 have h2:=hs.ww
 have:=sx h1.2.2 h2.2
 unfold da
 rw[hs.flags,hs.n,h1.1,r7]
 exact iq (by omega) (by omega)
theorem LS.room:fB l=((nN s+1:Nat):Int)∧rm (fB l)=nN s+1:=by
 have h1:=hs.nn
 have e:fB l=((nN s+1:Nat):Int):=by
  unfold fB
  rw[hs.n,h1.1,r7]
  exact iq (by omega) (by omega)
 refine⟨e,?_⟩
 rw[e];unfold rm;omega
theorem LS.xF{k:Nat}(hk:k≤64):dY l k=((nN s*nW l+nN s+1+k*(nN s+3):Nat):Int):=by
 have h1:=hs.nn
 have h2:=hs.ww
 have h3:=sx h1.2.2 h2.2
 have h4:k*(nN s+3)≤64*259:=qa hk (by omega)
 unfold dY
 rw[hs.count,hs.room.2,show ((k:Int)*((2+(nN s+1):Nat):Int))=((k*(nN s+3):Nat):Int) by rw[Dr];congr 1;omega]
 rw[iq (z:=((k*(nN s+3):Nat):Int)) (by omega) (by omega),iq (z:=((nN s*nW l+nN s:Nat):Int)+1) (by omega) (by omega)]
 rw[show ((nN s*nW l+nN s:Nat):Int)+1+((k*(nN s+3):Nat):Int)=((nN s*nW l+nN s+1+k*(nN s+3):Nat):Int) by omega]
 exact iq (by omega) (by omega)
theorem LS.Sm{v:Nat}(hv:v<nN s):df l v=((v*nW l:Nat):Int):=by
 have h1:=hs.nn
 have h2:=hs.ww
 have h3:=sx h1.2.2 h2.2
 have h4:v*nW l≤nN s*nW l:=pf _ (by omega)
 unfold df
 rw[h2.1,← Dr]
 exact iq (by omega) (by omega)
theorem LS.Fv{v i:Nat}(hv:v<nN s)(hi:i<nW l):wr (df l v+(i:Nat))=((v*nW l+i:Nat):Int):=by
 have h1:=hs.nn
 have h2:=hs.ww
 have h3:=sx h1.2.2 h2.2
 have h4:=IU hv hi
 rw[hs.Sm hv,← r7]
 exact iq (by omega) (by omega)
theorem LS.BU{v:Nat}(hv:v<nN s):wr (de l+(v:Nat))=((nN s*nW l+v:Nat):Int):=by
 have h1:=hs.nn
 have h2:=hs.ww
 have h3:=sx h1.2.2 h2.2
 rw[hs.flags,← r7]
 exact iq (by omega) (by omega)
theorem LS.acr:s.ai=1∨s.ai=2∨s.ai=3:=by
 have:=hs.kO.uv
 unfold dp at this
 simp at this
 omega
end
structure MV(s:Sy)(l:Lay)(ws:List Int):Prop where
 a64:bX ws
 cells:∀v i,v<nN s→i<nW l→ju s.ai s.w i (ws.getD (v*nW l+i) 0)
theorem Py{ws:List Int}{a b:Nat}{x:Int}:(ws.set a x).getD b 0=if a=b∧b<ws.length then x else ws.getD b 0:=by
 simp only[bO,gX]
 by_cases h:a=b
 ·subst h
  by_cases h2:a<ws.length
  ·simp[h2]
  ·simp[h2]
 ·simp[h]
theorem MV.yJ{s:Sy}{l:Lay}{ws:List Int}(h:MV s l ws){a x:Int}(ha:((nN s*nW l:Nat):Int)≤a)(hx:bP x):MV s l (fy ws a x):=by
 refine⟨OT h.a64 a hx,fun v i hv hi=>?_⟩
 have:=IU hv hi
 obtain⟨k,rfl⟩:=qV (show 0≤a by omega)
 rw[mn,Py,aA (by omega)]
 exact h.cells v i hv hi
theorem MV.E4{s:Sy}{l:Lay}{ws:List Int}(h:MV s l ws){a o x:Int}(ha:((nN s*nW l:Nat):Int)≤a)(hx:bP x):MV s l (gj ws a o x):=by
 unfold gj;split
 ·exact h.yJ ha hx
 ·exact h
theorem MV.Ry{s:Sy}{l:Lay}{ws:List Int}(h:MV s l ws){a x:Int}(ha:((nN s*nW l:Nat):Int)≤a):MV s l (k9 ws a x):=by
 unfold k9;split
 ·exact h.yJ ha (by unfold bP;omega)
 ·exact h
theorem MV.Nd{s:Sy}{l:Lay}{ws:List Int}(h:MV s l ws){u j:Nat}{x:Int}(hj:j<nW l)(hx:ju s.ai s.w j x):MV s l (fy ws ((u*nW l+j:Nat):Int) x):=by
 refine⟨OT h.a64 _ hx.1,fun v i hv hi=>?_⟩
 rw[mn,Py]
 split
 ·rename_i he
  obtain⟨-,rfl⟩:=YA hj hi he.1
  exact hx
 ·exact h.cells v i hv hi
theorem MV.YB{s:Sy}{l:Lay}{ws:List Int}(h:MV s l ws){u j:Nat}{o x:Int}(hj:j<nW l)(hx:ju s.ai s.w j x):MV s l (gj ws ((u*nW l+j:Nat):Int) o x):=by
 unfold gj;split
 ·exact h.Nd hj hx
 ·exact h
theorem MV.load{s:Sy}{l:Lay}{ws:List Int}(h:MV s l ws){v i:Nat}(hv:v<nN s)(hi:i<nW l):ju s.ai s.w i (bV ws ((v*nW l+i:Nat):Int)):=by
 rw[ov];exact h.cells v i hv hi
structure DQ.w4(q:DQ)(m:Nat):Prop where
 at_:q.at_≤m
 b:bP q.b
 t:bP q.t
 n:bP q.n
 x:bP q.x
 en:q.ended=false
def B6(s:Sy)(l:Lay)(who ae node:Int)(nx out:List Int):Nw→Prop
 |.none=>False
 |.pop q=>ae=0∧q.w4 5∧q.base=dY l who∧q.cap=fB l
 |.dO q=>ae=1∧q.w4 3∧(∃v:Nat,(v:Int)<l.k∧q.base=dY l v)∧q.cap=fB l∧q.ok=false
 |.quiet t=>ae=2∧t=⟨de l,da l,false,false⟩
 |.clear t=>ae=3∧t=⟨de l,da l,node,false⟩
 |.read y=>ae=4∧(y.length<nW l∨(nW l=0∧y=[]))∧∀i,i<y.length→ju s.ai s.w i (wd y i)
 |.join j=>ae=5∧(j.base=df l (nx.headD 0)∧j.ai=l.ai∧j.words=l.words∧j.a=out)∧j.ended=false∧j.at_≤nW l∧bP j.x∧(j.eV=true→j.at_<nW l∧ju s.ai s.w j.at_ j.x)
 |.take t=>ae=6∧∃jH:Bool,t=⟨de l,da l,nx.headD 0,jH,false,jH⟩
 |.push q=>ae=7∧q.w4 3∧q.base=dY l who∧q.cap=fB l∧q.ok=false
 |.fU t=>ae=8∧t=⟨de l,da l,0,false⟩
def kept(l:Lay):Nw→Prop
 |.none | .quiet _ | .clear _ | .fU _=>False
 |.read y=>y.length<nW l
 |.join j=>j.at_<nW l
 |.take t=>t.jH=true
 |_=>True
structure WV(s:Sy)(l:Lay)(who:Int)(x:WS):Prop where
 ae:0≤x.ae∧x.ae≤8
 node:0≤x.node∧x.node<s.n
 nx:∀u∈x.nx,0≤u∧u<s.n
 head:x.ae=5∨x.ae=6∨x.ae=7→0<x.nx.length
 out:x.ae=5∨x.ae=6∨x.ae=7→mO s.ai s.w x.out
 Gh:x.ae=1→2≤l.k
 now:x.now=.none∨(B6 s l who x.ae x.node x.nx x.out x.now∧kept l x.now)
theorem wv0{s:Sy}{l:Lay}(hs:LS s l)(who:Int):WV s l who kn:=
 ⟨by decide,⟨dA _,hs.kO.n1⟩,fun u hu=>(s9 hu).elim,fun h=>absurd h (by decide),fun h=>absurd h (by decide),fun h=>absurd h (by decide),.inl rfl⟩
theorem WV.ok{s:Sy}{l:Lay}(hs:LS s l){who:Int}{x:WS}(h:WV s l who x):J3 l x:=by
 refine⟨h.head,fun h1=>R6 ⟨h.Gh h1,hs.k2⟩,?_⟩
 have hh:=h.head
 rcases h.now with h0 | ⟨h1,h2⟩
 ·rw[h0];trivial
 ·cases hn:x.now with
  |none=>trivial
  |pop q=>rw[hn]at h1;exact⟨h1.2.1.at_,h1.2.1.b.1⟩
  |dO q=>rw[hn]at h1;exact⟨h1.2.1.at_,h1.2.1.t.1⟩
  |quiet q=>trivial
  |clear q=>trivial
  |read y=>
   rw[hn]at h1
   refine⟨h1.2.1,fun z hz=>?_⟩
   obtain⟨i,hi,rfl⟩:=Au.1 hz
   rw[← oE y hi];exact (h1.2.2 i hi).1
  |join j=>rw[hn]at h1;have:=hs.ww.2;exact⟨by have:=h1.2.2.2.1;omega,hh (.inl h1.1)⟩
  |take t=>rw[hn]at h1;exact hh (.inr (.inl h1.1))
  |push q=>rw[hn]at h1;exact⟨⟨h1.2.1.at_,h1.2.1.b.1⟩,hh (.inr (.inr h1.1))⟩
  |fU t=>trivial
theorem LS.acV{s:Sy}{l:Lay}(hs:LS s l){k:Nat}(hk:k≤64):((nN s*nW l:Nat):Int)≤dY l k∧((nN s*nW l:Nat):Int)≤bY (dY l k)∧∀i,((nN s*nW l:Nat):Int)≤jN (dY l k) (fB l) i:=by
 have h1:=hs.nn
 have h2:=hs.ww
 have h3:=sx h1.2.2 h2.2
 have h4:k*(nN s+3)≤64*259:=qa hk (by omega)
 have hd:=hs.xF hk
 refine⟨by omega,?_,fun i=>?_⟩
 ·unfold bY;rw[hd,iq (by omega) (by omega)];omega
 ·unfold jN
  rw[hs.room.2]
  have hm:=GI i (show ((nN s+1:Nat):Int)≠0 by omega)
  have sU:=GP i (show (0:Int)<((nN s+1:Nat):Int) by omega)
  rw[hd,iq (z:=((nN s*nW l+nN s+1+k*(nN s+3):Nat):Int)+2) (by omega) (by omega),iq (z:=i % _) hm (by omega),iq (by omega) (by omega)]
  omega
theorem xz(n:Int):bP (wu n):=Bf n
section
variable {s:Sy} {l:Lay} {ws ws':List Int} {q q':DQ} {b:Bool}
theorem Wa(hw:MV s l ws)(hq:q.w4 5)(hb:((nN s*nW l:Nat):Int)≤bY q.base)(h0:((nN s*nW l:Nat):Int)≤q.base)(h:dZ bF q ws=(q',ws',b)):MV s l ws'∧ws'.length=ws.length∧q'.base=q.base∧q'.cap=q.cap∧bP q'.n∧(b=false→q'.w4 5):=by
 obtain⟨base,cap,n,ok,ended,at_,bb,t,x⟩:=q
 obtain⟨h1,h2,h3,h4,h5,h6⟩:=hq
 have l1:=fun a=>yW hw.a64 a
 have s1:=fun {a} {x} (ha:((nN s*nW l:Nat):Int)≤a) (hx:bP x)=>hw.yJ ha hx
 have c1:=fun {a} {o} {x} (ha:((nN s*nW l:Nat):Int)≤a) (hx:bP x)=>hw.E4 (o:=o) ha hx
 dsimp only at *
 subst h6
 unfold dZ at h
 dsimp only at h
 repeat' split at h
 all_goals
  cases h
  refine⟨?_,?_,rfl,rfl,?_,fun hb=>?_⟩
 all_goals first
  |contradiction
  |assumption
  |rfl
  |exact yA _ _ _
  |exact uX _ _ _ _
  |exact s1 hb h2
  |exact s1 hb (xz _)
  |exact c1 h0 (xz _)
  |exact l1 _
  |(dsimp only;split <;> assumption)
  |exact⟨by dsimp only;omega,by first | assumption | exact l1 _ | exact xz _,by first | assumption | exact l1 _,by first | assumption | exact l1 _,by first | assumption | exact l1 _,rfl⟩
theorem T9(hw:MV s l ws)(hq:q.w4 3)(h0:((nN s*nW l:Nat):Int)≤q.base)(hk:q.ok=false)(h:fx bF q ws=(q',ws',b)):MV s l ws'∧ws'.length=ws.length∧q'.base=q.base∧q'.cap=q.cap∧bP q'.n∧(b=false→q'.w4 3∧q'.ok=false):=by
 obtain⟨base,cap,n,ok,ended,at_,bb,t,x⟩:=q
 obtain⟨h1,h2,h3,h4,h5,h6⟩:=hq
 have l1:=fun a=>yW hw.a64 a
 have c1:=fun {a} {o} {x} (ha:((nN s*nW l:Nat):Int)≤a) (hx:bP x)=>hw.E4 (o:=o) ha hx
 dsimp only at *
 subst h6;subst hk
 unfold fx at h
 dsimp only at h
 repeat' split at h
 all_goals
  cases h
  refine⟨?_,?_,rfl,rfl,?_,fun hb=>?_⟩
 all_goals first
  |contradiction
  |assumption
  |rfl
  |exact yA _ _ _
  |exact uX _ _ _ _
  |exact c1 h0 (xz _)
  |exact l1 _
  |exact⟨⟨by dsimp only;omega,by first | assumption | exact l1 _,by first | assumption | exact l1 _,by first | assumption | exact l1 _,by first | assumption | exact l1 _,rfl⟩,rfl⟩
theorem U9(hw:MV s l ws)(hq:q.w4 3)(hb:((nN s*nW l:Nat):Int)≤bY q.base)(hp:∀i,((nN s*nW l:Nat):Int)≤jN q.base q.cap i)(hk:q.ok=false)(h:fT bF q ws=(q',ws',b)):MV s l ws'∧ws'.length=ws.length∧q'.base=q.base∧q'.cap=q.cap∧bP q'.n∧(b=false→q'.w4 3∧q'.ok=false):=by
 obtain⟨base,cap,n,ok,ended,at_,bb,t,x⟩:=q
 obtain⟨h1,h2,h3,h4,h5,h6⟩:=hq
 have l1:=fun a=>yW hw.a64 a
 have s1:=fun {a} {x} (ha:((nN s*nW l:Nat):Int)≤a) (hx:bP x)=>hw.yJ ha hx
 dsimp only at *
 subst h6;subst hk
 unfold fT at h
 dsimp only at h
 repeat' split at h
 all_goals
  cases h
  refine⟨?_,?_,rfl,rfl,?_,fun hb=>?_⟩
 all_goals first
  |contradiction
  |assumption
  |rfl
  |exact yA _ _ _
  |exact uX _ _ _ _
  |exact s1 hb (xz _)
  |exact s1 (hp _) h4
  |exact l1 _
  |exact⟨⟨by dsimp only;omega,by first | assumption | exact l1 _,by first | assumption | exact l1 _,by first | assumption | exact l1 _,by first | assumption | exact l1 _,rfl⟩,rfl⟩
end
theorem ab4{y:List Int}{z:Int}{i:Nat}:wd (y++[z]) i=if i<y.length then wd y i else if i=y.length then z else 0:=by
 unfold wd
 rw[List.getElem?_append]
 by_cases h:i<y.length
 ·rw[az h,az h]
 ·rw[aA h,aA h]
  by_cases h2:i=y.length
  ·subst h2;simp
  ·rw[aA h2,r9 (by show 1≤_;omega)];rfl
theorem No{s:Sy}{l:Lay}{ws ws':List Int}{y y':List Int}{b:Bool}(hs:LS s l)(hw:MV s l ws){v:Nat}(hv:v<nN s)(hy:y.length<nW l∨(nW l=0∧y=[]))(hk:∀i,i<y.length→ju s.ai s.w i (wd y i))(h:nA bF l (df l v) y ws=(y',ws',b)):ws'=ws∧(∀i,i<y'.length→ju s.ai s.w i (wd y' i))∧(b=false→y'.length<nW l)∧(b=true→mO s.ai s.w y'):=by
 have rP:=hs.ww
 unfold nA at h
 split at h
 ·rename_i ab
  have ab:y.length<nW l:=ab
  cases h
  have e:∀i,i<(y++[(bF.ld ws (wr (df l v+(y.length:Nat)))).1]).length→ju s.ai s.w i (wd (y++[(bF.ld ws (wr (df l v+(y.length:Nat)))).1]) i):=fun i hi=>by
   rw[bG]at hi
   have hi:i<y.length+1:=hi
   rw[ab4]
   by_cases h1:i<y.length
   ·rw[az h1];exact hk i h1
   ·obtain rfl:i=y.length:=by omega
    rw[aA h1,az rfl]
    show ju _ _ _ (bV ws _)
    rw[hs.Fv hv ab]
    exact hw.load hv ab
  refine⟨rfl,e,fun hb=>?_,fun hb=>?_⟩
  ·have hb:¬y.length+1=nW l:=pc hb
   rw[bG];show y.length+1<_;omega
  ·have hb:y.length+1=nW l:=fk hb
   refine (AU hs.kO.uv).2 ⟨?_,e⟩
   rw[← hs.words,rP.1,bG];show ((y.length+1:Nat):Int)=_;omega
 ·rename_i ab
  obtain⟨h1,h2⟩:=Prod.mk.inj h
  obtain⟨h2,h3⟩:=Prod.mk.inj h2
  subst h1;subst h2;subst h3
  have h0:nW l=0∧y=[]:=by
   rcases hy with h | h
   ·exact absurd h ab
   ·exact h
  refine⟨rfl,hk,fun hb=>(by cases hb),fun _=>?_⟩
  refine (AU hs.kO.uv).2 ⟨?_,hk⟩
  rw[← hs.words,rP.1,h0.1,h0.2];rfl
theorem Vj{s:Sy}{l:Lay}{ws ws':List Int}{j j':Jn}{b:Bool}(hs:LS s l)(hw:MV s l ws){u:Nat}(hu:u<nN s)(Fo:j.base=df l u)(acC:j.ai=l.ai)(aby:j.words=l.words)(ha:mO s.ai s.w j.a)(lv:j.ended=false)(eP:j.at_≤nW l)(hx:bP j.x)(hl:j.eV=true→j.at_<nW l∧ju s.ai s.w j.at_ j.x)(h:fo bF j ws=(j',ws',b)):
  MV s l ws'∧ws'.length=ws.length∧(j'.base=j.base∧j'.ai=j.ai∧j'.words=j.words∧j'.a=j.a)∧(b=false→j'.ended=false∧j'.at_<nW l∧bP j'.x∧(j'.eV=true→ju s.ai s.w j'.at_ j'.x)):=by
 obtain⟨base,ai,words,a,changed,ended,tries,at_,eV,x⟩:=j
 dsimp only at *
 subst Fo;subst lv;subst acC;subst aby
 have rP:=hs.ww
 have sS:∀i,i<nW l→ju s.ai s.w i (wd a i):=fun i hi=>by
  have:=(AU hs.kO.uv).1 ha
  refine this.2 i ?_
  have h2:=this.1
  rw[← hs.words,rP.1]at h2
  omega
 unfold fo at h
 dsimp only at h
 split at h
 ·contradiction
 split at h
 ·cases h
  exact⟨hw,rfl,⟨rfl,rfl,rfl,rfl⟩,fun hb=>by cases hb⟩
 rename_i Kj
 have ab:at_<nW l:=by have:¬at_=nW l:=Kj;omega
 have hA:=hs.Fv hu ab
 have Ld:ju s.ai s.w at_ (bV ws (wr (df l u+(at_:Nat)))):=by rw[hA];exact hw.load hu ab
 rw[hs.ai]at h
 split at h
 ·rename_i ae1
  have pT:=(hl ae1).2
  have x9:=US hs.acr pT (sS at_ ab)
  have hM:∀o,MV s l (gj ws (wr (df l u+(at_:Nat))) o (eW s.ai x (wd a at_))):=fun o=>by rw[hA];exact hw.YB ab x9
  split at h
  ·unfold oG at h
   dsimp only at h
   split at h
   ·rename_i hn
    cases h
    exact⟨hM _,uX _ _ _ _,⟨rfl,hs.ai.symm,rfl,rfl⟩,fun _=>⟨rfl,hn,hx,fun hc=>by cases hc⟩⟩
   ·cases h
    exact⟨hM _,uX _ _ _ _,⟨rfl,hs.ai.symm,rfl,rfl⟩,fun hb=>by cases hb⟩
  ·cases h
   exact⟨hM _,uX _ _ _ _,⟨rfl,hs.ai.symm,rfl,rfl⟩,fun _=>⟨rfl,ab,hx,fun hc=>by cases hc⟩⟩
 ·split at h
  ·unfold oG at h
   dsimp only at h
   split at h
   ·rename_i hn
    cases h
    exact⟨hw,rfl,⟨rfl,hs.ai.symm,rfl,rfl⟩,fun _=>⟨rfl,hn,Ld.1,fun hc=>absurd hc (by assumption)⟩⟩
   ·cases h
    exact⟨hw,rfl,⟨rfl,hs.ai.symm,rfl,rfl⟩,fun hb=>by cases hb⟩
  ·cases h
   exact⟨hw,rfl,⟨rfl,hs.ai.symm,rfl,rfl⟩,fun _=>⟨rfl,ab,Ld.1,fun _=>Ld⟩⟩
def Ta(s:Sy)(ae:Int):Nw→Prop
 |.none=>False
 |.pop q=>bP q.n
 |.dO q=>bP q.n
 |.read y=>mO s.ai s.w y
 |.join _=>ae=5
 |.take _=>ae=6
 |.push _=>ae=7
 |_=>True
theorem Qs{nx:List Int}{n:Int}(h:∀u∈nx,0≤u∧u<n)(h0:0<nx.length):∃u:Nat,nx.headD 0=u∧(u:Int)<n:=by
 cases nx with
 |nil=>cases h0
 |cons u r=>
  have:=h u (cF ..)
  exact⟨u.toNat,by show u=_;omega,by omega⟩
theorem Wl{s:Sy}{l:Lay}{ws ws':List Int}{who ae node:Int}{nx out:List Int}{n n':Nw}{b:Bool}(hs:LS s l)(hw:MV s l ws)(sI:0≤who∧who<l.k)(tO:0≤node∧node<s.n)(cz:∀u∈nx,0≤u∧u<s.n)(hh:ae=5∨ae=6∨ae=7→0<nx.length)(ho:ae=5∨ae=6∨ae=7→mO s.ai s.w out)
  (hb:B6 s l who ae node nx out n) (h:kf bF l node n ws=(n',ws',b)):MV s l ws'∧ws'.length=ws.length∧(b=false→B6 s l who ae node nx out n'∧kept l n')∧(b=true→Ta s ae n'):=by
 have cY:=hs.k2
 have hd:∀k:Nat,(k:Int)<l.k→((nN s*nW l:Nat):Int)≤dY l k∧((nN s*nW l:Nat):Int)≤bY (dY l k)∧∀i,((nN s*nW l:Nat):Int)≤jN (dY l k) (fB l) i:=fun k hk=>hs.acV (by omega)
 obtain⟨me,rfl⟩:=qV sI.1
 obtain⟨v,rfl⟩:=qV tO.1
 have hv:v<nN s:=by have:=hs.nn;omega
 have Gu:=hd me sI.2
 cases n with
 |none=>exact hb.elim
 |pop q=>
  obtain⟨q',a',b',ao⟩:∃q' a' b',dZ bF q ws=(q',a',b'):=⟨_,_,_,rfl⟩
  rw[k8 ao]at h
  cases h
  obtain⟨h1,h2,h3,h4⟩:=hb
  obtain⟨k1,k2,k3,k4,k5,k6⟩:=Wa hw h2 (by rw[h3];exact Gu.2.1) (by rw[h3];exact Gu.1) ao
  exact⟨k1,k2,fun hb=>⟨⟨h1,k6 hb,k3.trans h3,k4.trans h4⟩,trivial⟩,fun _=>k5⟩
 |dO q=>
  obtain⟨q',a',b',ao⟩:∃q' a' b',fx bF q ws=(q',a',b'):=⟨_,_,_,rfl⟩
  rw[kX ao]at h
  cases h
  obtain⟨h1,h2,⟨k,hk,h3⟩,h4,h5⟩:=hb
  obtain⟨k1,k2,k3,k4,k5,k6⟩:=T9 hw h2 (by rw[h3];exact (hd k hk).1) h5 ao
  exact⟨k1,k2,fun hb=>⟨⟨h1,(k6 hb).1,⟨k,hk,k3.trans h3⟩,k4.trans h4,(k6 hb).2⟩,trivial⟩,fun _=>k5⟩
 |quiet t=>
  obtain⟨h1,rfl⟩:=hb
  cases h
  exact⟨hw,rfl,fun hb=>(by cases hb),fun _=>trivial⟩
 |clear t=>
  obtain⟨h1,rfl⟩:=hb
  cases h
  refine⟨?_,?_,fun hb=>(by cases hb),fun _=>trivial⟩
  ·show MV s l (if 0≤(v:Int) then fy ws (wr (de l+(v:Nat))) 0 else ws)
   rw[az (by omega),hs.BU hv]
   exact hw.yJ (by omega) (by unfold bP;omega)
  ·show (if 0≤(v:Int) then fy ws (wr (de l+(v:Nat))) 0 else ws).length=_
   rw[az (by omega)];exact yA _ _ _
 |read y=>
  obtain⟨y',a',b',ao⟩:∃y' a' b',nA bF l (df l v) y ws=(y',a',b'):=⟨_,_,_,rfl⟩
  rw[tB ao]at h
  cases h
  obtain⟨h1,h2,h3⟩:=hb
  obtain⟨rfl,k2,k3,k4⟩:=No hs hw hv h2 h3 ao
  exact⟨hw,rfl,fun hb=>⟨⟨h1,.inl (k3 hb),k2⟩,k3 hb⟩,fun hb=>k4 hb⟩
 |join j=>
  obtain⟨j',a',b',ao⟩:∃j' a' b',fo bF j ws=(j',a',b'):=⟨_,_,_,rfl⟩
  rw[kY ao]at h
  cases h
  obtain⟨h1,⟨h2,h3,h4,h5⟩,h6,h7,h8,h9⟩:=hb
  obtain⟨u,hu,fR⟩:=Qs cz (hh (.inl h1))
  obtain⟨k1,k2,⟨k3,k4,k5,k6⟩,k7⟩:=Vj hs hw (u:=u) (by have:=hs.nn;omega) (by rw[h2,hu]) h3 h4 (by rw[h5];exact ho (.inl h1)) h6 h7 h8 h9 ao
  refine⟨k1,k2,fun hb=>?_,fun _=>h1⟩
  obtain⟨m1,m2,m3,m4⟩:=k7 hb
  exact⟨⟨h1,⟨k3.trans h2,k4.trans h3,k5.trans h4,k6.trans h5⟩,m1,Nat.le_of_lt m2,m3,fun hc=>⟨m2,m4 hc⟩⟩,m2⟩
 |take t=>
  obtain⟨h1,jH,rfl⟩:=hb
  obtain⟨u,hu,fR⟩:=Qs cz (hh (.inr (.inl h1)))
  have hu2:u<nN s:=by have:=hs.nn;omega
  rw[hu]at h
  have ik:((nN s*nW l:Nat):Int)≤wr (de l+(u:Nat)):=by rw[hs.BU hu2];omega
  have yf:((nN s*nW l:Nat):Int)≤da l:=by rw[hs.count];omega
  cases jH with
  |true=>
   cases h
   exact⟨hw.Ry yf,Mx _ _ _,fun hb=>(by cases hb),fun _=>h1⟩
  |false=>
   obtain⟨t',a',b',ao⟩:∃t' a' b',mr bF ⟨de l,da l,(u:Nat),false,false,false⟩ ws=(t',a',b'):=⟨_,_,_,rfl⟩
   rw[oz ao]at h
   cases h
   unfold mr at ao
   dsimp only at ao
   rw[aA (by decide),aA (by decide),az (by omega)]at ao
   split at ao
   ·cases ao
    exact⟨hw.E4 ik (by unfold bP;omega),uX _ _ _ _,fun _=>⟨⟨h1,true,by rw[hu]⟩,rfl⟩,fun hb=>(by cases hb)⟩
   ·cases ao
    exact⟨hw.E4 ik (by unfold bP;omega),uX _ _ _ _,fun hb=>(by cases hb),fun _=>h1⟩
 |push q=>
  obtain⟨q',a',b',ao⟩:∃q' a' b',fT bF q ws=(q',a',b'):=⟨_,_,_,rfl⟩
  rw[q8 ao]at h
  cases h
  obtain⟨h1,h2,h3,h4,h5⟩:=hb
  obtain⟨k1,k2,k3,k4,k5,k6⟩:=U9 hw h2 (by rw[h3];exact Gu.2.1) (by rw[h3,h4];exact Gu.2.2) h5 ao
  exact⟨k1,k2,fun hb=>⟨⟨h1,(k6 hb).1,k3.trans h3,k4.trans h4,(k6 hb).2⟩,trivial⟩,fun _=>h1⟩
 |fU t=>
  obtain⟨h1,rfl⟩:=hb
  cases h
  have yf:((nN s*nW l:Nat):Int)≤da l:=by rw[hs.count];omega
  exact⟨hw.Ry yf,Mx _ _ _,fun hb=>(by cases hb),fun _=>trivial⟩
theorem xi:bP 0:=by unfold bP;omega
theorem zb(base cap n:Int)(m:Nat)(h:bP n):(mM base cap n).w4 m:=⟨aY _,xi,xi,h,xi,rfl⟩
theorem Zs{d n:Int}(hn:0<n): -n<d.tmod n∧d.tmod n<n:=⟨by have:=GS (-d) hn;rw[Int.neg_tmod]at this;omega,GS _ hn⟩
theorem VS{s:Sy}{l:Lay}(hs:LS s l){who:Int}(sI:0≤who∧who<l.k)(h2:2≤l.k)(d:Int):∃v:Nat,vz l who d=v∧(v:Int)<l.k:=by
 have cY:=hs.k2
 have hnk:nK l=l.k-1:=iq (by omega) (by omega)
 have h1:=Zs (d:=d) (n:=l.k-1) (by omega)
 unfold vz
 rw[hnk]
 generalize d.tmod (l.k-1)=a at h1
 rw[iq (z:=a+(l.k-1)) (by omega) (by omega),iq (z:=who+1) (by omega) (by omega)]
 have h3:0≤(a+(l.k-1)).tmod (l.k-1):=Int.tmod_nonneg _ (by omega)
 have h4:=GS (a+(l.k-1)) (show 0<l.k-1 by omega)
 generalize (a+(l.k-1)).tmod (l.k-1)=c at h3 h4
 rw[iq (by omega) (by omega)]
 have h5:0≤(who+1+c).tmod l.k:=Int.tmod_nonneg _ (by omega)
 have h6:=GS (who+1+c) (show 0<l.k by omega)
 exact⟨_,(mL h5).symm,by omega⟩
theorem ZU{s:Sy}{l:Lay}{who:Int}{x:WS}{d:Int}(hs:LS s l)(sI:0≤who∧who<l.k)(h:WV s l who x):B6 s l who x.ae x.node x.nx x.out (oo l who x d):=by
 have hd:=h.ae
 have hw:=hs.ww
 rcases h.now with h0 | h0
 ·unfold oo
  rw[h0]
  show B6 s l who x.ae x.node x.nx x.out (jy l who x.ae x.node x.nx x.out d)
  unfold jy
  repeat' split
  ·exact⟨by assumption,zb _ _ _ _ (by unfold bP;omega),rfl,rfl⟩
  ·rename_i h1
   obtain⟨v,hv,hvk⟩:=VS hs sI (h.Gh h1) d
   exact⟨h1,zb _ _ _ _ (by unfold bP;omega),⟨v,hvk,by rw[← hv];rfl⟩,rfl,rfl⟩
  ·exact⟨by assumption,rfl⟩
  ·exact⟨by assumption,rfl⟩
  ·refine⟨by assumption,?_,fun i hi=>absurd hi (s7 _)⟩
   rcases r8 (nW l) with h | h
   ·exact .inr ⟨h,rfl⟩
   ·exact .inl h
  ·exact⟨by assumption,⟨rfl,rfl,rfl,rfl⟩,rfl,aY _,xi,fun hc=>by cases hc⟩
  ·exact⟨by assumption,false,rfl⟩
  ·exact⟨by assumption,zb _ _ _ _ (xz _),rfl,rfl,rfl⟩
  ·exact⟨by omega,rfl⟩
 ·unfold oo
  split
  ·rename_i hn;rw[hn]at h0;exact h0.1.elim
  ·exact h0.1
theorem Rj{s:Sy}{l:Lay}(hs:LS s l){n:Int}(h:bP n):0≤iR l n∧iR l n<s.n:=by
 have hn:=hs.nn
 have e:wu l.n=s.n:=by
  show IntKind.u64.wrap l.n=_
  rw[IntKind.wrap_u64,hs.n];omega
 unfold iR
 rw[e]
 split
 ·omega
 ·rw[iq h.1 (by omega)]
  exact⟨h.1,by omega⟩
theorem pC{s:Sy}{l:Lay}{who:Int}{x:WS}(h0:x.now=.none)(h1:0≤x.ae∧x.ae≤8)(h2:0≤x.node∧x.node<s.n)(h3:∀u∈x.nx,0≤u∧u<s.n)(h4:x.ae=5∨x.ae=6∨x.ae=7→0<x.nx.length∧mO s.ai s.w x.out)(h5:x.ae=1→2≤l.k):WV s l who x:=
 ⟨h1,h2,h3,fun h=>(h4 h).1,fun h=>(h4 h).2,h5,.inl h0⟩
theorem abJ{s:Sy}{l:Lay}{who:Int}{x:WS}{n:Nw}(hs:LS s l)(h:WV s l who x)(he:Ta s x.ae n):WV s l who (ft s l x n):=by
 have g:=fun n=>Vp l n
 have f:=Vq x.nx
 have r:=V4 s x.node
 have no:=Uo l
 have qu:=U8 l
 have wo:∀u∈x.nx.tail,0≤u∧u<s.n:=fun u hu=>h.nx u (List.mem_of_mem_tail hu)
 cases n with
 |none=>exact he.elim
 |pop q=>
  have g:=g q.n
  by_cases hq:q.ok=true
  ·rw[show ft s l x (.pop q)=⟨x.ev,x.jo,x.en,jM l q.n,.none,iR l q.n,true,x.nx,x.out⟩ from az hq]
   exact pC rfl (by dsimp only;omega) (Rj hs he) h.nx (fun h=>by dsimp only at h;omega) (fun h=>by dsimp only at h;omega)
  ·rw[show ft s l x (.pop q)=⟨x.ev,x.jo,x.en,qm l,.none,x.node,x.has,x.nx,x.out⟩ from aA hq]
   exact pC rfl (by dsimp only;omega) h.node h.nx (fun h=>by dsimp only at h;omega) (fun h=>by dsimp only at h;omega)
 |dO q=>
  have g:=g q.n
  by_cases hq:q.ok=true
  ·rw[show ft s l x (.dO q)=⟨x.ev,x.jo,x.en,jM l q.n,.none,iR l q.n,true,x.nx,x.out⟩ from az hq]
   exact pC rfl (by dsimp only;omega) (Rj hs he) h.nx (fun h=>by dsimp only at h;omega) (fun h=>by dsimp only at h;omega)
  ·rw[show ft s l x (.dO q)=⟨x.ev,x.jo,x.en,2,.none,x.node,x.has,x.nx,x.out⟩ from aA hq]
   exact pC rfl (by dsimp only;omega) h.node h.nx (fun h=>by dsimp only at h;omega) (fun h=>by dsimp only at h;omega)
 |quiet q=>exact pC rfl (by dsimp only[ft];omega) h.node h.nx (fun h=>by dsimp only[ft]at h;omega) (fun h=>by dsimp only[ft]at h;omega)
 |clear q=>exact pC rfl (by dsimp only[ft];omega) h.node h.nx (fun h=>by dsimp only[ft]at h;omega) (fun h=>by dsimp only[ft]at h;omega)
 |read y=>
  obtain⟨v,hv⟩:=qV h.node.1
  have er:=h.node.2
  have hE:nS s x.node y=0:=Pb ((D8 (On hs.kO) h.node).symm) he.v
  have hV:mO s.ai s.w (rN (nS s x.node y) (kJ s y x.node.toNat)):=by
   rw[hE,show rN 0 (kJ s y x.node.toNat)=kJ s y x.node.toNat from rfl]
   have:=ZI hs.fit hs.kO he.fP he.v (v:=x.node.toNat) (by omega)
   exact⟨this.1,this.2⟩
  exact pC rfl (by dsimp only[ft];omega) h.node (fun u hu=>(kD.1 hu).1) (fun h=>⟨by dsimp only[ft]at h ⊢;omega,hV⟩) (fun h=>by dsimp only[ft]at h;omega)
 |join q=>
  have hh:=h.head (.inl he)
  have ho:=h.out (.inl he)
  by_cases hq:q.changed=true
  ·rw[show ft s l x (.join q)=⟨x.ev,wr (x.jo+1),x.en,6,.none,x.node,x.has,x.nx,x.out⟩ from az hq]
   exact pC rfl (by dsimp only;omega) h.node h.nx (fun _=>⟨hh,ho⟩) (fun h=>by dsimp only at h;omega)
  ·rw[show ft s l x (.join q)=⟨x.ev,x.jo,x.en,jq x.nx,.none,x.node,x.has,x.nx.tail,x.out⟩ from aA hq]
   exact pC rfl (by dsimp only;omega) h.node wo (fun h=>⟨by dsimp only at h ⊢;omega,ho⟩) (fun h=>by dsimp only at h;omega)
 |take q=>
  have hh:=h.head (.inr (.inl he))
  have ho:=h.out (.inr (.inl he))
  by_cases hq:q.new=true
  ·rw[show ft s l x (.take q)=⟨x.ev,x.jo,x.en,7,.none,x.node,x.has,x.nx,x.out⟩ from az hq]
   exact pC rfl (by dsimp only;omega) h.node h.nx (fun _=>⟨hh,ho⟩) (fun h=>by dsimp only at h;omega)
  ·rw[show ft s l x (.take q)=⟨x.ev,x.jo,x.en,jq x.nx,.none,x.node,x.has,x.nx.tail,x.out⟩ from aA hq]
   exact pC rfl (by dsimp only;omega) h.node wo (fun h=>⟨by dsimp only at h ⊢;omega,ho⟩) (fun h=>by dsimp only at h;omega)
 |push q=>
  have ho:=h.out (.inr (.inr he))
  exact pC rfl (by dsimp only[ft];omega) h.node wo (fun h=>⟨by dsimp only[ft]at h ⊢;omega,ho⟩) (fun h=>by dsimp only[ft]at h;omega)
 |fU q=>exact pC rfl (by dsimp only[ft];omega) h.node h.nx (fun h=>by dsimp only[ft]at h;omega) (fun h=>by dsimp only[ft]at h;omega)
theorem Zl{s:Sy}{l:Lay}{who:Int}{x:WS}{d:Int}{ws:List Int}(hs:LS s l)(sI:0≤who∧who<l.k)(hw:MV s l ws)(h:WV s l who x):MV s l (cW bF s l who x d ws).2.1∧(cW bF s l who x d ws).2.1.length=ws.length∧WV s l who (cW bF s l who x d ws).1:=by
 obtain⟨n',ws',b,ao⟩:∃n' ws' b,kf bF l x.node (oo l who x d) ws=(n',ws',b):=⟨_,_,_,rfl⟩
 obtain⟨k1,k2,k3,k4⟩:=Wl hs hw sI h.node h.nx h.head h.out (ZU hs sI h (d:=d)) ao
 unfold cW
 rw[ao]
 dsimp only
 split
 ·exact⟨hw,rfl,h⟩
 ·split
  ·rename_i hb
   exact⟨k1,k2,abJ hs h (k4 hb)⟩
  ·rename_i hb
   exact⟨k1,k2,h.ae,h.node,h.nx,h.head,h.out,h.Gh,.inr (k3 (by simpa using hb))⟩
set_option maxHeartbeats 4000000
theorem Jh(n:Int)(σ:Hp):ACalls Tryz.prog 122 [.int .i64 n] σ (aD (.int .i64 (rm n)) σ):=by
 refine au Tryz.func122 ?_
 exact .done ⟨aR (Q3 n),rfl⟩
def jA(k:Int)(q:DQ):List AV:=[.int .i64 k,.int .i64 q.base,.int .i64 q.cap,.int .u64 q.n,.bool q.ok,.bool q.ended,.int .i64 q.at_,.int .u64 q.b,.int .u64 q.t,.int .u64 q.x]
theorem I0(r:Nat)(k:Int)(q:DQ)(i:Int)(σ:Hp)(h0:0≤i):ACalls Tryz.prog 262 [.ptr r 0,.int .u64 i] ((r,jA k q)::σ) (aD (.int .i64 (jN q.base q.cap i)) ((r,jA k q)::σ)):=by
 have hr:=Fk q.cap
 have e1:IntKind.u64.wrap (rm q.cap:Int)=rm q.cap:=by rw[IntKind.wrap_u64];omega
 have e2:i.tmod (IntKind.u64.wrap (rm q.cap:Int))=i % (rm q.cap:Int):=by rw[e1,sa h0]
 refine au Tryz.func262 ?_
 refine .quiet (by kernel_rfl) ?_
 refine aa 0 ?_
 refine aa 0 ?_
 refine aK [] (Jh _ _) ?_
 refine aw.mk (by rw[e1];omega) ?_
 exact .done ⟨aR (by rw[e2];rfl),rfl⟩
theorem kH{r m p:Nat}{k:Int}{σ ie:Hp}{S:DQ×List Int×Bool}{q':DQ}{ws':List Int}{e:Bool}(h:S=(q',ws',e))(q1:DQ)(Cx:List Int)(aJ:ie=(r,jA k q1)::bu m p Cx σ)(h1:S.1=q1)(h2:S.2.1=Cx):aD (.tup []) ((r,jA k q')::bu m p ws' σ) (.tup []) ie:=by
 subst h;subst h1;subst h2
 exact⟨rfl,aJ⟩
theorem abY(r m p:Nat)(k base cap n b t x:Int)(ok:Bool)(at_:Nat)(ws:List Int)(σ:Hp)(_:at_≤1000)(hb:0≤b){q':DQ}{ws':List Int}{e:Bool}(h:fT bF ⟨base,cap,n,ok,false,at_,b,t,x⟩ ws=(q',ws',e)):ACalls Tryz.prog 224 [.ptr r 0,.ptr m 0] ((r,jA k ⟨base,cap,n,ok,false,at_+1,b,t,x⟩)::bu m p ws σ) (aD (.tup []) ((r,jA k q')::bu m p ws' σ)):=by
 refine au Tryz.func224 ?_
 refine aa 0 ?_
 refine aj (fun c1=>?_) (fun c1=>?_)
 ·have c1:(↑(at_+1):Int)=1:=c1
  refine aa 0 ?_
  refine ar [2,2] (oK m p ws _ _) ?_
  refine ag 2 ?_
  exact .pull [2] (.done (kH h ⟨base,cap,n,ok,false,at_+1,bV ws (IntKind.i64.wrap (base+1)),t,x⟩ ws rfl (by unfold fT;dsimp only;(repeat' split) <;> first | rfl | (exfalso;omega) | (simp_all;done) | (exfalso;simp_all [wr,wu,bY,cP];omega)) (by unfold fT;dsimp only;(repeat' split) <;> first | rfl | (exfalso;omega) | (simp_all [wr,wu,bY,cP];done) | (exfalso;simp_all [wr,wu,bY,cP];omega))))
 ·have c1:¬((↑(at_+1):Int)=1):=c1
  refine aa 0 ?_
  refine aj (fun c2=>?_) (fun c2=>?_)
  ·have c2:(↑(at_+1):Int)=2:=c2
   refine aa 0 ?_
   refine ar [2,2] (oK m p ws _ _) ?_
   refine ag 2 ?_
   refine .sched [15] (upto [15] 20 0) (by kernel_rfl) ?_
   refine aa 2 ?_
   refine aa 2 ?_
   refine aa 2 ?_
   refine aK [] (Jh _ _) ?_
   refine aj (fun c3=>?_) (fun c3=>?_)
   ·have c3:(↑(rm cap):Int)≤IntKind.i64.wrap (IntKind.u64.wrap (b-bV ws base)):=c3
    refine ag 2 ?_
    exact .pull [2] (.done (kH h ⟨base,cap,n,ok,true,at_+1,b,bV ws base,x⟩ ws rfl (by unfold fT;dsimp only;(repeat' split) <;> first | rfl | (exfalso;omega) | (simp_all;done) | (exfalso;simp_all [wr,wu,bY,cP];omega)) (by unfold fT;dsimp only;(repeat' split) <;> first | rfl | (exfalso;omega) | (simp_all [wr,wu,bY,cP];done) | (exfalso;simp_all [wr,wu,bY,cP];omega))))
   ·have c3:¬((↑(rm cap):Int)≤IntKind.i64.wrap (IntKind.u64.wrap (b-bV ws base))):=c3
    refine ag 2 ?_
    exact .pull [2] (.done (kH h ⟨base,cap,n,ok,false,at_+1,b,bV ws base,x⟩ ws rfl (by unfold fT;dsimp only;(repeat' split) <;> first | rfl | (exfalso;omega) | (simp_all;done) | (exfalso;simp_all [wr,wu,bY,cP];omega)) (by unfold fT;dsimp only;(repeat' split) <;> first | rfl | (exfalso;omega) | (simp_all [wr,wu,bY,cP];done) | (exfalso;simp_all [wr,wu,bY,cP];omega))))
  ·have c2:¬((↑(at_+1):Int)=2):=c2
   refine aa 0 ?_
   refine aj (fun c4=>?_) (fun c4=>?_)
   ·have c4:(↑(at_+1):Int)=3:=c4
    refine .sched [6] (upto [6] 12 0) (by kernel_rfl) ?_
    refine aa 0 ?_
    refine aK [] (I0 r k ⟨base,cap,n,ok,false,at_+1,b,t,x⟩ _ _ hb) ?_
    refine aa 0 ?_
    refine ar [2,2] (yY m p ws _ _ _) ?_
    exact .pull [2] (.done (kH h ⟨base,cap,n,ok,false,at_+1,b,t,x⟩ (fy ws (jN base cap b) n) rfl (by unfold fT;dsimp only;(repeat' split) <;> first | rfl | (exfalso;omega) | (simp_all;done) | (exfalso;simp_all [wr,wu,bY,cP];omega)) (by unfold fT;dsimp only;(repeat' split) <;> first | rfl | (exfalso;omega) | (simp_all;done) | (exfalso;simp_all [wr,wu,bY,cP];omega))))
   ·have c4:¬((↑(at_+1):Int)=3):=c4
    refine .sched [] (upto [] 12 0) (by kernel_rfl) ?_
    refine aa 0 ?_
    refine aa 0 ?_
    refine ar [2,2] (yY m p ws _ _ _) ?_
    refine ag 2 ?_
    refine ag 2 ?_
    exact .pull [2] (.done (kH h ⟨base,cap,n,true,true,at_+1,b,t,x⟩ (fy ws (IntKind.i64.wrap (base+1)) (IntKind.u64.wrap (b+1))) rfl (by unfold fT;dsimp only;(repeat' split) <;> first | rfl | (exfalso;omega) | (simp_all;done) | (exfalso;simp_all [wr,wu,bY,cP];omega)) (by unfold fT;dsimp only;(repeat' split) <;> first | rfl | (exfalso;omega) | (simp_all;done) | (exfalso;simp_all [wr,wu,bY,cP];omega))))
theorem ad8(r m p:Nat)(k base cap n b t x:Int)(ok:Bool)(at_:Nat)(ws:List Int)(σ:Hp)(_:at_≤1000)(hb:0≤b){q':DQ}{ws':List Int}{e:Bool}(h:dZ bF ⟨base,cap,n,ok,false,at_,b,t,x⟩ ws=(q',ws',e)):ACalls Tryz.prog 225 [.ptr r 0,.ptr m 0] ((r,jA k ⟨base,cap,n,ok,false,at_+1,b,t,x⟩)::bu m p ws σ) (aD (.tup []) ((r,jA k q')::bu m p ws' σ)):=by
 refine au Tryz.func225 ?_
 refine aa 0 ?_
 refine aj (fun c1=>?_) (fun c1=>?_)
 ·have c1:(↑(at_+1):Int)=1:=c1
  refine aa 0 ?_
  refine ar [2,2] (oK m p ws _ _) ?_
  refine ag 2 ?_
  exact .pull [2] (.done (kH h ⟨base,cap,n,ok,false,at_+1,IntKind.u64.wrap (bV ws (IntKind.i64.wrap (base+1))-1),t,x⟩ ws rfl (by unfold dZ;dsimp only;(repeat' split) <;> first | rfl | (exfalso;omega) | (simp_all;done) | (exfalso;simp_all [wr,wu,bY,cP];omega)) (by unfold dZ;dsimp only;(repeat' split) <;> first | rfl | (exfalso;omega) | (simp_all [wr,wu,bY,cP];done) | (exfalso;simp_all [wr,wu,bY,cP];omega))))
 ·have c1:¬((↑(at_+1):Int)=1):=c1
  refine aa 0 ?_
  refine aj (fun c2=>?_) (fun c2=>?_)
  ·have c2:(↑(at_+1):Int)=2:=c2
   refine .sched [] (upto [] 11 0) (by kernel_rfl) ?_
   refine aa 0 ?_
   refine aa 0 ?_
   refine ar [2,2] (yY m p ws _ _ _) ?_
   exact .pull [2] (.done (kH h ⟨base,cap,n,ok,false,at_+1,b,t,x⟩ (fy ws (IntKind.i64.wrap (base+1)) b) rfl (by unfold dZ;dsimp only;(repeat' split) <;> first | rfl | (exfalso;omega) | (simp_all;done) | (exfalso;simp_all [wr,wu,bY,cP];omega)) (by unfold dZ;dsimp only;(repeat' split) <;> first | rfl | (exfalso;omega) | (simp_all;done) | (exfalso;simp_all [wr,wu,bY,cP];omega))))
  ·have c2:¬((↑(at_+1):Int)=2):=c2
   refine aa 0 ?_
   refine aj (fun c3=>?_) (fun c3=>?_)
   ·have c3:(↑(at_+1):Int)=3:=c3
    refine aa 0 ?_
    refine ar [2,2] (oK m p ws _ _) ?_
    refine ag 2 ?_
    exact .pull [2] (.done (kH h ⟨base,cap,n,ok,false,at_+1,b,bV ws base,x⟩ ws rfl (by unfold dZ;dsimp only;(repeat' split) <;> first | rfl | (exfalso;omega) | (simp_all;done) | (exfalso;simp_all [wr,wu,bY,cP];omega)) (by unfold dZ;dsimp only;(repeat' split) <;> first | rfl | (exfalso;omega) | (simp_all [wr,wu,bY,cP];done) | (exfalso;simp_all [wr,wu,bY,cP];omega))))
   ·have c3:¬((↑(at_+1):Int)=3):=c3
    refine aa 0 ?_
    refine aj (fun c4=>?_) (fun c4=>?_)
    ·have c4:(↑(at_+1):Int)=4:=c4
     refine .quiet (by kernel_rfl) ?_
     refine aa 0 ?_
     refine aa 0 ?_
     refine aj (fun c5=>?_) (fun c5=>?_)
     ·have c5:IntKind.i64.wrap b<IntKind.i64.wrap t:=c5
      refine .sched [] (upto [] 12 0) (by kernel_rfl) ?_
      refine aa 0 ?_
      refine aa 0 ?_
      refine ar [2,2] (yY m p ws _ _ _) ?_
      refine ag 2 ?_
      exact .pull [2] (.done (kH h ⟨base,cap,n,ok,true,at_+1,b,t,x⟩ (fy ws (IntKind.i64.wrap (base+1)) (IntKind.u64.wrap (b+1))) rfl (by unfold dZ;dsimp only;(repeat' split) <;> first | rfl | (exfalso;omega) | (simp_all;done) | (exfalso;simp_all [wr,wu,bY,cP];omega)) (by unfold dZ;dsimp only;(repeat' split) <;> first | rfl | (exfalso;omega) | (simp_all;done) | (exfalso;simp_all [wr,wu,bY,cP];omega))))
     ·have c5:¬(IntKind.i64.wrap b<IntKind.i64.wrap t):=c5
      refine aa 0 ?_
      refine ar [] (I0 r k ⟨base,cap,n,ok,false,at_+1,b,t,x⟩ _ _ hb) ?_
      refine ar [2,2] (oK m p ws _ _) ?_
      refine ag 2 ?_
      refine .quiet (by kernel_rfl) ?_
      refine aa 2 ?_
      refine aa 2 ?_
      refine aj (fun c6=>?_) (fun c6=>?_)
      ·have c6:IntKind.i64.wrap t<IntKind.i64.wrap b:=c6
       refine aa 2 ?_
       refine ag 2 ?_
       refine ag 2 ?_
       refine ag 2 ?_
       exact .pull [2] (.done (kH h ⟨base,cap,bV ws (jN base cap b),true,true,at_+1,b,t,bV ws (jN base cap b)⟩ ws rfl (by unfold dZ;dsimp only;(repeat' split) <;> first | rfl | (exfalso;omega) | (simp_all;done) | (exfalso;simp_all [wr,wu,bY,cP];omega)) (by unfold dZ;dsimp only;(repeat' split) <;> first | rfl | (exfalso;omega) | (simp_all [wr,wu,bY,cP];done) | (exfalso;simp_all [wr,wu,bY,cP];omega))))
      ·have c6:¬(IntKind.i64.wrap t<IntKind.i64.wrap b):=c6
       exact .pull [2] (.done (kH h ⟨base,cap,n,ok,false,at_+1,b,t,bV ws (jN base cap b)⟩ ws rfl (by unfold dZ;dsimp only;(repeat' split) <;> first | rfl | (exfalso;omega) | (simp_all;done) | (exfalso;simp_all [wr,wu,bY,cP];omega)) (by unfold dZ;dsimp only;(repeat' split) <;> first | rfl | (exfalso;omega) | (simp_all [wr,wu,bY,cP];done) | (exfalso;simp_all [wr,wu,bY,cP];omega))))
    ·have c4:¬((↑(at_+1):Int)=4):=c4
     refine aa 0 ?_
     refine aj (fun c7=>?_) (fun c7=>?_)
     ·have c7:(↑(at_+1):Int)=5:=c7
      refine .sched [] (upto [] 21 0) (by kernel_rfl) ?_
      refine aa 0 ?_
      refine aa 0 ?_
      refine aa 0 ?_
      refine ar [2,2] (wZ m p ws 3 _ _ _ _) ?_
      refine ag 2 ?_
      exact .pull [2] (.done (kH h ⟨base,cap,n,cP ws 3 base t,false,at_+1,b,t,x⟩ (qH ws 3 base t (IntKind.u64.wrap (t+1))) rfl (by unfold dZ;dsimp only;(repeat' split) <;> first | rfl | (exfalso;omega) | (simp_all;done) | (exfalso;simp_all [wr,wu,bY,cP];omega)) (by unfold dZ;dsimp only;(repeat' split) <;> first | rfl | (exfalso;omega) | (simp_all;done) | (exfalso;simp_all [wr,wu,bY,cP];omega))))
     ·have c7:¬((↑(at_+1):Int)=5):=c7
      refine .sched [] (upto [] 12 0) (by kernel_rfl) ?_
      refine aa 0 ?_
      refine aa 0 ?_
      refine ar [2,2] (yY m p ws _ _ _) ?_
      refine ag 2 ?_
      refine eH.ij 2 _ _ rfl rfl (fun c8=>?_) (fun c8=>?_)
      ·refine aa 2 ?_
       refine ag 2 ?_
       exact .pull [2] (.done (kH h ⟨base,cap,x,ok,true,at_+1,b,t,x⟩ (fy ws (IntKind.i64.wrap (base+1)) (IntKind.u64.wrap (b+1))) rfl (by unfold dZ;dsimp only;(repeat' split) <;> first | rfl | (exfalso;omega) | (simp_all;done) | (exfalso;simp_all [wr,wu,bY,cP];omega)) (by unfold dZ;dsimp only;(repeat' split) <;> first | rfl | (exfalso;omega) | (simp_all;done) | (exfalso;simp_all [wr,wu,bY,cP];omega))))
      ·exact .pull [2] (.done (kH h ⟨base,cap,n,ok,true,at_+1,b,t,x⟩ (fy ws (IntKind.i64.wrap (base+1)) (IntKind.u64.wrap (b+1))) rfl (by unfold dZ;dsimp only;(repeat' split) <;> first | rfl | (exfalso;omega) | (simp_all;done) | (exfalso;simp_all [wr,wu,bY,cP];omega)) (by unfold dZ;dsimp only;(repeat' split) <;> first | rfl | (exfalso;omega) | (simp_all;done) | (exfalso;simp_all [wr,wu,bY,cP];omega))))
theorem aaA(r m p:Nat)(k base cap n b t x:Int)(ok:Bool)(at_:Nat)(ws:List Int)(σ:Hp)(_:at_≤1000)(hb:0≤t){q':DQ}{ws':List Int}{e:Bool}(h:fx bF ⟨base,cap,n,ok,false,at_,b,t,x⟩ ws=(q',ws',e)):ACalls Tryz.prog 226 [.ptr r 0,.ptr m 0] ((r,jA k ⟨base,cap,n,ok,false,at_+1,b,t,x⟩)::bu m p ws σ) (aD (.tup []) ((r,jA k q')::bu m p ws' σ)):=by
 refine au Tryz.func226 ?_
 refine aa 0 ?_
 refine aj (fun c1=>?_) (fun c1=>?_)
 ·have c1:(↑(at_+1):Int)=1:=c1
  refine aa 0 ?_
  refine ar [2,2] (oK m p ws _ _) ?_
  refine ag 2 ?_
  exact .pull [2] (.done (kH h ⟨base,cap,n,ok,false,at_+1,b,bV ws base,x⟩ ws rfl (by unfold fx;dsimp only;(repeat' split) <;> first | rfl | (exfalso;omega) | (simp_all;done) | (exfalso;simp_all [wr,wu,bY,cP];omega)) (by unfold fx;dsimp only;(repeat' split) <;> first | rfl | (exfalso;omega) | (simp_all [wr,wu,bY,cP];done) | (exfalso;simp_all [wr,wu,bY,cP];omega))))
 ·have c1:¬((↑(at_+1):Int)=1):=c1
  refine aa 0 ?_
  refine aj (fun c2=>?_) (fun c2=>?_)
  ·have c2:(↑(at_+1):Int)=2:=c2
   refine aa 0 ?_
   refine ar [2,2] (oK m p ws _ _) ?_
   refine ag 2 ?_
   refine .sched [] (upto [] 15 0) (by kernel_rfl) ?_
   refine aa 2 ?_
   refine aa 2 ?_
   refine aj (fun c3=>?_) (fun c3=>?_)
   ·have c3:IntKind.i64.wrap (bV ws (IntKind.i64.wrap (base+1)))≤IntKind.i64.wrap t:=c3
    refine ag 2 ?_
    exact .pull [2] (.done (kH h ⟨base,cap,n,ok,true,at_+1,bV ws (IntKind.i64.wrap (base+1)),t,x⟩ ws rfl (by unfold fx;dsimp only;(repeat' split) <;> first | rfl | (exfalso;omega) | (simp_all [wr,bY];done) | (exfalso;simp_all [wr,wu,bY,cP];omega)) (by unfold fx;dsimp only;(repeat' split) <;> first | rfl | (exfalso;omega) | (simp_all [wr,wu,bY,cP];done) | (exfalso;simp_all [wr,wu,bY,cP];omega))))
   ·have c3:¬(IntKind.i64.wrap (bV ws (IntKind.i64.wrap (base+1)))≤IntKind.i64.wrap t):=c3
    refine ag 2 ?_
    exact .pull [2] (.done (kH h ⟨base,cap,n,ok,false,at_+1,bV ws (IntKind.i64.wrap (base+1)),t,x⟩ ws rfl (by unfold fx;dsimp only;(repeat' split) <;> first | rfl | (exfalso;omega) | (simp_all [wr,bY];done) | (exfalso;simp_all [wr,bY];omega)) (by unfold fx;dsimp only;(repeat' split) <;> first | rfl | (exfalso;omega) | (simp_all [wr,wu,bY,cP];done) | (exfalso;simp_all [wr,wu,bY,cP];omega))))
  ·have c2:¬((↑(at_+1):Int)=2):=c2
   refine aa 0 ?_
   refine aj (fun c4=>?_) (fun c4=>?_)
   ·have c4:(↑(at_+1):Int)=3:=c4
    refine aa 0 ?_
    refine ar [] (I0 r k ⟨base,cap,n,ok,false,at_+1,b,t,x⟩ _ _ hb) ?_
    refine ar [2,2] (oK m p ws _ _) ?_
    refine ag 2 ?_
    exact .pull [2] (.done (kH h ⟨base,cap,n,ok,false,at_+1,b,t,bV ws (jN base cap t)⟩ ws rfl (by unfold fx;dsimp only;(repeat' split) <;> first | rfl | (exfalso;omega) | (simp_all;done) | (exfalso;simp_all [wr,wu,bY,cP];omega)) (by unfold fx;dsimp only;(repeat' split) <;> first | rfl | (exfalso;omega) | (simp_all [wr,wu,bY,cP];done) | (exfalso;simp_all [wr,wu,bY,cP];omega))))
   ·have c4:¬((↑(at_+1):Int)=3):=c4
    refine .sched [] (upto [] 21 0) (by kernel_rfl) ?_
    refine aa 0 ?_
    refine aa 0 ?_
    refine aa 0 ?_
    refine ar [2,2] (wZ m p ws 3 _ _ _ _) ?_
    refine ag 2 ?_
    refine ag 2 ?_
    refine eH.ij 2 _ _ rfl rfl (fun c5=>?_) (fun c5=>?_)
    ·refine aa 2 ?_
     refine ag 2 ?_
     exact .pull [2] (.done (kH h ⟨base,cap,x,cP ws 3 base t,true,at_+1,b,t,x⟩ (qH ws 3 base t (IntKind.u64.wrap (t+1))) rfl (by unfold fx;dsimp only;(repeat' split) <;> first | rfl | (exfalso;omega) | (simp_all [cP];done) | (exfalso;simp_all [wr,wu,bY,cP];omega)) (by unfold fx;dsimp only;(repeat' split) <;> first | rfl | (exfalso;omega) | (simp_all [cP];done) | (exfalso;simp_all [wr,wu,bY,cP];omega))))
    ·exact .pull [2] (.done (kH h ⟨base,cap,n,cP ws 3 base t,true,at_+1,b,t,x⟩ (qH ws 3 base t (IntKind.u64.wrap (t+1))) rfl (by unfold fx;dsimp only;(repeat' split) <;> first | rfl | (exfalso;omega) | (simp_all [cP];done) | (exfalso;simp_all [wr,wu,bY,cP];omega)) (by unfold fx;dsimp only;(repeat' split) <;> first | rfl | (exfalso;omega) | (simp_all [cP];done) | (exfalso;simp_all [wr,wu,bY,cP];omega))))
def oI(k:Int)(O:jz)(q:DQ)(a:O.A):DQ×O.A×Bool:=if k=1 then fT O q a else if k=2 then dZ O q a else fx O q a
def DQ.S9(q:DQ):Prop:=q.at_≤900∧0≤q.b∧0≤q.t
theorem yO{k:Int}{O:jz}{q:DQ}{a:O.A}(he:q.ended=false):(oI k O q a).2.2=(oI k O q a).1.ended:=by
 unfold oI fT dZ fx
 simp only[he]
 repeat' split
 all_goals first | rfl | simp_all
theorem yP(r m p:Nat)(k:Int)(q:DQ)(ws:List Int)(σ:Hp)(hq:q.S9){q':DQ}{ws':List Int}{e:Bool}(h:oI k bF q ws=(q',ws',e)):ACalls Tryz.prog 167 [.ptr r 0,.ptr m 0] ((r,jA k q)::bu m p ws σ) (aD (.bool q'.ended) ((r,jA k q')::bu m p ws' σ)):=by
 obtain⟨base,cap,n,ok,ended,at_,b,t,x⟩:=q
 obtain⟨h1,h2,h3⟩:=hq
 have h1:at_≤900:=h1
 have h2:0≤b:=h2
 have h3:0≤t:=h3
 have hw:IntKind.i64.wrap ((at_:Int)+1)=((at_+1:Nat):Int):=by rw[IntKind.wrap_i64];omega
 have hw':AV.int .i64 (IntKind.i64.wrap ((at_:Int)+1))=AV.int .i64 ((at_+1:Nat):Int):=by rw[hw]
 cases ended with
 |true=>
  have e1:q'=⟨base,cap,n,ok,true,at_,b,t,x⟩∧ws'=ws:=by
   unfold oI fT dZ fx at h
   simp only[if_true]at h
   repeat' split at h
   all_goals cases h;exact⟨rfl,rfl⟩
  obtain⟨rfl,rfl⟩:=e1
  refine au Tryz.func167 ?_
  refine aa 0 ?_
  exact .done ⟨rfl,rfl⟩
 |false=>
  have ec:([.int .i64 k,.int .i64 base,.int .i64 cap,.int .u64 n,.bool ok,.bool false,.int .i64 (IntKind.i64.wrap ((at_:Int)+1)),.int .u64 b,.int .u64 t,.int .u64 x]:List AV)=jA k ⟨base,cap,n,ok,false,at_+1,b,t,x⟩:=by unfold jA;rw[hw]
  have hp:k=1→∀σ,ACalls Tryz.prog 224 [.ptr r 0,.ptr m 0] ((r,[.int .i64 k,.int .i64 base,.int .i64 cap,.int .u64 n,.bool ok,.bool false,.int .i64 (IntKind.i64.wrap ((at_:Int)+1)),.int .u64 b,.int .u64 t,.int .u64 x])::bu m p ws σ) (aD (.tup []) ((r,jA k q')::bu m p ws' σ)):=fun e1 σ=>by
   rw[ec]
   exact abY r m p k base cap n b t x ok at_ ws σ (by omega) h2 (by rw[oI,az e1]at h;exact h)
  have ho:¬k=1→k=2→∀σ,ACalls Tryz.prog 225 [.ptr r 0,.ptr m 0] ((r,[.int .i64 k,.int .i64 base,.int .i64 cap,.int .u64 n,.bool ok,.bool false,.int .i64 (IntKind.i64.wrap ((at_:Int)+1)),.int .u64 b,.int .u64 t,.int .u64 x])::bu m p ws σ) (aD (.tup []) ((r,jA k q')::bu m p ws' σ)):=fun e1 e2 σ=>by
   rw[ec]
   exact ad8 r m p k base cap n b t x ok at_ ws σ (by omega) h2 (by rw[oI,aA e1,az e2]at h;exact h)
  have hs:¬k=1→¬k=2→∀σ,ACalls Tryz.prog 226 [.ptr r 0,.ptr m 0] ((r,[.int .i64 k,.int .i64 base,.int .i64 cap,.int .u64 n,.bool ok,.bool false,.int .i64 (IntKind.i64.wrap ((at_:Int)+1)),.int .u64 b,.int .u64 t,.int .u64 x])::bu m p ws σ) (aD (.tup []) ((r,jA k q')::bu m p ws' σ)):=fun e1 e2 σ=>by
   rw[ec]
   exact aaA r m p k base cap n b t x ok at_ ws σ (by omega) h3 (by rw[oI,aA e1,aA e2]at h;exact h)
  refine au Tryz.func167 ?_
  refine aa 0 ?_
  refine aa 0 ?_
  refine ag 0 ?_
  refine aa 0 ?_
  refine aj (fun c1=>?_) (fun c1=>?_)
  ·have c1:k=1:=c1
   refine ar [] (hp (by assumption) _) ?_
   (refine aW 0 rfl (show _=some (AV.bool q'.ended) from rfl) ?_;exact .done ⟨rfl,rfl⟩)
  ·have c1:¬(k=1):=c1
   refine aa 0 ?_
   refine aj (fun c2=>?_) (fun c2=>?_)
   ·have c2:k=2:=c2
    refine ar [] (ho (by assumption) (by assumption) _) ?_
    (refine aW 0 rfl (show _=some (AV.bool q'.ended) from rfl) ?_;exact .done ⟨rfl,rfl⟩)
   ·have c2:¬(k=2):=c2
    refine ar [] (hs (by assumption) (by assumption) _) ?_
    (refine aW 0 rfl (show _=some (AV.bool q'.ended) from rfl) ?_;exact .done ⟨rfl,rfl⟩)
end Go.Proofs.YtnikdflhefijbaaGreat
