import Derived.Test.YtnikdflhefijbaaGreatBn13
import Derived.Test.YtnikdflhefijbaaGreatBn7
import Derived.Test.YtnikdflhefijbaaGreatBn12
import Derived.Test.YtnikdflhefijbaaGreatBn11
import Derived.Test.YtnikdflhefijbaaGreatBn6
import Derived.Test.YtnikdflhefijbaaGreatBn10
namespace Go.Proofs.YtnikdflhefijbaaGreat
open Go.RowKit
set_option maxRecDepth 100000
theorem aeW{l:Lay}(h:2≤l.k∧l.k≤64):nK l≠0∧l.k≠0:=by
 unfold nK
 show IntKind.i64.wrap (l.k-1)≠0∧_
 rw[IntKind.wrap_i64]
 omega
theorem XG(l:Lay)(n:Int):qT l n=8∨qT l n=3:=by unfold qT;split;exact .inl rfl;exact .inr rfl
theorem XH(nx:List Int):kv nx=8∨(kv nx=5∧0<nx.tail.length):=by
 unfold kv;split
 ·exact .inl rfl
 ·exact .inr ⟨rfl,by omega⟩
theorem Yr(s:Sy)(node:Int):uD s node=8∨(uD s node=5∧0<(ar s.n s.aW node).length):=by
 unfold uD;split
 ·exact .inl rfl
 ·exact .inr ⟨rfl,by omega⟩
theorem WG(l:Lay):qQ l=2∨(qQ l=1∧2≤l.k):=by
 unfold qQ;split
 ·exact .inl rfl
 ·exact .inr ⟨rfl,by omega⟩
theorem Xr(l:Lay):um l=0∨(um l=1∧2≤l.k):=by
 unfold um;split
 ·exact .inl rfl
 ·exact .inr ⟨rfl,by omega⟩
theorem Pp{f:FuncId}{xs:List AV}{σ:Hp}{R R':AV→Hp→Prop}(h:ACalls Tryz.prog f xs σ R)(hR:∀r σ',R r σ'→∃(i k b:Nat) (cs:List AV) (e:Sh),σ'[i]?=some (b,cs)∧cs[k]?=some .aj∧R' r (σ'.set i (b,cs.set k (.af e [])))):ACalls Tryz.prog f xs σ R':=
 ⟨h.1,fun F w vs bS aF=>(h.2 F w vs bS aF).mono fun _ _ ⟨r,v,σ',F',h1,h2,h3,h4,h5⟩=>by
  obtain⟨i,k,b,cs,e,q1,q2,q3⟩:=hR r σ' h5
  exact⟨r,v,_,F',h1,h2,S5 h3 e q1 q2,h4,q3⟩⟩
def oJ:WS:=⟨0,0,false,0,.none,0,false,[],[]⟩
theorem ae0{s:Sy}{L:Lay}(h:iB s L.k=L)(he:dv s L.k=0):AV.tup [.agg (gV (iB s L.k)),.int .i64 (dv s L.k)]=.tup [.agg (gV L),.int .i64 0]:=by rw[h,he]
theorem aar(A:Lay):¬(!gB (tb (List.take 4 (List.drop 0 (ga [AV.int .i64 0,AV.int .i64 0,AV.int .i64 0,AV.int .i64 0] 0 (gV A)))) (List.take 4 (List.drop 0 (gV A)))))=true:=by
 show ¬(!gB [decide (A.what=A.what),decide (A.words=A.words),decide (A.n=A.n),decide (A.k=A.k)])=true
 simp[gB]
theorem aeC(s:Sy)(L:Lay)(who:Int)(σ:Hp)(hf:Fit s)(he:dv s L.k=0)(hL:iB s L.k=L)(h0:0≤who)(h1:who<L.k):ACalls Tryz.prog 100 [.agg (bU s),.agg (gV L),.int .i64 who] σ (fun r σ'=>∃w,r=.tup [.ptr w 0,.int .i64 0]∧σ'=WB s L who w 0 .aj [] oJ++σ):=by
 have hg:ACalls Tryz.prog 100 [.agg (bU s),.agg (gV L),.int .i64 who] σ (fun r σ'=>∃w,r=.tup [.ptr w 0,.int .i64 0]∧σ'=(w,[.int .i64 0,.int .i64 0,.bool false,.int .i64 s.what,.int .i64 s.w,.int .i64 s.n,.af dB s.aW,.af (.int .i64) s.entry,.af (.int .u64) s.init,.af kR s.T,.int .i64 L.what,.int .i64 L.words,.int .i64 L.n,.int .i64 L.k,.int .i64 who,.int .i64 0,.nilif,.int .i64 0,.bool false,.aj,.aj,.bool true])::σ):=by
  refine az Tryz.func100 ?_
  intro aG
  intro dw
  refine aa 1 ?_
  refine aa 0 ?_
  refine ay [] (x8 (Ho s L.k _ hf) (ae0 hL he)) ?_
  intro sN
  refine ai 0 ?_
  refine aa 0 ?_
  refine aa 1 ?_
  refine .mk (by kernel_rfl) (by kernel_rfl) ?_
  refine ew (fun c4=>?_) (fun c4=>?_)
  ·have c4:(!gB (tb (List.take 4 (List.drop 0 (ga [AV.int IntKind.i64 0,AV.int IntKind.i64 0,AV.int IntKind.i64 0,AV.int IntKind.i64 0] 0 (gV L)))) (List.take 4 (List.drop 0 (gV L)))))=true:=c4
   exact absurd c4 (aar L)
  ·have c4:(!gB (tb (List.take 4 (List.drop 0 (ga [AV.int IntKind.i64 0,AV.int IntKind.i64 0,AV.int IntKind.i64 0,AV.int IntKind.i64 0] 0 (gV L)))) (List.take 4 (List.drop 0 (gV L)))))=false:=c4
   refine aq (fun c5=>?_) (fun c5=>?_)
   ·have c5:who<0:=c5
    exact absurd c5 (by omega)
   ·have c5:¬(who<0):=c5
    refine aa 1 ?_
    refine aq (fun c6=>?_) (fun c6=>?_)
    ·have c6:L.k≤who:=c6
     exact absurd c6 (by omega)
    ·refine .sched [1] (upto [1] 8 0) (by kernel_rfl) ?_
     refine aa 2 ?_
     refine aL [] (Zw s _ hf) ?_
     refine aa 1 ?_
     intro bl7
     exact .drop 1 3 (.done ⟨_,rfl,rfl⟩)
 refine Pp (Pp hg (R':=fun r σ'=>∃w,r=.tup [.ptr w 0,.int .i64 0]∧σ'=(w,[.int .i64 0,.int .i64 0,.bool false,.int .i64 s.what,.int .i64 s.w,.int .i64 s.n,.af dB s.aW,.af (.int .i64) s.entry,.af (.int .u64) s.init,.af kR s.T,.int .i64 L.what,.int .i64 L.words,.int .i64 L.n,.int .i64 L.k,.int .i64 who,.int .i64 0,.nilif,.int .i64 0,.bool false,.af (.int .i64) ([]:List Int),.aj,.bool true])::σ) ?_) ?_
 ·rintro r σ' ⟨w,rfl,rfl⟩
  exact⟨0,19,w,_,.int .i64,rfl,rfl,w,rfl,rfl⟩
 ·rintro r σ' ⟨w,rfl,rfl⟩
  exact⟨0,20,w,_,.int .u64,rfl,rfl,w,rfl,rfl⟩
def py:Lay:=⟨1,1,1,1⟩
theorem agv(p q w r:Nat)(c:AV)(acc:Hp)(s:Sy)(l:Lay)(who:Int)(x:WS)(d:Int)(ws:List Int)(σ:Hp)(hf:Fit s)(hv:bc ws)(ok:MB l x)(rd:yN c acc x.now){x':WS}{ws':List Int}{b:Bool}(ao:dC bG s l who x d ws=(x',ws',b)):
  ACalls Tryz.prog 390 [.ptr w 0,mL p,.int .i64 d] (WB s l who w r c acc x++cd p q ws σ) (fun z σ'=>∃r c acc,yN c acc x'.now∧z=.bool b∧σ'=WB s l who w r c acc x'++cd p q ws' σ):=by
 refine (ael (yo p q) w r c acc s l who x d ws σ hf trivial (fun a=>GO hv a) ok rd).mono ?_
 rintro z σ' ⟨m',r,c,acc,h1,h2,rfl,rfl⟩
 have h2:m'=(dC bG s l who x d ws).2.1:=h2
 refine⟨r,c,acc,?_,?_,?_⟩
 ·have:=h1
  rw[show dC (yo p q).O s l who x d ((yo p q).abs ws)=dC bG s l who x d ws from rfl,ao]at this
  exact this
 ·rw[show dC (yo p q).O s l who x d ((yo p q).abs ws)=dC bG s l who x d ws from rfl,ao]
 ·rw[show dC (yo p q).O s l who x d ((yo p q).abs ws)=dC bG s l who x d ws from rfl,h2,ao]
  rfl
theorem KU{f:FuncId}{xs ys:List AV}{σ:Hp}{K:AV→Hp→Prop}(j b off len es:Nat)(cs:List AV)(e:Sh)(l:List e.T)(h1:σ[j]?=some (b,cs))(h2:(cs.drop off).take (len*es)=l.flatMap e.cells)(h3:l.length=len∧e.size=es∧0<es)(i k b':Nat)(cs':List AV)(hi:(σ.eraseIdx j)[i]?=some (b',cs'))(hk:cs'[k]?=some (.ae b off len es))(h4:eI b off len es e l (.tup xs) (.tup ys))(h:CallAt Tryz.prog f K ys ((σ.eraseIdx j).set i (b',cs'.set k (.af e l)))):CallAt Tryz.prog f K xs σ:=
 .mk [] K ⟨(x5 h).1,fun F w vs bS aF=>by
  obtain⟨ao,ot,hh⟩:=uF aF h1 h2 h3
  have hv:=xR ao hh h4 (.tuple vs) (.tup _ _ bS.1 bS.2)
  cases hv with
  |tup _ _ hs hr=>
   refine ((x5 h).2 _ w vs ⟨hs,hr⟩ (Cu ot hh hi hk)).mono ?_
   rintro e w' ⟨r,v,σ',F',rfl,q1,q2,q3,q4⟩
   exact⟨r,v,σ',F',rfl,ao.trans q1,q2,q3,q4⟩⟩ fun _ _ h=>h
theorem aaX{f:FuncId}{xs ys:List AV}{σ:Hp}{K:AV→Hp→Prop}(hr:eI 0 0 0 0 .bool [] (.tup xs) (.tup ys))(h:CallAt Tryz.prog f K ys σ):CallAt Tryz.prog f K xs σ:=.mk [] K (P9 hr (x5 h)) fun _ _ h=>h
theorem Q3{R:AV→Hp→Prop}{r:AV}(a:Hp){σ:Hp}(h:Fin R r σ):Fin R r (a++σ):=.drop 0 a.length (by rw[List.take_zero,ef,List.drop_left];exact h)
set_option maxHeartbeats 4000000
theorem Rs{ws:List Int}(h:bc ws)(a:Int){x:Int}(hx:bH x):bc (ig ws a x):=by
 unfold ig
 split
 ·exact h
 ·intro z hz
  rcases qH hz with hz | rfl
  ·exact h z hz
  ·exact hx
def fO(what w:Int)(i:Nat)(z:Int):Prop:=bH z∧(if what=3 then aK z=z else z.toNat<2 ^ min 64 (ej w-64*i))
theorem Xg(what w:Int)(i:Nat):fO what w i 0:=by
 refine⟨⟨by decide,by decide⟩,?_⟩
 split
 ·rfl
 ·exact Bw _
theorem BT{what w:Int}(h:what=1∨what=2∨what=3){i:Nat}{x y:Int}(hx:fO what w i x)(hy:fO what w i y):fO what w i (cT what x y):=by
 refine⟨SB hx.1 hy.1,?_⟩
 have ux:=hx.1
 have uy:=hy.1
 obtain⟨a,rfl⟩:=mu ux.1
 obtain⟨b,rfl⟩:=mu uy.1
 have ha:a<18446744073709551616:=by have:=ux.2;omega
 have hb:b<18446744073709551616:=by have:=uy.2;omega
 rcases h with rfl | rfl | rfl
 ·have h1:=hx.2
  have h2:=hy.2
  rw[ag (by decide)]at h1 h2 ⊢
  rw[show cT 1 (a:Int) b=bits .or .u64 (a:Int) b from rfl,sQ ha hb,bM]
  exact Ji h1 h2
 ·have h1:=hx.2
  rw[ag (by decide)]at h1 ⊢
  rw[show cT 2 (a:Int) b=bits .and .u64 (a:Int) b from rfl,qL ha hb,bM]
  exact zp EY h1
 ·rw[ah rfl]
  exact PW _ _
theorem FP{what w:Int}{a:List Int}(hi:cI what w=true):eu what w a↔((a.length:Int)=eH what w∧∀i,i<a.length→fO what w i (wd a i)):=by
 constructor
 ·intro ⟨hv,lV⟩
  refine⟨wH hv,fun i h=>⟨kW lV i,?_⟩⟩
  by_cases h3:what=3
  ·rw[ah h3]
   exact wM ((jO hi h3).1 hv).2 h
  ·rw[ag h3]
   have:=(pT hi h3).1 hv
   unfold gw at this
   rw[bR,fy]at this
   simpa using this.2 i (List.mem_range.2 h)
 ·intro ⟨hl,hk⟩
  have lV:bc a:=fun z hz=>by
   obtain⟨i,hi,rfl⟩:=xI.1 hz
   rw[← kS a hi];exact (hk i hi).1
  refine⟨?_,lV⟩
  by_cases h3:what=3
  ·subst h3
   refine (jO hi rfl).2 ⟨?_,ye.2 fun z hz=>?_⟩
   ·rw[hl];unfold eH;rw[ah hi,ah rfl]
   ·obtain⟨i,hi,rfl⟩:=xI.1 hz
    have:=(hk i hi).2
    rw[ah rfl,kS a hi]at this
    exact this
  ·refine (pT hi h3).2 ?_
   have ND:a.length=dV w:=by
    have:eH what w=(dV w:Int):=by unfold eH;rw[ah hi,ag h3]
    omega
   unfold gw
   rw[bR,fy]
   refine⟨by simpa using ND,fun i hi=>?_⟩
   have:=(hk i (gm.1 hi)).2
   rw[ag h3]at this
   simpa using this
structure LS(s:Sy)(l:Lay):Prop where
 fit:Fit s
 iS:Good s
 what:l.what=s.what
 words:l.words=eH s.what s.w
 n:l.n=s.n
 k1:1≤l.k
 k2:l.k≤64
abbrev nN(s:Sy):Nat:=s.n.toNat
abbrev nW(l:Lay):Nat:=cw l.words
theorem LS.nn{s:Sy}{l:Lay}(h:LS s l):s.n=(nN s:Int)∧1≤nN s∧nN s≤256:=by have:=h.iS.n1;have:=h.iS.n2;unfold nN;omega
theorem LS.ww{s:Sy}{l:Lay}(h:LS s l):l.words=(nW l:Int)∧nW l≤1024:=by
 have:=zN s.what s.w
 have:=h.words
 unfold nW cw;omega
theorem sW{N W v i:Nat}(hv:v<N)(hi:i<W):v*W+i<N*W:=by
 have:(v+1)*W≤N*W:=lY _ hv
 rw[qB]at this
 omega
theorem Sj{W u v i j:Nat}(hi:i<W)(hj:j<W)(h:u*W+i=v*W+j):u=v∧i=j:=by
 have h1:(u*W+i) / W=u:=by rw[Bt,Nat.mul_add_div (by omega),Nat.div_eq_of_lt hi,vO]
 have h2:(v*W+j) / W=v:=by rw[Bt,Nat.mul_add_div (by omega),Nat.div_eq_of_lt hj,vO]
 have h3:u=v:=by rw[← h1,← h2,h]
 subst h3
 exact⟨rfl,by omega⟩
theorem rW{N W:Nat}(hN:N≤256)(hW:W≤1024):N*W≤262144:=tS hN hW
theorem iM{z:Int}(h0:0≤z)(h1:z<9223372036854775808):wr z=z:=by
 show IntKind.i64.wrap z=z
 rw[IntKind.wrap_i64];omega
section
variable {s:Sy} {l:Lay} (hs:LS s l)
include hs
theorem LS.flags:cX l=((nN s*nW l:Nat):Int):=by
 have h1:=hs.nn
 have h2:=hs.ww
 have:=rW h1.2.2 h2.2
 unfold cX
 rw[hs.n,h1.1,h2.1,← EX]
 exact iM (by omega) (by omega)
theorem LS.count:du l=((nN s*nW l+nN s:Nat):Int):=by
 have h1:=hs.nn
 have h2:=hs.ww
 have:=rW h1.2.2 h2.2
 unfold du
 rw[hs.flags,hs.n,h1.1,tT]
 exact iM (by omega) (by omega)
theorem LS.room:eg l=((nN s+1:Nat):Int)∧rm (eg l)=nN s+1:=by
 have h1:=hs.nn
 have e:eg l=((nN s+1:Nat):Int):=by
  unfold eg
  rw[hs.n,h1.1,tT]
  exact iM (by omega) (by omega)
 refine⟨e,?_⟩
 rw[e];unfold rm;omega
theorem LS.w7{k:Nat}(hk:k≤64):iY l k=((nN s*nW l+nN s+1+k*(nN s+3):Nat):Int):=by
 have h1:=hs.nn
 have h2:=hs.ww
 have h3:=rW h1.2.2 h2.2
 have h4:k*(nN s+3)≤64*259:=tS hk (by omega)
 unfold iY
 rw[hs.count,hs.room.2,show ((k:Int)*((2+(nN s+1):Nat):Int))=((k*(nN s+3):Nat):Int) by rw[EX];congr 1;omega]
 rw[iM (z:=((k*(nN s+3):Nat):Int)) (by omega) (by omega),iM (z:=((nN s*nW l+nN s:Nat):Int)+1) (by omega) (by omega)]
 rw[show ((nN s*nW l+nN s:Nat):Int)+1+((k*(nN s+3):Nat):Int)=((nN s*nW l+nN s+1+k*(nN s+3):Nat):Int) by omega]
 exact iM (by omega) (by omega)
theorem LS.U2{v:Nat}(hv:v<nN s):aX l v=((v*nW l:Nat):Int):=by
 have h1:=hs.nn
 have h2:=hs.ww
 have h3:=rW h1.2.2 h2.2
 have h4:v*nW l≤nN s*nW l:=lY _ (by omega)
 unfold aX
 rw[h2.1,← EX]
 exact iM (by omega) (by omega)
theorem LS.AI{v i:Nat}(hv:v<nN s)(hi:i<nW l):wr (aX l v+(i:Nat))=((v*nW l+i:Nat):Int):=by
 have h1:=hs.nn
 have h2:=hs.ww
 have h3:=rW h1.2.2 h2.2
 have h4:=sW hv hi
 rw[hs.U2 hv,← tT]
 exact iM (by omega) (by omega)
theorem LS.AF{v:Nat}(hv:v<nN s):wr (cX l+(v:Nat))=((nN s*nW l+v:Nat):Int):=by
 have h1:=hs.nn
 have h2:=hs.ww
 have h3:=rW h1.2.2 h2.2
 rw[hs.flags,← tT]
 exact iM (by omega) (by omega)
theorem LS.uH:s.what=1∨s.what=2∨s.what=3:=by
 have:=hs.iS.sm
 unfold cI at this
 simp at this
 omega
end
structure MV(s:Sy)(l:Lay)(ws:List Int):Prop where
 a64:bc ws
 cells:∀v i,v<nN s→i<nW l→fO s.what s.w i (ws.getD (v*nW l+i) 0)
theorem j6{ws:List Int}{a b:Nat}{x:Int}:(ws.set a x).getD b 0=if a=b∧b<ws.length then x else ws.getD b 0:=by
 simp only[bg,e8]
 by_cases h:a=b
 ·subst h
  by_cases h2:a<ws.length
  ·simp[h2]
  ·simp[h2]
 ·simp[h]
theorem MV.zU{s:Sy}{l:Lay}{ws:List Int}(h:MV s l ws){a x:Int}(ha:((nN s*nW l:Nat):Int)≤a)(hx:bH x):MV s l (ig ws a x):=by
 refine⟨Rs h.a64 a hx,fun v i hv hi=>?_⟩
 have:=sW hv hi
 obtain⟨k,rfl⟩:=mu (show 0≤a by omega)
 rw[lC,j6,ag (by omega)]
 exact h.cells v i hv hi
theorem MV.Hh{s:Sy}{l:Lay}{ws:List Int}(h:MV s l ws){a o x:Int}(ha:((nN s*nW l:Nat):Int)≤a)(hx:bH x):MV s l (jb ws a o x):=by
 unfold jb;split
 ·exact h.zU ha hx
 ·exact h
theorem MV.Uq{s:Sy}{l:Lay}{ws:List Int}(h:MV s l ws){a x:Int}(ha:((nN s*nW l:Nat):Int)≤a):MV s l (ni ws a x):=by
 unfold ni;split
 ·exact h.zU ha (by unfold bH;omega)
 ·exact h
theorem MV.PA{s:Sy}{l:Lay}{ws:List Int}(h:MV s l ws){u j:Nat}{x:Int}(hj:j<nW l)(hx:fO s.what s.w j x):MV s l (ig ws ((u*nW l+j:Nat):Int) x):=by
 refine⟨Rs h.a64 _ hx.1,fun v i hv hi=>?_⟩
 rw[lC,j6]
 split
 ·rename_i he
  obtain⟨-,rfl⟩:=Sj hj hi he.1
  exact hx
 ·exact h.cells v i hv hi
theorem MV.aaW{s:Sy}{l:Lay}{ws:List Int}(h:MV s l ws){u j:Nat}{o x:Int}(hj:j<nW l)(hx:fO s.what s.w j x):MV s l (jb ws ((u*nW l+j:Nat):Int) o x):=by
 unfold jb;split
 ·exact h.PA hj hx
 ·exact h
theorem MV.load{s:Sy}{l:Lay}{ws:List Int}(h:MV s l ws){v i:Nat}(hv:v<nN s)(hi:i<nW l):fO s.what s.w i (gJ ws ((v*nW l+i:Nat):Int)):=by
 rw[nX];exact h.cells v i hv hi
structure DQ.w4(q:DQ)(m:Nat):Prop where
 at_:q.at_≤m
 b:bH q.b
 t:bH q.t
 n:bH q.n
 x:bH q.x
 en:q.ended=false
def yP(s:Sy)(l:Lay)(who does node:Int)(nx out:List Int):Nw→Prop
 |.none=>False
 |.pop q=>does=0∧q.w4 5∧q.base=iY l who∧q.cap=eg l
 |.cu q=>does=1∧q.w4 3∧(∃v:Nat,(v:Int)<l.k∧q.base=iY l v)∧q.cap=eg l∧q.ok=false
 |.quiet t=>does=2∧t=⟨cX l,du l,false,false⟩
 |.clear t=>does=3∧t=⟨cX l,du l,node,false⟩
 |.read y=>does=4∧(y.length<nW l∨(nW l=0∧y=[]))∧∀i,i<y.length→fO s.what s.w i (wd y i)
 |.join j=>does=5∧(j.base=aX l (nx.headD 0)∧j.what=l.what∧j.words=l.words∧j.a=out)∧j.ended=false∧j.at_≤nW l∧bH j.x∧(j.fu=true→j.at_<nW l∧fO s.what s.w j.at_ j.x)
 |.take t=>does=6∧∃jZ:Bool,t=⟨cX l,du l,nx.headD 0,jZ,false,jZ⟩
 |.push q=>does=7∧q.w4 3∧q.base=iY l who∧q.cap=eg l∧q.ok=false
 |.dU t=>does=8∧t=⟨cX l,du l,0,false⟩
def kept(l:Lay):Nw→Prop
 |.none | .quiet _ | .clear _ | .dU _=>False
 |.read y=>y.length<nW l
 |.join j=>j.at_<nW l
 |.take t=>t.jZ=true
 |_=>True
structure WV(s:Sy)(l:Lay)(who:Int)(x:WS):Prop where
 does:0≤x.does∧x.does≤8
 node:0≤x.node∧x.node<s.n
 nx:∀u∈x.nx,0≤u∧u<s.n
 head:x.does=5∨x.does=6∨x.does=7→0<x.nx.length
 out:x.does=5∨x.does=6∨x.does=7→eu s.what s.w x.out
 A9:x.does=1→2≤l.k
 now:x.now=.none∨(yP s l who x.does x.node x.nx x.out x.now∧kept l x.now)
theorem wv0{s:Sy}{l:Lay}(hs:LS s l)(who:Int):WV s l who oJ:=
 ⟨by decide,⟨kq _,hs.iS.n1⟩,fun u hu=>(Bx hu).elim,fun h=>absurd h (by decide),fun h=>absurd h (by decide),fun h=>absurd h (by decide),.inl rfl⟩
theorem WV.ok{s:Sy}{l:Lay}(hs:LS s l){who:Int}{x:WS}(h:WV s l who x):MB l x:=by
 refine⟨h.head,fun h1=>aeW ⟨h.A9 h1,hs.k2⟩,?_⟩
 have hh:=h.head
 rcases h.now with h0 | ⟨h1,h2⟩
 ·rw[h0];trivial
 ·cases hn:x.now with
  |none=>trivial
  |pop q=>rw[hn]at h1;exact⟨h1.2.1.at_,h1.2.1.b.1⟩
  |cu q=>rw[hn]at h1;exact⟨h1.2.1.at_,h1.2.1.t.1⟩
  |quiet q=>trivial
  |clear q=>trivial
  |read y=>
   rw[hn]at h1
   refine⟨h1.2.1,fun z hz=>?_⟩
   obtain⟨i,hi,rfl⟩:=xI.1 hz
   rw[← kS y hi];exact (h1.2.2 i hi).1
  |join j=>rw[hn]at h1;have:=hs.ww.2;exact⟨by have:=h1.2.2.2.1;omega,hh (.inl h1.1)⟩
  |take t=>rw[hn]at h1;exact hh (.inr (.inl h1.1))
  |push q=>rw[hn]at h1;exact⟨⟨h1.2.1.at_,h1.2.1.b.1⟩,hh (.inr (.inr h1.1))⟩
  |dU t=>trivial
theorem LS.aff{s:Sy}{l:Lay}(hs:LS s l){k:Nat}(hk:k≤64):((nN s*nW l:Nat):Int)≤iY l k∧((nN s*nW l:Nat):Int)≤gK (iY l k)∧∀i,((nN s*nW l:Nat):Int)≤lE (iY l k) (eg l) i:=by
 have h1:=hs.nn
 have h2:=hs.ww
 have h3:=rW h1.2.2 h2.2
 have h4:k*(nN s+3)≤64*259:=tS hk (by omega)
 have hd:=hs.w7 hk
 refine⟨by omega,?_,fun i=>?_⟩
 ·unfold gK;rw[hd,iM (by omega) (by omega)];omega
 ·unfold lE
  rw[hs.room.2]
  have hm:=Ja i (show ((nN s+1:Nat):Int)≠0 by omega)
  have tK:=Jk i (show (0:Int)<((nN s+1:Nat):Int) by omega)
  rw[hd,iM (z:=((nN s*nW l+nN s+1+k*(nN s+3):Nat):Int)+2) (by omega) (by omega),iM (z:=i % _) hm (by omega),iM (by omega) (by omega)]
  omega
theorem Ar(n:Int):bH (wu n):=Cy n
section
variable {s:Sy} {l:Lay} {ws ws':List Int} {q q':DQ} {b:Bool}
theorem Yw(hw:MV s l ws)(hq:q.w4 5)(hb:((nN s*nW l:Nat):Int)≤gK q.base)(h0:((nN s*nW l:Nat):Int)≤q.base)(h:fp bG q ws=(q',ws',b)):MV s l ws'∧ws'.length=ws.length∧q'.base=q.base∧q'.cap=q.cap∧bH q'.n∧(b=false→q'.w4 5):=by
 obtain⟨base,cap,n,ok,ended,at_,bb,t,x⟩:=q
 obtain⟨h1,h2,h3,h4,h5,h6⟩:=hq
 have l1:=fun a=>GO hw.a64 a
 have s1:=fun {a} {x} (ha:((nN s*nW l:Nat):Int)≤a) (hx:bH x)=>hw.zU ha hx
 have c1:=fun {a} {o} {x} (ha:((nN s*nW l:Nat):Int)≤a) (hx:bH x)=>hw.Hh (o:=o) ha hx
 dsimp only at *
 subst h6
 unfold fp at h
 dsimp only at h
 repeat' split at h
 all_goals
  cases h
  refine⟨?_,?_,rfl,rfl,?_,fun hb=>?_⟩
 all_goals first
  |contradiction
  |assumption
  |rfl
  |exact zD _ _ _
  |exact vX _ _ _ _
  |exact s1 hb h2
  |exact s1 hb (Ar _)
  |exact c1 h0 (Ar _)
  |exact l1 _
  |(dsimp only;split <;> assumption)
  |exact⟨by dsimp only;omega,by first | assumption | exact l1 _ | exact Ar _,by first | assumption | exact l1 _,by first | assumption | exact l1 _,by first | assumption | exact l1 _,rfl⟩
theorem Wo(hw:MV s l ws)(hq:q.w4 3)(h0:((nN s*nW l:Nat):Int)≤q.base)(hk:q.ok=false)(h:gF bG q ws=(q',ws',b)):MV s l ws'∧ws'.length=ws.length∧q'.base=q.base∧q'.cap=q.cap∧bH q'.n∧(b=false→q'.w4 3∧q'.ok=false):=by
 obtain⟨base,cap,n,ok,ended,at_,bb,t,x⟩:=q
 obtain⟨h1,h2,h3,h4,h5,h6⟩:=hq
 have l1:=fun a=>GO hw.a64 a
 have c1:=fun {a} {o} {x} (ha:((nN s*nW l:Nat):Int)≤a) (hx:bH x)=>hw.Hh (o:=o) ha hx
 dsimp only at *
 subst h6;subst hk
 unfold gF at h
 dsimp only at h
 repeat' split at h
 all_goals
  cases h
  refine⟨?_,?_,rfl,rfl,?_,fun hb=>?_⟩
 all_goals first
  |contradiction
  |assumption
  |rfl
  |exact zD _ _ _
  |exact vX _ _ _ _
  |exact c1 h0 (Ar _)
  |exact l1 _
  |exact⟨⟨by dsimp only;omega,by first | assumption | exact l1 _,by first | assumption | exact l1 _,by first | assumption | exact l1 _,by first | assumption | exact l1 _,rfl⟩,rfl⟩
theorem Xs(hw:MV s l ws)(hq:q.w4 3)(hb:((nN s*nW l:Nat):Int)≤gK q.base)(hp:∀i,((nN s*nW l:Nat):Int)≤lE q.base q.cap i)(hk:q.ok=false)(h:gu bG q ws=(q',ws',b)):MV s l ws'∧ws'.length=ws.length∧q'.base=q.base∧q'.cap=q.cap∧bH q'.n∧(b=false→q'.w4 3∧q'.ok=false):=by
 obtain⟨base,cap,n,ok,ended,at_,bb,t,x⟩:=q
 obtain⟨h1,h2,h3,h4,h5,h6⟩:=hq
 have l1:=fun a=>GO hw.a64 a
 have s1:=fun {a} {x} (ha:((nN s*nW l:Nat):Int)≤a) (hx:bH x)=>hw.zU ha hx
 dsimp only at *
 subst h6;subst hk
 unfold gu at h
 dsimp only at h
 repeat' split at h
 all_goals
  cases h
  refine⟨?_,?_,rfl,rfl,?_,fun hb=>?_⟩
 all_goals first
  |contradiction
  |assumption
  |rfl
  |exact zD _ _ _
  |exact vX _ _ _ _
  |exact s1 hb (Ar _)
  |exact s1 (hp _) h4
  |exact l1 _
  |exact⟨⟨by dsimp only;omega,by first | assumption | exact l1 _,by first | assumption | exact l1 _,by first | assumption | exact l1 _,by first | assumption | exact l1 _,rfl⟩,rfl⟩
end
theorem TL{y:List Int}{z:Int}{i:Nat}:wd (y++[z]) i=if i<y.length then wd y i else if i=y.length then z else 0:=by
 unfold wd
 rw[List.getElem?_append]
 by_cases h:i<y.length
 ·rw[ah h,ah h]
 ·rw[ag h,ag h]
  by_cases h2:i=y.length
  ·subst h2;simp
  ·rw[ag h2,tZ (by show 1≤_;omega)];rfl
theorem Xq{s:Sy}{l:Lay}{ws ws':List Int}{y y':List Int}{b:Bool}(hs:LS s l)(hw:MV s l ws){v:Nat}(hv:v<nN s)(hy:y.length<nW l∨(nW l=0∧y=[]))(hk:∀i,i<y.length→fO s.what s.w i (wd y i))(h:mB bG l (aX l v) y ws=(y',ws',b)):ws'=ws∧(∀i,i<y'.length→fO s.what s.w i (wd y' i))∧(b=false→y'.length<nW l)∧(b=true→eu s.what s.w y'):=by
 have qv:=hs.ww
 unfold mB at h
 split at h
 ·rename_i ab
  have ab:y.length<nW l:=ab
  cases h
  have e:∀i,i<(y++[(bG.ld ws (wr (aX l v+(y.length:Nat)))).1]).length→fO s.what s.w i (wd (y++[(bG.ld ws (wr (aX l v+(y.length:Nat)))).1]) i):=fun i hi=>by
   rw[bP]at hi
   have hi:i<y.length+1:=hi
   rw[TL]
   by_cases h1:i<y.length
   ·rw[ah h1];exact hk i h1
   ·obtain rfl:i=y.length:=by omega
    rw[ag h1,ah rfl]
    show fO _ _ _ (gJ ws _)
    rw[hs.AI hv ab]
    exact hw.load hv ab
  refine⟨rfl,e,fun hb=>?_,fun hb=>?_⟩
  ·have hb:¬y.length+1=nW l:=pO hb
   rw[bP];show y.length+1<_;omega
  ·have hb:y.length+1=nW l:=fA hb
   refine (FP hs.iS.sm).2 ⟨?_,e⟩
   rw[← hs.words,qv.1,bP];show ((y.length+1:Nat):Int)=_;omega
 ·rename_i ab
  obtain⟨h1,h2⟩:=Prod.mk.inj h
  obtain⟨h2,h3⟩:=Prod.mk.inj h2
  subst h1;subst h2;subst h3
  have h0:nW l=0∧y=[]:=by
   rcases hy with h | h
   ·exact absurd h ab
   ·exact h
  refine⟨rfl,hk,fun hb=>(by cases hb),fun _=>?_⟩
  refine (FP hs.iS.sm).2 ⟨?_,hk⟩
  rw[← hs.words,qv.1,h0.1,h0.2];rfl
theorem XA{s:Sy}{l:Lay}{ws ws':List Int}{j j':Jn}{b:Bool}(hs:LS s l)(hw:MV s l ws){u:Nat}(hu:u<nN s)(HD:j.base=aX l u)(aeY:j.what=l.what)(ae3:j.words=l.words)(ha:eu s.what s.w j.a)(lf:j.ended=false)(cx:j.at_≤nW l)(hx:bH j.x)(hl:j.fu=true→j.at_<nW l∧fO s.what s.w j.at_ j.x)(h:iA bG j ws=(j',ws',b)):
  MV s l ws'∧ws'.length=ws.length∧(j'.base=j.base∧j'.what=j.what∧j'.words=j.words∧j'.a=j.a)∧(b=false→j'.ended=false∧j'.at_<nW l∧bH j'.x∧(j'.fu=true→fO s.what s.w j'.at_ j'.x)):=by
 obtain⟨base,what,words,a,changed,ended,tries,at_,fu,x⟩:=j
 dsimp only at *
 subst HD;subst lf;subst aeY;subst ae3
 have qv:=hs.ww
 have sq:∀i,i<nW l→fO s.what s.w i (wd a i):=fun i hi=>by
  have:=(FP hs.iS.sm).1 ha
  refine this.2 i ?_
  have h2:=this.1
  rw[← hs.words,qv.1]at h2
  omega
 unfold iA at h
 dsimp only at h
 split at h
 ·contradiction
 split at h
 ·cases h
  exact⟨hw,rfl,⟨rfl,rfl,rfl,rfl⟩,fun hb=>by cases hb⟩
 rename_i MP
 have ab:at_<nW l:=by have:¬at_=nW l:=MP;omega
 have hA:=hs.AI hu ab
 have Bj:fO s.what s.w at_ (gJ ws (wr (aX l u+(at_:Nat)))):=by rw[hA];exact hw.load hu ab
 rw[hs.what]at h
 split at h
 ·rename_i ag3
  have ir:=(hl ag3).2
  have IL:=BT hs.uH ir (sq at_ ab)
  have hM:∀o,MV s l (jb ws (wr (aX l u+(at_:Nat))) o (cT s.what x (wd a at_))):=fun o=>by rw[hA];exact hw.aaW ab IL
  split at h
  ·unfold gQ at h
   dsimp only at h
   split at h
   ·rename_i hn
    cases h
    exact⟨hM _,vX _ _ _ _,⟨rfl,hs.what.symm,rfl,rfl⟩,fun _=>⟨rfl,hn,hx,fun hc=>by cases hc⟩⟩
   ·cases h
    exact⟨hM _,vX _ _ _ _,⟨rfl,hs.what.symm,rfl,rfl⟩,fun hb=>by cases hb⟩
  ·cases h
   exact⟨hM _,vX _ _ _ _,⟨rfl,hs.what.symm,rfl,rfl⟩,fun _=>⟨rfl,ab,hx,fun hc=>by cases hc⟩⟩
 ·split at h
  ·unfold gQ at h
   dsimp only at h
   split at h
   ·rename_i hn
    cases h
    exact⟨hw,rfl,⟨rfl,hs.what.symm,rfl,rfl⟩,fun _=>⟨rfl,hn,Bj.1,fun hc=>absurd hc (by assumption)⟩⟩
   ·cases h
    exact⟨hw,rfl,⟨rfl,hs.what.symm,rfl,rfl⟩,fun hb=>by cases hb⟩
  ·cases h
   exact⟨hw,rfl,⟨rfl,hs.what.symm,rfl,rfl⟩,fun _=>⟨rfl,ab,Bj.1,fun _=>Bj⟩⟩
def VE(s:Sy)(does:Int):Nw→Prop
 |.none=>False
 |.pop q=>bH q.n
 |.cu q=>bH q.n
 |.read y=>eu s.what s.w y
 |.join _=>does=5
 |.take _=>does=6
 |.push _=>does=7
 |_=>True
theorem Ln{nx:List Int}{n:Int}(h:∀u∈nx,0≤u∧u<n)(h0:0<nx.length):∃u:Nat,nx.headD 0=u∧(u:Int)<n:=by
 cases nx with
 |nil=>cases h0
 |cons u r=>
  have:=h u (ck ..)
  exact⟨u.toNat,by show u=_;omega,by omega⟩
theorem YG{s:Sy}{l:Lay}{ws ws':List Int}{who does node:Int}{nx out:List Int}{n n':Nw}{b:Bool}(hs:LS s l)(hw:MV s l ws)(r9:0≤who∧who<l.k)(qd:0≤node∧node<s.n)(cQ:∀u∈nx,0≤u∧u<s.n)(hh:does=5∨does=6∨does=7→0<nx.length)(ho:does=5∨does=6∨does=7→eu s.what s.w out)
  (hb:yP s l who does node nx out n) (h:gb bG l node n ws=(n',ws',b)):MV s l ws'∧ws'.length=ws.length∧(b=false→yP s l who does node nx out n'∧kept l n')∧(b=true→VE s does n'):=by
 have dX:=hs.k2
 have hd:∀k:Nat,(k:Int)<l.k→((nN s*nW l:Nat):Int)≤iY l k∧((nN s*nW l:Nat):Int)≤gK (iY l k)∧∀i,((nN s*nW l:Nat):Int)≤lE (iY l k) (eg l) i:=fun k hk=>hs.aff (by omega)
 obtain⟨me,rfl⟩:=mu r9.1
 obtain⟨v,rfl⟩:=mu qd.1
 have hv:v<nN s:=by have:=hs.nn;omega
 have IQ:=hd me r9.2
 cases n with
 |none=>exact hb.elim
 |pop q=>
  obtain⟨q',a',b',ao⟩:∃q' a' b',fp bG q ws=(q',a',b'):=⟨_,_,_,rfl⟩
  rw[uE ao]at h
  cases h
  obtain⟨h1,h2,h3,h4⟩:=hb
  obtain⟨k1,k2,k3,k4,k5,k6⟩:=Yw hw h2 (by rw[h3];exact IQ.2.1) (by rw[h3];exact IQ.1) ao
  exact⟨k1,k2,fun hb=>⟨⟨h1,k6 hb,k3.trans h3,k4.trans h4⟩,trivial⟩,fun _=>k5⟩
 |cu q=>
  obtain⟨q',a',b',ao⟩:∃q' a' b',gF bG q ws=(q',a',b'):=⟨_,_,_,rfl⟩
  rw[uh ao]at h
  cases h
  obtain⟨h1,h2,⟨k,hk,h3⟩,h4,h5⟩:=hb
  obtain⟨k1,k2,k3,k4,k5,k6⟩:=Wo hw h2 (by rw[h3];exact (hd k hk).1) h5 ao
  exact⟨k1,k2,fun hb=>⟨⟨h1,(k6 hb).1,⟨k,hk,k3.trans h3⟩,k4.trans h4,(k6 hb).2⟩,trivial⟩,fun _=>k5⟩
 |quiet t=>
  obtain⟨h1,rfl⟩:=hb
  cases h
  exact⟨hw,rfl,fun hb=>(by cases hb),fun _=>trivial⟩
 |clear t=>
  obtain⟨h1,rfl⟩:=hb
  cases h
  refine⟨?_,?_,fun hb=>(by cases hb),fun _=>trivial⟩
  ·show MV s l (if 0≤(v:Int) then ig ws (wr (cX l+(v:Nat))) 0 else ws)
   rw[ah (by omega),hs.AF hv]
   exact hw.zU (by omega) (by unfold bH;omega)
  ·show (if 0≤(v:Int) then ig ws (wr (cX l+(v:Nat))) 0 else ws).length=_
   rw[ah (by omega)];exact zD _ _ _
 |read y=>
  obtain⟨y',a',b',ao⟩:∃y' a' b',mB bG l (aX l v) y ws=(y',a',b'):=⟨_,_,_,rfl⟩
  rw[yf ao]at h
  cases h
  obtain⟨h1,h2,h3⟩:=hb
  obtain⟨rfl,k2,k3,k4⟩:=Xq hs hw hv h2 h3 ao
  exact⟨hw,rfl,fun hb=>⟨⟨h1,.inl (k3 hb),k2⟩,k3 hb⟩,fun hb=>k4 hb⟩
 |join j=>
  obtain⟨j',a',b',ao⟩:∃j' a' b',iA bG j ws=(j',a',b'):=⟨_,_,_,rfl⟩
  rw[ur ao]at h
  cases h
  obtain⟨h1,⟨h2,h3,h4,h5⟩,h6,h7,h8,h9⟩:=hb
  obtain⟨u,hu,fm⟩:=Ln cQ (hh (.inl h1))
  obtain⟨k1,k2,⟨k3,k4,k5,k6⟩,k7⟩:=XA hs hw (u:=u) (by have:=hs.nn;omega) (by rw[h2,hu]) h3 h4 (by rw[h5];exact ho (.inl h1)) h6 h7 h8 h9 ao
  refine⟨k1,k2,fun hb=>?_,fun _=>h1⟩
  obtain⟨m1,m2,m3,m4⟩:=k7 hb
  exact⟨⟨h1,⟨k3.trans h2,k4.trans h3,k5.trans h4,k6.trans h5⟩,m1,Nat.le_of_lt m2,m3,fun hc=>⟨m2,m4 hc⟩⟩,m2⟩
 |take t=>
  obtain⟨h1,jZ,rfl⟩:=hb
  obtain⟨u,hu,fm⟩:=Ln cQ (hh (.inr (.inl h1)))
  have Bf:u<nN s:=by have:=hs.nn;omega
  rw[hu]at h
  have gl:((nN s*nW l:Nat):Int)≤wr (cX l+(u:Nat)):=by rw[hs.AF Bf];omega
  have NM:((nN s*nW l:Nat):Int)≤du l:=by rw[hs.count];omega
  cases jZ with
  |true=>
   cases h
   exact⟨hw.Uq NM,OV _ _ _,fun hb=>(by cases hb),fun _=>h1⟩
  |false=>
   obtain⟨t',a',b',ao⟩:∃t' a' b',kT bG ⟨cX l,du l,(u:Nat),false,false,false⟩ ws=(t',a',b'):=⟨_,_,_,rfl⟩
   rw[uq ao]at h
   cases h
   unfold kT at ao
   dsimp only at ao
   rw[ag (by decide),ag (by decide),ah (by omega)]at ao
   split at ao
   ·cases ao
    exact⟨hw.Hh gl (by unfold bH;omega),vX _ _ _ _,fun _=>⟨⟨h1,true,by rw[hu]⟩,rfl⟩,fun hb=>(by cases hb)⟩
   ·cases ao
    exact⟨hw.Hh gl (by unfold bH;omega),vX _ _ _ _,fun hb=>(by cases hb),fun _=>h1⟩
 |push q=>
  obtain⟨q',a',b',ao⟩:∃q' a' b',gu bG q ws=(q',a',b'):=⟨_,_,_,rfl⟩
  rw[CH ao]at h
  cases h
  obtain⟨h1,h2,h3,h4,h5⟩:=hb
  obtain⟨k1,k2,k3,k4,k5,k6⟩:=Xs hw h2 (by rw[h3];exact IQ.2.1) (by rw[h3,h4];exact IQ.2.2) h5 ao
  exact⟨k1,k2,fun hb=>⟨⟨h1,(k6 hb).1,k3.trans h3,k4.trans h4,(k6 hb).2⟩,trivial⟩,fun _=>h1⟩
 |dU t=>
  obtain⟨h1,rfl⟩:=hb
  cases h
  have NM:((nN s*nW l:Nat):Int)≤du l:=by rw[hs.count];omega
  exact⟨hw.Uq NM,OV _ _ _,fun hb=>(by cases hb),fun _=>trivial⟩
theorem zS:bH 0:=by unfold bH;omega
theorem LL(base cap n:Int)(m:Nat)(h:bH n):(ua base cap n).w4 m:=⟨bD _,zS,zS,h,zS,rfl⟩
theorem abL{d n:Int}(hn:0<n): -n<d.tmod n∧d.tmod n<n:=⟨by have:=Jo (-d) hn;rw[Int.neg_tmod]at this;omega,Jo _ hn⟩
theorem Qn{s:Sy}{l:Lay}(hs:LS s l){who:Int}(r9:0≤who∧who<l.k)(h2:2≤l.k)(d:Int):∃v:Nat,Cz l who d=v∧(v:Int)<l.k:=by
 have dX:=hs.k2
 have hnk:nK l=l.k-1:=iM (by omega) (by omega)
 have h1:=abL (d:=d) (n:=l.k-1) (by omega)
 unfold Cz
 rw[hnk]
 generalize d.tmod (l.k-1)=a at h1
 rw[iM (z:=a+(l.k-1)) (by omega) (by omega),iM (z:=who+1) (by omega) (by omega)]
 have h3:0≤(a+(l.k-1)).tmod (l.k-1):=Int.tmod_nonneg _ (by omega)
 have h4:=Jo (a+(l.k-1)) (show 0<l.k-1 by omega)
 generalize (a+(l.k-1)).tmod (l.k-1)=c at h3 h4
 rw[iM (by omega) (by omega)]
 have h5:0≤(who+1+c).tmod l.k:=Int.tmod_nonneg _ (by omega)
 have h6:=Jo (who+1+c) (show 0<l.k by omega)
 exact⟨_,(lZ h5).symm,by omega⟩
theorem S4{s:Sy}{l:Lay}{who:Int}{x:WS}{d:Int}(hs:LS s l)(r9:0≤who∧who<l.k)(h:WV s l who x):yP s l who x.does x.node x.nx x.out (ku l who x d):=by
 have hd:=h.does
 have hw:=hs.ww
 rcases h.now with h0 | h0
 ·unfold ku
  rw[h0]
  show yP s l who x.does x.node x.nx x.out (iT l who x.does x.node x.nx x.out d)
  unfold iT
  repeat' split
  ·exact⟨by assumption,LL _ _ _ _ (by unfold bH;omega),rfl,rfl⟩
  ·rename_i h1
   obtain⟨v,hv,hvk⟩:=Qn hs r9 (h.A9 h1) d
   exact⟨h1,LL _ _ _ _ (by unfold bH;omega),⟨v,hvk,by rw[← hv];rfl⟩,rfl,rfl⟩
  ·exact⟨by assumption,rfl⟩
  ·exact⟨by assumption,rfl⟩
  ·refine⟨by assumption,?_,fun i hi=>absurd hi (nR _)⟩
   rcases tW (nW l) with h | h
   ·exact .inr ⟨h,rfl⟩
   ·exact .inl h
  ·exact⟨by assumption,⟨rfl,rfl,rfl,rfl⟩,rfl,bD _,zS,fun hc=>by cases hc⟩
  ·exact⟨by assumption,false,rfl⟩
  ·exact⟨by assumption,LL _ _ _ _ (Ar _),rfl,rfl,rfl⟩
  ·exact⟨by omega,rfl⟩
 ·unfold ku
  split
  ·rename_i hn;rw[hn]at h0;exact h0.1.elim
  ·exact h0.1
theorem Ub{s:Sy}{l:Lay}(hs:LS s l){n:Int}(h:bH n):0≤o7 l n∧o7 l n<s.n:=by
 have hn:=hs.nn
 have e:wu l.n=s.n:=by
  show IntKind.u64.wrap l.n=_
  rw[IntKind.wrap_u64,hs.n];omega
 unfold o7
 rw[e]
 split
 ·omega
 ·rw[iM h.1 (by omega)]
  exact⟨h.1,by omega⟩
theorem p8{s:Sy}{l:Lay}{who:Int}{x:WS}(h0:x.now=.none)(h1:0≤x.does∧x.does≤8)(h2:0≤x.node∧x.node<s.n)(h3:∀u∈x.nx,0≤u∧u<s.n)(h4:x.does=5∨x.does=6∨x.does=7→0<x.nx.length∧eu s.what s.w x.out)(h5:x.does=1→2≤l.k):WV s l who x:=
 ⟨h1,h2,h3,fun h=>(h4 h).1,fun h=>(h4 h).2,h5,.inl h0⟩
theorem aee{s:Sy}{l:Lay}{who:Int}{x:WS}{n:Nw}(hs:LS s l)(h:WV s l who x)(he:VE s x.does n):WV s l who (ek s l x n):=by
 have g:=fun n=>XG l n
 have f:=XH x.nx
 have r:=Yr s x.node
 have no:=WG l
 have qu:=Xr l
 have IM:∀u∈x.nx.tail,0≤u∧u<s.n:=fun u hu=>h.nx u (List.mem_of_mem_tail hu)
 cases n with
 |none=>exact he.elim
 |pop q=>
  have g:=g q.n
  by_cases hq:q.ok=true
  ·rw[show ek s l x (.pop q)=⟨x.ev,x.jo,x.en,qT l q.n,.none,o7 l q.n,true,x.nx,x.out⟩ from ah hq]
   exact p8 rfl (by dsimp only;omega) (Ub hs he) h.nx (fun h=>by dsimp only at h;omega) (fun h=>by dsimp only at h;omega)
  ·rw[show ek s l x (.pop q)=⟨x.ev,x.jo,x.en,qQ l,.none,x.node,x.has,x.nx,x.out⟩ from ag hq]
   exact p8 rfl (by dsimp only;omega) h.node h.nx (fun h=>by dsimp only at h;omega) (fun h=>by dsimp only at h;omega)
 |cu q=>
  have g:=g q.n
  by_cases hq:q.ok=true
  ·rw[show ek s l x (.cu q)=⟨x.ev,x.jo,x.en,qT l q.n,.none,o7 l q.n,true,x.nx,x.out⟩ from ah hq]
   exact p8 rfl (by dsimp only;omega) (Ub hs he) h.nx (fun h=>by dsimp only at h;omega) (fun h=>by dsimp only at h;omega)
  ·rw[show ek s l x (.cu q)=⟨x.ev,x.jo,x.en,2,.none,x.node,x.has,x.nx,x.out⟩ from ag hq]
   exact p8 rfl (by dsimp only;omega) h.node h.nx (fun h=>by dsimp only at h;omega) (fun h=>by dsimp only at h;omega)
 |quiet q=>exact p8 rfl (by dsimp only[ek];omega) h.node h.nx (fun h=>by dsimp only[ek]at h;omega) (fun h=>by dsimp only[ek]at h;omega)
 |clear q=>exact p8 rfl (by dsimp only[ek];omega) h.node h.nx (fun h=>by dsimp only[ek]at h;omega) (fun h=>by dsimp only[ek]at h;omega)
 |read y=>
  obtain⟨v,hv⟩:=mu h.node.1
  have dm:=h.node.2
  have hE:pv s x.node y=0:=RL ((F4 (QS hs.iS) h.node).symm) he.v
  have hV:eu s.what s.w (sk (pv s x.node y) (iF s y x.node.toNat)):=by
   rw[hE,show sk 0 (iF s y x.node.toNat)=iF s y x.node.toNat from rfl]
   have:=GG hs.fit hs.iS he.cy he.v (v:=x.node.toNat) (by omega)
   exact⟨this.1,this.2⟩
  exact p8 rfl (by dsimp only[ek];omega) h.node (fun u hu=>(lD.1 hu).1) (fun h=>⟨by dsimp only[ek]at h ⊢;omega,hV⟩) (fun h=>by dsimp only[ek]at h;omega)
 |join q=>
  have hh:=h.head (.inl he)
  have ho:=h.out (.inl he)
  by_cases hq:q.changed=true
  ·rw[show ek s l x (.join q)=⟨x.ev,wr (x.jo+1),x.en,6,.none,x.node,x.has,x.nx,x.out⟩ from ah hq]
   exact p8 rfl (by dsimp only;omega) h.node h.nx (fun _=>⟨hh,ho⟩) (fun h=>by dsimp only at h;omega)
  ·rw[show ek s l x (.join q)=⟨x.ev,x.jo,x.en,kv x.nx,.none,x.node,x.has,x.nx.tail,x.out⟩ from ag hq]
   exact p8 rfl (by dsimp only;omega) h.node IM (fun h=>⟨by dsimp only at h ⊢;omega,ho⟩) (fun h=>by dsimp only at h;omega)
 |take q=>
  have hh:=h.head (.inr (.inl he))
  have ho:=h.out (.inr (.inl he))
  by_cases hq:q.new=true
  ·rw[show ek s l x (.take q)=⟨x.ev,x.jo,x.en,7,.none,x.node,x.has,x.nx,x.out⟩ from ah hq]
   exact p8 rfl (by dsimp only;omega) h.node h.nx (fun _=>⟨hh,ho⟩) (fun h=>by dsimp only at h;omega)
  ·rw[show ek s l x (.take q)=⟨x.ev,x.jo,x.en,kv x.nx,.none,x.node,x.has,x.nx.tail,x.out⟩ from ag hq]
   exact p8 rfl (by dsimp only;omega) h.node IM (fun h=>⟨by dsimp only at h ⊢;omega,ho⟩) (fun h=>by dsimp only at h;omega)
 |push q=>
  have ho:=h.out (.inr (.inr he))
  exact p8 rfl (by dsimp only[ek];omega) h.node IM (fun h=>⟨by dsimp only[ek]at h ⊢;omega,ho⟩) (fun h=>by dsimp only[ek]at h;omega)
 |dU q=>exact p8 rfl (by dsimp only[ek];omega) h.node h.nx (fun h=>by dsimp only[ek]at h;omega) (fun h=>by dsimp only[ek]at h;omega)
theorem abD{s:Sy}{l:Lay}{who:Int}{x:WS}{d:Int}{ws:List Int}(hs:LS s l)(r9:0≤who∧who<l.k)(hw:MV s l ws)(h:WV s l who x):MV s l (dC bG s l who x d ws).2.1∧(dC bG s l who x d ws).2.1.length=ws.length∧WV s l who (dC bG s l who x d ws).1:=by
 obtain⟨n',ws',b,ao⟩:∃n' ws' b,gb bG l x.node (ku l who x d) ws=(n',ws',b):=⟨_,_,_,rfl⟩
 obtain⟨k1,k2,k3,k4⟩:=YG hs hw r9 h.node h.nx h.head h.out (S4 hs r9 h (d:=d)) ao
 unfold dC
 rw[ao]
 dsimp only
 split
 ·exact⟨hw,rfl,h⟩
 ·split
  ·rename_i hb
   exact⟨k1,k2,aee hs h (k4 hb)⟩
  ·rename_i hb
   exact⟨k1,k2,h.does,h.node,h.nx,h.head,h.out,h.A9,.inr (k3 (by simpa using hb))⟩
set_option maxHeartbeats 4000000
theorem adJ{l:Lay}{base:Int}{y ws:List Int}(h:y.length<cw l.words){x:Int}(hx:gJ ws (wr (base+(y.length:Nat)))=x):mB bG l base y ws=(y++[x],ws,decide (y.length+1=cw l.words)):=by
 subst hx
 exact ah h
theorem ab0{s:Sy}{l:Lay}{x:WS}{y:List Int}(h:pv s x.node y=0):ek s l x (.read y)=⟨wr (x.ev+1),x.jo,x.en,uD s x.node,.none,x.node,x.has,ar s.n s.aW x.node,iF s y x.node.toNat⟩:=by
 show (⟨wr (x.ev+1),x.jo,x.en,uD s x.node,.none,x.node,x.has,ar s.n s.aW x.node,sk (pv s x.node y) (iF s y x.node.toNat)⟩:WS)=_
 rw[h];rfl
set_option maxHeartbeats 4000000
theorem ZK{s:Sy}{l:Lay}{who:Int}{x:WS}{d:Int}{ws:List Int}(he:x.en=false):(dC bG s l who x d ws).2.2=(dC bG s l who x d ws).1.en:=by
 unfold dC
 rw[ag (by rw[he];decide)]
 split
 ·rfl
 ·exact he.symm
theorem KH{s:Sy}{k:Int}(h:dv s k=0):eX s=0∧1≤k∧k≤64:=by
 unfold dv at h
 split at h
 ·split at h
  ·exact⟨by assumption,by assumption⟩
  ·cases h
 ·exact absurd h (by assumption)
theorem Ay{s:Sy}{k:Int}(hf:Fit s)(h:dv s k=0):LS s (iB s k)∧(iB s k).k=k:=by
 obtain⟨h1,h2⟩:=KH h
 have e:∀z,qs (dv s k) z=z:=fun z=>ah h
 exact⟨⟨hf,Lp h1,e _,e _,e _,by rw[show (iB s k).k=k from e _];exact h2.1,by rw[show (iB s k).k=k from e _];exact h2.2⟩,e _⟩
def nF(l:Lay):Nat:=(iY l l.k).toNat
section
variable {s:Sy} {l:Lay} (hs:LS s l)
include hs
theorem LS.kk:∃k:Nat,l.k=k∧1≤k∧k≤64:=⟨l.k.toNat,by have:=hs.k1;have:=hs.k2;omega⟩
theorem LS.size:iY l l.k=(nF l:Int)∧nF l≤1000000∧rj (iY l l.k)=nF l:=by
 obtain⟨k,hk,mR,dX⟩:=hs.kk
 have hd:=hs.w7 dX
 have h1:=hs.nn
 have h2:=hs.ww
 have h3:=rW h1.2.2 h2.2
 have h4:k*(nN s+3)≤64*259:=tS dX (by omega)
 unfold nF rj
 rw[hk,hd]
 omega
theorem LS.low:nN s*nW l+nN s<nF l:=by
 obtain⟨m,hm,Nz,tK⟩:=hs.kk
 have tN:=hs.w7 tK
 unfold nF
 rw[hm,tN]
 omega
end
theorem MV.adB{s:Sy}{l:Lay}{ws:List Int}(h:MV s l ws){a:Nat}{x:Int}(ha:nN s*nW l≤a)(hx:bH x):MV s l (ws.set a x):=by
 rw[← lC]
 exact h.zU (by omega) hx
theorem MV.Z4{s:Sy}{l:Lay}{ws:List Int}(h:MV s l ws){u j:Nat}{x:Int}(hj:j<nW l)(hx:fO s.what s.w j x):MV s l (ws.set (u*nW l+j) x):=by
 rw[← lC]
 exact h.PA hj hx
theorem acs(s:Sy)(l:Lay)(n:Nat):MV s l (List.replicate n 0):=⟨fun z hz=>by rw[BK hz];exact zS,fun v i _ _=>by
 have:(List.replicate n (0:Int)).getD (v*nW l+i) 0=0:=by
  rw[bg,vU];split <;> rfl
 rw[this];exact Xg _ _ _⟩
def pC(s:Sy)(l:Lay)(ws:List Int):Prop:=ws.length=nF l∧MV s l ws
theorem pC.hi{s:Sy}{l:Lay}{ws:List Int}(h:pC s l ws){a:Nat}{x:Int}(ha:nN s*nW l≤a)(hx:bH x):pC s l (ws.set a x):=⟨by rw[cN];exact h.1,h.2.adB ha hx⟩
theorem Kz:∀{l m:List Int},l.Nodup→(∀x∈l,x∈m)→l.length≤m.length
 | [],_,_,_=>bD _
 |a::l,m,hd,h=>by
  have hd:=mr.1 hd
  have ha:=h a (ck ..)
  have h1:=Kz (l:=l) (m:=m.erase a) hd.2 fun x hx=>(Oi (fun e:x=a=>hd.1 (by rw[← e];exact hx))).2 (h x (cW _ hx))
  rw[List.length_erase_of_mem ha]at h1
  have:=E9 ha
  rw[iy];omega
inductive Rx(nx:Int→List Int):Int→Int→Prop where
 |refl (a:Int):Rx nx a a
 |step {a b c:Int} (h:Rx nx a b) (hc:c∈nx b):Rx nx a c
theorem Rx.trans{nx:Int→List Int}{a b c:Int}(h1:Rx nx a b)(h2:Rx nx b c):Rx nx a c:=by
 induction h2 with
 |refl=>exact h1
 |step _ hc ih=>exact .step ih hc
theorem Rx.one{nx:Int→List Int}{a b:Int}(h:b∈nx a):Rx nx a b:=.step (.refl a) h
def pr(f:Int→Int)(a v:Int):Int→Int:=fun y=>if y=a then v else f y
theorem pU{f:Int→Int}{a v y:Int}(h:y≠a):pr f a v y=f y:=ag h
theorem pV{f:Int→Int}{a v:Int}:pr f a v a=v:=ah rfl
structure qK(n:Nat)(nx:Int→List Int)(P:List (List Int)):Prop where
 ne:∀p∈P,p≠[]
 node:∀p∈P,∀x∈p,0≤x∧x<(n:Int)
 nd:P.flatten.Nodup
 A7:∀p∈P,p.Pairwise (· < ·)
 OA:∀p∈P,∀x∈p,∀y∈p,Rx nx x y
 JF:∀(i:Nat) (p:List Int),P[i]?=some p→∀x∈p,∀y∈nx x,∃(j:Nat) (q:List Int),j≤i∧P[j]?=some q∧y∈q
theorem qK.nil(n:Nat)(nx:Int→List Int):qK n nx []:=⟨fun _ h=>(by cases h),fun _ h=>(by cases h),List.nodup_nil,fun _ h=>(by cases h),fun _ h=>(by cases h),fun i p h=>by simp at h⟩
theorem qK.reach{n:Nat}{nx:Int→List Int}{P:List (List Int)}(h:qK n nx P){x y:Int}(hr:Rx nx x y)(hx:∃p∈P,x∈p):∃p∈P,y∈p:=by
 induction hr with
 |refl=>exact hx
 |step _ hc ih=>
  obtain⟨p,hp,hb⟩:=ih
  obtain⟨i,hi⟩:=E3 hp
  obtain⟨j,q,_,hq,hy⟩:=h.JF i p hi _ hb _ hc
  exact⟨q,cq hq,hy⟩
structure TJ(n:Nat)(nx:Int→List Int)(f L:Int→Int)(st:List Int)(aH:Nat)(P:List (List Int))(W:List Int):Prop where
 node:∀x∈st,0≤x∧x<(n:Int)
 inc:st.Pairwise fun x y=>f x<f y
 sg:∀x∈st,1≤f x∧f x≤aH
 xl:∀x:Int,0≤x→x<n→(f x≠0↔x∈st∨∃p∈P,x∈p)
 zA:∀p∈P,∀x∈p,x ∉ st
 len:aH=st.length+P.flatten.length
 sub:W.Sublist st
 top:∀x∈st,∃v∈W,f v≤f x
 y9:∀v∈W,∀x∈st,f v≤f x→Rx nx v x
 fin:∀x∈st,x ∉ W→(∀y∈nx x,f y≠0)∧∃y∈st,f y<f x∧Rx nx x y
 low:∀v∈W,L v≤f v∧∃y∈st,f y=L v∧Rx nx v y
 A8:∀v∈W,∀x∈st,x ∉ W→f v<f x→(∀u∈W,f u≤f x→f u≤f v)→∀y∈nx x,y∈st→L v≤f y
 prt:qK n nx P
def Prc(nx:Int→List Int)(f L:Int→Int)(st:List Int)(gW:List (Int×Nat)):Prop:=∀t∈gW,∀y∈(nx t.1).take t.2,f y≠0∧(y∈st→L t.1≤f y)
theorem J1{f:Int→Int}:∀{st:List Int},st.Pairwise (fun x y=>f x<f y)→∀{x y:Int},x∈st→y∈st→f x=f y→x=y
 | [],_,_,_,hx,_,_=>by cases hx
 |a::st,h,x,y,hx,hy,e=>by
  obtain⟨h1,h2⟩:=BC.1 h
  rcases eF.1 hx with e1 | rr
  ·rcases eF.1 hy with e2 | tG
   ·rw[e1,e2]
   ·have:=h1 y tG;rw[e1]at e;omega
  ·rcases eF.1 hy with e2 | tG
   ·have:=h1 x rr;rw[e2]at e;omega
   ·exact J1 h2 rr tG e
theorem uc{f:Int→Int}{st:List Int}(h:st.Pairwise (fun x y=>f x<f y)):st.Nodup:=h.imp fun aQ e=>by subst e;omega
theorem Cp{f:Int→Int}{st w:List Int}{v:Int}(h:st.Pairwise (fun x y=>f x<f y))(hs:(w++[v]).Sublist st):∀u∈w,f u<f v:=by
 have:=h.sublist hs
 intro u hu
 exact (Jr.1 this).2.2 u hu v (bB.2 rfl)
variable {n:Nat} {nx:Int→List Int} {f L:Int→Int} {st:List Int} {aH:Nat} {P:List (List Int)}
theorem TJ.start(h:∀x,f x=0):TJ n nx f L [] 0 [] []:=
 ⟨fun _ h=>(by cases h),.nil,fun _ h=>(by cases h),fun x _ _=>by simp[h],fun _ h=>(by cases h),rfl,.slnil,fun _ h=>(by cases h),fun _ h=>(by cases h),fun _ h=>(by cases h),fun _ h=>(by cases h),fun _ h=>(by cases h),.nil n nx⟩
theorem TJ.enter{W:List Int}{b:Int}(h:TJ n nx f L st aH P W)(hb:0≤b∧b<n)(hf:f b=0)(hW:∀v∈W,Rx nx v b):TJ n nx (pr f b (aH+1)) (pr L b (aH+1)) (st++[b]) (aH+1) P (W++[b]):=by
 have eE:b ∉ st:=fun hm=>by have:=h.sg b hm;omega
 have hbW:b ∉ W:=fun hm=>eE (h.sub.subset hm)
 have iV:∀x∈st,pr f b (aH+1) x=f x:=fun x hx=>pU fun e=>eE (e▸hx)
 have hL1:∀x∈W,pr L b (aH+1) x=L x:=fun x hx=>pU fun e=>hbW (e▸hx)
 have Bm:pr f b (aH+1) b=(aH+1:Nat):=by rw[pV];rfl
 have Bp:=h.sub.subset
 refine⟨fun x hx=>?_,?_,fun x hx=>?_,fun x h0 h1=>?_,fun p hp x hx=>?_,by have:=h.len;rw[bP,sJ];omega,h.sub.append (.refl _),fun x hx=>?_,fun v hv x hx hle=>?_,fun x hx lQ=>?_,fun v hv=>?_,fun v hv x hx lQ ab jG y hy kF=>?_,h.prt⟩
 ·rcases bV.1 hx with hx | hx
  ·exact h.node x hx
  ·rw[bB.1 hx];exact hb
 ·refine Jr.2 ⟨h.inc.imp_of_mem fun {x y} hx hy aQ=>?_,List.pairwise_singleton ..,fun x hx y hy=>?_⟩
  ·rw[iV x hx,iV y hy];exact aQ
  ·rw[bB.1 hy,iV x hx,Bm]
   have:=(h.sg x hx).2;omega
 ·rcases bV.1 hx with hx | hx
  ·rw[iV x hx];have:=h.sg x hx;omega
  ·rw[bB.1 hx,Bm];omega
 ·by_cases e:x=b
  ·subst e
   exact⟨fun _=>.inl (jJ _ (bB.2 rfl)),fun _=>by rw[Bm];omega⟩
  ·rw[pU e,h.xl x h0 h1,bV,bB]
   exact or_congr_left ⟨.inl,fun h=>h.resolve_right e⟩
 ·rw[bV,bB]
  rintro (hm | rfl)
  ·exact h.zA p hp x hx hm
  ·exact ((h.xl x hb.1 hb.2).2 (.inr ⟨p,hp,hx⟩)) hf
 ·rcases bV.1 hx with hx | hx
  ·obtain⟨v,hv,hle⟩:=h.top x hx
   exact⟨v,gN _ hv,by rw[iV v (Bp hv),iV x hx];exact hle⟩
  ·rw[bB.1 hx]
   exact⟨b,jJ _ (bB.2 rfl),kq _⟩
 ·rcases bV.1 hv with hv | hv
  ·rcases bV.1 hx with hx | hx
   ·rw[iV v (Bp hv),iV x hx]at hle
    exact h.y9 v hv x hx hle
   ·rw[bB.1 hx];exact hW v hv
  ·rw[bB.1 hv]at hle ⊢
   rcases bV.1 hx with hx | hx
   ·rw[Bm,iV x hx]at hle
    have:=(h.sg x hx).2;omega
   ·rw[bB.1 hx];exact .refl _
 ·rw[bV,bB]at lQ
  have hx:x∈st:=by
   rcases bV.1 hx with hx | hx
   ·exact hx
   ·exact absurd (.inr (bB.1 hx)) lQ
  obtain⟨h1,y,hy,h2,h3⟩:=h.fin x hx fun hm=>lQ (.inl hm)
  refine⟨fun y hy=>?_,y,gN _ hy,by rw[iV y hy,iV x hx];exact h2,h3⟩
  by_cases e:y=b
  ·subst e;rw[Bm];omega
  ·rw[pU e];exact h1 y hy
 ·rcases bV.1 hv with hv | hv
  ·obtain⟨h1,y,hy,h2,h3⟩:=h.low v hv
   rw[hL1 v hv,iV v (Bp hv)]
   exact⟨h1,y,gN _ hy,by rw[iV y hy];exact h2,h3⟩
  ·rw[bB.1 hv,pV,pV]
   exact⟨kq _,b,jJ _ (bB.2 rfl),pV,.refl _⟩
 ·rw[bV,bB]at lQ
  have hx:x∈st:=by
   rcases bV.1 hx with hx | hx
   ·exact hx
   ·exact absurd (.inr (bB.1 hx)) lQ
  rcases bV.1 hv with hv | hv
  ·rw[hL1 v hv]
   rw[iV v (Bp hv),iV x hx]at ab
   have hyb:y≠b:=fun e=>(h.fin x hx fun hm=>lQ (.inl hm)).1 y hy (e▸hf)
   have kF:y∈st:=by
    rcases bV.1 kF with kF | kF
    ·exact kF
    ·exact absurd (bB.1 kF) hyb
   rw[iV y kF]
   refine h.A8 v hv x hx (fun hm=>lQ (.inl hm)) ab (fun u hu hle=>?_) y hy kF
   have:=jG u (gN _ hu)
   rw[iV u (Bp hu),iV x hx,iV v (Bp hv)]at this
   exact this hle
  ·rw[bB.1 hv,Bm,iV x hx]at ab
   have:=(h.sg x hx).2;omega
theorem TJ.lower{w:List Int}{v z:Int}(h:TJ n nx f L st aH P (w++[v]))(hz:z∈st)(hr:Rx nx v z):TJ n nx f (pr L v (min (L v) (f z))) st aH P (w++[v]):=by
 have hd:(w++[v]).Nodup:=(uc h.inc).sublist h.sub
 have hvw:v ∉ w:=fun hm=>(oU.1 hd).2.2 v hm v (bB.2 rfl) rfl
 refine⟨h.node,h.inc,h.sg,h.xl,h.zA,h.len,h.sub,h.top,h.y9,h.fin,fun u hu=>?_,fun u hu x hx lQ ab jG y hy kF=>?_,h.prt⟩
 ·by_cases e:u=v
  ·subst e
   rw[pV]
   obtain⟨h1,y,hy,h2,h3⟩:=h.low u hu
   refine⟨by omega,?_⟩
   by_cases c:L u≤f z
   ·exact⟨y,hy,by rw[h2];omega,h3⟩
   ·exact⟨z,hz,by omega,hr⟩
  ·rw[pU e];exact h.low u hu
 ·have:=h.A8 u hu x hx lQ ab jG y hy kF
  by_cases e:u=v
  ·subst e;rw[pV];omega
  ·rw[pU e];exact this
theorem TJ.up{w:List Int}{u v:Int}(h:TJ n nx f L st aH P (w++[u]++[v]))(ab:L v<f v)(cH:∀y∈nx v,f y≠0∧(y∈st→L v≤f y)):TJ n nx f (pr L u (min (L u) (L v))) st aH P (w++[u]):=by
 have hd:(w++[u]++[v]).Nodup:=(uc h.inc).sublist h.sub
 have hvw:v ∉ w++[u]:=fun hm=>(oU.1 hd).2.2 v hm v (bB.2 rfl) rfl
 have fm:u ∉ w:=fun hm=>(oU.1 (oU.1 hd).1).2.2 u hm u (bB.2 rfl) rfl
 have huv:u≠v:=fun e=>hvw (e▸jJ _ (bB.2 rfl))
 have lM:=Cp h.inc h.sub
 have af5:=Cp h.inc ((List.sublist_append_left _ _).trans h.sub)
 have IH:u∈w++[u]:=jJ _ (bB.2 rfl)
 have Be:v∈w++[u]++[v]:=jJ _ (bB.2 rfl)
 have bS:v∈st:=h.sub.subset Be
 have hfuv:f u<f v:=lM u IH
 obtain⟨eQ,z,hz,oK,hzr⟩:=h.low v Be
 refine⟨h.node,h.inc,h.sg,h.xl,h.zA,h.len,(List.sublist_append_left _ _).trans h.sub,fun x hx=>?_,fun a ha=>h.y9 a (gN _ ha),fun x hx lQ=>?_,fun a ha=>?_,fun a ha x hx lQ dy jG y hy kF=>?_,h.prt⟩
 ·obtain⟨a,ha,hle⟩:=h.top x hx
  rcases bV.1 ha with ha | ha
  ·exact⟨a,ha,hle⟩
  ·rw[bB.1 ha]at hle
   exact⟨u,IH,by omega⟩
 ·by_cases e:x=v
  ·subst e
   exact⟨fun y hy=>(cH y hy).1,z,hz,by omega,hzr⟩
  ·exact h.fin x hx fun hm=>by
    rcases bV.1 hm with hm | hm
    ·exact lQ hm
    ·exact e (bB.1 hm)
 ·obtain⟨h1,y,hy,h2,h3⟩:=h.low a (gN _ ha)
  by_cases e:a=u
  ·subst e
   rw[pV]
   refine⟨by omega,?_⟩
   by_cases c:L a≤L v
   ·exact⟨y,hy,by omega,h3⟩
   ·exact⟨z,hz,by omega,(h.y9 a (gN _ IH) v bS (by omega)).trans hzr⟩
  ·rw[pU e];exact⟨h1,y,hy,h2,h3⟩
 ·have El:∀c,f a≤c→f u≤f a→pr L u (min (L u) (L v)) a≤L a:=fun c _ _=>by
   by_cases e:a=u
   ·subst e;rw[pV];omega
   ·rw[pU e];exact kq _
  have hle:pr L u (min (L u) (L v)) a≤L a:=by
   by_cases e:a=u
   ·subst e;rw[pV];omega
   ·rw[pU e];exact kq _
  by_cases Bc:f v≤f x
  ·have hau:a=u:=by
    have h1:=jG u IH (by omega)
    by_cases e:a=u
    ·exact e
    ·have:a∈w:=by
      rcases bV.1 ha with ha | ha
      ·exact ha
      ·exact absurd (bB.1 ha) e
     have:=af5 a this
     omega
   subst hau
   rw[pV]
   by_cases e:x=v
   ·subst e
    have:=(cH y hy).2 kF
    omega
   ·have aS:f v≠f x:=fun e2=>e (J1 h.inc hx bS e2.symm)
    have:=h.A8 v Be x hx (fun hm=>by
     rcases bV.1 hm with hm | hm
     ·exact lQ hm
     ·exact e (bB.1 hm)) (by omega) (fun c hc _=>by
      rcases bV.1 hc with hc | hc
      ·have:=lM c hc;omega
      ·rw[bB.1 hc];exact kq _) y hy kF
    omega
  ·have afG:x≠v:=fun e=>by subst e;omega
   have:=h.A8 a (gN _ ha) x hx (fun hm=>by
    rcases bV.1 hm with hm | hm
    ·exact lQ hm
    ·exact afG (bB.1 hm)) dy (fun c hc rC=>by
     rcases bV.1 hc with hc | hc
     ·exact jG c hc rC
     ·rw[bB.1 hc]at rC;omega) y hy kF
   omega
theorem QP{v:Int}:∀{st:List Int},st.Pairwise (fun x y=>f x<f y)→v∈st→∃A B,st=A++v::B∧(∀x∈A,f x<f v)∧∀x∈B,f v<f x:=by
 intro st h hv
 obtain⟨A,B,rfl⟩:=List.append_of_mem hv
 obtain⟨h1,h2,h3⟩:=Jr.1 h
 exact⟨A,B,rfl,fun x hx=>h3 x hx v (ck ..),fun x hx=>(BC.1 h2).1 x hx⟩
theorem TJ.tell{w A B part:List Int}{v:Int}(h:TJ n nx f L st aH P (w++[v]))(ao:st=A++v::B)(heq:L v=f v)(cH:∀y∈nx v,f y≠0∧(y∈st→L v≤f y))(cQ:∀x y,y∈nx x→0≤y∧y<n)(hp:part.Perm (v::B))(hs:part.Pairwise (· < ·)):TJ n nx f L A aH (P++[part]) w:=by
 have ca:=uc h.inc
 have lM:=Cp h.inc h.sub
 have Be:v∈w++[v]:=jJ _ (bB.2 rfl)
 have mc:=h.inc
 rw[ao]at mc
 obtain⟨i1,i2,i3⟩:=Jr.1 mc
 have xg:∀x∈A,f x<f v:=fun x hx=>i3 x hx v (ck ..)
 have H6:∀x∈B,f v<f x:=(BC.1 i2).1
 have tR:∀x∈A,x∈st:=fun x hx=>by rw[ao];exact gN _ hx
 have xB:∀x∈v::B,x∈st:=fun x hx=>by rw[ao];exact jJ _ hx
 have AZ:∀x∈v::B,f v≤f x:=fun x hx=>by
  rcases eF.1 hx with rfl | hx
  ·exact kq _
  ·have:=H6 x hx;omega
 have au:∀x∈st,f v≤f x→x∈v::B:=fun x hx hle=>by
  rw[ao]at hx
  rcases bV.1 hx with hx | hx
  ·have:=xg x hx;omega
  ·exact hx
 have Me:∀x∈B,x ∉ w++[v]:=fun x hx hm=>by
  have:=H6 x hx
  rcases bV.1 hm with hm | hm
  ·have:=lM x hm;omega
  ·rw[bB.1 hm]at this;omega
 have H2:∀x∈v::B,∀y∈nx x,y∈v::B∨∃p∈P,y∈p:=fun x hx y hy=>by
  have vE:f y≠0∧(y∈st→f v≤f y):=by
   rcases eF.1 hx with rfl | Bd
   ·rw[← heq];exact cH y hy
   ·refine⟨(h.fin x (xB x hx) (Me x Bd)).1 y hy,fun kF=>?_⟩
    rw[← heq]
    refine h.A8 v Be x (xB x hx) (Me x Bd) (H6 x Bd) (fun u hu _=>?_) y hy kF
    rcases bV.1 hu with hu | hu
    ·have:=lM u hu;omega
    ·rw[bB.1 hu];exact kq _
  obtain⟨q1,q2⟩:=cQ x y hy
  rcases (h.xl y q1 q2).1 vE.1 with kF | hyp
  ·exact .inl (au y kF (vE.2 kF))
  ·exact .inr hyp
 have ae4:∀{x y:Int},Rx nx x y→x∈v::B→y∈v::B∨∃p∈P,y∈p:=by
  intro x y hr hx
  induction hr with
  |refl=>exact .inl hx
  |step _ hc ih=>
   rcases ih with ih | ih
   ·exact H2 _ ih _ hc
   ·exact .inr (h.prt.reach (.one hc) ih)
 have Dk:∀(k:Nat) (x:Int),x∈v::B→(f x-f v).toNat≤k→Rx nx x v:=by
  intro k
  induction k with
  |zero=>
   intro x hx hk
   have:=AZ x hx
   rw[J1 h.inc (xB x hx) (xB v (ck ..)) (by omega)]
   exact .refl _
  |succ k ih=>
   intro x hx hk
   rcases eF.1 hx with rfl | Bd
   ·exact .refl _
   ·obtain⟨_,y,hy,ab,hr⟩:=h.fin x (xB x hx) (Me x Bd)
    rcases ae4 hr hx with Nj | ⟨p,hp,hyp⟩
    ·have:=H6 x Bd
     exact hr.trans (ih y Nj (by omega))
    ·exact absurd hy (h.zA p hp y hyp)
 have ag9:∀x∈v::B,∀y∈v::B,Rx nx x y:=fun x hx y hy=>(Dk _ x hx (a8 _)).trans (h.y9 v Be y (xB y hy) (AZ y hy))
 have gj:∀x,x∈part↔x∈v::B:=fun x=>hp.mem_iff
 have hwA:w.Sublist A:=by
  have h1:(w++[v]).Sublist (A++v::B):=ao▸h.sub
  have h2:=h1.filter (fun x=>decide (f x<f v))
  have e1:(w++[v]).filter (fun x=>decide (f x<f v))=w:=by
   rw[List.filter_append,List.filter_eq_self.2 fun x hx=>decide_eq_true (lM x hx),List.filter_cons_of_neg (by simp)]
   simp
  have e2:(A++v::B).filter (fun x=>decide (f x<f v))=A:=by
   rw[BG,gu3.2 fun x hx=>bu (xg x hx),List.filter_eq_nil_iff.2 fun x hx=>by
    have:=AZ x hx
    rw[decide_eq_true_eq];omega]
   simp
  rw[e1,e2]at h2
  exact h2
 have UX:(P++[part]).flatten=P.flatten++part:=by rw[List.flatten_append];simp
 refine⟨fun x hx=>h.node x (tR x hx),i1,fun x hx=>h.sg x (tR x hx),fun x h0 h1=>?_,fun p dA x hx hxA=>?_,?_,hwA,fun x hx=>?_,fun a ha x hx=>h.y9 a (gN _ ha) x (tR x hx),fun x hx lQ=>?_,fun a ha=>?_,fun a ha x hx lQ ab jG y hy kF=>?_,⟨fun p dA=>?_,fun p dA x hx=>?_,?_,fun p dA=>?_,fun p dA x hx y hy=>?_,fun i p hi x hx y hy=>?_⟩⟩
 ·rw[h.xl x h0 h1,ao,bV]
  constructor
  ·rintro ((hx | hx) | ⟨p,dA,hx⟩)
   ·exact .inl hx
   ·exact .inr ⟨part,jJ _ (bB.2 rfl),(gj x).2 hx⟩
   ·exact .inr ⟨p,gN _ dA,hx⟩
  ·rintro (hx | ⟨p,dA,hx⟩)
   ·exact .inl (.inl hx)
   ·rcases bV.1 dA with dA | dA
    ·exact .inr ⟨p,dA,hx⟩
    ·rw[bB.1 dA]at hx
     exact .inl (.inr ((gj x).1 hx))
 ·rcases bV.1 dA with dA | dA
  ·exact h.zA p dA x hx (tR x hxA)
  ·rw[bB.1 dA]at hx
   have:=AZ x ((gj x).1 hx)
   have:=xg x hxA
   omega
 ·have h1:=h.len
  have h2:=hp.length_eq
  have h3:=congrArg List.length ao
  rw[bP]at h3
  rw[UX,bP];omega
 ·obtain⟨a,ha,hle⟩:=h.top x (tR x hx)
  rcases bV.1 ha with ha | ha
  ·exact⟨a,ha,hle⟩
  ·rw[bB.1 ha]at hle
   have:=xg x hx;omega
 ·have Bc:x ∉ w++[v]:=fun hm=>by
   rcases bV.1 hm with hm | hm
   ·exact lQ hm
   ·have:=xg x hx
    rw[bB.1 hm]at this;omega
  obtain⟨h1,y,hy,h2,h3⟩:=h.fin x (tR x hx) Bc
  refine⟨h1,y,?_,h2,h3⟩
  have:=xg x hx
  rw[ao]at hy
  rcases bV.1 hy with hy | hy
  ·exact hy
  ·have:=AZ y hy;omega
 ·obtain⟨h1,y,hy,h2,h3⟩:=h.low a (gN _ ha)
  refine⟨h1,y,?_,h2,h3⟩
  have:=lM a ha
  rw[ao]at hy
  rcases bV.1 hy with hy | hy
  ·exact hy
  ·have:=AZ y hy;omega
 ·have Bc:x ∉ w++[v]:=fun hm=>by
   rcases bV.1 hm with hm | hm
   ·exact lQ hm
   ·have:=xg x hx
    rw[bB.1 hm]at this;omega
  refine h.A8 a (gN _ ha) x (tR x hx) Bc ab (fun u hu hle=>?_) y hy (tR y kF)
  rcases bV.1 hu with hu | hu
  ·exact jG u hu hle
  ·rw[bB.1 hu]at hle
   have:=xg x hx;omega
 ·rcases bV.1 dA with dA | dA
  ·exact h.prt.ne p dA
  ·rw[bB.1 dA]
   exact List.ne_nil_of_mem ((gj v).2 (ck ..))
 ·rcases bV.1 dA with dA | dA
  ·exact h.prt.node p dA x hx
  ·rw[bB.1 dA]at hx
   exact h.node x (xB x ((gj x).1 hx))
 ·rw[UX]
  refine oU.2 ⟨h.prt.nd,hs.imp fun h=>by omega,fun x hx y hy e=>?_⟩
  subst e
  obtain⟨p,dA,rq⟩:=oT.1 hx
  exact h.zA p dA x rq (xB x ((gj x).1 hy))
 ·rcases bV.1 dA with dA | dA
  ·exact h.prt.A7 p dA
  ·rw[bB.1 dA];exact hs
 ·rcases bV.1 dA with dA | dA
  ·exact h.prt.OA p dA x hx y hy
  ·rw[bB.1 dA]at hx hy
   exact ag9 x ((gj x).1 hx) y ((gj y).1 hy)
 ·by_cases ab:i<P.length
  ·rw[jY ab]at hi
   obtain⟨j,q,h1,h2,h3⟩:=h.prt.JF i p hi x hx y hy
   exact⟨j,q,h1,by rw[jY (by omega)];exact h2,h3⟩
  ·have hip:i=P.length∧p=part:=by
    rw[iX (by omega)]at hi
    by_cases e:i-P.length=0
    ·rw[e]at hi
     exact⟨by omega,(Option.some.inj hi).symm⟩
    ·rw[tZ (by rw[sJ];omega)]at hi;cases hi
   obtain⟨rfl,rfl⟩:=hip
   rcases H2 x ((gj x).1 hx) y hy with Nj | ⟨q,hq,hyq⟩
   ·exact⟨P.length,p,a8 _,by rw[iX (a8 _),pL];rfl,(gj y).2 Nj⟩
   ·obtain⟨j,hj⟩:=E3 hq
    have iw:j<P.length:=(cg.1 hj).1
    exact⟨j,q,by omega,by rw[jY iw];exact hj,hyq⟩
theorem TJ.empty(h:TJ n nx f L st aH P []):st=[]:=by
 cases st with
 |nil=>rfl
 |cons x st=>
  obtain⟨v,hv,_⟩:=h.top x (ck ..)
  cases hv
theorem TJ.first{v:Int}(h:TJ n nx f L st aH P [v]):L v=f v:=by
 obtain⟨h1,y,hy,h2,_⟩:=h.low v (bB.2 rfl)
 obtain⟨u,hu,h3⟩:=h.top y hy
 rw[bB.1 hu]at h3
 omega
mutual
def gU(nx:Int→List Int):Nat→Int→List Int→List Int
 | 0,_,_=>[]
 |f+1,a,met=>if a∈met then [] else eL nx f (nx a) (met++[a])++[a]
def eL(nx:Int→List Int):Nat→List Int→List Int→List Int
 |_,[],_=>[]
 |f,b::bs,met=>gU nx f b met++eL nx f bs (met++gU nx f b met)
end
def lq(met:List Int)(n:Nat):Nat:=((List.range n).filter fun a:Nat=>decide ((a:Int) ∉ met)).length
theorem Ky{met met2:List Int}{n:Nat}(h:∀x∈met,x∈met2):lq met2 n≤lq met n:=by
 unfold lq
 induction n with
 |zero=>exact a8 _
 |succ n ih=>
  rw[sH,BG,BG,bP,bP]
  refine Nat.add_le_add ih ?_
  rw[BH,BH,gs9]
  by_cases c:(n:Int)∈met
  ·rw[if_neg (by simp[h _ c]),if_neg (by simp[c])];exact Nat.le_refl _
  ·rw[if_pos (show decide ((n:Int) ∉ met)=true by simp[c])];split <;> simp
theorem SF{met met2:List Int}{n:Nat}{a:Nat}(h:∀x∈met,x∈met2)(ha:a<n)(h1:(a:Int) ∉ met)(h2:(a:Int)∈met2):lq met2 n<lq met n:=by
 induction n with
 |zero=>omega
 |succ n ih=>
  have e:∀m:List Int,lq m (n+1)=lq m n+if (n:Int)∈m then 0 else 1:=fun m=>by
   unfold lq
   rw[sH,BG,bP,BH,gs9]
   by_cases c:(n:Int)∈m <;> simp[c]
  rw[e,e]
  by_cases c:a=n
  ·subst c
   rw[ah h2,ag h1]
   have:=Ky (n:=a) h
   omega
  ·have:=ih (by omega)
   by_cases c2:(n:Int)∈met
   ·rw[ah c2,ah (h _ c2)];exact this
   ·rw[ag c2];split <;> omega
theorem abH{met:List Int}{n:Nat}{a:Int}(ha:0≤a∧a<n)(h:a ∉ met):0<lq met n:=by
 unfold lq
 refine E9 (a:=a.toNat) (nQ.2 ⟨gm.2 (by omega),?_⟩)
 rw[Int.toNat_of_nonneg ha.1];simp[h]
theorem Ro{n:Nat}{nx:Int→List Int}(cQ:∀x,∀y∈nx x,0≤y∧y<(n:Int)):∀u,
  (∀(f f2:Nat) (a:Int) (met met2:List Int),0≤a∧a<(n:Int)→lq met n≤u→u≤f→u≤f2→(∀x,x∈met↔x∈met2)→gU nx f a met=gU nx f2 a met2)∧
  (∀(f f2:Nat) (bs:List Int) (met met2:List Int),(∀b∈bs,0≤b∧b<(n:Int))→lq met n≤u→u≤f→u≤f2→(∀x,x∈met↔x∈met2)→eL nx f bs met=eL nx f2 bs met2):=by
 intro u
 induction u with
 |zero=>
  have h0:∀(f:Nat) (a:Int) (met:List Int),0≤a∧a<(n:Int)→lq met n≤0→gU nx f a met=[]:=fun f a met ha hu=>by
   have hm:a∈met:=by
    by_cases c:a∈met
    ·exact c
    ·have:=abH ha c;omega
   cases f with
   |zero=>unfold gU;rfl
   |succ f=>unfold gU;rw[ah hm]
  have h1:∀(f:Nat) (bs:List Int) (met:List Int),(∀b∈bs,0≤b∧b<(n:Int))→lq met n≤0→eL nx f bs met=[]:=by
   intro f bs
   induction bs with
   |nil=>intro met _ _;unfold eL;rfl
   |cons b bs ih=>
    intro met hb hu
    unfold eL
    rw[h0 f b met (hb b (ck ..)) hu,mU,ih met (fun c hc=>hb c (cW _ hc)) hu];rfl
  have hs:∀{met met2:List Int},lq met n≤0→(∀x,x∈met↔x∈met2)→lq met2 n≤0:=fun hu hm=>fx (Ky fun x hx=>(hm x).1 hx) hu
  exact⟨fun f f2 a met met2 ha hu _ _ hm=>by rw[h0 f a met ha hu,h0 f2 a met2 ha (hs hu hm)],fun f f2 bs met met2 hb hu _ _ hm=>by rw[h1 f bs met hb hu,h1 f2 bs met2 hb (hs hu hm)]⟩
 |succ u ih=>
  have hv:∀(f f2:Nat) (a:Int) (met met2:List Int),0≤a∧a<(n:Int)→lq met n≤u+1→u+1≤f→u+1≤f2→(∀x,x∈met↔x∈met2)→gU nx f a met=gU nx f2 a met2:=fun f f2 a met met2 ha hu hf vH hm=>by
   obtain⟨f,rfl⟩:∃k,f=k+1:=⟨f-1,by omega⟩
   obtain⟨f2,rfl⟩:∃k,f2=k+1:=⟨f2-1,by omega⟩
   unfold gU
   by_cases c:a∈met
   ·rw[ah c,ah ((hm a).1 c)]
   ·rw[ag c,ag fun h=>c ((hm a).2 h)]
    congr 1
    refine ih.2 f f2 (nx a) _ _ (cQ a) ?_ (by omega) (by omega) (fun x=>by rw[bV,bV,hm])
    have:=SF (met:=met) (met2:=met++[a]) (n:=n) (a:=a.toNat) (fun x hx=>List.mem_append_left _ hx) (by omega) (by rw[Int.toNat_of_nonneg ha.1];exact c) (by rw[Int.toNat_of_nonneg ha.1];simp)
    omega
  refine⟨hv,fun f f2 bs=>?_⟩
  induction bs with
  |nil=>intro met met2 _ _ _ _ _;unfold eL;rfl
  |cons b bs Nf=>
   intro met met2 hb hu hf vH hm
   unfold eL
   have e:=hv f f2 b met met2 (hb b (ck ..)) hu hf vH hm
   rw[e]
   congr 1
   exact Nf _ _ (fun c hc=>hb c (cW _ hc)) (fx (Ky fun x hx=>gN _ hx) hu) hf vH (fun x=>by rw[bV,bV,hm])
theorem TM(met:List Int)(n:Nat):lq met n≤n:=by
 unfold lq
 exact fx (Fa _ _) (by rw[pN];exact a8 _)
def lI(n:Nat)(nx:Int→List Int):List (Int×Nat)→List Int→List Int
 | [],_=>[]
 |(v,k)::w,seen=>eL nx n ((nx v).drop k) seen++([v]++lI n nx w (seen++eL nx n ((nx v).drop k) seen))
theorem R2{n:Nat}{nx:Int→List Int}(cQ:∀x,∀y∈nx x,0≤y∧y<(n:Int)){bs met met2:List Int}(hb:∀b∈bs,0≤b∧b<(n:Int))(hm:∀x,x∈met↔x∈met2):eL nx n bs met=eL nx n bs met2:=
 (Ro cQ n).2 n n bs met met2 hb (TM _ _) (a8 _) (a8 _) hm
theorem RF{n:Nat}{nx:Int→List Int}(cQ:∀x,∀y∈nx x,0≤y∧y<(n:Int)):∀(w:List (Int×Nat)) {seen seen2:List Int},(∀x,x∈seen↔x∈seen2)→lI n nx w seen=lI n nx w seen2
 | [],_,_,_=>rfl
 |(v,k)::w,seen,seen2,h=>by
  have e:=R2 cQ (bs:=(nx v).drop k) (fun b hb=>cQ v b (List.mem_of_mem_drop hb)) h
  unfold lI
  rw[e,RF cQ w (seen:=seen++eL nx n ((nx v).drop k) seen2) (seen2:=seen2++eL nx n ((nx v).drop k) seen2) fun x=>by rw[bV,bV,h]]
theorem Tf{L:List Int}{k:Nat}(h:k<L.length):L.drop k=L[k]::L.drop (k+1):=Jw h
theorem aa0{n:Nat}{nx:Int→List Int}{v:Int}{k:Nat}{w:List (Int×Nat)}{seen:List Int}(hk:k<(nx v).length)(hb:(nx v)[k]∈seen):lI n nx ((v,k)::w) seen=lI n nx ((v,k+1)::w) seen:=by
 have e:gU nx n (nx v)[k] seen=[]:=by
  cases n with
  |zero=>unfold gU;rfl
  |succ n=>unfold gU;rw[ah hb]
 have e2:eL nx n ((nx v).drop k) seen=eL nx n ((nx v).drop (k+1)) seen:=by
  rw[Tf hk]
  conv=>lhs;unfold eL
  rw[e,mU,vQ]
 unfold lI
 rw[e2]
theorem aa1{n:Nat}{nx:Int→List Int}(cQ:∀x,∀y∈nx x,0≤y∧y<(n:Int)){v:Int}{k:Nat}{w:List (Int×Nat)}{seen:List Int}(hk:k<(nx v).length)(hb:(nx v)[k] ∉ seen):lI n nx ((v,k)::w) seen=lI n nx (((nx v)[k],0)::(v,k+1)::w) (seen++[(nx v)[k]]):=by
 obtain⟨b,sC⟩:∃b,(nx v)[k]=b:=⟨_,rfl⟩
 have dG:=cQ v b (sC▸cj hk)
 rw[sC]at hb ⊢
 obtain⟨m,rfl⟩:∃m,n=m+1:=⟨n-1,by omega⟩
 have hu:lq (seen++[b]) (m+1)≤m:=by
  have:=SF (met:=seen) (met2:=seen++[b]) (n:=m+1) (a:=b.toNat) (fun x hx=>List.mem_append_left _ hx) (by omega) (by rw[Int.toNat_of_nonneg dG.1];exact hb) (by rw[Int.toNat_of_nonneg dG.1];simp)
  have:=TM seen (m+1)
  omega
 have e:gU nx (m+1) b seen=eL nx (m+1) (nx b) (seen++[b])++[b]:=by
  conv=>lhs;unfold gU
  rw[ag hb,(Ro cQ m).2 m (m+1) (nx b) (seen++[b]) (seen++[b]) (cQ b) hu (a8 _) (by omega) fun _=>Iff.rfl]
 have e2:eL nx (m+1) ((nx v).drop k) seen=(eL nx (m+1) (nx b) (seen++[b])++[b])++eL nx (m+1) ((nx v).drop (k+1)) (seen++(eL nx (m+1) (nx b) (seen++[b])++[b])):=by
  rw[Tf hk,sC]
  conv=>lhs;unfold eL
  rw[e]
 have e3:eL nx (m+1) ((nx v).drop (k+1)) (seen++(eL nx (m+1) (nx b) (seen++[b])++[b]))=eL nx (m+1) ((nx v).drop (k+1)) (seen++[b]++eL nx (m+1) (nx b) (seen++[b])):=
  R2 cQ (fun c hc=>cQ v c (List.mem_of_mem_drop hc)) fun x=>by simp only[List.mem_append];exact⟨fun h=>by rcases h with h | h | h <;> simp[h],fun h=>by rcases h with (h | h) | h <;> simp[h]⟩
 have hd:(nx b).drop 0=nx b:=gM
 show eL nx (m+1) ((nx v).drop k) seen++([v]++lI (m+1) nx w (seen++eL nx (m+1) ((nx v).drop k) seen))=eL nx (m+1) ((nx b).drop 0) (seen++[b])++([b]++(eL nx (m+1) ((nx v).drop (k+1)) (seen++[b]++eL nx (m+1) ((nx b).drop 0) (seen++[b]))++([v]++lI (m+1) nx w (seen++[b]++eL nx (m+1) ((nx b).drop 0) (seen++[b])++eL nx (m+1) ((nx v).drop (k+1)) (seen++[b]++eL nx (m+1) ((nx b).drop 0) (seen++[b]))))))
 rw[hd,e2,e3]
 generalize eL nx (m+1) (nx b) (seen++[b])=K
 generalize eL nx (m+1) ((nx v).drop (k+1)) (seen++[b]++K)=K2
 rw[RF cQ w (seen:=seen++(K++[b]++K2)) (seen2:=seen++[b]++K++K2) fun x=>by simp only[List.mem_append];exact⟨fun h=>by rcases h with h | (h | h) | h <;> simp[h],fun h=>by rcases h with ((h | h) | h) | h <;> simp[h]⟩]
 simp only[dQ]
theorem ac0{n:Nat}{nx:Int→List Int}{v:Int}{k:Nat}{w:List (Int×Nat)}{seen:List Int}(hk:(nx v).length≤k):lI n nx ((v,k)::w) seen=v::lI n nx w seen:=by
 have e:eL nx n ((nx v).drop k) seen=[]:=by rw[Jt hk];unfold eL;rfl
 show eL nx n ((nx v).drop k) seen++([v]++lI n nx w (seen++eL nx n ((nx v).drop k) seen))=_
 rw[e,mU,vQ];rfl
theorem abZ{n:Nat}{nx:Int→List Int}{a:Int}{met:List Int}(ha:a ∉ met):gU nx (n+1) a met=lI n nx [(a,0)] (met++[a]):=by
 unfold gU lI lI
 rw[ag ha,gM,mU]
def rU(n:Nat)(nx:Int→List Int)(l:List Int):List Int:=l.foldl (fun out a=>out++gU nx (n+1) a out) []
inductive iG(e:Nat):Nat→AV→Hp→List AV→Prop
 |nil:iG e 0 .aj [] []
 |ae (b k:Nat) (cs J:List AV) (h:cs.length=k*e):iG e k (.ae b 0 k e) [(b,cs++J)] cs
theorem iG.xm{e k:Nat}{v:AV}{acc:Hp}{cs:List AV}(h:iG e k v acc cs):iG e k (bQ v) acc cs:=by
 cases h with
 |nil=>exact .nil
 |ae b k cs J h=>exact .ae b k cs J h
theorem iG.pos{e k:Nat}{v:AV}{acc:Hp}{cs:List AV}(h:iG e k v acc cs)(h0:0<k):∃b J,v=.ae b 0 k e∧acc=[(b,cs++J)]∧cs.length=k*e:=by
 cases h with
 |nil=>omega
 |ae b k cs J h=>exact⟨b,J,rfl,rfl,h⟩
theorem xT{i:TI}{K:AV→Hp→Prop}(fr:Hp){acc σ:Hp}{k n:Nat}{v x:AV}{cs new:List AV}(h:iG i.size k v acc cs)(hx:kc (fr++(acc++σ)) i.size x n new)(ik:new.length=n*i.size)(hn:k+n≤1048576)(hb:i.bytes≤1024)(h0:0<i.size)
  (go:∀v' aU,iG i.size (k+n) v' aU (cs++new)→K v' (fr++(aU++σ))):AppendAt i (fr++(acc++σ)) v x K:=by
 cases h with
 |nil=>
  refine .perm _ (fC fr [] σ) (.fresh n new (.inl rfl) (hx.perm (fC fr [] σ)) (by omega) hb h0 (K:=fun v eb=>(n=0∧v=.aj∧eb=[]++(fr++σ))∨(n≠0∧∃b,v=.ae b 0 n i.size∧eb=(b,new)::([]++(fr++σ)))) (fun aS b=>.inr ⟨aS,b,rfl,rfl⟩) (fun h0=>.inl ⟨h0,rfl,rfl⟩)) ?_
  rintro v eb (⟨hz,rfl,rfl⟩ | ⟨hz,b,rfl,rfl⟩)
  ·subst hz
   obtain rfl:new=[]:=List.length_eq_zero_iff.1 (by simpa using ik)
   exact⟨_,(fC fr [] σ).symm,.inl (go _ _ .nil)⟩
  ·refine⟨_,(fC fr [(b,new)] σ).symm,.inl (go _ _ ?_)⟩
   have:=iG.ae (e:=i.size) b (0+n) new [] (by rw[ef];exact ik)
   rw[mU,ef]at this
   rw[ef]
   exact this
 |ae b k cs J hl=>
  refine .perm _ (fC fr [(b,cs++J)] σ) (.more 0 b k n (cs++J) new rfl rfl (by rw[bP];omega) (hx.perm (fC fr [(b,cs++J)] σ)) hn hb h0 (K:=fun v eb=>∃b',v=.ae b' 0 (k+n) i.size∧eb=(b',cs++new)::(fr++σ)) (fun b'=>⟨b',rfl,by rw[Jz (by omega),eG (by omega)];rfl⟩)) ?_
  rintro v eb ⟨b',rfl,rfl⟩
  refine⟨_,(fC fr [(b',cs++new)] σ).symm,.inl (go _ _ ?_)⟩
  have:=iG.ae (e:=i.size) b' (k+n) (cs++new) [] (by rw[bP,hl,ik,qB])
  rw[mU]at this
  exact this
theorem nk{i:TI}(hs:i.size=1){l:List Int}(x:Int){a:Int}(h1:0≤a)(h2:a<l.length):kQ i (an l) (0+a.toNat*1) (.int .i64 x)=some (an (l.set a.toNat x)):=by
 rw[uA hs rfl (by rw[Lm];omega),ef,dO]
 unfold an;rw[oS]
theorem e9{i:TI}(hw:i.wide=false){l:List Int}{a:Int}(h1:0≤a)(h2:a<l.length):ey i (an l) (0+a.toNat*1)=some (.int .i64 (l.getD a.toNat 0)):=by
 refine jc hw ?_
 unfold an
 rw[ef,dO,fo,bg,bF (by omega)];rfl
def df(N:List (List Int))(bi bl bo n:Nat)(vs:AV)(aH:Nat)(vp:AV):List AV:=[.af (.slice (.int .i64)) N,.ae bi 0 n 1,.ae bl 0 n 1,.ae bo 0 n 1,vs,.int .i64 aH,vp]
theorem Ap(w bi bl bo n:Nat)(N:List (List Int))(ix lo st:List Int)(on:List Bool)(aH:Nat)(vs vp:AV)(acc:Hp)(a:Int)(σ:Hp)(h0:0≤a)(hn:a<n)(hi:ix.length=n)(hl:lo.length=n)(ho:on.length=n)(hs:iG 1 st.length vs acc (an st))(dg:st.length≤10000)(hc:aH≤10000):
  ACalls Tryz.prog 314 [.ptr w 0,.int .i64 a] ((w,df N bi bl bo n vs aH vp)::(bi,an ix)::(bl,an lo)::(bo,bN on)::(acc++σ))
   (fun r σ'=>r=.agg [.int .i64 a,.int .i64 0]∧∃eC aU,iG 1 (st++[a]).length eC aU (an (st++[a]))∧σ'=(w,df N bi bl bo n eC (aH+1) vp)::(bi,an (ix.set a.toNat ((aH+1:Nat):Int)))::(bl,an (lo.set a.toNat ((aH+1:Nat):Int)))::(bo,bN (on.set a.toNat true))::(aU++σ)):=by
 have hwr:IntKind.i64.wrap ((aH:Int)+1)=((aH+1:Nat):Int):=by rw[cy (by omega)];omega
 refine az Tryz.func314 ?_
 intro aG
 refine aa 1 ?_
 refine ai 1 ?_
 refine .sched [] (upto [] 29 0) (by kernel_rfl) ?_
 refine aa 1 ?_
 refine aa 1 ?_
 refine aa 1 ?_
 refine aa 1 ?_
 refine aa 1 ?_
 refine aM ?_
 refine da 2 rfl (nk rfl _ h0 (by omega)) ?_
 refine aM ?_
 refine da 3 rfl (nk rfl _ h0 (by omega)) ?_
 refine aM ?_
 refine da 4 rfl (x7 rfl true h0 (by omega)) ?_
 refine aa 1 ?_
 intro aG
 refine xT [_,_,_,_,_,_] hs.xm (.ae 0 aG 0 1 _ rfl (cD rfl)) rfl (by omega) (by decide) (by decide) (fun v' aU h'=>?_)
 obtain⟨bq,J,rfl,rfl,hq⟩:=h'.pos (by omega)
 refine ai 2 ?_
 refine ai 1 ?_
 refine aa 1 ?_
 refine .drop 0 2 (.done ⟨rfl,.ae bq 0 (st.length+1) 1,[(bq,(an st++[.int .i64 a])++J)],?_,?_⟩)
 ·rw[bP,show an (st++[a])=an st++[.int .i64 a] from cO];exact h'
 ·rw[hwr];rfl
end Go.Proofs.YtnikdflhefijbaaGreat
