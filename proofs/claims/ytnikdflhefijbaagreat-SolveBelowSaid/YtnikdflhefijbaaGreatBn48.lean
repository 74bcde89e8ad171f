import Derived.Test.YtnikdflhefijbaaGreatBn44
import Derived.Test.YtnikdflhefijbaaGreatBn47
import Derived.Test.YtnikdflhefijbaaGreatBn46
namespace Go.Proofs.YtnikdflhefijbaaGreat
open Go.RowKit
set_option maxRecDepth 100000
set_option maxHeartbeats 4000000
theorem BB{what w:Int}(h:what=1∨what=2∨what=3){i:Nat}{x:Int}(hx:fG what w i x):cT what x x=x:=by
 obtain⟨rn,ia⟩:=hx
 obtain⟨a,rfl⟩:=mg rn.1
 have ha:a<18446744073709551616:=by have:=rn.2;omega
 rcases h with rfl | rfl | rfl
 ·rw[show cT 1 (a:Int) a=bits .or .u64 (a:Int) a from rfl,sM ha ha,Nat.or_self]
 ·rw[show cT 2 (a:Int) a=bits .and .u64 (a:Int) a from rfl,qH ha ha,Nat.and_self]
 ·rw[ai rfl]at ia
  rw[qS,wk ia ia,zR]
theorem Xi{what w:Int}(h:what=1∨what=2∨what=3){i:Nat}{x y:Int}(hx:fG what w i x)(hy:fG what w i y):cT what x y=cT what y x:=by
 obtain⟨rn,ia⟩:=hx
 obtain⟨tE,vu⟩:=hy
 obtain⟨a,rfl⟩:=mg rn.1
 obtain⟨b,rfl⟩:=mg tE.1
 have ha:a<18446744073709551616:=by have:=rn.2;omega
 have hb:b<18446744073709551616:=by have:=tE.2;omega
 rcases h with rfl | rfl | rfl
 ·show bits .or .u64 (a:Int) b=bits .or .u64 (b:Int) a
  rw[sM ha hb,sM hb ha,Nat.or_comm]
 ·show bits .and .u64 (a:Int) b=bits .and .u64 (b:Int) a
  rw[qH ha hb,qH hb ha,Nat.and_comm]
 ·rw[ai rfl]at ia vu
  rw[qS,qS,wk ia vu,wk vu ia,Gy]
theorem Wj{what w:Int}(h:what=1∨what=2∨what=3){i:Nat}{x y z:Int}(hx:fG what w i x)(hy:fG what w i y)(hz:fG what w i z):cT what (cT what x y) z=cT what x (cT what y z):=by
 have aN:=(BC h hx hy).2
 have D2:=(BC h hy hz).2
 obtain⟨rn,ia⟩:=hx
 obtain⟨tE,vu⟩:=hy
 obtain⟨xf,fA⟩:=hz
 obtain⟨a,rfl⟩:=mg rn.1
 obtain⟨b,rfl⟩:=mg tE.1
 obtain⟨c,rfl⟩:=mg xf.1
 have ha:a<18446744073709551616:=by have:=rn.2;omega
 have hb:b<18446744073709551616:=by have:=tE.2;omega
 have hc:c<18446744073709551616:=by have:=xf.2;omega
 rcases h with rfl | rfl | rfl
 ·have h1:a ||| b<2 ^ 64:=I3 ha hb
  have h2:b ||| c<2 ^ 64:=I3 hb hc
  show bits .or .u64 (bits .or .u64 (a:Int) b) c=bits .or .u64 (a:Int) (bits .or .u64 (b:Int) c)
  rw[sM ha hb,sM hb hc,sM h1 hc,sM ha h2,Nat.or_assoc]
 ·have h1:a &&& b≤a:=EB
  have h2:b &&& c≤b:=EB
  show bits .and .u64 (bits .and .u64 (a:Int) b) c=bits .and .u64 (a:Int) (bits .and .u64 (b:Int) c)
  rw[qH ha hb,qH hb hc,qH (by omega) hc,qH ha (by omega),Nat.and_assoc]
 ·rw[ai rfl]at ia vu fA aN D2
  rw[qS]at aN D2
  rw[qS,qS,qS,qS]
  rw[wk aN fA,wk ia D2,wk ia vu,wk vu fA,RV]
theorem s6(a:List Int)(i:Nat):a.getD i 0=wd a i:=by rw[aW];rfl
section
variable {s:Sy} {l:Lay} (hs:LS s l)
include hs
theorem LS.afl:dS s.what s.w=(nW l:Int):=by have:=hs.words;have:=hs.ww;omega
theorem LS.qZ{a:List Int}:dY s.what s.w a↔(a.length=nW l∧∀i,i<nW l→fG s.what s.w i (a.getD i 0)):=by
 rw[Fu hs.fW.sj,hs.afl]
 constructor
 ·rintro⟨h1,h2⟩
  have h1:a.length=nW l:=by omega
  exact⟨h1,fun i hi=>by rw[s6];exact h2 i (by omega)⟩
 ·rintro⟨h1,h2⟩
  exact⟨by omega,fun i hi=>by rw[← s6];exact h2 i (by omega)⟩
theorem LS.y4{a b:List Int}(ha:dY s.what s.w a)(hb:dY s.what s.w b):dV s.what s.w a b↔∀i,i<nW l→cT s.what (a.getD i 0) (b.getD i 0)=b.getD i 0:=by
 have la:=((hs.qZ).1 ha).1
 have lb:=((hs.qZ).1 hb).1
 constructor
 ·intro h i hi
  rw[s6,s6,← ya (by omega) (by omega),h.2.2]
 ·intro h
  refine⟨ha,hb,ye ?_ fun i hi=>?_⟩
  ·rw[iK (by omega)];omega
  ·rw[iK (by omega)]at hi
   rw[ya hi (by omega),← s6,← s6]
   exact h i (by omega)
theorem LS.afp{v:Nat}(hv:v<nN s){y:List Int}(hy:dY s.what s.w y):dY s.what s.w (iD s y v):=
 (Kt hs.fit hs.fW (dV.refl hy) (v:=v) (by have:=hs.nn;omega)).1
end
def M3(s:Sy)(v:Nat):List Nat:=(au s.n s.bf v).map Int.toNat
theorem adJ{s:Sy}{v u:Nat}(h:u∈M3 s v):u<nN s:=by
 obtain⟨z,hz,rfl⟩:=dX.1 h
 obtain⟨hz,_⟩:=nD.1 hz
 obtain⟨i,hi,rfl⟩:=dX.1 hz
 rw[bM]
 exact gw.1 hi
def lS(s:Sy)(l:Lay)(hs:LS s l):SX.AP where
 n:=nN s
 W:=nW l
 k:=l.k.toNat
 nx:=M3 s
 jw:=cT s.what
 out v y:=iD s y v
 ok i z:=fG s.what s.w i z
 CX _ h:=adJ h
 idem h:=BB hs.uF h
 comm h1 h2:=Xi hs.uF h1 h2
 assoc h1 h2 h3:=Wj hs.uF h1 h2 h3
 M1 h1 h2:=BC hs.uF h1 h2
 Hf hv h1 h2:=(hs.qZ).1 (hs.afp hv ((hs.qZ).2 ⟨h1,h2⟩))
 mono:=fun {v y z} hv h1 h2 h3 h4 h5=>by
  have hy:=(hs.qZ).2 ⟨h1,h3⟩
  have hz:=(hs.qZ).2 ⟨h2,h4⟩
  have hl:=Kt hs.fit hs.fW ((hs.y4 hy hz).2 h5) (v:=v) (by have:=hs.nn;omega)
  exact (hs.y4 hl.1 hl.2.1).1 hl
def DV(does:Int)(node:Nat)(out:List Int)(u:Nat)(r:List Nat):SX.Ph:=
 if does=0 then .idle 0 0
 else if does=1 then .idle 1 0
 else if does=2 then .idle 2 0
 else if does=3 then .clear node
 else if does=4 then .read node []
 else if does=5 then .join node out u r 0 none false
 else if does=6 then .take node out u r
 else if does=7 then .push node out u r 0
 else .dT node
def phN(does:Int)(node:Nat)(out:List Int)(u:Nat)(r:List Nat):Nw→SX.Ph
 |.none=>DV does node out u r
 |.pop q=>if q.at_=5∧q.ok=true then .held q.x.toNat else .idle 0 q.at_
 |.cu z=>.idle 1 z.at_
 |.quiet _=>.idle 2 0
 |.clear _=>.clear node
 |.read y=>.read node y
 |.join j=>.join node out u r j.at_ (if j.ff=true then some j.x else none) j.changed
 |.take t=>if t.jQ=true then .add node out u r else .take node out u r
 |.push q=>.push node out u r q.at_
 |.dT _=>.dT node
def dL(x:WS):SX.Ph:=if x.en=true then .done else phN x.does x.node.toNat x.out (x.nx.headD 0).toNat (x.nx.tail.map Int.toNat) x.now
theorem RC(l:Lay)(who d:Int)(x:WS):dL ⟨x.ev,x.jo,x.en,x.does,kh l who x d,x.node,x.has,x.nx,x.out⟩=dL x:=by
 unfold dL
 dsimp only
 congr 1
 unfold kh
 cases hn:x.now with
 |none=>
  dsimp only
  show _=DV _ _ _ _ _
  unfold DV
  by_cases h0:x.does=0
  ·rw[H2 h0,ai h0];rfl
  by_cases h1:x.does=1
  ·rw[H0 h1,ah h0,ai h1];rfl
  by_cases h2:x.does=2
  ·rw[HZ h2,ah h0,ah h1,ai h2];rfl
  by_cases h3:x.does=3
  ·rw[HY h3,ah h0,ah h1,ah h2,ai h3];rfl
  by_cases h4:x.does=4
  ·rw[HX h4,ah h0,ah h1,ah h2,ah h3,ai h4];rfl
  by_cases h5:x.does=5
  ·rw[HW h5,ah h0,ah h1,ah h2,ah h3,ah h4,ai h5];rfl
  by_cases h6:x.does=6
  ·rw[HV h6,ah h0,ah h1,ah h2,ah h3,ah h4,ah h5,ai h6];rfl
  by_cases h7:x.does=7
  ·rw[HU h7,ah h0,ah h1,ah h2,ah h3,ah h4,ah h5,ah h6,ai h7];rfl
  rw[HT h0 h1 h2 h3 h4 h5 h6 h7,ah h0,ah h1,ah h2,ah h3,ah h4,ah h5,ah h6,ah h7];rfl
 |_=>rfl
theorem Cp{ev jo:Int}{does node:Int}{has:Bool}{nx out:List Int}(hd:does=if nx.length=0 then 8 else 5):dL ⟨ev,jo,false,does,.none,node,has,nx,out⟩=SX.fN node.toNat out (nx.map Int.toNat):=by
 subst hd
 cases nx with
 |nil=>rfl
 |cons u r=>rfl
abbrev gE(s:Sy)(l:Lay)(j:Nat):Nat:=nN s*nW l+nN s+1+j*(nN s+3)
def rY:Nw→Own
 |.pop q=>some (true,q)
 |.push q=>some (false,q)
 |_=>none
def lB(W:List WS)(j:Nat):Own:=match W[j]? with
 |some x=>rY x.now
 |none=>none
def lH(s:Sy)(l:Lay)(W:List WS)(j:Nat)(z:DQ):Prop:=∃(i:Nat) (x:WS),W[i]?=some x∧x.now=.cu z∧z.base=(gE s l j:Int)
abbrev jh(c:List Nat):List Int:=c.map fun v:Nat=>(v:Int)
def cj(s:Sy)(l:Lay)(W:List WS)(ws:List Int)(D:List (List Nat)):SX.AS where
 cell v i:=if v<nN s∧i<nW l then ws.getD (v*nW l+i) 0 else 0
 flag v:=decide (v<nN s∧¬ws.getD (nN s*nW l+v) 0=0)
 aG:=(ws.getD (nN s*nW l+nN s) 0).toNat
 dq:=D
 ph:=W.map dL
 ev:=SX.aK (fun x=>x.ev.toNat) W
 jo:=SX.aK (fun x=>x.jo.toNat) W
structure RJ(s:Sy)(l:Lay)(hs:LS s l)(W:List WS)(ws:List Int)(D:List (List Nat))(T:Nat→Nat)(M:Nat):Prop where
 len:(W.length:Int)=l.k
 fl:ws.length=np l
 kF:0≤ws.getD (nN s*nW l+nN s) 0
 dl:D.length=W.length
 di:∀(j:Nat) (c:List Nat),D[j]?=some c→DI (gE s l j) (ef l) ws (lB W j) (lH s l W j) (T j) (jh c)
 top:∀j,T j≤M
 ev:∀x∈W,0≤x.ev∧x.ev≤M∧0≤x.jo∧x.jo≤M
 jn:∀x∈W,∀j,x.now=.join j→j.ff=true→cT j.what j.x (wd j.a j.at_)≠j.x
 pn:∀x∈W,∀q,x.now=.push q→q.n=x.nx.headD 0
 ti:SX.TI (lS s l hs) (cj s l W ws D)
theorem zP{W:List WS}{i:Nat}{x:WS}(h:W[i]?=some x):lB W i=rY x.now:=by unfold lB;rw[h]
theorem Ks{W:List WS}{i:Nat}(hi:i<W.length)(x:WS)(j:Nat):lB (W.set i x) j=if i=j then rY x.now else lB W j:=by
 unfold lB
 rw[eR]
 by_cases h:i=j
 ·subst h;rw[ai rfl,ai hi,ai rfl]
 ·rw[ah h,ah h]
theorem qI{α:Type}{W:List α}{i:Nat}{x:α}(h:W[i]?=some x):W.set i x=W:=by
 refine zg fun j=>?_
 rw[eR]
 by_cases hj:i=j
 ·subst hj;rw[ai rfl,ai (cf.1 h).1,h]
 ·rw[ah hj]
theorem Gi{s:Sy}{l:Lay}{W:List WS}{i:Nat}{x:WS}{j:Nat}{z:DQ}(h:lH s l (W.set i x) j z):lH s l W j z∨(x.now=.cu z∧z.base=(gE s l j:Int)):=by
 obtain⟨k,y,hy,h1,h2⟩:=h
 rw[eR]at hy
 by_cases hk:i=k
 ·subst hk
  rw[ai rfl]at hy
  split at hy
  ·cases hy;exact .inr ⟨h1,h2⟩
  ·cases hy
 ·rw[ah hk]at hy
  exact .inl ⟨k,y,hy,h1,h2⟩
theorem Uc{N b i j:Nat}(h:i≠j){a:Nat}(h1:b+i*(N+3)≤a)(h2:a<b+i*(N+3)+2+(N+1)):¬(b+j*(N+3)≤a∧a<b+j*(N+3)+2+(N+1)):=by
 rintro⟨h3,h4⟩
 rcases Nat.lt_or_gt_of_ne h with h5 | h5
 ·have:=lO (N+3) (show i+1≤j by omega)
  rw[qz]at this
  omega
 ·have:=lO (N+3) (show j+1≤i by omega)
  rw[qz]at this
  omega
theorem zx{α:Type}{W:List α}{i:Nat}{x y:α}(h:y∈W.set i x):y∈W∨y=x:=qD h
section
variable {s:Sy} {l:Lay} {hs:LS s l} {W:List WS} {ws:List Int} {D:List (List Nat)} {T:Nat→Nat} {M:Nat}
theorem RJ.fin(hR:RJ s l hs W ws D T M){i:Nat}{x x':WS}(hx:W[i]?=some x){ws':List Int}{D':List (List Nat)}{T':Nat→Nat}(ga:ws'.length=ws.length)(hc:0≤ws'.getD (nN s*nW l+nN s) 0)(ee:D'.length=D.length)
  (kB:∀(j:Nat) (c:List Nat),D'[j]?=some c→DI (gE s l j) (ef l) ws' (lB (W.set i x') j) (lH s l (W.set i x') j) (T' j) (jh c))
  (yL:∀j,T' j≤M+1) (k9:x'.ev=x.ev∨x'.ev=x.ev+1) (mH:x'.jo=x.jo∨x'.jo=x.jo+1) (y6:∀j,x'.now=.join j→j.ff=true→cT j.what j.x (wd j.a j.at_)≠j.x) (sq:∀q,x'.now=.push q→q.n=x'.nx.headD 0)
  (sm:SX.Tr (lS s l hs) (cj s l W ws D) i (cj s l (W.set i x') ws' D')):RJ s l hs (W.set i x') ws' D' T' (M+1)∧SX.Tr (lS s l hs) (cj s l W ws D) i (cj s l (W.set i x') ws' D'):=by
 have h0:=hR.ev x (cq hx)
 refine⟨⟨by rw[cM];exact hR.len,ga.trans hR.fl,hc,by rw[cM,ee];exact hR.dl,kB,yL,fun y hy=>?_,fun y hy=>?_,fun y hy=>?_,hR.ti.step sm⟩,sm⟩
 ·rcases zx hy with hy | rfl
  ·have:=hR.ev y hy;omega
  ·omega
 ·rcases zx hy with hy | rfl
  ·exact hR.jn y hy
  ·exact y6
 ·rcases zx hy with hy | rfl
  ·exact hR.pn y hy
  ·exact sq
theorem wM(hR:RJ s l hs W ws D T M){i:Nat}{x x':WS}(hx:W[i]?=some x){ws':List Int}{c':List Nat}{T':Nat}(ga:ws'.length=ws.length)
  (iU:∀a,¬(gE s l i≤a∧a<gE s l i+2+rm (ef l))→ws'.getD a 0=ws.getD a 0) (MA:∀z,x'.now≠.cu z)
  (hD:DI (gE s l i) (ef l) ws' (rY x'.now) (lH s l W i) T' (jh c')):∀(j:Nat) (c:List Nat),(D.set i c')[j]?=some c→DI (gE s l j) (ef l) ws' (lB (W.set i x') j) (lH s l (W.set i x') j) (if j=i then T' else T j) (jh c):=by
 intro j c hj
 have hi:=(cf.1 hx).1
 have sn:∀z,lH s l (W.set i x') j z→lH s l W j z:=fun z hz=>by
  rcases Gi hz with h | h
  ·exact h
  ·exact absurd h.1 (MA z)
 rw[Ks hi]
 rw[eR]at hj
 by_cases h:i=j
 ·subst h
  rw[ai rfl,ai (by rw[hR.dl];exact hi)]at hj
  cases hj
  rw[ai rfl,ai rfl]
  exact hD.qc sn
 ·rw[ah h]at hj
  rw[ah h,ah (fun e=>h e.symm)]
  refine ((hR.di j c hj).ET ga fun a h1 h2=>?_).qc sn
  rw[hs.room.2]at h2 iU
  exact iU a (Uc (fun e=>h e.symm) h1 h2)
theorem oZ(hR:RJ s l hs W ws D T M){i:Nat}{x x':WS}(hx:W[i]?=some x){ws':List Int}(ga:ws'.length=ws.length)
  (iU:∀a,nN s*nW l+nN s+1≤a→ws'.getD a 0=ws.getD a 0) (MA:∀z,x'.now≠.cu z) (ho:rY x.now=rY x'.now) :
  ∀(j:Nat) (c:List Nat),D[j]?=some c→DI (gE s l j) (ef l) ws' (lB (W.set i x') j) (lH s l (W.set i x') j) (T j) (jh c):=by
 intro j c hj
 have hi:=(cf.1 hx).1
 have e:lB (W.set i x') j=lB W j:=by
  rw[Ks hi]
  by_cases h:i=j
  ·subst h;rw[ai rfl,zP hx,ho]
  ·rw[ah h]
 rw[e]
 refine ((hR.di j c hj).ET ga fun a h1 h2=>iU a (by unfold gE at h1;omega)).qc fun z hz=>?_
 rcases Gi hz with h | h
 ·exact h
 ·exact absurd h.1 (MA z)
theorem GY(hR:RJ s l hs W ws D T M){i v:Nat}{x x':WS}{q':DQ}(hx:W[i]?=some x)(hv:v<D.length){ws':List Int}{c':List Nat}{T':Nat}(ga:ws'.length=ws.length)
  (iU:∀a,¬(gE s l v≤a∧a<gE s l v+2+rm (ef l))→ws'.getD a 0=ws.getD a 0) (aq:(x'.now=.cu q'∧q'.base=(gE s l v:Int))∨∀z,x'.now≠.cu z) (ho:rY x.now=rY x'.now)
  (hD:DI (gE s l v) (ef l) ws' (lB W v) (fun z=>lH s l W v z∨(x'.now=.cu z∧z=q')) T' (jh c')):∀(j:Nat) (c:List Nat),(D.set v c')[j]?=some c→DI (gE s l j) (ef l) ws' (lB (W.set i x') j) (lH s l (W.set i x') j) (if j=v then T' else T j) (jh c):=by
 intro j c hj
 have hi:=(cf.1 hx).1
 have e:lB (W.set i x') j=lB W j:=by
  rw[Ks hi]
  by_cases h:i=j
  ·subst h;rw[ai rfl,zP hx,ho]
  ·rw[ah h]
 rw[e]
 rw[eR]at hj
 by_cases h:v=j
 ·subst h
  rw[ai rfl,ai hv]at hj
  cases hj
  rw[ai rfl]
  refine hD.qc fun z hz=>?_
  rcases Gi hz with h | h
  ·exact .inl h
  ·refine .inr ⟨h.1,?_⟩
   rcases aq with h2 | h2
   ·have:=h.1.symm.trans h2.1
    cases this;rfl
   ·exact absurd h.1 (h2 z)
 ·rw[ah h]at hj
  rw[ah (fun e=>h e.symm)]
  refine ((hR.di j c hj).ET ga fun a h1 h2=>?_).qc fun z hz=>?_
  ·rw[hs.room.2]at h2 iU
   exact iU a (Uc (fun e=>h e.symm) h1 h2)
  ·rcases Gi hz with h3 | h3
   ·exact h3
   ·rcases aq with h2 | h2
    ·have h4:=h3.1.symm.trans h2.1
     cases h4
     have h5:=h3.2.symm.trans h2.2
     have h6:j*(nN s+3)=v*(nN s+3):=by unfold gE at h5;omega
     exact absurd (Nat.eq_of_mul_eq_mul_right (by omega) h6).symm h
    ·exact absurd h3.1 (h2 z)
theorem Av{A B:SX.AS}(h1:∀v i,A.cell v i=B.cell v i)(h2:∀v,A.flag v=B.flag v)(h3:A.aG=B.aG)(h4:A.dq=B.dq)(h5:A.ph=B.ph)(h6:A.ev=B.ev)(h7:A.jo=B.jo):A=B:=by
 obtain⟨a1,a2,a3,a4,a5,a6,a7⟩:=A
 obtain⟨b1,b2,b3,b4,b5,b6,b7⟩:=B
 obtain rfl:a1=b1:=funext fun v=>funext fun i=>h1 v i
 obtain rfl:a2=b2:=funext h2
 cases h3;cases h4;cases h5;cases h6;cases h7;rfl
theorem ue{f:WS→Nat}{i:Nat}{x x':WS}(hx:W[i]?=some x)(h:f x'=f x):SX.aK f (W.set i x')=SX.aK f W:=by
 have:=SX.fF f W i x x' hx
 omega
theorem lV{i:Nat}{x x':WS}(hx:W[i]?=some x){ws':List Int}(fx:∀a,a<nN s*nW l+nN s+1→ws'.getD a 0=ws.getD a 0)(k9:x'.ev=x.ev)(mH:x'.jo=x.jo)(D':List (List Nat)):
  cj s l (W.set i x') ws' D' = { cj s l W ws D with dq:=D',ph:=(cj s l W ws D).ph.set i (dL x') }:=by
 refine Av (fun v j=>?_) (fun v=>?_) ?_ rfl ?_ ?_ ?_
 ·show (if _ then _ else _)=(if _ then _ else _)
  by_cases h:v<nN s∧j<nW l
  ·have:=sT h.1 h.2
   rw[ai h,ai h,fx _ (by omega)]
  ·rw[ah h,ah h]
 ·show decide _=decide _
  by_cases h:v<nN s
  ·rw[fx _ (by omega)]
  ·rw[bR (fun e=>h e.1),bR (fun e=>h e.1)]
 ·show (ws'.getD _ 0).toNat=(ws.getD _ 0).toNat
  rw[fx _ (by omega)]
 ·show (W.set i x').map dL=(W.map dL).set i (dL x')
  rw[oM]
 ·exact ue hx (by rw[k9])
 ·exact ue hx (by rw[mH])
theorem ml{i:Nat}{x:WS}(hx:W[i]?=some x):(cj s l W ws D).ph[i]?=some (dL x):=by
 show (W.map dL)[i]?=_
 rw[fo,hx];rfl
theorem Sf{i:Nat}{x x':WS}(hx:W[i]?=some x){ws':List Int}{u:Nat}{z:Int}(hu:u<nN s)(hl:nN s*nW l+u<ws.length)(hw:ws'=ws.set (nN s*nW l+u) z)(k9:x'.ev=x.ev)(mH:x'.jo=x.jo):
  cj s l (W.set i x') ws' D = { cj s l W ws D with flag:=fun v=>if v=u then decide (¬z=0) else (cj s l W ws D).flag v,ph:=(cj s l W ws D).ph.set i (dL x') }:=by
 subst hw
 refine Av (fun v j=>?_) (fun v=>?_) ?_ rfl ?_ ?_ ?_
 ·show (if _ then _ else _)=(if _ then _ else _)
  by_cases h:v<nN s∧j<nW l
  ·have:=sT h.1 h.2
   rw[ai h,ai h,jV,ah (by omega)]
  ·rw[ah h,ah h]
 ·show decide _=if v=u then _ else decide _
  by_cases h:v=u
  ·subst h
   rw[ai rfl,jV,ai ⟨rfl,hl⟩]
   simp[hu]
  ·rw[ah h,jV,ah (by omega)]
 ·show ((ws.set _ _).getD _ 0).toNat=(ws.getD _ 0).toNat
  rw[jV,ah (by omega)]
 ·show (W.set i x').map dL=(W.map dL).set i (dL x')
  rw[oM]
 ·exact ue hx (by rw[k9])
 ·exact ue hx (by rw[mH])
theorem Tl{i:Nat}{x x':WS}(hx:W[i]?=some x){ws':List Int}{z:Int}(hl:nN s*nW l+nN s<ws.length)(hw:ws'=ws.set (nN s*nW l+nN s) z)(k9:x'.ev=x.ev)(mH:x'.jo=x.jo):
  cj s l (W.set i x') ws' D = { cj s l W ws D with aG:=z.toNat,ph:=(cj s l W ws D).ph.set i (dL x') }:=by
 subst hw
 refine Av (fun v j=>?_) (fun v=>?_) ?_ rfl ?_ ?_ ?_
 ·show (if _ then _ else _)=(if _ then _ else _)
  by_cases h:v<nN s∧j<nW l
  ·have:=sT h.1 h.2
   rw[ai h,ai h,jV,ah (by omega)]
  ·rw[ah h,ah h]
 ·show decide _=decide _
  by_cases h:v<nN s
  ·rw[jV,ah (by omega)]
  ·rw[bR (fun e=>h e.1),bR (fun e=>h e.1)]
 ·show ((ws.set _ _).getD _ 0).toNat=z.toNat
  rw[jV,ai ⟨rfl,hl⟩]
 ·show (W.set i x').map dL=(W.map dL).set i (dL x')
  rw[oM]
 ·exact ue hx (by rw[k9])
 ·exact ue hx (by rw[mH])
theorem aaW{i:Nat}{x x':WS}(hx:W[i]?=some x){ws':List Int}{u j:Nat}{z:Int}(hu:u<nN s)(hj:j<nW l)(hl:u*nW l+j<ws.length)(hw:ws'=ws.set (u*nW l+j) z)(k9:x'.ev=x.ev)(k:Nat)(mH:x'.jo.toNat=x.jo.toNat+k):
  cj s l (W.set i x') ws' D = { cj s l W ws D with cell:=SX.eC (cj s l W ws D).cell u j z,ph:=(cj s l W ws D).ph.set i (dL x'),jo:=(cj s l W ws D).jo+k }:=by
 subst hw
 have h0:=sT hu hj
 refine Av (fun v t=>?_) (fun v=>?_) ?_ rfl ?_ ?_ ?_
 ·show (if _ then _ else _)=SX.eC _ _ _ _ _ _
  unfold SX.eC
  by_cases h:v<nN s∧t<nW l
  ·rw[ai h,jV]
   by_cases e:v=u∧t=j
   ·obtain⟨rfl,rfl⟩:=e
    rw[ai ⟨rfl,hl⟩,ai ⟨rfl,rfl⟩]
   ·rw[ah e,ah fun h2=>e (Sc h.2 hj h2.1.symm)]
    show _=if _ then _ else _
    rw[ai h]
  ·rw[ah h,ah (fun e=>h (by rw[e.1,e.2];exact⟨hu,hj⟩))]
   show _=if _ then _ else _
   rw[ah h]
 ·show decide _=decide _
  rw[jV,ah (by omega)]
 ·show ((ws.set _ _).getD _ 0).toNat=(ws.getD _ 0).toNat
  rw[jV,ah (by omega)]
 ·show (W.set i x').map dL=(W.map dL).set i (dL x')
  rw[oM]
 ·exact ue hx (by rw[k9])
 ·show SX.aK _ _=SX.aK _ _+k
  have:=SX.fF (fun x:WS=>x.jo.toNat) W i x x' hx
  omega
theorem ae4{i:Nat}{x x':WS}(hx:W[i]?=some x)(k9:x'.ev.toNat=x.ev.toNat+1)(mH:x'.jo=x.jo):
  cj s l (W.set i x') ws D = { cj s l W ws D with ph:=(cj s l W ws D).ph.set i (dL x'),ev:=(cj s l W ws D).ev+1 }:=by
 refine Av (fun _ _=>rfl) (fun _=>rfl) rfl rfl ?_ ?_ ?_
 ·show (W.set i x').map dL=(W.map dL).set i (dL x')
  rw[oM]
 ·show SX.aK _ _=SX.aK _ _+1
  have:=SX.fF (fun x:WS=>x.ev.toNat) W i x x' hx
  omega
 ·exact ue hx (by rw[mH])
theorem ae3{i:Nat}{x x':WS}(hx:W[i]?=some x)(k9:x'.ev=x.ev)(k:Nat)(mH:x'.jo.toNat=x.jo.toNat+k):
  cj s l (W.set i x') ws D = { cj s l W ws D with ph:=(cj s l W ws D).ph.set i (dL x'),jo:=(cj s l W ws D).jo+k }:=by
 refine Av (fun _ _=>rfl) (fun _=>rfl) rfl rfl ?_ ?_ ?_
 ·show (W.set i x').map dL=(W.map dL).set i (dL x')
  rw[oM]
 ·exact ue hx (by rw[k9])
 ·show SX.aK _ _=SX.aK _ _+k
  have:=SX.fF (fun x:WS=>x.jo.toNat) W i x x' hx
  omega
end
end Go.Proofs.YtnikdflhefijbaaGreat
