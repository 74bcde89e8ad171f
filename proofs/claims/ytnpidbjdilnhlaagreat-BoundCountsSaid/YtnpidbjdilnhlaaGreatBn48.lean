import Derived.Test.YtnpidbjdilnhlaaGreatBn44
import Derived.Test.YtnpidbjdilnhlaaGreatBn47
import Derived.Test.YtnpidbjdilnhlaaGreatBn46
namespace Go.Proofs.YtnpidbjdilnhlaaGreat
open Go.RowKit
set_option maxRecDepth 100000
set_option maxHeartbeats 4000000
theorem yY{what w:Int}(h:what=1∨what=2∨what=3){i:Nat}{x:Int}(hx:eG what w i x):cu what x x=x:=by
 obtain⟨pq,fR⟩:=hx
 obtain⟨a,rfl⟩:=Int.eq_ofNat_of_zero_le pq.1
 have ha:a<18446744073709551616:=by have:=pq.2;omega
 rcases h with rfl | rfl | rfl
 ·rw[show cu 1 (a:Int) a=bits .or .u64 (a:Int) a from rfl,qB ha ha,Nat.or_self]
 ·rw[show cu 2 (a:Int) a=bits .and .u64 (a:Int) a from rfl,pD ha ha,Nat.and_self]
 ·rw[if_pos rfl]at fR
  rw[oT,tB fR fR,xv]
theorem SJ{what w:Int}(h:what=1∨what=2∨what=3){i:Nat}{x y:Int}(hx:eG what w i x)(hy:eG what w i y):cu what x y=cu what y x:=by
 obtain⟨pq,fR⟩:=hx
 obtain⟨ru,sQ⟩:=hy
 obtain⟨a,rfl⟩:=Int.eq_ofNat_of_zero_le pq.1
 obtain⟨b,rfl⟩:=Int.eq_ofNat_of_zero_le ru.1
 have ha:a<18446744073709551616:=by have:=pq.2;omega
 have hb:b<18446744073709551616:=by have:=ru.2;omega
 rcases h with rfl | rfl | rfl
 ·show bits .or .u64 (a:Int) b=bits .or .u64 (b:Int) a
  rw[qB ha hb,qB hb ha,Nat.or_comm]
 ·show bits .and .u64 (a:Int) b=bits .and .u64 (b:Int) a
  rw[pD ha hb,pD hb ha,Nat.and_comm]
 ·rw[if_pos rfl]at fR sQ
  rw[oT,oT,tB fR sQ,tB sQ fR,Dm]
theorem RQ{what w:Int}(h:what=1∨what=2∨what=3){i:Nat}{x y z:Int}(hx:eG what w i x)(hy:eG what w i y)(hz:eG what w i z):cu what (cu what x y) z=cu what x (cu what y z):=by
 have aG:=(yZ h hx hy).2
 have BB:=(yZ h hy hz).2
 obtain⟨pq,fR⟩:=hx
 obtain⟨ru,sQ⟩:=hy
 obtain⟨yA,eX⟩:=hz
 obtain⟨a,rfl⟩:=Int.eq_ofNat_of_zero_le pq.1
 obtain⟨b,rfl⟩:=Int.eq_ofNat_of_zero_le ru.1
 obtain⟨c,rfl⟩:=Int.eq_ofNat_of_zero_le yA.1
 have ha:a<18446744073709551616:=by have:=pq.2;omega
 have hb:b<18446744073709551616:=by have:=ru.2;omega
 have hc:c<18446744073709551616:=by have:=yA.2;omega
 rcases h with rfl | rfl | rfl
 ·have h1:a ||| b<2 ^ 64:=Nat.or_lt_two_pow ha hb
  have h2:b ||| c<2 ^ 64:=Nat.or_lt_two_pow hb hc
  show bits .or .u64 (bits .or .u64 (a:Int) b) c=bits .or .u64 (a:Int) (bits .or .u64 (b:Int) c)
  rw[qB ha hb,qB hb hc,qB h1 hc,qB ha h2,Nat.or_assoc]
 ·have h1:a &&& b≤a:=Nat.and_le_left
  have h2:b &&& c≤b:=Nat.and_le_left
  show bits .and .u64 (bits .and .u64 (a:Int) b) c=bits .and .u64 (a:Int) (bits .and .u64 (b:Int) c)
  rw[pD ha hb,pD hb hc,pD (by omega) hc,pD ha (by omega),Nat.and_assoc]
 ·rw[if_pos rfl]at fR sQ eX aG BB
  rw[oT]at aG BB
  rw[oT,oT,oT,oT]
  rw[tB aG eX,tB fR BB,tB fR sQ,tB sQ eX,Nz]
theorem qU(a:List Int)(i:Nat):a.getD i 0=wd a i:=by rw[List.getD_eq_getElem?_getD];rfl
section
variable {s:Sy} {l:Lay} (hs:LS s l)
include hs
theorem LS.abC:eE s.what s.w=(nW l:Int):=by have:=hs.words;have:=hs.ww;omega
theorem LS.o6{a:List Int}:dC s.what s.w a↔(a.length=nW l∧∀i,i<nW l→eG s.what s.w i (a.getD i 0)):=by
 rw[Cx hs.iT.rr,hs.abC]
 constructor
 ·rintro⟨h1,h2⟩
  have h1:a.length=nW l:=by omega
  exact⟨h1,fun i hi=>by rw[qU];exact h2 i (by omega)⟩
 ·rintro⟨h1,h2⟩
  exact⟨by omega,fun i hi=>by rw[← qU];exact h2 i (by omega)⟩
theorem LS.Bv{a b:List Int}(ha:dC s.what s.w a)(hb:dC s.what s.w b):dc s.what s.w a b↔∀i,i<nW l→cu s.what (a.getD i 0) (b.getD i 0)=b.getD i 0:=by
 have la:=((hs.o6).1 ha).1
 have lb:=((hs.o6).1 hb).1
 constructor
 ·intro h i hi
  rw[qU,qU,← vu (by omega) (by omega),h.2.2]
 ·intro h
  refine⟨ha,hb,xC ?_ fun i hi =>?_⟩
  ·rw[gr (by omega)];omega
  ·rw[gr (by omega)]at hi
   rw[vu hi (by omega),← qU,← qU]
   exact h i (by omega)
theorem LS.abJ{v:Nat}(hv:v<nN s){y:List Int}(hy:dC s.what s.w y):dC s.what s.w (iD s y v):=
 (GU hs.fit hs.iT (dc.refl hy) (v:=v) (by have:=hs.nn;omega)).1
end
def Jq(s:Sy)(v:Nat):List Nat:=(an s.n s.aR v).map Int.toNat
theorem Z5{s:Sy}{v u:Nat}(h:u∈Jq s v):u<nN s:=by
 obtain⟨z,hz,rfl⟩:=List.mem_map.1 h
 obtain⟨hz,_⟩:=List.mem_filter.1 hz
 obtain⟨i,hi,rfl⟩:=List.mem_map.1 hz
 rw[Int.toNat_natCast]
 exact List.mem_range.1 hi
def j5(s:Sy)(l:Lay)(hs:LS s l):SX.AP where
 n:=nN s
 W:=nW l
 k:=l.k.toNat
 nx:=Jq s
 jw:=cu s.what
 out v y:=iD s y v
 ok i z:=eG s.what s.w i z
 Aw _ h:=Z5 h
 idem h:=yY hs.sh h
 comm h1 h2:=SJ hs.sh h1 h2
 assoc h1 h2 h3:=RQ hs.sh h1 h2 h3
 Jp h1 h2:=yZ hs.sh h1 h2
 D3 hv h1 h2:=(hs.o6).1 (hs.abJ hv ((hs.o6).2 ⟨h1,h2⟩))
 mono:=fun {v y z} hv h1 h2 h3 h4 h5=>by
  have hy:=(hs.o6).2 ⟨h1,h3⟩
  have hz:=(hs.o6).2 ⟨h2,h4⟩
  have hl:=GU hs.fit hs.iT ((hs.Bv hy hz).2 h5) (v:=v) (by have:=hs.nn;omega)
  exact (hs.Bv hl.1 hl.2.1).1 hl
def Bu(does:Int)(node:Nat)(out:List Int)(u:Nat)(r:List Nat):SX.Ph:=
 if does=0 then .idle 0 0
 else if does=1 then .idle 1 0
 else if does=2 then .idle 2 0
 else if does=3 then .clear node
 else if does=4 then .read node []
 else if does=5 then .join node out u r 0 none false
 else if does=6 then .take node out u r
 else if does=7 then .push node out u r 0
 else .cX node
def phN(does:Int)(node:Nat)(out:List Int)(u:Nat)(r:List Nat):Nw→SX.Ph
 | .none=>Bu does node out u r
 | .pop q=>if q.at_=5∧q.ok=true then .held q.x.toNat else .idle 0 q.at_
 | .bE z=>.idle 1 z.at_
 | .quiet _=>.idle 2 0
 | .clear _=>.clear node
 | .read y=>.read node y
 | .join j=>.join node out u r j.at_ (if j.ek=true then some j.x else none) j.changed
 | .take t=>if t.im=true then .add node out u r else .take node out u r
 | .push q=>.push node out u r q.at_
 | .cX _=>.cX node
def cQ(x:WS):SX.Ph:=if x.en=true then .done else phN x.does x.node.toNat x.out (x.nx.headD 0).toNat (x.nx.tail.map Int.toNat) x.now
theorem Nc(l:Lay)(who d:Int)(x:WS):cQ ⟨x.ev,x.jo,x.en,x.does,iO l who x d,x.node,x.has,x.nx,x.out⟩=cQ x:=by
 unfold cQ
 dsimp only
 congr 1
 unfold iO
 cases hn:x.now with
 | none =>
  dsimp only
  show _=Bu _ _ _ _ _
  unfold Bu
  by_cases h0:x.does=0
  ·rw[ET h0,if_pos h0];rfl
  by_cases h1:x.does=1
  ·rw[ES h1,if_neg h0,if_pos h1];rfl
  by_cases h2:x.does=2
  ·rw[ER h2,if_neg h0,if_neg h1,if_pos h2];rfl
  by_cases h3:x.does=3
  ·rw[EP h3,if_neg h0,if_neg h1,if_neg h2,if_pos h3];rfl
  by_cases h4:x.does=4
  ·rw[EO h4,if_neg h0,if_neg h1,if_neg h2,if_neg h3,if_pos h4];rfl
  by_cases h5:x.does=5
  ·rw[EN h5,if_neg h0,if_neg h1,if_neg h2,if_neg h3,if_neg h4,if_pos h5];rfl
  by_cases h6:x.does=6
  ·rw[EM h6,if_neg h0,if_neg h1,if_neg h2,if_neg h3,if_neg h4,if_neg h5,if_pos h6];rfl
  by_cases h7:x.does=7
  ·rw[EL h7,if_neg h0,if_neg h1,if_neg h2,if_neg h3,if_neg h4,if_neg h5,if_neg h6,if_pos h7];rfl
  rw[EK h0 h1 h2 h3 h4 h5 h6 h7,if_neg h0,if_neg h1,if_neg h2,if_neg h3,if_neg h4,if_neg h5,if_neg h6,if_neg h7];rfl
 | _=>rfl
theorem zV{ev jo:Int}{does node:Int}{has:Bool}{nx out:List Int}(hd:does=if nx.length=0 then 8 else 5):cQ ⟨ev,jo,false,does,.none,node,has,nx,out⟩=SX.eP node.toNat out (nx.map Int.toNat):=by
 subst hd
 cases nx with
 | nil=>rfl
 | cons u r=>rfl
abbrev fD(s:Sy)(l:Lay)(j:Nat):Nat:=nN s*nW l+nN s+1+j*(nN s+3)
def pR:Nw→Own
 | .pop q=>some (true,q)
 | .push q=>some (false,q)
 | _=>none
def jR(W:List WS)(j:Nat):Own:=match W[j]? with
 | some x=>pR x.now
 | none=>none
def jT(s:Sy)(l:Lay)(W:List WS)(j:Nat)(z:DQ):Prop:=∃(i:Nat) (x:WS),W[i]?=some x∧x.now=.bE z∧z.base=(fD s l j:Int)
abbrev gQ(c:List Nat):List Int:=c.map fun v:Nat=>(v:Int)
def bC(s:Sy)(l:Lay)(W:List WS)(ws:List Int)(D:List (List Nat)):SX.AS where
 cell v i:=if v<nN s∧i<nW l then ws.getD (v*nW l+i) 0 else 0
 flag v:=decide (v<nN s∧¬ws.getD (nN s*nW l+v) 0=0)
 aB:=(ws.getD (nN s*nW l+nN s) 0).toNat
 dq:=D
 ph:=W.map cQ
 ev:=SX.aE (fun x=>x.ev.toNat) W
 jo:=SX.aE (fun x=>x.jo.toNat) W
structure RJ(s:Sy)(l:Lay)(hs:LS s l)(W:List WS)(ws:List Int)(D:List (List Nat))(T:Nat→Nat)(M:Nat):Prop where
 len:(W.length:Int)=l.k
 fl:ws.length=lD l
 ji:0≤ws.getD (nN s*nW l+nN s) 0
 dl:D.length=W.length
 di:∀(j:Nat) (c:List Nat),D[j]?=some c→DI (fD s l j) (du l) ws (jR W j) (jT s l W j) (T j) (gQ c)
 top:∀j,T j≤M
 ev:∀x∈W,0≤x.ev∧x.ev≤M∧0≤x.jo∧x.jo≤M
 jn:∀x∈W,∀j,x.now=.join j→j.ek=true→cu j.what j.x (wd j.a j.at_)≠j.x
 pn:∀x∈W,∀q,x.now=.push q→q.n=x.nx.headD 0
 ti:SX.TI (j5 s l hs) (bC s l W ws D)
theorem xr{W:List WS}{i:Nat}{x:WS}(h:W[i]?=some x):jR W i=pR x.now:=by unfold jR;rw[h]
theorem GS{W:List WS}{i:Nat}(hi:i<W.length)(x:WS)(j:Nat):jR (W.set i x) j=if i=j then pR x.now else jR W j:=by
 unfold jR
 rw[List.getElem?_set]
 by_cases h:i=j
 ·subst h;rw[if_pos rfl,if_pos hi,if_pos rfl]
 ·rw[if_neg h,if_neg h]
theorem oI{α:Type}{W:List α}{i:Nat}{x:α}(h:W[i]?=some x):W.set i x=W:=by
 refine List.ext_getElem? fun j =>?_
 rw[List.getElem?_set]
 by_cases hj:i=j
 ·subst hj;rw[if_pos rfl,if_pos (List.getElem?_eq_some_iff.1 h).1,h]
 ·rw[if_neg hj]
theorem Da{s:Sy}{l:Lay}{W:List WS}{i:Nat}{x:WS}{j:Nat}{z:DQ}(h:jT s l (W.set i x) j z):jT s l W j z∨(x.now=.bE z∧z.base=(fD s l j:Int)):=by
 obtain⟨k,y,hy,h1,h2⟩:=h
 rw[List.getElem?_set]at hy
 by_cases hk:i=k
 ·subst hk
  rw[if_pos rfl]at hy
  split at hy
  ·cases hy;exact .inr ⟨h1,h2⟩
  ·cases hy
 ·rw[if_neg hk]at hy
  exact .inl ⟨k,y,hy,h1,h2⟩
theorem PD{N b i j:Nat}(h:i≠j){a:Nat}(h1:b+i*(N+3)≤a)(h2:a<b+i*(N+3)+2+(N+1)):¬(b+j*(N+3)≤a∧a<b+j*(N+3)+2+(N+1)):=by
 rintro⟨h3,h4⟩
 rcases Nat.lt_or_gt_of_ne h with h5 | h5
 ·have:=Nat.mul_le_mul_right (N+3) (show i+1≤j by omega)
  rw[Nat.succ_mul]at this
  omega
 ·have:=Nat.mul_le_mul_right (N+3) (show j+1≤i by omega)
  rw[Nat.succ_mul]at this
  omega
theorem w7{α:Type}{W:List α}{i:Nat}{x y:α}(h:y∈W.set i x):y∈W∨y=x:=List.mem_or_eq_of_mem_set h
section
variable {s:Sy} {l:Lay} {hs:LS s l} {W:List WS} {ws:List Int} {D:List (List Nat)} {T:Nat→Nat} {M:Nat}
theorem RJ.fin(hR:RJ s l hs W ws D T M){i:Nat}{x x':WS}(hx:W[i]?=some x){ws':List Int}{D':List (List Nat)}{T':Nat→Nat}(fB:ws'.length=ws.length)(hc:0≤ws'.getD (nN s*nW l+nN s) 0)(dA:D'.length=D.length)
  (je:∀(j:Nat) (c:List Nat),D'[j]?=some c→DI (fD s l j) (du l) ws' (jR (W.set i x') j) (jT s l (W.set i x') j) (T' j) (gQ c))
  (wg:∀j,T' j≤M+1) (jI:x'.ev=x.ev∨x'.ev=x.ev+1) (kP:x'.jo=x.jo∨x'.jo=x.jo+1) (wK:∀j,x'.now=.join j→j.ek=true→cu j.what j.x (wd j.a j.at_)≠j.x) (qk:∀q,x'.now=.push q→q.n=x'.nx.headD 0)
  (qh:SX.Tr (j5 s l hs) (bC s l W ws D) i (bC s l (W.set i x') ws' D')):RJ s l hs (W.set i x') ws' D' T' (M+1)∧SX.Tr (j5 s l hs) (bC s l W ws D) i (bC s l (W.set i x') ws' D'):=by
 have h0:=hR.ev x (List.mem_of_getElem? hx)
 refine⟨⟨by rw[List.length_set];exact hR.len,fB.trans hR.fl,hc,by rw[List.length_set,dA];exact hR.dl,je,wg,fun y hy =>?_,fun y hy =>?_,fun y hy =>?_,hR.ti.step qh⟩,qh⟩
 ·rcases w7 hy with hy | rfl
  ·have:=hR.ev y hy;omega
  ·omega
 ·rcases w7 hy with hy | rfl
  ·exact hR.jn y hy
  ·exact wK
 ·rcases w7 hy with hy | rfl
  ·exact hR.pn y hy
  ·exact qk
theorem tT(hR:RJ s l hs W ws D T M){i:Nat}{x x':WS}(hx:W[i]?=some x){ws':List Int}{c':List Nat}{T':Nat}(fB:ws'.length=ws.length)
  (gD:∀a,¬(fD s l i≤a∧a<fD s l i+2+rm (du l))→ws'.getD a 0=ws.getD a 0) (IZ:∀z,x'.now≠.bE z)
  (hD:DI (fD s l i) (du l) ws' (pR x'.now) (jT s l W i) T' (gQ c')):∀(j:Nat) (c:List Nat),(D.set i c')[j]?=some c→DI (fD s l j) (du l) ws' (jR (W.set i x') j) (jT s l (W.set i x') j) (if j=i then T' else T j) (gQ c):=by
 intro j c hj
 have hi:=(List.getElem?_eq_some_iff.1 hx).1
 have qi:∀z,jT s l (W.set i x') j z→jT s l W j z:=fun z hz=>by
  rcases Da hz with h | h
  ·exact h
  ·exact absurd h.1 (IZ z)
 rw[GS hi]
 rw[List.getElem?_set]at hj
 by_cases h:i=j
 ·subst h
  rw[if_pos rfl,if_pos (by rw[hR.dl];exact hi)]at hj
  cases hj
  rw[if_pos rfl,if_pos rfl]
  exact hD.nU qi
 ·rw[if_neg h]at hj
  rw[if_neg h,if_neg (fun e=>h e.symm)]
  refine ((hR.di j c hj).B4 fB fun a h1 h2 =>?_).nU qi
  rw[hs.room.2]at h2 gD
  exact gD a (PD (fun e=>h e.symm) h1 h2)
theorem mI(hR:RJ s l hs W ws D T M){i:Nat}{x x':WS}(hx:W[i]?=some x){ws':List Int}(fB:ws'.length=ws.length)
  (gD:∀a,nN s*nW l+nN s+1≤a→ws'.getD a 0=ws.getD a 0) (IZ:∀z,x'.now≠.bE z) (ho:pR x.now=pR x'.now) :
  ∀(j:Nat) (c:List Nat),D[j]?=some c→DI (fD s l j) (du l) ws' (jR (W.set i x') j) (jT s l (W.set i x') j) (T j) (gQ c):=by
 intro j c hj
 have hi:=(List.getElem?_eq_some_iff.1 hx).1
 have e:jR (W.set i x') j=jR W j:=by
  rw[GS hi]
  by_cases h:i=j
  ·subst h;rw[if_pos rfl,xr hx,ho]
  ·rw[if_neg h]
 rw[e]
 refine ((hR.di j c hj).B4 fB fun a h1 h2=>gD a (by unfold fD at h1;omega)).nU fun z hz =>?_
 rcases Da hz with h | h
 ·exact h
 ·exact absurd h.1 (IZ z)
theorem DM(hR:RJ s l hs W ws D T M){i v:Nat}{x x':WS}{q':DQ}(hx:W[i]?=some x)(hv:v<D.length){ws':List Int}{c':List Nat}{T':Nat}(fB:ws'.length=ws.length)
  (gD:∀a,¬(fD s l v≤a∧a<fD s l v+2+rm (du l))→ws'.getD a 0=ws.getD a 0) (ak:(x'.now=.bE q'∧q'.base=(fD s l v:Int))∨∀z,x'.now≠.bE z) (ho:pR x.now=pR x'.now)
  (hD:DI (fD s l v) (du l) ws' (jR W v) (fun z=>jT s l W v z∨(x'.now=.bE z∧z=q')) T' (gQ c')):∀(j:Nat) (c:List Nat),(D.set v c')[j]?=some c→DI (fD s l j) (du l) ws' (jR (W.set i x') j) (jT s l (W.set i x') j) (if j=v then T' else T j) (gQ c):=by
 intro j c hj
 have hi:=(List.getElem?_eq_some_iff.1 hx).1
 have e:jR (W.set i x') j=jR W j:=by
  rw[GS hi]
  by_cases h:i=j
  ·subst h;rw[if_pos rfl,xr hx,ho]
  ·rw[if_neg h]
 rw[e]
 rw[List.getElem?_set]at hj
 by_cases h:v=j
 ·subst h
  rw[if_pos rfl,if_pos hv]at hj
  cases hj
  rw[if_pos rfl]
  refine hD.nU fun z hz =>?_
  rcases Da hz with h | h
  ·exact .inl h
  ·refine .inr ⟨h.1,?_⟩
   rcases ak with h2 | h2
   ·have:=h.1.symm.trans h2.1
    cases this;rfl
   ·exact absurd h.1 (h2 z)
 ·rw[if_neg h]at hj
  rw[if_neg (fun e=>h e.symm)]
  refine ((hR.di j c hj).B4 fB fun a h1 h2 =>?_).nU fun z hz =>?_
  ·rw[hs.room.2]at h2 gD
   exact gD a (PD (fun e=>h e.symm) h1 h2)
  ·rcases Da hz with h3 | h3
   ·exact h3
   ·rcases ak with h2 | h2
    ·have h4:=h3.1.symm.trans h2.1
     cases h4
     have h5:=h3.2.symm.trans h2.2
     have h6:j*(nN s+3)=v*(nN s+3):=by unfold fD at h5;omega
     exact absurd (Nat.eq_of_mul_eq_mul_right (by omega) h6).symm h
    ·exact absurd h3.1 (h2 z)
theorem x7{A B:SX.AS}(h1:∀v i,A.cell v i=B.cell v i)(h2:∀v,A.flag v=B.flag v)(h3:A.aB=B.aB)(h4:A.dq=B.dq)(h5:A.ph=B.ph)(h6:A.ev=B.ev)(h7:A.jo=B.jo):A=B:=by
 obtain⟨a1,a2,a3,a4,a5,a6,a7⟩:=A
 obtain⟨b1,b2,b3,b4,b5,b6,b7⟩:=B
 obtain rfl:a1=b1:=funext fun v=>funext fun i=>h1 v i
 obtain rfl:a2=b2:=funext h2
 cases h3;cases h4;cases h5;cases h6;cases h7;rfl
theorem rS{f:WS→Nat}{i:Nat}{x x':WS}(hx:W[i]?=some x)(h:f x'=f x):SX.aE f (W.set i x')=SX.aE f W:=by
 have:=SX.eD f W i x x' hx
 omega
theorem j9{i:Nat}{x x':WS}(hx:W[i]?=some x){ws':List Int}(eo:∀a,a<nN s*nW l+nN s+1→ws'.getD a 0=ws.getD a 0)(jI:x'.ev=x.ev)(kP:x'.jo=x.jo)(D':List (List Nat)):
  bC s l (W.set i x') ws' D' = { bC s l W ws D with dq:=D',ph:=(bC s l W ws D).ph.set i (cQ x') }:=by
 refine x7 (fun v j =>?_) (fun v =>?_) ?_ rfl ?_ ?_ ?_
 ·show (if _ then _ else _)=(if _ then _ else _)
  by_cases h:v<nN s∧j<nW l
  ·have:=qH h.1 h.2
   rw[if_pos h,if_pos h,eo _ (by omega)]
  ·rw[if_neg h,if_neg h]
 ·show decide _=decide _
  by_cases h:v<nN s
  ·rw[eo _ (by omega)]
  ·rw[decide_eq_false (fun e=>h e.1),decide_eq_false (fun e=>h e.1)]
 ·show (ws'.getD _ 0).toNat=(ws.getD _ 0).toNat
  rw[eo _ (by omega)]
 ·show (W.set i x').map cQ=(W.map cQ).set i (cQ x')
  rw[List.map_set]
 ·exact rS hx (by rw[jI])
 ·exact rS hx (by rw[kP])
theorem kv{i:Nat}{x:WS}(hx:W[i]?=some x):(bC s l W ws D).ph[i]?=some (cQ x):=by
 show (W.map cQ)[i]?=_
 rw[List.getElem?_map,hx];rfl
theorem NV{i:Nat}{x x':WS}(hx:W[i]?=some x){ws':List Int}{u:Nat}{z:Int}(hu:u<nN s)(hl:nN s*nW l+u<ws.length)(hw:ws'=ws.set (nN s*nW l+u) z)(jI:x'.ev=x.ev)(kP:x'.jo=x.jo):
  bC s l (W.set i x') ws' D = { bC s l W ws D with flag:=fun v=>if v=u then decide (¬z=0) else (bC s l W ws D).flag v,ph:=(bC s l W ws D).ph.set i (cQ x') }:=by
 subst hw
 refine x7 (fun v j =>?_) (fun v =>?_) ?_ rfl ?_ ?_ ?_
 ·show (if _ then _ else _)=(if _ then _ else _)
  by_cases h:v<nN s∧j<nW l
  ·have:=qH h.1 h.2
   rw[if_pos h,if_pos h,iv,if_neg (by omega)]
  ·rw[if_neg h,if_neg h]
 ·show decide _=if v=u then _ else decide _
  by_cases h:v=u
  ·subst h
   rw[if_pos rfl,iv,if_pos ⟨rfl,hl⟩]
   simp[hu]
  ·rw[if_neg h,iv,if_neg (by omega)]
 ·show ((ws.set _ _).getD _ 0).toNat=(ws.getD _ 0).toNat
  rw[iv,if_neg (by omega)]
 ·show (W.set i x').map cQ=(W.map cQ).set i (cQ x')
  rw[List.map_set]
 ·exact rS hx (by rw[jI])
 ·exact rS hx (by rw[kP])
theorem OX{i:Nat}{x x':WS}(hx:W[i]?=some x){ws':List Int}{z:Int}(hl:nN s*nW l+nN s<ws.length)(hw:ws'=ws.set (nN s*nW l+nN s) z)(jI:x'.ev=x.ev)(kP:x'.jo=x.jo):
  bC s l (W.set i x') ws' D = { bC s l W ws D with aB:=z.toNat,ph:=(bC s l W ws D).ph.set i (cQ x') }:=by
 subst hw
 refine x7 (fun v j =>?_) (fun v =>?_) ?_ rfl ?_ ?_ ?_
 ·show (if _ then _ else _)=(if _ then _ else _)
  by_cases h:v<nN s∧j<nW l
  ·have:=qH h.1 h.2
   rw[if_pos h,if_pos h,iv,if_neg (by omega)]
  ·rw[if_neg h,if_neg h]
 ·show decide _=decide _
  by_cases h:v<nN s
  ·rw[iv,if_neg (by omega)]
  ·rw[decide_eq_false (fun e=>h e.1),decide_eq_false (fun e=>h e.1)]
 ·show ((ws.set _ _).getD _ 0).toNat=z.toNat
  rw[iv,if_pos ⟨rfl,hl⟩]
 ·show (W.set i x').map cQ=(W.map cQ).set i (cQ x')
  rw[List.map_set]
 ·exact rS hx (by rw[jI])
 ·exact rS hx (by rw[kP])
theorem Xl{i:Nat}{x x':WS}(hx:W[i]?=some x){ws':List Int}{u j:Nat}{z:Int}(hu:u<nN s)(hj:j<nW l)(hl:u*nW l+j<ws.length)(hw:ws'=ws.set (u*nW l+j) z)(jI:x'.ev=x.ev)(k:Nat)(kP:x'.jo.toNat=x.jo.toNat+k):
  bC s l (W.set i x') ws' D = { bC s l W ws D with cell:=SX.dF (bC s l W ws D).cell u j z,ph:=(bC s l W ws D).ph.set i (cQ x'),jo:=(bC s l W ws D).jo+k }:=by
 subst hw
 have h0:=qH hu hj
 refine x7 (fun v t =>?_) (fun v =>?_) ?_ rfl ?_ ?_ ?_
 ·show (if _ then _ else _)=SX.dF _ _ _ _ _ _
  unfold SX.dF
  by_cases h:v<nN s∧t<nW l
  ·rw[if_pos h,iv]
   by_cases e:v=u∧t=j
   ·obtain⟨rfl,rfl⟩:=e
    rw[if_pos ⟨rfl,hl⟩,if_pos ⟨rfl,rfl⟩]
   ·rw[if_neg e,if_neg fun h2=>e (NS h.2 hj h2.1.symm)]
    show _=if _ then _ else _
    rw[if_pos h]
  ·rw[if_neg h,if_neg (fun e=>h (by rw[e.1,e.2];exact⟨hu,hj⟩))]
   show _=if _ then _ else _
   rw[if_neg h]
 ·show decide _=decide _
  rw[iv,if_neg (by omega)]
 ·show ((ws.set _ _).getD _ 0).toNat=(ws.getD _ 0).toNat
  rw[iv,if_neg (by omega)]
 ·show (W.set i x').map cQ=(W.map cQ).set i (cQ x')
  rw[List.map_set]
 ·exact rS hx (by rw[jI])
 ·show SX.aE _ _=SX.aE _ _+k
  have:=SX.eD (fun x:WS=>x.jo.toNat) W i x x' hx
  omega
theorem aah{i:Nat}{x x':WS}(hx:W[i]?=some x)(jI:x'.ev.toNat=x.ev.toNat+1)(kP:x'.jo=x.jo):
  bC s l (W.set i x') ws D = { bC s l W ws D with ph:=(bC s l W ws D).ph.set i (cQ x'),ev:=(bC s l W ws D).ev+1 }:=by
 refine x7 (fun _ _=>rfl) (fun _=>rfl) rfl rfl ?_ ?_ ?_
 ·show (W.set i x').map cQ=(W.map cQ).set i (cQ x')
  rw[List.map_set]
 ·show SX.aE _ _=SX.aE _ _+1
  have:=SX.eD (fun x:WS=>x.ev.toNat) W i x x' hx
  omega
 ·exact rS hx (by rw[kP])
theorem aag{i:Nat}{x x':WS}(hx:W[i]?=some x)(jI:x'.ev=x.ev)(k:Nat)(kP:x'.jo.toNat=x.jo.toNat+k):
  bC s l (W.set i x') ws D = { bC s l W ws D with ph:=(bC s l W ws D).ph.set i (cQ x'),jo:=(bC s l W ws D).jo+k }:=by
 refine x7 (fun _ _=>rfl) (fun _=>rfl) rfl rfl ?_ ?_ ?_
 ·show (W.set i x').map cQ=(W.map cQ).set i (cQ x')
  rw[List.map_set]
 ·exact rS hx (by rw[jI])
 ·show SX.aE _ _=SX.aE _ _+k
  have:=SX.eD (fun x:WS=>x.jo.toNat) W i x x' hx
  omega
end
end Go.Proofs.YtnpidbjdilnhlaaGreat
