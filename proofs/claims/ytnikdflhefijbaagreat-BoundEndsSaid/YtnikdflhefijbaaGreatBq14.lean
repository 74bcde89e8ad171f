import Derived.Test.YtnikdflhefijbaaGreatBq13
import Derived.Test.YtnikdflhefijbaaGreatBq7
import Derived.Test.YtnikdflhefijbaaGreatBq11
import Derived.Test.YtnikdflhefijbaaGreatBq12
import Derived.Test.YtnikdflhefijbaaGreatBq6
import Derived.Test.YtnikdflhefijbaaGreatBq10
namespace Go.Proofs.YtnikdflhefijbaaGreat
open Go.RowKit
set_option maxRecDepth 100000
theorem ai9{l:Lay}(h:2≤l.k∧l.k≤64):nK l≠0∧l.k≠0:=by
 unfold nK;show IntKind.i64.wrap (l.k-1)≠0∧_;rw[IntKind.wrap_i64];omega
theorem aa0(l:Lay)(n:Int):rW l n=8∨rW l n=3:=by unfold rW;split;exact .inl rfl;exact .inr rfl
theorem aa1(nx:List Int):kP nx=8∨(kP nx=5∧0<nx.tail.length):=by
 unfold kP;split
 ·exact .inl rfl
 ·exact .inr ⟨rfl,by omega⟩
theorem aaP(s:Sy)(node:Int):wk s node=8∨(wk s node=5∧0<(aw s.n s.aN node).length):=by
 unfold wk;split
 ·exact .inl rfl
 ·exact .inr ⟨rfl,by omega⟩
theorem Zc(l:Lay):rT l=2∨(rT l=1∧2≤l.k):=by
 unfold rT;split
 ·exact .inl rfl
 ·exact .inr ⟨rfl,by omega⟩
theorem ZT(l:Lay):vZ l=0∨(vZ l=1∧2≤l.k):=by
 unfold vZ;split
 ·exact .inl rfl
 ·exact .inr ⟨rfl,by omega⟩
theorem Rn{f:FuncId}{xs:List AV}{σ:Hp}{R R':AV→Hp→Prop}(h:ACalls Tryz.prog f xs σ R)(hR:∀r σ',R r σ'→∃(i k b:Nat) (cs:List AV) (e:Sh),σ'[i]?=some (b,cs)∧cs[k]?=some .an∧R' r (σ'.set i (b,cs.set k (.ah e [])))):ACalls Tryz.prog f xs σ R':=
 ⟨h.1,fun F w vs bP aG=>(h.2 F w vs bP aG).mono fun _ _ ⟨r,v,σ',F',h1,h2,h3,h4,h5⟩=>by
  obtain⟨i,k,b,cs,e,q1,q2,q3⟩:=hR r σ' h5
  exact⟨r,v,_,F',h1,h2,Vz h3 e q1 q2,h4,q3⟩⟩
def oh:WS:=⟨0,0,false,0,.none,0,false,[],[]⟩
theorem ah9{s:Sy}{L:Lay}(h:je s L.k=L)(he:cM s L.k=0):AV.tup [.agg (ik (je s L.k)),.int .i64 (cM s L.k)]=.tup [.agg (ik L),.int .i64 0]:=by rw[h,he]
theorem adp(A:Lay):¬(!fW (uA (List.take 4 (List.drop 0 (fx [AV.int .i64 0,AV.int .i64 0,AV.int .i64 0,AV.int .i64 0] 0 (ik A)))) (List.take 4 (List.drop 0 (ik A)))))=true:=by
 show ¬(!fW [decide (A.what=A.what),decide (A.words=A.words),decide (A.n=A.n),decide (A.k=A.k)])=true;simp[fW]
theorem ahL(s:Sy)(L:Lay)(who:Int)(σ:Hp)(hf:Fit s)(he:cM s L.k=0)(hL:je s L.k=L)(h0:0≤who)(h1:who<L.k):ACalls Tryz.prog 100 [.agg (cc s),.agg (ik L),.int .i64 who] σ (fun r σ'=>∃w,r=.tup [.ptr w 0,.int .i64 0]∧σ'=WB s L who w 0 .an [] oh++σ):=by
 have hg:ACalls Tryz.prog 100 [.agg (cc s),.agg (ik L),.int .i64 who] σ (fun r σ'=>∃w,r=.tup [.ptr w 0,.int .i64 0]∧σ'=(w,[.int .i64 0,.int .i64 0,.bool false,.int .i64 s.what,.int .i64 s.w,.int .i64 s.n,.ah dO s.aN,.ah (.int .i64) s.entry,.ah (.int .u64) s.init,.ah mC s.T,.int .i64 L.what,.int .i64 L.words,.int .i64 L.n,.int .i64 L.k,.int .i64 who,.int .i64 0,.nilif,.int .i64 0,.bool false,.an,.an,.bool true])::σ):=by
  refine ay Tryz.func100 ?_;intro aF;intro dJ;refine aa 1 ?_;refine aa 0 ?_;refine ax [] (sS (NM s L.k _ hf) (ah9 hL he)) ?_;intro tU;refine aj 0 ?_;refine aa 0 ?_;refine aa 1 ?_;refine .mk (by kernel_rfl) (by kernel_rfl) ?_;refine dX (fun c4=>?_) (fun c4=>?_)
  ·have c4:(!fW (uA (List.take 4 (List.drop 0 (fx [AV.int IntKind.i64 0,AV.int IntKind.i64 0,AV.int IntKind.i64 0,AV.int IntKind.i64 0] 0 (ik L)))) (List.take 4 (List.drop 0 (ik L)))))=true:=c4;exact absurd c4 (adp L)
  ·have c4:(!fW (uA (List.take 4 (List.drop 0 (fx [AV.int IntKind.i64 0,AV.int IntKind.i64 0,AV.int IntKind.i64 0,AV.int IntKind.i64 0] 0 (ik L)))) (List.take 4 (List.drop 0 (ik L)))))=false:=c4;refine ao (fun c5=>?_) (fun c5=>?_)
   ·have c5:who<0:=c5;exact absurd c5 (by omega)
   ·have c5:¬(who<0):=c5;refine aa 1 ?_;refine ao (fun c6=>?_) (fun c6=>?_)
    ·have c6:L.k≤who:=c6;exact absurd c6 (by omega)
    ·refine .sched [1] (upto [1] 8 0) (by kernel_rfl) ?_;refine aa 2 ?_;refine aK [] (ac5 s _ hf) ?_;refine aa 1 ?_;intro bl7;exact .drop 1 3 (.done ⟨_,rfl,rfl⟩)
 refine Rn (Rn hg (R':=fun r σ'=>∃w,r=.tup [.ptr w 0,.int .i64 0]∧σ'=(w,[.int .i64 0,.int .i64 0,.bool false,.int .i64 s.what,.int .i64 s.w,.int .i64 s.n,.ah dO s.aN,.ah (.int .i64) s.entry,.ah (.int .u64) s.init,.ah mC s.T,.int .i64 L.what,.int .i64 L.words,.int .i64 L.n,.int .i64 L.k,.int .i64 who,.int .i64 0,.nilif,.int .i64 0,.bool false,.ah (.int .i64) ([]:List Int),.an,.bool true])::σ) ?_) ?_
 ·rintro r σ' ⟨w,rfl,rfl⟩;exact⟨0,19,w,_,.int .i64,rfl,rfl,w,rfl,rfl⟩
 ·rintro r σ' ⟨w,rfl,rfl⟩;exact⟨0,20,w,_,.int .u64,rfl,rfl,w,rfl,rfl⟩
theorem ajN(p q w r:Nat)(c:AV)(acc:Hp)(s:Sy)(l:Lay)(who:Int)(x:WS)(d:Int)(ws:List Int)(σ:Hp)(hf:Fit s)(hv:bh ws)(ok:Ox l x)(rd:z7 c acc x.now){x':WS}{ws':List Int}{b:Bool}(aq:dB bJ s l who x d ws=(x',ws',b)):
  ACalls Tryz.prog 390 [.ptr w 0,ny p,.int .i64 d] (WB s l who w r c acc x++cm p q ws σ) (fun z σ'=>∃r c acc,z7 c acc x'.now∧z=.bool b∧σ'=WB s l who w r c acc x'++cm p q ws' σ):=by
 refine (ahu (zJ p q) w r c acc s l who x d ws σ hf trivial (fun a=>Is hv a) ok rd).mono ?_;rintro z σ' ⟨m',r,c,acc,h1,h2,rfl,rfl⟩;have h2:m'=(dB bJ s l who x d ws).2.1:=h2;refine⟨r,c,acc,?_,?_,?_⟩
 ·have:=h1;rw[show dB (zJ p q).O s l who x d ((zJ p q).abs ws)=dB bJ s l who x d ws from rfl,aq]at this;exact this
 ·rw[show dB (zJ p q).O s l who x d ((zJ p q).abs ws)=dB bJ s l who x d ws from rfl,aq]
 ·rw[show dB (zJ p q).O s l who x d ((zJ p q).abs ws)=dB bJ s l who x d ws from rfl,h2,aq];rfl
theorem Ti{R:AV→Hp→Prop}{r:AV}(a:Hp){σ:Hp}(h:Fin R r σ):Fin R r (a++σ):=.drop 0 a.length (by rw[List.take_zero,dI,List.drop_left];exact h)
set_option maxHeartbeats 4000000
theorem TN{ws:List Int}(h:bh ws)(a:Int){x:Int}(hx:bK x):bh (iE ws a x):=by
 unfold iE;split
 ·exact h
 ·intro z hz
  rcases qG hz with hz | rfl
  ·exact h z hz
  ·exact hx
def gd(what w:Int)(i:Nat)(z:Int):Prop:=bK z∧(if what=3 then aM z=z else z.toNat<2 ^ min 64 (eI w-64*i))
theorem ZH(what w:Int)(i:Nat):gd what w i 0:=by
 refine⟨⟨by decide,by decide⟩,?_⟩;split
 ·rfl
 ·exact CV _
theorem Dh{what w:Int}(h:what=1∨what=2∨what=3){i:Nat}{x y:Int}(hx:gd what w i x)(hy:gd what w i y):gd what w i (da what x y):=by
 refine⟨U6 hx.1 hy.1,?_⟩;have ux:=hx.1;have uy:=hy.1;obtain⟨a,rfl⟩:=mY ux.1;obtain⟨b,rfl⟩:=mY uy.1;have ha:a<18446744073709551616:=by have:=ux.2;omega
 have hb:b<18446744073709551616:=by have:=uy.2;omega
 rcases h with rfl | rfl | rfl
 ·have h1:=hx.2;have h2:=hy.2;rw[ag (by decide)]at h1 h2 ⊢;rw[show da 1 (a:Int) b=bits .or .u64 (a:Int) b from rfl,tX ha hb,bG];exact KS h1 h2
 ·have h1:=hx.2;rw[ag (by decide)]at h1 ⊢;rw[show da 2 (a:Int) b=bits .and .u64 (a:Int) b from rfl,rP ha hb,bG];exact AL GD h1
 ·rw[af rfl];exact RW _ _
theorem Hr{what w:Int}{a:List Int}(hi:cO what w=true):eS what w a↔((a.length:Int)=eG what w∧∀i,i<a.length→gd what w i (wd a i)):=by
 constructor
 ·intro ⟨hv,mw⟩;refine⟨xY hv,fun i h=>⟨lG mw i,?_⟩⟩
  by_cases h3:what=3
  ·rw[af h3];exact x8 ((ka hi h3).1 hv).2 h
  ·rw[ag h3];have:=(qL hi h3).1 hv;unfold gK at this;rw[bS,fG]at this;simpa using this.2 i (List.mem_range.2 h)
 ·intro ⟨hl,hk⟩
  have mw:bh a:=fun z hz=>by
   obtain⟨i,hi,rfl⟩:=xz.1 hz;rw[← lC a hi];exact (hk i hi).1
  refine⟨?_,mw⟩
  by_cases h3:what=3
  ·subst h3;refine (ka hi rfl).2 ⟨?_,zB.2 fun z hz=>?_⟩
   ·rw[hl];unfold eG;rw[af hi,af rfl]
   ·obtain⟨i,hi,rfl⟩:=xz.1 hz;have:=(hk i hi).2;rw[af rfl,lC a hi]at this;exact this
  ·refine (qL hi h3).2 ?_
   have Py:a.length=ef w:=by
    have:eG what w=(ef w:Int):=by unfold eG;rw[af hi,ag h3]
    omega
   unfold gK;rw[bS,fG];refine⟨by simpa using Py,fun i hi=>?_⟩;have:=(hk i (fF.1 hi)).2;rw[ag h3]at this;simpa using this
structure LS(s:Sy)(l:Lay):Prop where
 fit:Fit s
 im:Good s
 what:l.what=s.what
 words:l.words=eG s.what s.w
 n:l.n=s.n
 k1:1≤l.k
 k2:l.k≤64
abbrev nN(s:Sy):Nat:=s.n.toNat
abbrev nW(l:Lay):Nat:=cw l.words
theorem LS.nn{s:Sy}{l:Lay}(h:LS s l):s.n=(nN s:Int)∧1≤nN s∧nN s≤256:=by have:=h.im.n1;have:=h.im.n2;unfold nN;omega
theorem LS.ww{s:Sy}{l:Lay}(h:LS s l):l.words=(nW l:Int)∧nW l≤1024:=by
 have:=Ba s.what s.w;have:=h.words;unfold nW cw;omega
theorem ud{N W v i:Nat}(hv:v<N)(hi:i<W):v*W+i<N*W:=by
 have:(v+1)*W≤N*W:=jm _ hv;rw[lU]at this;omega
theorem UQ{W u v i j:Nat}(hi:i<W)(hj:j<W)(h:u*W+i=v*W+j):u=v∧i=j:=by
 have h1:(u*W+i) / W=u:=by rw[vB,Nat.mul_add_div (by omega),Nat.div_eq_of_lt hi,vA]
 have h2:(v*W+j) / W=v:=by rw[vB,Nat.mul_add_div (by omega),Nat.div_eq_of_lt hj,vA]
 have h3:u=v:=by rw[← h1,← h2,h]
 subst h3;exact⟨rfl,by omega⟩
theorem s6{N W:Nat}(hN:N≤256)(hW:W≤1024):N*W≤262144:=jN hN hW
theorem iZ{z:Int}(h0:0≤z)(h1:z<9223372036854775808):wr z=z:=by
 show IntKind.i64.wrap z=z;rw[IntKind.wrap_i64];omega
section
variable {s:Sy} {l:Lay} (hs:LS s l)
include hs
theorem LS.flags:de l=((nN s*nW l:Nat):Int):=by
 have h1:=hs.nn;have h2:=hs.ww;have:=s6 h1.2.2 h2.2;unfold de;rw[hs.n,h1.1,h2.1,← sJ];exact iZ (by omega) (by omega)
theorem LS.count:dA l=((nN s*nW l+nN s:Nat):Int):=by
 have h1:=hs.nn;have h2:=hs.ww;have:=s6 h1.2.2 h2.2;unfold dA;rw[hs.flags,hs.n,h1.1,qC];exact iZ (by omega) (by omega)
theorem LS.room:eM l=((nN s+1:Nat):Int)∧rm (eM l)=nN s+1:=by
 have h1:=hs.nn
 have e:eM l=((nN s+1:Nat):Int):=by
  unfold eM;rw[hs.n,h1.1,qC];exact iZ (by omega) (by omega)
 refine⟨e,?_⟩;rw[e];unfold rm;omega
theorem LS.yu{k:Nat}(hk:k≤64):jr l k=((nN s*nW l+nN s+1+k*(nN s+3):Nat):Int):=by
 have h1:=hs.nn;have h2:=hs.ww;have h3:=s6 h1.2.2 h2.2;have h4:k*(nN s+3)≤64*259:=jN hk (by omega);unfold jr;rw[hs.count,hs.room.2,show ((k:Int)*((2+(nN s+1):Nat):Int))=((k*(nN s+3):Nat):Int) by rw[sJ];congr 1;omega];rw[iZ (z:=((k*(nN s+3):Nat):Int)) (by omega) (by omega),iZ (z:=((nN s*nW l+nN s:Nat):Int)+1) (by omega) (by omega)];rw[show ((nN s*nW l+nN s:Nat):Int)+1+((k*(nN s+3):Nat):Int)=((nN s*nW l+nN s+1+k*(nN s+3):Nat):Int) by omega];exact iZ (by omega) (by omega)
theorem LS.Xv{v:Nat}(hv:v<nN s):bc l v=((v*nW l:Nat):Int):=by
 have h1:=hs.nn;have h2:=hs.ww;have h3:=s6 h1.2.2 h2.2;have h4:v*nW l≤nN s*nW l:=jm _ (by omega);unfold bc;rw[h2.1,← sJ];exact iZ (by omega) (by omega)
theorem LS.B0{v i:Nat}(hv:v<nN s)(hi:i<nW l):wr (bc l v+(i:Nat))=((v*nW l+i:Nat):Int):=by
 have h1:=hs.nn;have h2:=hs.ww;have h3:=s6 h1.2.2 h2.2;have h4:=ud hv hi;rw[hs.Xv hv,← qC];exact iZ (by omega) (by omega)
theorem LS.BW{v:Nat}(hv:v<nN s):wr (de l+(v:Nat))=((nN s*nW l+v:Nat):Int):=by
 have h1:=hs.nn;have h2:=hs.ww;have h3:=s6 h1.2.2 h2.2;rw[hs.flags,← qC];exact iZ (by omega) (by omega)
theorem LS.wz:s.what=1∨s.what=2∨s.what=3:=by
 have:=hs.im.sr;unfold cO at this;simp at this;omega
end
structure MV(s:Sy)(l:Lay)(ws:List Int):Prop where
 a64:bh ws
 cells:∀v i,v<nN s→i<nW l→gd s.what s.w i (ws.getD (v*nW l+i) 0)
theorem kp{ws:List Int}{a b:Nat}{x:Int}:(ws.set a x).getD b 0=if a=b∧b<ws.length then x else ws.getD b 0:=by
 simp only[aZ,eA]
 by_cases h:a=b
 ·subst h
  by_cases h2:a<ws.length
  ·simp[h2]
  ·simp[h2]
 ·simp[h]
theorem MV.Bl{s:Sy}{l:Lay}{ws:List Int}(h:MV s l ws){a x:Int}(ha:((nN s*nW l:Nat):Int)≤a)(hx:bK x):MV s l (iE ws a x):=by
 refine⟨TN h.a64 a hx,fun v i hv hi=>?_⟩;have:=ud hv hi;obtain⟨k,rfl⟩:=mY (show 0≤a by omega);rw[lX,kp,ag (by omega)];exact h.cells v i hv hi
theorem MV.IW{s:Sy}{l:Lay}{ws:List Int}(h:MV s l ws){a o x:Int}(ha:((nN s*nW l:Nat):Int)≤a)(hx:bK x):MV s l (jy ws a o x):=by
 unfold jy;split
 ·exact h.Bl ha hx
 ·exact h
theorem MV.WL{s:Sy}{l:Lay}{ws:List Int}(h:MV s l ws){a x:Int}(ha:((nN s*nW l:Nat):Int)≤a):MV s l (nS ws a x):=by
 unfold nS;split
 ·exact h.Bl ha (by unfold bK;omega)
 ·exact h
theorem MV.RB{s:Sy}{l:Lay}{ws:List Int}(h:MV s l ws){u j:Nat}{x:Int}(hj:j<nW l)(hx:gd s.what s.w j x):MV s l (iE ws ((u*nW l+j:Nat):Int) x):=by
 refine⟨TN h.a64 _ hx.1,fun v i hv hi=>?_⟩;rw[lX,kp];split
 ·rename_i he
  obtain⟨-,rfl⟩:=UQ hj hi he.1;exact hx
 ·exact h.cells v i hv hi
theorem MV.adZ{s:Sy}{l:Lay}{ws:List Int}(h:MV s l ws){u j:Nat}{o x:Int}(hj:j<nW l)(hx:gd s.what s.w j x):MV s l (jy ws ((u*nW l+j:Nat):Int) o x):=by
 unfold jy;split
 ·exact h.RB hj hx
 ·exact h
theorem MV.load{s:Sy}{l:Lay}{ws:List Int}(h:MV s l ws){v i:Nat}(hv:v<nN s)(hi:i<nW l):gd s.what s.w i (gY ws ((v*nW l+i:Nat):Int)):=by
 rw[oS];exact h.cells v i hv hi
structure DQ.w4(q:DQ)(m:Nat):Prop where
 at_:q.at_≤m
 b:bK q.b
 t:bK q.t
 n:bK q.n
 x:bK q.x
 en:q.ended=false
def Aa(s:Sy)(l:Lay)(who does node:Int)(nx out:List Int):Nw→Prop
 |.none=>False
 |.pop q=>does=0∧q.w4 5∧q.base=jr l who∧q.cap=eM l
 |.cu q=>does=1∧q.w4 3∧(∃v:Nat,(v:Int)<l.k∧q.base=jr l v)∧q.cap=eM l∧q.ok=false
 |.quiet t=>does=2∧t=⟨de l,dA l,false,false⟩
 |.clear t=>does=3∧t=⟨de l,dA l,node,false⟩
 |.read y=>does=4∧(y.length<nW l∨(nW l=0∧y=[]))∧∀i,i<y.length→gd s.what s.w i (wd y i)
 |.join j=>does=5∧(j.base=bc l (nx.headD 0)∧j.what=l.what∧j.words=l.words∧j.a=out)∧j.ended=false∧j.at_≤nW l∧bK j.x∧(j.fM=true→j.at_<nW l∧gd s.what s.w j.at_ j.x)
 |.take t=>does=6∧∃j7:Bool,t=⟨de l,dA l,nx.headD 0,j7,false,j7⟩
 |.push q=>does=7∧q.w4 3∧q.base=jr l who∧q.cap=eM l∧q.ok=false
 |.dK t=>does=8∧t=⟨de l,dA l,0,false⟩
def kept(l:Lay):Nw→Prop
 |.none | .quiet _ | .clear _ | .dK _=>False
 |.read y=>y.length<nW l
 |.join j=>j.at_<nW l
 |.take t=>t.j7=true
 |_=>True
structure WV(s:Sy)(l:Lay)(who:Int)(x:WS):Prop where
 does:0≤x.does∧x.does≤8
 node:0≤x.node∧x.node<s.n
 nx:∀u∈x.nx,0≤u∧u<s.n
 head:x.does=5∨x.does=6∨x.does=7→0<x.nx.length
 out:x.does=5∨x.does=6∨x.does=7→eS s.what s.w x.out
 Cs:x.does=1→2≤l.k
 now:x.now=.none∨(Aa s l who x.does x.node x.nx x.out x.now∧kept l x.now)
theorem wv0{s:Sy}{l:Lay}(hs:LS s l)(who:Int):WV s l who oh:=
 ⟨by decide,⟨kl _,hs.im.n1⟩,fun u hu=>(xt hu).elim,fun h=>absurd h (by decide),fun h=>absurd h (by decide),fun h=>absurd h (by decide),.inl rfl⟩
theorem WV.ok{s:Sy}{l:Lay}(hs:LS s l){who:Int}{x:WS}(h:WV s l who x):Ox l x:=by
 refine⟨h.head,fun h1=>ai9 ⟨h.Cs h1,hs.k2⟩,?_⟩;have hh:=h.head
 rcases h.now with h0 | ⟨h1,h2⟩
 ·rw[h0];trivial
 ·cases hn:x.now with
  |none=>trivial
  |pop q=>rw[hn]at h1;exact⟨h1.2.1.at_,h1.2.1.b.1⟩
  |cu q=>rw[hn]at h1;exact⟨h1.2.1.at_,h1.2.1.t.1⟩
  |quiet q=>trivial
  |clear q=>trivial
  |read y=>
   rw[hn]at h1;refine⟨h1.2.1,fun z hz=>?_⟩;obtain⟨i,hi,rfl⟩:=xz.1 hz;rw[← lC y hi];exact (h1.2.2 i hi).1
  |join j=>rw[hn]at h1;have:=hs.ww.2;exact⟨by have:=h1.2.2.2.1;omega,hh (.inl h1.1)⟩
  |take t=>rw[hn]at h1;exact hh (.inr (.inl h1.1))
  |push q=>rw[hn]at h1;exact⟨⟨h1.2.1.at_,h1.2.1.b.1⟩,hh (.inr (.inr h1.1))⟩
  |dK t=>trivial
theorem LS.aiv{s:Sy}{l:Lay}(hs:LS s l){k:Nat}(hk:k≤64):((nN s*nW l:Nat):Int)≤jr l k∧((nN s*nW l:Nat):Int)≤hG (jr l k)∧∀i,((nN s*nW l:Nat):Int)≤l0 (jr l k) (eM l) i:=by
 have h1:=hs.nn;have h2:=hs.ww;have h3:=s6 h1.2.2 h2.2;have h4:k*(nN s+3)≤64*259:=jN hk (by omega);have hd:=hs.yu hk;refine⟨by omega,?_,fun i=>?_⟩
 ·unfold hG;rw[hd,iZ (by omega) (by omega)];omega
 ·unfold l0;rw[hs.room.2];have hm:=KK i (show ((nN s+1:Nat):Int)≠0 by omega);have sA:=KU i (show (0:Int)<((nN s+1:Nat):Int) by omega);rw[hd,iZ (z:=((nN s*nW l+nN s+1+k*(nN s+3):Nat):Int)+2) (by omega) (by omega),iZ (z:=i % _) hm (by omega),iZ (by omega) (by omega)];omega
theorem BM(n:Int):bK (wu n):=D6 n
section
variable {s:Sy} {l:Lay} {ws ws':List Int} {q q':DQ} {b:Bool}
theorem aaU(hw:MV s l ws)(hq:q.w4 5)(hb:((nN s*nW l:Nat):Int)≤hG q.base)(h0:((nN s*nW l:Nat):Int)≤q.base)(h:fK bJ q ws=(q',ws',b)):MV s l ws'∧ws'.length=ws.length∧q'.base=q.base∧q'.cap=q.cap∧bK q'.n∧(b=false→q'.w4 5):=by
 obtain⟨base,cap,n,ok,ended,at_,bb,t,x⟩:=q;obtain⟨h1,h2,h3,h4,h5,h6⟩:=hq;have l1:=fun a=>Is hw.a64 a;have s1:=fun {a} {x} (ha:((nN s*nW l:Nat):Int)≤a) (hx:bK x)=>hw.Bl ha hx;have c1:=fun {a} {o} {x} (ha:((nN s*nW l:Nat):Int)≤a) (hx:bK x)=>hw.IW (o:=o) ha hx;dsimp only at *;subst h6;unfold fK at h;dsimp only at h
 repeat' split at h
 all_goals
  cases h;refine⟨?_,?_,rfl,rfl,?_,fun hb=>?_⟩
 all_goals first
  |contradiction
  |assumption
  |rfl
  |exact AZ _ _ _
  |exact xF _ _ _ _
  |exact s1 hb h2
  |exact s1 hb (BM _)
  |exact c1 h0 (BM _)
  |exact l1 _
  |(dsimp only;split <;> assumption)
  |exact⟨by dsimp only;omega,by first | assumption | exact l1 _ | exact BM _,by first | assumption | exact l1 _,by first | assumption | exact l1 _,by first | assumption | exact l1 _,rfl⟩
theorem YV(hw:MV s l ws)(hq:q.w4 3)(h0:((nN s*nW l:Nat):Int)≤q.base)(hk:q.ok=false)(h:gU bJ q ws=(q',ws',b)):MV s l ws'∧ws'.length=ws.length∧q'.base=q.base∧q'.cap=q.cap∧bK q'.n∧(b=false→q'.w4 3∧q'.ok=false):=by
 obtain⟨base,cap,n,ok,ended,at_,bb,t,x⟩:=q;obtain⟨h1,h2,h3,h4,h5,h6⟩:=hq;have l1:=fun a=>Is hw.a64 a;have c1:=fun {a} {o} {x} (ha:((nN s*nW l:Nat):Int)≤a) (hx:bK x)=>hw.IW (o:=o) ha hx;dsimp only at *;subst h6;subst hk;unfold gU at h;dsimp only at h
 repeat' split at h
 all_goals
  cases h;refine⟨?_,?_,rfl,rfl,?_,fun hb=>?_⟩
 all_goals first
  |contradiction
  |assumption
  |rfl
  |exact AZ _ _ _
  |exact xF _ _ _ _
  |exact c1 h0 (BM _)
  |exact l1 _
  |exact⟨⟨by dsimp only;omega,by first | assumption | exact l1 _,by first | assumption | exact l1 _,by first | assumption | exact l1 _,by first | assumption | exact l1 _,rfl⟩,rfl⟩
theorem ZU(hw:MV s l ws)(hq:q.w4 3)(hb:((nN s*nW l:Nat):Int)≤hG q.base)(hp:∀i,((nN s*nW l:Nat):Int)≤l0 q.base q.cap i)(hk:q.ok=false)(h:gH bJ q ws=(q',ws',b)):MV s l ws'∧ws'.length=ws.length∧q'.base=q.base∧q'.cap=q.cap∧bK q'.n∧(b=false→q'.w4 3∧q'.ok=false):=by
 obtain⟨base,cap,n,ok,ended,at_,bb,t,x⟩:=q;obtain⟨h1,h2,h3,h4,h5,h6⟩:=hq;have l1:=fun a=>Is hw.a64 a;have s1:=fun {a} {x} (ha:((nN s*nW l:Nat):Int)≤a) (hx:bK x)=>hw.Bl ha hx;dsimp only at *;subst h6;subst hk;unfold gH at h;dsimp only at h
 repeat' split at h
 all_goals
  cases h;refine⟨?_,?_,rfl,rfl,?_,fun hb=>?_⟩
 all_goals first
  |contradiction
  |assumption
  |rfl
  |exact AZ _ _ _
  |exact xF _ _ _ _
  |exact s1 hb (BM _)
  |exact s1 (hp _) h4
  |exact l1 _
  |exact⟨⟨by dsimp only;omega,by first | assumption | exact l1 _,by first | assumption | exact l1 _,by first | assumption | exact l1 _,by first | assumption | exact l1 _,rfl⟩,rfl⟩
end
theorem V5{y:List Int}{z:Int}{i:Nat}:wd (y++[z]) i=if i<y.length then wd y i else if i=y.length then z else 0:=by
 unfold wd;rw[List.getElem?_append]
 by_cases h:i<y.length
 ·rw[af h,af h]
 ·rw[ag h,ag h]
  by_cases h2:i=y.length
  ·subst h2;simp
  ·rw[ag h2,vJ (by show 1≤_;omega)];rfl
theorem ZS{s:Sy}{l:Lay}{ws ws':List Int}{y y':List Int}{b:Bool}(hs:LS s l)(hw:MV s l ws){v:Nat}(hv:v<nN s)(hy:y.length<nW l∨(nW l=0∧y=[]))(hk:∀i,i<y.length→gd s.what s.w i (wd y i))(h:nj bJ l (bc l v) y ws=(y',ws',b)):ws'=ws∧(∀i,i<y'.length→gd s.what s.w i (wd y' i))∧(b=false→y'.length<nW l)∧(b=true→eS s.what s.w y'):=by
 have rD:=hs.ww;unfold nj at h;split at h
 ·rename_i ab
  have ab:y.length<nW l:=ab;cases h
  have e:∀i,i<(y++[(bJ.ld ws (wr (bc l v+(y.length:Nat)))).1]).length→gd s.what s.w i (wd (y++[(bJ.ld ws (wr (bc l v+(y.length:Nat)))).1]) i):=fun i hi=>by
   rw[bQ]at hi;have hi:i<y.length+1:=hi;rw[V5]
   by_cases h1:i<y.length
   ·rw[af h1];exact hk i h1
   ·obtain rfl:i=y.length:=by omega
    rw[ag h1,af rfl];show gd _ _ _ (gY ws _);rw[hs.B0 hv ab];exact hw.load hv ab
  refine⟨rfl,e,fun hb=>?_,fun hb=>?_⟩
  ·have hb:¬y.length+1=nW l:=qE hb;rw[bQ];show y.length+1<_;omega
  ·have hb:y.length+1=nW l:=fP hb;refine (Hr hs.im.sr).2 ⟨?_,e⟩;rw[← hs.words,rD.1,bQ];show ((y.length+1:Nat):Int)=_;omega
 ·rename_i ab
  obtain⟨h1,h2⟩:=Prod.mk.inj h;obtain⟨h2,h3⟩:=Prod.mk.inj h2;subst h1;subst h2;subst h3
  have h0:nW l=0∧y=[]:=by
   rcases hy with h | h
   ·exact absurd h ab
   ·exact h
  refine⟨rfl,hk,fun hb=>(by cases hb),fun _=>?_⟩;refine (Hr hs.im.sr).2 ⟨?_,hk⟩;rw[← hs.words,rD.1,h0.1,h0.2];rfl
theorem Z3{s:Sy}{l:Lay}{ws ws':List Int}{j j':Jn}{b:Bool}(hs:LS s l)(hw:MV s l ws){u:Nat}(hu:u<nN s)(Je:j.base=bc l u)(aic:j.what=l.what)(ahc:j.words=l.words)(ha:eS s.what s.w j.a)(kB:j.ended=false)(ck:j.at_≤nW l)(hx:bK j.x)(hl:j.fM=true→j.at_<nW l∧gd s.what s.w j.at_ j.x)(h:iO bJ j ws=(j',ws',b)):
  MV s l ws'∧ws'.length=ws.length∧(j'.base=j.base∧j'.what=j.what∧j'.words=j.words∧j'.a=j.a)∧(b=false→j'.ended=false∧j'.at_<nW l∧bK j'.x∧(j'.fM=true→gd s.what s.w j'.at_ j'.x)):=by
 obtain⟨base,what,words,a,changed,ended,tries,at_,fM,x⟩:=j;dsimp only at *;subst Je;subst kB;subst aic;subst ahc;have rD:=hs.ww
 have sx:∀i,i<nW l→gd s.what s.w i (wd a i):=fun i hi=>by
  have:=(Hr hs.im.sr).1 ha;refine this.2 i ?_;have h2:=this.1;rw[← hs.words,rD.1]at h2;omega
 unfold iO at h;dsimp only at h;split at h
 ·contradiction
 split at h
 ·cases h;exact⟨hw,rfl,⟨rfl,rfl,rfl,rfl⟩,fun hb=>by cases hb⟩
 rename_i ON
 have ab:at_<nW l:=by have:¬at_=nW l:=ON;omega
 have hA:=hs.B0 hu ab;have CG:gd s.what s.w at_ (gY ws (wr (bc l u+(at_:Nat)))):=by rw[hA];exact hw.load hu ab
 rw[hs.what]at h;split at h
 ·rename_i ajn
  have iJ:=(hl ajn).2;have Kl:=Dh hs.wz iJ (sx at_ ab);have hM:∀o,MV s l (jy ws (wr (bc l u+(at_:Nat))) o (da s.what x (wd a at_))):=fun o=>by rw[hA];exact hw.adZ ab Kl
  split at h
  ·unfold ic at h;dsimp only at h;split at h
   ·rename_i hn
    cases h;exact⟨hM _,xF _ _ _ _,⟨rfl,hs.what.symm,rfl,rfl⟩,fun _=>⟨rfl,hn,hx,fun hc=>by cases hc⟩⟩
   ·cases h;exact⟨hM _,xF _ _ _ _,⟨rfl,hs.what.symm,rfl,rfl⟩,fun hb=>by cases hb⟩
  ·cases h;exact⟨hM _,xF _ _ _ _,⟨rfl,hs.what.symm,rfl,rfl⟩,fun _=>⟨rfl,ab,hx,fun hc=>by cases hc⟩⟩
 ·split at h
  ·unfold ic at h;dsimp only at h;split at h
   ·rename_i hn
    cases h;exact⟨hw,rfl,⟨rfl,hs.what.symm,rfl,rfl⟩,fun _=>⟨rfl,hn,CG.1,fun hc=>absurd hc (by assumption)⟩⟩
   ·cases h;exact⟨hw,rfl,⟨rfl,hs.what.symm,rfl,rfl⟩,fun hb=>by cases hb⟩
  ·cases h;exact⟨hw,rfl,⟨rfl,hs.what.symm,rfl,rfl⟩,fun _=>⟨rfl,ab,CG.1,fun _=>CG⟩⟩
def Ya(s:Sy)(does:Int):Nw→Prop
 |.none=>False
 |.pop q=>bK q.n
 |.cu q=>bK q.n
 |.read y=>eS s.what s.w y
 |.join _=>does=5
 |.take _=>does=6
 |.push _=>does=7
 |_=>True
theorem M9{nx:List Int}{n:Int}(h:∀u∈nx,0≤u∧u<n)(h0:0<nx.length):∃u:Nat,nx.headD 0=u∧(u:Int)<n:=by
 cases nx with
 |nil=>cases h0
 |cons u r=>
  have:=h u (b9 ..);exact⟨u.toNat,by show u=_;omega,by omega⟩
theorem ab8{s:Sy}{l:Lay}{ws ws':List Int}{who does node:Int}{nx out:List Int}{n n':Nw}{b:Bool}(hs:LS s l)(hw:MV s l ws)(qm:0≤who∧who<l.k)(qY:0≤node∧node<s.n)(cP:∀u∈nx,0≤u∧u<s.n)(hh:does=5∨does=6∨does=7→0<nx.length)(ho:does=5∨does=6∨does=7→eS s.what s.w out)
  (hb:Aa s l who does node nx out n) (h:gy bJ l node n ws=(n',ws',b)):MV s l ws'∧ws'.length=ws.length∧(b=false→Aa s l who does node nx out n'∧kept l n')∧(b=true→Ya s does n'):=by
 have eD:=hs.k2;have hd:∀k:Nat,(k:Int)<l.k→((nN s*nW l:Nat):Int)≤jr l k∧((nN s*nW l:Nat):Int)≤hG (jr l k)∧∀i,((nN s*nW l:Nat):Int)≤l0 (jr l k) (eM l) i:=fun k hk=>hs.aiv (by omega);obtain⟨me,rfl⟩:=mY qm.1;obtain⟨v,rfl⟩:=mY qY.1;have hv:v<nN s:=by have:=hs.nn;omega
 have Kp:=hd me qm.2;cases n with
 |none=>exact hb.elim
 |pop q=>
  obtain⟨q',a',b',aq⟩:∃q' a' b',fK bJ q ws=(q',a',b'):=⟨_,_,_,rfl⟩
  rw[wm aq]at h;cases h;obtain⟨h1,h2,h3,h4⟩:=hb;obtain⟨k1,k2,k3,k4,k5,k6⟩:=aaU hw h2 (by rw[h3];exact Kp.2.1) (by rw[h3];exact Kp.1) aq;exact⟨k1,k2,fun hb=>⟨⟨h1,k6 hb,k3.trans h3,k4.trans h4⟩,trivial⟩,fun _=>k5⟩
 |cu q=>
  obtain⟨q',a',b',aq⟩:∃q' a' b',gU bJ q ws=(q',a',b'):=⟨_,_,_,rfl⟩
  rw[vV aq]at h;cases h;obtain⟨h1,h2,⟨k,hk,h3⟩,h4,h5⟩:=hb;obtain⟨k1,k2,k3,k4,k5,k6⟩:=YV hw h2 (by rw[h3];exact (hd k hk).1) h5 aq;exact⟨k1,k2,fun hb=>⟨⟨h1,(k6 hb).1,⟨k,hk,k3.trans h3⟩,k4.trans h4,(k6 hb).2⟩,trivial⟩,fun _=>k5⟩
 |quiet t=>
  obtain⟨h1,rfl⟩:=hb;cases h;exact⟨hw,rfl,fun hb=>(by cases hb),fun _=>trivial⟩
 |clear t=>
  obtain⟨h1,rfl⟩:=hb;cases h;refine⟨?_,?_,fun hb=>(by cases hb),fun _=>trivial⟩
  ·show MV s l (if 0≤(v:Int) then iE ws (wr (de l+(v:Nat))) 0 else ws);rw[af (by omega),hs.BW hv];exact hw.Bl (by omega) (by unfold bK;omega)
  ·show (if 0≤(v:Int) then iE ws (wr (de l+(v:Nat))) 0 else ws).length=_;rw[af (by omega)];exact AZ _ _ _
 |read y=>
  obtain⟨y',a',b',aq⟩:∃y' a' b',nj bJ l (bc l v) y ws=(y',a',b'):=⟨_,_,_,rfl⟩
  rw[zC aq]at h;cases h;obtain⟨h1,h2,h3⟩:=hb;obtain⟨rfl,k2,k3,k4⟩:=ZS hs hw hv h2 h3 aq;exact⟨hw,rfl,fun hb=>⟨⟨h1,.inl (k3 hb),k2⟩,k3 hb⟩,fun hb=>k4 hb⟩
 |join j=>
  obtain⟨j',a',b',aq⟩:∃j' a' b',iO bJ j ws=(j',a',b'):=⟨_,_,_,rfl⟩
  rw[we aq]at h;cases h;obtain⟨h1,⟨h2,h3,h4,h5⟩,h6,h7,h8,h9⟩:=hb;obtain⟨u,hu,fh⟩:=M9 cP (hh (.inl h1));obtain⟨k1,k2,⟨k3,k4,k5,k6⟩,k7⟩:=Z3 hs hw (u:=u) (by have:=hs.nn;omega) (by rw[h2,hu]) h3 h4 (by rw[h5];exact ho (.inl h1)) h6 h7 h8 h9 aq;refine⟨k1,k2,fun hb=>?_,fun _=>h1⟩;obtain⟨m1,m2,m3,m4⟩:=k7 hb;exact⟨⟨h1,⟨k3.trans h2,k4.trans h3,k5.trans h4,k6.trans h5⟩,m1,Nat.le_of_lt m2,m3,fun hc=>⟨m2,m4 hc⟩⟩,m2⟩
 |take t=>
  obtain⟨h1,j7,rfl⟩:=hb;obtain⟨u,hu,fh⟩:=M9 cP (hh (.inr (.inl h1)));have CB:u<nN s:=by have:=hs.nn;omega
  rw[hu]at h;have gD:((nN s*nW l:Nat):Int)≤wr (de l+(u:Nat)):=by rw[hs.BW CB];omega
  have PF:((nN s*nW l:Nat):Int)≤dA l:=by rw[hs.count];omega
  cases j7 with
  |true=>
   cases h;exact⟨hw.WL PF,QP _ _ _,fun hb=>(by cases hb),fun _=>h1⟩
  |false=>
   obtain⟨t',a',b',aq⟩:∃t' a' b',lD bJ ⟨de l,dA l,(u:Nat),false,false,false⟩ ws=(t',a',b'):=⟨_,_,_,rfl⟩
   rw[v8 aq]at h;cases h;unfold lD at aq;dsimp only at aq;rw[ag (by decide),ag (by decide),af (by omega)]at aq;split at aq
   ·cases aq;exact⟨hw.IW gD (by unfold bK;omega),xF _ _ _ _,fun _=>⟨⟨h1,true,by rw[hu]⟩,rfl⟩,fun hb=>(by cases hb)⟩
   ·cases aq;exact⟨hw.IW gD (by unfold bK;omega),xF _ _ _ _,fun hb=>(by cases hb),fun _=>h1⟩
 |push q=>
  obtain⟨q',a',b',aq⟩:∃q' a' b',gH bJ q ws=(q',a',b'):=⟨_,_,_,rfl⟩
  rw[Ef aq]at h;cases h;obtain⟨h1,h2,h3,h4,h5⟩:=hb;obtain⟨k1,k2,k3,k4,k5,k6⟩:=ZU hw h2 (by rw[h3];exact Kp.2.1) (by rw[h3,h4];exact Kp.2.2) h5 aq;exact⟨k1,k2,fun hb=>⟨⟨h1,(k6 hb).1,k3.trans h3,k4.trans h4,(k6 hb).2⟩,trivial⟩,fun _=>h1⟩
 |dK t=>
  obtain⟨h1,rfl⟩:=hb;cases h;have PF:((nN s*nW l:Nat):Int)≤dA l:=by rw[hs.count];omega
  exact⟨hw.WL PF,QP _ _ _,fun hb=>(by cases hb),fun _=>trivial⟩
theorem Bj:bK 0:=by unfold bK;omega
theorem ND(base cap n:Int)(m:Nat)(h:bK n):(vM base cap n).w4 m:=⟨bC _,Bj,Bj,h,Bj,rfl⟩
theorem aeO{d n:Int}(hn:0<n): -n<d.tmod n∧d.tmod n<n:=⟨by have:=KW (-d) hn;rw[Int.neg_tmod]at this;omega,KW _ hn⟩
theorem Sr{s:Sy}{l:Lay}(hs:LS s l){who:Int}(qm:0≤who∧who<l.k)(h2:2≤l.k)(d:Int):∃v:Nat,D7 l who d=v∧(v:Int)<l.k:=by
 have eD:=hs.k2;have hnk:nK l=l.k-1:=iZ (by omega) (by omega);have h1:=aeO (d:=d) (n:=l.k-1) (by omega);unfold D7;rw[hnk];generalize d.tmod (l.k-1)=a at h1;rw[iZ (z:=a+(l.k-1)) (by omega) (by omega),iZ (z:=who+1) (by omega) (by omega)];have h3:0≤(a+(l.k-1)).tmod (l.k-1):=Int.tmod_nonneg _ (by omega);have h4:=KW (a+(l.k-1)) (show 0<l.k-1 by omega);generalize (a+(l.k-1)).tmod (l.k-1)=c at h3 h4;rw[iZ (by omega) (by omega)];have h5:0≤(who+1+c).tmod l.k:=Int.tmod_nonneg _ (by omega);have h6:=KW (who+1+c) (show 0<l.k by omega);exact⟨_,(lW h5).symm,by omega⟩
theorem Vy{s:Sy}{l:Lay}{who:Int}{x:WS}{d:Int}(hs:LS s l)(qm:0≤who∧who<l.k)(h:WV s l who x):Aa s l who x.does x.node x.nx x.out (kN l who x d):=by
 have hd:=h.does;have hw:=hs.ww
 rcases h.now with h0 | h0
 ·unfold kN;rw[h0];show Aa s l who x.does x.node x.nx x.out (ji l who x.does x.node x.nx x.out d);unfold ji
  repeat' split
  ·exact⟨by assumption,ND _ _ _ _ (by unfold bK;omega),rfl,rfl⟩
  ·rename_i h1
   obtain⟨v,hv,hvk⟩:=Sr hs qm (h.Cs h1) d;exact⟨h1,ND _ _ _ _ (by unfold bK;omega),⟨v,hvk,by rw[← hv];rfl⟩,rfl,rfl⟩
  ·exact⟨by assumption,rfl⟩
  ·exact⟨by assumption,rfl⟩
  ·refine⟨by assumption,?_,fun i hi=>absurd hi (oJ _)⟩
   rcases vG (nW l) with h | h
   ·exact .inr ⟨h,rfl⟩
   ·exact .inl h
  ·exact⟨by assumption,⟨rfl,rfl,rfl,rfl⟩,rfl,bC _,Bj,fun hc=>by cases hc⟩
  ·exact⟨by assumption,false,rfl⟩
  ·exact⟨by assumption,ND _ _ _ _ (BM _),rfl,rfl,rfl⟩
  ·exact⟨by omega,rfl⟩
 ·unfold kN;split
  ·rename_i hn;rw[hn]at h0;exact h0.1.elim
  ·exact h0.1
theorem Wu{s:Sy}{l:Lay}(hs:LS s l){n:Int}(h:bK n):0≤pV l n∧pV l n<s.n:=by
 have hn:=hs.nn
 have e:wu l.n=s.n:=by
  show IntKind.u64.wrap l.n=_;rw[IntKind.wrap_u64,hs.n];omega
 unfold pV;rw[e];split
 ·omega
 ·rw[iZ h.1 (by omega)];exact⟨h.1,by omega⟩
theorem qT{s:Sy}{l:Lay}{who:Int}{x:WS}(h0:x.now=.none)(h1:0≤x.does∧x.does≤8)(h2:0≤x.node∧x.node<s.n)(h3:∀u∈x.nx,0≤u∧u<s.n)(h4:x.does=5∨x.does=6∨x.does=7→0<x.nx.length∧eS s.what s.w x.out)(h5:x.does=1→2≤l.k):WV s l who x:=
 ⟨h1,h2,h3,fun h=>(h4 h).1,fun h=>(h4 h).2,h5,.inl h0⟩
theorem ahn{s:Sy}{l:Lay}{who:Int}{x:WS}{n:Nw}(hs:LS s l)(h:WV s l who x)(he:Ya s x.does n):WV s l who (eN s l x n):=by
 have g:=fun n=>aa0 l n;have f:=aa1 x.nx;have r:=aaP s x.node;have no:=Zc l;have qu:=ZT l;have Km:∀u∈x.nx.tail,0≤u∧u<s.n:=fun u hu=>h.nx u (List.mem_of_mem_tail hu);cases n with
 |none=>exact he.elim
 |pop q=>
  have g:=g q.n
  by_cases hq:q.ok=true
  ·rw[show eN s l x (.pop q)=⟨x.ev,x.jo,x.en,rW l q.n,.none,pV l q.n,true,x.nx,x.out⟩ from af hq];exact qT rfl (by dsimp only;omega) (Wu hs he) h.nx (fun h=>by dsimp only at h;omega) (fun h=>by dsimp only at h;omega)
  ·rw[show eN s l x (.pop q)=⟨x.ev,x.jo,x.en,rT l,.none,x.node,x.has,x.nx,x.out⟩ from ag hq];exact qT rfl (by dsimp only;omega) h.node h.nx (fun h=>by dsimp only at h;omega) (fun h=>by dsimp only at h;omega)
 |cu q=>
  have g:=g q.n
  by_cases hq:q.ok=true
  ·rw[show eN s l x (.cu q)=⟨x.ev,x.jo,x.en,rW l q.n,.none,pV l q.n,true,x.nx,x.out⟩ from af hq];exact qT rfl (by dsimp only;omega) (Wu hs he) h.nx (fun h=>by dsimp only at h;omega) (fun h=>by dsimp only at h;omega)
  ·rw[show eN s l x (.cu q)=⟨x.ev,x.jo,x.en,2,.none,x.node,x.has,x.nx,x.out⟩ from ag hq];exact qT rfl (by dsimp only;omega) h.node h.nx (fun h=>by dsimp only at h;omega) (fun h=>by dsimp only at h;omega)
 |quiet q=>exact qT rfl (by dsimp only[eN];omega) h.node h.nx (fun h=>by dsimp only[eN]at h;omega) (fun h=>by dsimp only[eN]at h;omega)
 |clear q=>exact qT rfl (by dsimp only[eN];omega) h.node h.nx (fun h=>by dsimp only[eN]at h;omega) (fun h=>by dsimp only[eN]at h;omega)
 |read y=>
  obtain⟨v,hv⟩:=mY h.node.1;have dv:=h.node.2;have hE:qj s x.node y=0:=Ue ((HB (L6 hs.im) h.node).symm) he.v
  have hV:eS s.what s.w (tA (qj s x.node y) (iS s y x.node.toNat)):=by
   rw[hE,show tA 0 (iS s y x.node.toNat)=iS s y x.node.toNat from rfl];have:=Ij hs.fit hs.im he.cC he.v (v:=x.node.toNat) (by omega);exact⟨this.1,this.2⟩
  exact qT rfl (by dsimp only[eN];omega) h.node (fun u hu=>(lZ.1 hu).1) (fun h=>⟨by dsimp only[eN]at h ⊢;omega,hV⟩) (fun h=>by dsimp only[eN]at h;omega)
 |join q=>
  have hh:=h.head (.inl he);have ho:=h.out (.inl he)
  by_cases hq:q.changed=true
  ·rw[show eN s l x (.join q)=⟨x.ev,wr (x.jo+1),x.en,6,.none,x.node,x.has,x.nx,x.out⟩ from af hq];exact qT rfl (by dsimp only;omega) h.node h.nx (fun _=>⟨hh,ho⟩) (fun h=>by dsimp only at h;omega)
  ·rw[show eN s l x (.join q)=⟨x.ev,x.jo,x.en,kP x.nx,.none,x.node,x.has,x.nx.tail,x.out⟩ from ag hq];exact qT rfl (by dsimp only;omega) h.node Km (fun h=>⟨by dsimp only at h ⊢;omega,ho⟩) (fun h=>by dsimp only at h;omega)
 |take q=>
  have hh:=h.head (.inr (.inl he));have ho:=h.out (.inr (.inl he))
  by_cases hq:q.new=true
  ·rw[show eN s l x (.take q)=⟨x.ev,x.jo,x.en,7,.none,x.node,x.has,x.nx,x.out⟩ from af hq];exact qT rfl (by dsimp only;omega) h.node h.nx (fun _=>⟨hh,ho⟩) (fun h=>by dsimp only at h;omega)
  ·rw[show eN s l x (.take q)=⟨x.ev,x.jo,x.en,kP x.nx,.none,x.node,x.has,x.nx.tail,x.out⟩ from ag hq];exact qT rfl (by dsimp only;omega) h.node Km (fun h=>⟨by dsimp only at h ⊢;omega,ho⟩) (fun h=>by dsimp only at h;omega)
 |push q=>
  have ho:=h.out (.inr (.inr he));exact qT rfl (by dsimp only[eN];omega) h.node Km (fun h=>⟨by dsimp only[eN]at h ⊢;omega,ho⟩) (fun h=>by dsimp only[eN]at h;omega)
 |dK q=>exact qT rfl (by dsimp only[eN];omega) h.node h.nx (fun h=>by dsimp only[eN]at h;omega) (fun h=>by dsimp only[eN]at h;omega)
theorem aeG{s:Sy}{l:Lay}{who:Int}{x:WS}{d:Int}{ws:List Int}(hs:LS s l)(qm:0≤who∧who<l.k)(hw:MV s l ws)(h:WV s l who x):MV s l (dB bJ s l who x d ws).2.1∧(dB bJ s l who x d ws).2.1.length=ws.length∧WV s l who (dB bJ s l who x d ws).1:=by
 obtain⟨n',ws',b,aq⟩:∃n' ws' b,gy bJ l x.node (kN l who x d) ws=(n',ws',b):=⟨_,_,_,rfl⟩
 obtain⟨k1,k2,k3,k4⟩:=ab8 hs hw qm h.node h.nx h.head h.out (Vy hs qm h (d:=d)) aq;unfold dB;rw[aq];dsimp only;split
 ·exact⟨hw,rfl,h⟩
 ·split
  ·rename_i hb
   exact⟨k1,k2,ahn hs h (k4 hb)⟩
  ·rename_i hb
   exact⟨k1,k2,h.does,h.node,h.nx,h.head,h.out,h.Cs,.inr (k3 (by simpa using hb))⟩
set_option maxHeartbeats 4000000
theorem agP{l:Lay}{base:Int}{y ws:List Int}(h:y.length<cw l.words){x:Int}(hx:gY ws (wr (base+(y.length:Nat)))=x):nj bJ l base y ws=(y++[x],ws,decide (y.length+1=cw l.words)):=by
 subst hx;exact af h
theorem ae2{s:Sy}{l:Lay}{x:WS}{y:List Int}(h:qj s x.node y=0):eN s l x (.read y)=⟨wr (x.ev+1),x.jo,x.en,wk s x.node,.none,x.node,x.has,aw s.n s.aN x.node,iS s y x.node.toNat⟩:=by
 show (⟨wr (x.ev+1),x.jo,x.en,wk s x.node,.none,x.node,x.has,aw s.n s.aN x.node,tA (qj s x.node y) (iS s y x.node.toNat)⟩:WS)=_;rw[h];rfl
set_option maxHeartbeats 4000000
theorem acm{s:Sy}{l:Lay}{who:Int}{x:WS}{d:Int}{ws:List Int}(he:x.en=false):(dB bJ s l who x d ws).2.2=(dB bJ s l who x d ws).1.en:=by
 unfold dB;rw[ag (by rw[he];decide)];split
 ·rfl
 ·exact he.symm
theorem Ms{s:Sy}{k:Int}(h:cM s k=0):dT s=0∧1≤k∧k≤64:=by
 unfold cM at h;split at h
 ·split at h
  ·exact⟨by assumption,by assumption⟩
  ·cases h
 ·exact absurd h (by assumption)
theorem zS{s:Sy}{k:Int}(hf:Fit s)(h:cM s k=0):LS s (je s k)∧(je s k).k=k:=by
 obtain⟨h1,h2⟩:=Ms h;have e:∀z,lP (cM s k) z=z:=fun z=>af h;exact⟨⟨hf,Nb h1,e _,e _,e _,by rw[show (je s k).k=k from e _];exact h2.1,by rw[show (je s k).k=k from e _];exact h2.2⟩,e _⟩
def om(l:Lay):Nat:=(jr l l.k).toNat
section
variable {s:Sy} {l:Lay} (hs:LS s l)
include hs
theorem LS.kk:∃k:Nat,l.k=k∧1≤k∧k≤64:=⟨l.k.toNat,by have:=hs.k1;have:=hs.k2;omega⟩
theorem LS.size:jr l l.k=(om l:Int)∧om l≤1000000∧sl (jr l l.k)=om l:=by
 obtain⟨k,hk,mr,eD⟩:=hs.kk;have hd:=hs.yu eD;have h1:=hs.nn;have h2:=hs.ww;have h3:=s6 h1.2.2 h2.2;have h4:k*(nN s+3)≤64*259:=jN eD (by omega);unfold om sl;rw[hk,hd];omega
theorem LS.low:nN s*nW l+nN s<om l:=by
 obtain⟨m,hm,Pv,sA⟩:=hs.kk;have sD:=hs.yu sA;unfold om;rw[hm,sD];omega
end
theorem MV.agH{s:Sy}{l:Lay}{ws:List Int}(h:MV s l ws){a:Nat}{x:Int}(ha:nN s*nW l≤a)(hx:bK x):MV s l (ws.set a x):=by
 rw[← lX];exact h.Bl (by omega) hx
theorem MV.acH{s:Sy}{l:Lay}{ws:List Int}(h:MV s l ws){u j:Nat}{x:Int}(hj:j<nW l)(hx:gd s.what s.w j x):MV s l (ws.set (u*nW l+j) x):=by
 rw[← lX];exact h.RB hj hx
theorem afs(s:Sy)(l:Lay)(n:Nat):MV s l (List.replicate n 0):=⟨fun z hz=>by rw[y8 hz];exact Bj,fun v i _ _=>by
 have:(List.replicate n (0:Int)).getD (v*nW l+i) 0=0:=by
  rw[aZ,vK];split <;> rfl
 rw[this];exact ZH _ _ _⟩
def qq(s:Sy)(l:Lay)(ws:List Int):Prop:=ws.length=om l∧MV s l ws
theorem qq.hi{s:Sy}{l:Lay}{ws:List Int}(h:qq s l ws){a:Nat}{x:Int}(ha:nN s*nW l≤a)(hx:bK x):qq s l (ws.set a x):=⟨by rw[cz];exact h.1,h.2.agH ha hx⟩
theorem Mi:∀{l m:List Int},l.Nodup→(∀x∈l,x∈m)→l.length≤m.length
 | [],_,_,_=>bC _
 |a::l,m,hd,h=>by
  have hd:=lV.1 hd;have ha:=h a (b9 ..);have h1:=Mi (l:=l) (m:=m.erase a) hd.2 fun x hx=>(GL (fun e:x=a=>hd.1 (by rw[← e];exact hx))).2 (h x (cQ _ hx));rw[List.length_erase_of_mem ha]at h1;have:=C9 ha;rw[gj];omega
inductive Rx(nx:Int→List Int):Int→Int→Prop where
 |refl (a:Int):Rx nx a a
 |step {a b c:Int} (h:Rx nx a b) (hc:c∈nx b):Rx nx a c
theorem Rx.trans{nx:Int→List Int}{a b c:Int}(h1:Rx nx a b)(h2:Rx nx b c):Rx nx a c:=by
 induction h2 with
 |refl=>exact h1
 |step _ hc ih=>exact .step ih hc
theorem Rx.one{nx:Int→List Int}{a b:Int}(h:b∈nx a):Rx nx a b:=.step (.refl a) h
def qg(f:Int→Int)(a v:Int):Int→Int:=fun y=>if y=a then v else f y
theorem qM{f:Int→Int}{a v y:Int}(h:y≠a):qg f a v y=f y:=ag h
theorem qN{f:Int→Int}{a v:Int}:qg f a v a=v:=af rfl
structure rN(n:Nat)(nx:Int→List Int)(P:List (List Int)):Prop where
 ne:∀p∈P,p≠[]
 node:∀p∈P,∀x∈p,0≤x∧x<(n:Int)
 nd:P.flatten.Nodup
 Cq:∀p∈P,p.Pairwise (· < ·)
 Qu:∀p∈P,∀x∈p,∀y∈p,Rx nx x y
 Ll:∀(i:Nat) (p:List Int),P[i]?=some p→∀x∈p,∀y∈nx x,∃(j:Nat) (q:List Int),j≤i∧P[j]?=some q∧y∈q
theorem rN.nil(n:Nat)(nx:Int→List Int):rN n nx []:=⟨fun _ h=>(by cases h),fun _ h=>(by cases h),List.nodup_nil,fun _ h=>(by cases h),fun _ h=>(by cases h),fun i p h=>by simp at h⟩
theorem rN.reach{n:Nat}{nx:Int→List Int}{P:List (List Int)}(h:rN n nx P){x y:Int}(hr:Rx nx x y)(hx:∃p∈P,x∈p):∃p∈P,y∈p:=by
 induction hr with
 |refl=>exact hx
 |step _ hc ih=>
  obtain⟨p,hp,hb⟩:=ih;obtain⟨i,hi⟩:=GK hp;obtain⟨j,q,_,hq,hy⟩:=h.Ll i p hi _ hb _ hc;exact⟨q,bU hq,hy⟩
structure TJ(n:Nat)(nx:Int→List Int)(f L:Int→Int)(st:List Int)(aH:Nat)(P:List (List Int))(W:List Int):Prop where
 node:∀x∈st,0≤x∧x<(n:Int)
 inc:st.Pairwise fun x y=>f x<f y
 tq:∀x∈st,1≤f x∧f x≤aH
 yJ:∀x:Int,0≤x→x<n→(f x≠0↔x∈st∨∃p∈P,x∈p)
 AW:∀p∈P,∀x∈p,x ∉ st
 len:aH=st.length+P.flatten.length
 sub:W.Sublist st
 top:∀x∈st,∃v∈W,f v≤f x
 Ap:∀v∈W,∀x∈st,f v≤f x→Rx nx v x
 fin:∀x∈st,x ∉ W→(∀y∈nx x,f y≠0)∧∃y∈st,f y<f x∧Rx nx x y
 low:∀v∈W,L v≤f v∧∃y∈st,f y=L v∧Rx nx v y
 Cr:∀v∈W,∀x∈st,x ∉ W→f v<f x→(∀u∈W,f u≤f x→f u≤f v)→∀y∈nx x,y∈st→L v≤f y
 prt:rN n nx P
def Prc(nx:Int→List Int)(f L:Int→Int)(st:List Int)(iq:List (Int×Nat)):Prop:=∀t∈iq,∀y∈(nx t.1).take t.2,f y≠0∧(y∈st→L t.1≤f y)
theorem LH{f:Int→Int}:∀{st:List Int},st.Pairwise (fun x y=>f x<f y)→∀{x y:Int},x∈st→y∈st→f x=f y→x=y
 | [],_,_,_,hx,_,_=>by cases hx
 |a::st,h,x,y,hx,hy,e=>by
  obtain⟨h1,h2⟩:=tP.1 h
  rcases dm.1 hx with e1 | sw
  ·rcases dm.1 hy with e2 | u0
   ·rw[e1,e2]
   ·have:=h1 y u0;rw[e1]at e;omega
  ·rcases dm.1 hy with e2 | u0
   ·have:=h1 x sw;rw[e2]at e;omega
   ·exact LH h2 sw u0 e
theorem vO{f:Int→Int}{st:List Int}(h:st.Pairwise (fun x y=>f x<f y)):st.Nodup:=h.imp fun aU e=>by subst e;omega
theorem DU{f:Int→Int}{st w:List Int}{v:Int}(h:st.Pairwise (fun x y=>f x<f y))(hs:(w++[v]).Sublist st):∀u∈w,f u<f v:=by
 have:=h.sublist hs;intro u hu;exact (K1.1 this).2.2 u hu v (bD.2 rfl)
variable {n:Nat} {nx:Int→List Int} {f L:Int→Int} {st:List Int} {aH:Nat} {P:List (List Int)}
theorem TJ.start(h:∀x,f x=0):TJ n nx f L [] 0 [] []:=
 ⟨fun _ h=>(by cases h),.nil,fun _ h=>(by cases h),fun x _ _=>by simp[h],fun _ h=>(by cases h),rfl,.slnil,fun _ h=>(by cases h),fun _ h=>(by cases h),fun _ h=>(by cases h),fun _ h=>(by cases h),fun _ h=>(by cases h),.nil n nx⟩
theorem TJ.enter{W:List Int}{b:Int}(h:TJ n nx f L st aH P W)(hb:0≤b∧b<n)(hf:f b=0)(hW:∀v∈W,Rx nx v b):TJ n nx (qg f b (aH+1)) (qg L b (aH+1)) (st++[b]) (aH+1) P (W++[b]):=by
 have eX:b ∉ st:=fun hm=>by have:=h.tq b hm;omega
 have hbW:b ∉ W:=fun hm=>eX (h.sub.subset hm);have jl:∀x∈st,qg f b (aH+1) x=f x:=fun x hx=>qM fun e=>eX (e▸hx);have hL1:∀x∈W,qg L b (aH+1) x=L x:=fun x hx=>qM fun e=>hbW (e▸hx);have CJ:qg f b (aH+1) b=(aH+1:Nat):=by rw[qN];rfl
 have CO:=h.sub.subset;refine⟨fun x hx=>?_,?_,fun x hx=>?_,fun x h0 h1=>?_,fun p hp x hx=>?_,by have:=h.len;rw[bQ,sN];omega,h.sub.append (.refl _),fun x hx=>?_,fun v hv x hx hle=>?_,fun x hx mi=>?_,fun v hv=>?_,fun v hv x hx mi ab jY y hy k9=>?_,h.prt⟩
 ·rcases bY.1 hx with hx | hx
  ·exact h.node x hx
  ·rw[bD.1 hx];exact hb
 ·refine K1.2 ⟨h.inc.imp_of_mem fun {x y} hx hy aU=>?_,List.pairwise_singleton ..,fun x hx y hy=>?_⟩
  ·rw[jl x hx,jl y hy];exact aU
  ·rw[bD.1 hy,jl x hx,CJ];have:=(h.tq x hx).2;omega
 ·rcases bY.1 hx with hx | hx
  ·rw[jl x hx];have:=h.tq x hx;omega
  ·rw[bD.1 hx,CJ];omega
 ·by_cases e:x=b
  ·subst e;exact⟨fun _=>.inl (jP _ (bD.2 rfl)),fun _=>by rw[CJ];omega⟩
  ·rw[qM e,h.yJ x h0 h1,bY,bD];exact or_congr_left ⟨.inl,fun h=>h.resolve_right e⟩
 ·rw[bY,bD];rintro (hm | rfl)
  ·exact h.AW p hp x hx hm
  ·exact ((h.yJ x hb.1 hb.2).2 (.inr ⟨p,hp,hx⟩)) hf
 ·rcases bY.1 hx with hx | hx
  ·obtain⟨v,hv,hle⟩:=h.top x hx;exact⟨v,ia _ hv,by rw[jl v (CO hv),jl x hx];exact hle⟩
  ·rw[bD.1 hx];exact⟨b,jP _ (bD.2 rfl),kl _⟩
 ·rcases bY.1 hv with hv | hv
  ·rcases bY.1 hx with hx | hx
   ·rw[jl v (CO hv),jl x hx]at hle;exact h.Ap v hv x hx hle
   ·rw[bD.1 hx];exact hW v hv
  ·rw[bD.1 hv]at hle ⊢
   rcases bY.1 hx with hx | hx
   ·rw[CJ,jl x hx]at hle;have:=(h.tq x hx).2;omega
   ·rw[bD.1 hx];exact .refl _
 ·rw[bY,bD]at mi
  have hx:x∈st:=by
   rcases bY.1 hx with hx | hx
   ·exact hx
   ·exact absurd (.inr (bD.1 hx)) mi
  obtain⟨h1,y,hy,h2,h3⟩:=h.fin x hx fun hm=>mi (.inl hm);refine⟨fun y hy=>?_,y,ia _ hy,by rw[jl y hy,jl x hx];exact h2,h3⟩
  by_cases e:y=b
  ·subst e;rw[CJ];omega
  ·rw[qM e];exact h1 y hy
 ·rcases bY.1 hv with hv | hv
  ·obtain⟨h1,y,hy,h2,h3⟩:=h.low v hv;rw[hL1 v hv,jl v (CO hv)];exact⟨h1,y,ia _ hy,by rw[jl y hy];exact h2,h3⟩
  ·rw[bD.1 hv,qN,qN];exact⟨kl _,b,jP _ (bD.2 rfl),qN,.refl _⟩
 ·rw[bY,bD]at mi
  have hx:x∈st:=by
   rcases bY.1 hx with hx | hx
   ·exact hx
   ·exact absurd (.inr (bD.1 hx)) mi
  rcases bY.1 hv with hv | hv
  ·rw[hL1 v hv];rw[jl v (CO hv),jl x hx]at ab;have hyb:y≠b:=fun e=>(h.fin x hx fun hm=>mi (.inl hm)).1 y hy (e▸hf)
   have k9:y∈st:=by
    rcases bY.1 k9 with k9 | k9
    ·exact k9
    ·exact absurd (bD.1 k9) hyb
   rw[jl y k9];refine h.Cr v hv x hx (fun hm=>mi (.inl hm)) ab (fun u hu hle=>?_) y hy k9;have:=jY u (ia _ hu);rw[jl u (CO hu),jl x hx,jl v (CO hv)]at this;exact this hle
  ·rw[bD.1 hv,CJ,jl x hx]at ab;have:=(h.tq x hx).2;omega
theorem TJ.lower{w:List Int}{v z:Int}(h:TJ n nx f L st aH P (w++[v]))(hz:z∈st)(hr:Rx nx v z):TJ n nx f (qg L v (min (L v) (f z))) st aH P (w++[v]):=by
 have hd:(w++[v]).Nodup:=(vO h.inc).sublist h.sub;have hvw:v ∉ w:=fun hm=>(pM.1 hd).2.2 v hm v (bD.2 rfl) rfl;refine⟨h.node,h.inc,h.tq,h.yJ,h.AW,h.len,h.sub,h.top,h.Ap,h.fin,fun u hu=>?_,fun u hu x hx mi ab jY y hy k9=>?_,h.prt⟩
 ·by_cases e:u=v
  ·subst e;rw[qN];obtain⟨h1,y,hy,h2,h3⟩:=h.low u hu;refine⟨by omega,?_⟩
   by_cases c:L u≤f z
   ·exact⟨y,hy,by rw[h2];omega,h3⟩
   ·exact⟨z,hz,by omega,hr⟩
  ·rw[qM e];exact h.low u hu
 ·have:=h.Cr u hu x hx mi ab jY y hy k9
  by_cases e:u=v
  ·subst e;rw[qN];omega
  ·rw[qM e];exact this
theorem TJ.up{w:List Int}{u v:Int}(h:TJ n nx f L st aH P (w++[u]++[v]))(ab:L v<f v)(cx:∀y∈nx v,f y≠0∧(y∈st→L v≤f y)):TJ n nx f (qg L u (min (L u) (L v))) st aH P (w++[u]):=by
 have hd:(w++[u]++[v]).Nodup:=(vO h.inc).sublist h.sub;have hvw:v ∉ w++[u]:=fun hm=>(pM.1 hd).2.2 v hm v (bD.2 rfl) rfl;have fh:u ∉ w:=fun hm=>(pM.1 (pM.1 hd).1).2.2 u hm u (bD.2 rfl) rfl;have huv:u≠v:=fun e=>hvw (e▸jP _ (bD.2 rfl));have mc:=DU h.inc h.sub;have aik:=DU h.inc ((List.sublist_append_left _ _).trans h.sub);have Kh:u∈w++[u]:=jP _ (bD.2 rfl);have CA:v∈w++[u]++[v]:=jP _ (bD.2 rfl);have bP:v∈st:=h.sub.subset CA;have hfuv:f u<f v:=mc u Kh;obtain⟨fi,z,hz,pz,hzr⟩:=h.low v CA;refine⟨h.node,h.inc,h.tq,h.yJ,h.AW,h.len,(List.sublist_append_left _ _).trans h.sub,fun x hx=>?_,fun a ha=>h.Ap a (ia _ ha),fun x hx mi=>?_,fun a ha=>?_,fun a ha x hx mi dE jY y hy k9=>?_,h.prt⟩
 ·obtain⟨a,ha,hle⟩:=h.top x hx
  rcases bY.1 ha with ha | ha
  ·exact⟨a,ha,hle⟩
  ·rw[bD.1 ha]at hle;exact⟨u,Kh,by omega⟩
 ·by_cases e:x=v
  ·subst e;exact⟨fun y hy=>(cx y hy).1,z,hz,by omega,hzr⟩
  ·exact h.fin x hx fun hm=>by
    rcases bY.1 hm with hm | hm
    ·exact mi hm
    ·exact e (bD.1 hm)
 ·obtain⟨h1,y,hy,h2,h3⟩:=h.low a (ia _ ha)
  by_cases e:a=u
  ·subst e;rw[qN];refine⟨by omega,?_⟩
   by_cases c:L a≤L v
   ·exact⟨y,hy,by omega,h3⟩
   ·exact⟨z,hz,by omega,(h.Ap a (ia _ Kh) v bP (by omega)).trans hzr⟩
  ·rw[qM e];exact⟨h1,y,hy,h2,h3⟩
 ·have FX:∀c,f a≤c→f u≤f a→qg L u (min (L u) (L v)) a≤L a:=fun c _ _=>by
   by_cases e:a=u
   ·subst e;rw[qN];omega
   ·rw[qM e];exact kl _
  have hle:qg L u (min (L u) (L v)) a≤L a:=by
   by_cases e:a=u
   ·subst e;rw[qN];omega
   ·rw[qM e];exact kl _
  by_cases Cy:f v≤f x
  ·have hau:a=u:=by
    have h1:=jY u Kh (by omega)
    by_cases e:a=u
    ·exact e
    ·have:a∈w:=by
      rcases bY.1 ha with ha | ha
      ·exact ha
      ·exact absurd (bD.1 ha) e
     have:=aik a this;omega
   subst hau;rw[qN]
   by_cases e:x=v
   ·subst e;have:=(cx y hy).2 k9;omega
   ·have aS:f v≠f x:=fun e2=>e (LH h.inc hx bP e2.symm)
    have:=h.Cr v CA x hx (fun hm=>by
     rcases bY.1 hm with hm | hm
     ·exact mi hm
     ·exact e (bD.1 hm)) (by omega) (fun c hc _=>by
      rcases bY.1 hc with hc | hc
      ·have:=mc c hc;omega
      ·rw[bD.1 hc];exact kl _) y hy k9
    omega
  ·have aj2:x≠v:=fun e=>by subst e;omega
   have:=h.Cr a (ia _ ha) x hx (fun hm=>by
    rcases bY.1 hm with hm | hm
    ·exact mi hm
    ·exact aj2 (bD.1 hm)) dE (fun c hc sE=>by
     rcases bY.1 hc with hc | hc
     ·exact jY c hc sE
     ·rw[bD.1 hc]at sE;omega) y hy k9
   omega
theorem S4{v:Int}:∀{st:List Int},st.Pairwise (fun x y=>f x<f y)→v∈st→∃A B,st=A++v::B∧(∀x∈A,f x<f v)∧∀x∈B,f v<f x:=by
 intro st h hv;obtain⟨A,B,rfl⟩:=List.append_of_mem hv;obtain⟨h1,h2,h3⟩:=K1.1 h;exact⟨A,B,rfl,fun x hx=>h3 x hx v (b9 ..),fun x hx=>(tP.1 h2).1 x hx⟩
theorem TJ.tell{w A B part:List Int}{v:Int}(h:TJ n nx f L st aH P (w++[v]))(aq:st=A++v::B)(heq:L v=f v)(cx:∀y∈nx v,f y≠0∧(y∈st→L v≤f y))(cP:∀x y,y∈nx x→0≤y∧y<n)(hp:part.Perm (v::B))(hs:part.Pairwise (· < ·)):TJ n nx f L A aH (P++[part]) w:=by
 have cg:=vO h.inc;have mc:=DU h.inc h.sub;have CA:v∈w++[v]:=jP _ (bD.2 rfl);have mM:=h.inc;rw[aq]at mM;obtain⟨i1,i2,i3⟩:=K1.1 mM;have yC:∀x∈A,f x<f v:=fun x hx=>i3 x hx v (b9 ..);have JJ:∀x∈B,f v<f x:=(tP.1 i2).1;have vu:∀x∈A,x∈st:=fun x hx=>by rw[aq];exact ia _ hx
 have yV:∀x∈v::B,x∈st:=fun x hx=>by rw[aq];exact jP _ hx
 have Cj:∀x∈v::B,f v≤f x:=fun x hx=>by
  rcases dm.1 hx with rfl | hx
  ·exact kl _
  ·have:=JJ x hx;omega
 have au:∀x∈st,f v≤f x→x∈v::B:=fun x hx hle=>by
  rw[aq]at hx
  rcases bY.1 hx with hx | hx
  ·have:=yC x hx;omega
  ·exact hx
 have N7:∀x∈B,x ∉ w++[v]:=fun x hx hm=>by
  have:=JJ x hx
  rcases bY.1 hm with hm | hm
  ·have:=mc x hm;omega
  ·rw[bD.1 hm]at this;omega
 have JE:∀x∈v::B,∀y∈nx x,y∈v::B∨∃p∈P,y∈p:=fun x hx y hy=>by
  have xg:f y≠0∧(y∈st→f v≤f y):=by
   rcases dm.1 hx with rfl | Cz
   ·rw[← heq];exact cx y hy
   ·refine⟨(h.fin x (yV x hx) (N7 x Cz)).1 y hy,fun k9=>?_⟩;rw[← heq];refine h.Cr v CA x (yV x hx) (N7 x Cz) (JJ x Cz) (fun u hu _=>?_) y hy k9
    rcases bY.1 hu with hu | hu
    ·have:=mc u hu;omega
    ·rw[bD.1 hu];exact kl _
  obtain⟨q1,q2⟩:=cP x y hy
  rcases (h.yJ y q1 q2).1 xg.1 with k9 | hyp
  ·exact .inl (au y k9 (xg.2 k9))
  ·exact .inr hyp
 have ahd:∀{x y:Int},Rx nx x y→x∈v::B→y∈v::B∨∃p∈P,y∈p:=by
  intro x y hr hx
  induction hr with
  |refl=>exact .inl hx
  |step _ hc ih=>
   rcases ih with ih | ih
   ·exact JE _ ih _ hc
   ·exact .inr (h.prt.reach (.one hc) ih)
 have EX:∀(k:Nat) (x:Int),x∈v::B→(f x-f v).toNat≤k→Rx nx x v:=by
  intro k
  induction k with
  |zero=>
   intro x hx hk;have:=Cj x hx;rw[LH h.inc (yV x hx) (yV v (b9 ..)) (by omega)];exact .refl _
  |succ k ih=>
   intro x hx hk
   rcases dm.1 hx with rfl | Cz
   ·exact .refl _
   ·obtain⟨_,y,hy,ab,hr⟩:=h.fin x (yV x hx) (N7 x Cz)
    rcases ahd hr hx with Pg | ⟨p,hp,hyp⟩
    ·have:=JJ x Cz;exact hr.trans (ih y Pg (by omega))
    ·exact absurd hy (h.AW p hp y hyp)
 have ajs:∀x∈v::B,∀y∈v::B,Rx nx x y:=fun x hx y hy=>(EX _ x hx (aQ _)).trans (h.Ap v CA y (yV y hy) (Cj y hy));have fN:∀x,x∈part↔x∈v::B:=fun x=>hp.mem_iff
 have hwA:w.Sublist A:=by
  have h1:(w++[v]).Sublist (A++v::B):=aq▸h.sub;have h2:=h1.filter (fun x=>decide (f x<f v))
  have e1:(w++[v]).filter (fun x=>decide (f x<f v))=w:=by
   rw[List.filter_append,List.filter_eq_self.2 fun x hx=>decide_eq_true (mc x hx),List.filter_cons_of_neg (by simp)];simp
  have e2:(A++v::B).filter (fun x=>decide (f x<f v))=A:=by
   rw[AN,gw0.2 fun x hx=>bu (yC x hx),List.filter_eq_nil_iff.2 fun x hx=>by
    have:=Cj x hx
    rw[decide_eq_true_eq];omega]
   simp
  rw[e1,e2]at h2;exact h2
 have Xq:(P++[part]).flatten=P.flatten++part:=by rw[List.flatten_append];simp
 refine⟨fun x hx=>h.node x (vu x hx),i1,fun x hx=>h.tq x (vu x hx),fun x h0 h1=>?_,fun p dH x hx hxA=>?_,?_,hwA,fun x hx=>?_,fun a ha x hx=>h.Ap a (ia _ ha) x (vu x hx),fun x hx mi=>?_,fun a ha=>?_,fun a ha x hx mi ab jY y hy k9=>?_,⟨fun p dH=>?_,fun p dH x hx=>?_,?_,fun p dH=>?_,fun p dH x hx y hy=>?_,fun i p hi x hx y hy=>?_⟩⟩
 ·rw[h.yJ x h0 h1,aq,bY];constructor
  ·rintro ((hx | hx) | ⟨p,dH,hx⟩)
   ·exact .inl hx
   ·exact .inr ⟨part,jP _ (bD.2 rfl),(fN x).2 hx⟩
   ·exact .inr ⟨p,ia _ dH,hx⟩
  ·rintro (hx | ⟨p,dH,hx⟩)
   ·exact .inl (.inl hx)
   ·rcases bY.1 dH with dH | dH
    ·exact .inr ⟨p,dH,hx⟩
    ·rw[bD.1 dH]at hx;exact .inl (.inr ((fN x).1 hx))
 ·rcases bY.1 dH with dH | dH
  ·exact h.AW p dH x hx (vu x hxA)
  ·rw[bD.1 dH]at hx;have:=Cj x ((fN x).1 hx);have:=yC x hxA;omega
 ·have h1:=h.len;have h2:=hp.length_eq;have h3:=congrArg List.length aq;rw[bQ]at h3;rw[Xq,bQ];omega
 ·obtain⟨a,ha,hle⟩:=h.top x (vu x hx)
  rcases bY.1 ha with ha | ha
  ·exact⟨a,ha,hle⟩
  ·rw[bD.1 ha]at hle;have:=yC x hx;omega
 ·have Cy:x ∉ w++[v]:=fun hm=>by
   rcases bY.1 hm with hm | hm
   ·exact mi hm
   ·have:=yC x hx;rw[bD.1 hm]at this;omega
  obtain⟨h1,y,hy,h2,h3⟩:=h.fin x (vu x hx) Cy;refine⟨h1,y,?_,h2,h3⟩;have:=yC x hx;rw[aq]at hy
  rcases bY.1 hy with hy | hy
  ·exact hy
  ·have:=Cj y hy;omega
 ·obtain⟨h1,y,hy,h2,h3⟩:=h.low a (ia _ ha);refine⟨h1,y,?_,h2,h3⟩;have:=mc a ha;rw[aq]at hy
  rcases bY.1 hy with hy | hy
  ·exact hy
  ·have:=Cj y hy;omega
 ·have Cy:x ∉ w++[v]:=fun hm=>by
   rcases bY.1 hm with hm | hm
   ·exact mi hm
   ·have:=yC x hx;rw[bD.1 hm]at this;omega
  refine h.Cr a (ia _ ha) x (vu x hx) Cy ab (fun u hu hle=>?_) y hy (vu y k9)
  rcases bY.1 hu with hu | hu
  ·exact jY u hu hle
  ·rw[bD.1 hu]at hle;have:=yC x hx;omega
 ·rcases bY.1 dH with dH | dH
  ·exact h.prt.ne p dH
  ·rw[bD.1 dH];exact List.ne_nil_of_mem ((fN v).2 (b9 ..))
 ·rcases bY.1 dH with dH | dH
  ·exact h.prt.node p dH x hx
  ·rw[bD.1 dH]at hx;exact h.node x (yV x ((fN x).1 hx))
 ·rw[Xq];refine pM.2 ⟨h.prt.nd,hs.imp fun h=>by omega,fun x hx y hy e=>?_⟩;subst e;obtain⟨p,dH,su⟩:=pL.1 hx;exact h.AW p dH x su (yV x ((fN x).1 hy))
 ·rcases bY.1 dH with dH | dH
  ·exact h.prt.Cq p dH
  ·rw[bD.1 dH];exact hs
 ·rcases bY.1 dH with dH | dH
  ·exact h.prt.Qu p dH x hx y hy
  ·rw[bD.1 dH]at hx hy;exact ajs x ((fN x).1 hx) y ((fN y).1 hy)
 ·by_cases ab:i<P.length
  ·rw[j6 ab]at hi;obtain⟨j,q,h1,h2,h3⟩:=h.prt.Ll i p hi x hx y hy;exact⟨j,q,h1,by rw[j6 (by omega)];exact h2,h3⟩
  ·have hip:i=P.length∧p=part:=by
    rw[jq (by omega)]at hi
    by_cases e:i-P.length=0
    ·rw[e]at hi;exact⟨by omega,(Option.some.inj hi).symm⟩
    ·rw[vJ (by rw[sN];omega)]at hi;cases hi
   obtain⟨rfl,rfl⟩:=hip
   rcases JE x ((fN x).1 hx) y hy with Pg | ⟨q,hq,hyq⟩
   ·exact⟨P.length,p,aQ _,by rw[jq (aQ _),qB];rfl,(fN y).2 Pg⟩
   ·obtain⟨j,hj⟩:=GK hq;have iM:j<P.length:=(bZ.1 hj).1;exact⟨j,q,by omega,by rw[j6 iM];exact hj,hyq⟩
theorem TJ.empty(h:TJ n nx f L st aH P []):st=[]:=by
 cases st with
 |nil=>rfl
 |cons x st=>
  obtain⟨v,hv,_⟩:=h.top x (b9 ..);cases hv
theorem TJ.first{v:Int}(h:TJ n nx f L st aH P [v]):L v=f v:=by
 obtain⟨h1,y,hy,h2,_⟩:=h.low v (bD.2 rfl);obtain⟨u,hu,h3⟩:=h.top y hy;rw[bD.1 hu]at h3;omega
mutual
def ij(nx:Int→List Int):Nat→Int→List Int→List Int
 | 0,_,_=>[]
 |f+1,a,met=>if a∈met then [] else eZ nx f (nx a) (met++[a])++[a]
def eZ(nx:Int→List Int):Nat→List Int→List Int→List Int
 |_,[],_=>[]
 |f,b::bs,met=>ij nx f b met++eZ nx f bs (met++ij nx f b met)
end
def lO(met:List Int)(n:Nat):Nat:=((List.range n).filter fun a:Nat=>decide ((a:Int) ∉ met)).length
theorem Me{met met2:List Int}{n:Nat}(h:∀x∈met,x∈met2):lO met2 n≤lO met n:=by
 unfold lO
 induction n with
 |zero=>exact aQ _
 |succ n ih=>
  rw[sM,AN,AN,bQ,bQ];refine Nat.add_le_add ih ?_;rw[GO,GO,gu4]
  by_cases c:(n:Int)∈met
  ·rw[if_neg (by simp[h _ c]),if_neg (by simp[c])];exact Nat.le_refl _
  ·rw[if_pos (show decide ((n:Int) ∉ met)=true by simp[c])];split <;> simp
theorem Vc{met met2:List Int}{n:Nat}{a:Nat}(h:∀x∈met,x∈met2)(ha:a<n)(h1:(a:Int) ∉ met)(h2:(a:Int)∈met2):lO met2 n<lO met n:=by
 induction n with
 |zero=>omega
 |succ n ih=>
  have e:∀m:List Int,lO m (n+1)=lO m n+if (n:Int)∈m then 0 else 1:=fun m=>by
   unfold lO;rw[sM,AN,bQ,GO,gu4]
   by_cases c:(n:Int)∈m <;> simp[c]
  rw[e,e]
  by_cases c:a=n
  ·subst c;rw[af h2,ag h1];have:=Me (n:=a) h;omega
  ·have:=ih (by omega)
   by_cases c2:(n:Int)∈met
   ·rw[af c2,af (h _ c2)];exact this
   ·rw[ag c2];split <;> omega
theorem aeK{met:List Int}{n:Nat}{a:Int}(ha:0≤a∧a<n)(h:a ∉ met):0<lO met n:=by
 unfold lO;refine C9 (a:=a.toNat) (kL.2 ⟨fF.2 (by omega),?_⟩);rw[Int.toNat_of_nonneg ha.1];simp[h]
theorem TG{n:Nat}{nx:Int→List Int}(cP:∀x,∀y∈nx x,0≤y∧y<(n:Int)):∀u,
  (∀(f f2:Nat) (a:Int) (met met2:List Int),0≤a∧a<(n:Int)→lO met n≤u→u≤f→u≤f2→(∀x,x∈met↔x∈met2)→ij nx f a met=ij nx f2 a met2)∧
  (∀(f f2:Nat) (bs:List Int) (met met2:List Int),(∀b∈bs,0≤b∧b<(n:Int))→lO met n≤u→u≤f→u≤f2→(∀x,x∈met↔x∈met2)→eZ nx f bs met=eZ nx f2 bs met2):=by
 intro u
 induction u with
 |zero=>
  have h0:∀(f:Nat) (a:Int) (met:List Int),0≤a∧a<(n:Int)→lO met n≤0→ij nx f a met=[]:=fun f a met ha hu=>by
   have hm:a∈met:=by
    by_cases c:a∈met
    ·exact c
    ·have:=aeK ha c;omega
   cases f with
   |zero=>unfold ij;rfl
   |succ f=>unfold ij;rw[af hm]
  have h1:∀(f:Nat) (bs:List Int) (met:List Int),(∀b∈bs,0≤b∧b<(n:Int))→lO met n≤0→eZ nx f bs met=[]:=by
   intro f bs
   induction bs with
   |nil=>intro met _ _;unfold eZ;rfl
   |cons b bs ih=>
    intro met hb hu;unfold eZ;rw[h0 f b met (hb b (b9 ..)) hu,mV,ih met (fun c hc=>hb c (cQ _ hc)) hu];rfl
  have hs:∀{met met2:List Int},lO met n≤0→(∀x,x∈met↔x∈met2)→lO met2 n≤0:=fun hu hm=>ff (Me fun x hx=>(hm x).1 hx) hu;exact⟨fun f f2 a met met2 ha hu _ _ hm=>by rw[h0 f a met ha hu,h0 f2 a met2 ha (hs hu hm)],fun f f2 bs met met2 hb hu _ _ hm=>by rw[h1 f bs met hb hu,h1 f2 bs met2 hb (hs hu hm)]⟩
 |succ u ih=>
  have hv:∀(f f2:Nat) (a:Int) (met met2:List Int),0≤a∧a<(n:Int)→lO met n≤u+1→u+1≤f→u+1≤f2→(∀x,x∈met↔x∈met2)→ij nx f a met=ij nx f2 a met2:=fun f f2 a met met2 ha hu hf xk hm=>by
   obtain⟨f,rfl⟩:∃k,f=k+1:=⟨f-1,by omega⟩
   obtain⟨f2,rfl⟩:∃k,f2=k+1:=⟨f2-1,by omega⟩
   unfold ij
   by_cases c:a∈met
   ·rw[af c,af ((hm a).1 c)]
   ·rw[ag c,ag fun h=>c ((hm a).2 h)]
    congr 1
    refine ih.2 f f2 (nx a) _ _ (cP a) ?_ (by omega) (by omega) (fun x=>by rw[bY,bY,hm]);have:=Vc (met:=met) (met2:=met++[a]) (n:=n) (a:=a.toNat) (fun x hx=>List.mem_append_left _ hx) (by omega) (by rw[Int.toNat_of_nonneg ha.1];exact c) (by rw[Int.toNat_of_nonneg ha.1];simp);omega
  refine⟨hv,fun f f2 bs=>?_⟩
  induction bs with
  |nil=>intro met met2 _ _ _ _ _;unfold eZ;rfl
  |cons b bs Pc=>
   intro met met2 hb hu hf xk hm;unfold eZ;have e:=hv f f2 b met met2 (hb b (b9 ..)) hu hf xk hm;rw[e]
   congr 1
   exact Pc _ _ (fun c hc=>hb c (cQ _ hc)) (ff (Me fun x hx=>ia _ hx) hu) hf xk (fun x=>by rw[bY,bY,hm])
theorem V6(met:List Int)(n:Nat):lO met n≤n:=by
 unfold lO;exact ff (Da _ _) (by rw[oL];exact aQ _)
def l8(n:Nat)(nx:Int→List Int):List (Int×Nat)→List Int→List Int
 | [],_=>[]
 |(v,k)::w,seen=>eZ nx n ((nx v).drop k) seen++([v]++l8 n nx w (seen++eZ nx n ((nx v).drop k) seen))
theorem Uw{n:Nat}{nx:Int→List Int}(cP:∀x,∀y∈nx x,0≤y∧y<(n:Int)){bs met met2:List Int}(hb:∀b∈bs,0≤b∧b<(n:Int))(hm:∀x,x∈met↔x∈met2):eZ nx n bs met=eZ nx n bs met2:=
 (TG cP n).2 n n bs met met2 hb (V6 _ _) (aQ _) (aQ _) hm
theorem T8{n:Nat}{nx:Int→List Int}(cP:∀x,∀y∈nx x,0≤y∧y<(n:Int)):∀(w:List (Int×Nat)) {seen seen2:List Int},(∀x,x∈seen↔x∈seen2)→l8 n nx w seen=l8 n nx w seen2
 | [],_,_,_=>rfl
 |(v,k)::w,seen,seen2,h=>by
  have e:=Uw cP (bs:=(nx v).drop k) (fun b hb=>cP v b (List.mem_of_mem_drop hb)) h;unfold l8;rw[e,T8 cP w (seen:=seen++eZ nx n ((nx v).drop k) seen2) (seen2:=seen2++eZ nx n ((nx v).drop k) seen2) fun x=>by rw[bY,bY,h]]
theorem VK{L:List Int}{k:Nat}(h:k<L.length):L.drop k=L[k]::L.drop (k+1):=K7 h
theorem acR{n:Nat}{nx:Int→List Int}{v:Int}{k:Nat}{w:List (Int×Nat)}{seen:List Int}(hk:k<(nx v).length)(hb:(nx v)[k]∈seen):l8 n nx ((v,k)::w) seen=l8 n nx ((v,k+1)::w) seen:=by
 have e:ij nx n (nx v)[k] seen=[]:=by
  cases n with
  |zero=>unfold ij;rfl
  |succ n=>unfold ij;rw[af hb]
 have e2:eZ nx n ((nx v).drop k) seen=eZ nx n ((nx v).drop (k+1)) seen:=by
  rw[VK hk]
  conv=>lhs;unfold eZ
  rw[e,mV,vD]
 unfold l8;rw[e2]
theorem acS{n:Nat}{nx:Int→List Int}(cP:∀x,∀y∈nx x,0≤y∧y<(n:Int)){v:Int}{k:Nat}{w:List (Int×Nat)}{seen:List Int}(hk:k<(nx v).length)(hb:(nx v)[k] ∉ seen):l8 n nx ((v,k)::w) seen=l8 n nx (((nx v)[k],0)::(v,k+1)::w) (seen++[(nx v)[k]]):=by
 obtain⟨b,tJ⟩:∃b,(nx v)[k]=b:=⟨_,rfl⟩
 have dV:=cP v b (tJ▸cq hk);rw[tJ]at hb ⊢;obtain⟨m,rfl⟩:∃m,n=m+1:=⟨n-1,by omega⟩
 have hu:lO (seen++[b]) (m+1)≤m:=by
  have:=Vc (met:=seen) (met2:=seen++[b]) (n:=m+1) (a:=b.toNat) (fun x hx=>List.mem_append_left _ hx) (by omega) (by rw[Int.toNat_of_nonneg dV.1];exact hb) (by rw[Int.toNat_of_nonneg dV.1];simp);have:=V6 seen (m+1);omega
 have e:ij nx (m+1) b seen=eZ nx (m+1) (nx b) (seen++[b])++[b]:=by
  conv=>lhs;unfold ij
  rw[ag hb,(TG cP m).2 m (m+1) (nx b) (seen++[b]) (seen++[b]) (cP b) hu (aQ _) (by omega) fun _=>Iff.rfl]
 have e2:eZ nx (m+1) ((nx v).drop k) seen=(eZ nx (m+1) (nx b) (seen++[b])++[b])++eZ nx (m+1) ((nx v).drop (k+1)) (seen++(eZ nx (m+1) (nx b) (seen++[b])++[b])):=by
  rw[VK hk,tJ]
  conv=>lhs;unfold eZ
  rw[e]
 have e3:eZ nx (m+1) ((nx v).drop (k+1)) (seen++(eZ nx (m+1) (nx b) (seen++[b])++[b]))=eZ nx (m+1) ((nx v).drop (k+1)) (seen++[b]++eZ nx (m+1) (nx b) (seen++[b])):=
  Uw cP (fun c hc=>cP v c (List.mem_of_mem_drop hc)) fun x=>by simp only[List.mem_append];exact⟨fun h=>by rcases h with h | h | h <;> simp[h],fun h=>by rcases h with (h | h) | h <;> simp[h]⟩
 have hd:(nx b).drop 0=nx b:=gR;show eZ nx (m+1) ((nx v).drop k) seen++([v]++l8 (m+1) nx w (seen++eZ nx (m+1) ((nx v).drop k) seen))=eZ nx (m+1) ((nx b).drop 0) (seen++[b])++([b]++(eZ nx (m+1) ((nx v).drop (k+1)) (seen++[b]++eZ nx (m+1) ((nx b).drop 0) (seen++[b]))++([v]++l8 (m+1) nx w (seen++[b]++eZ nx (m+1) ((nx b).drop 0) (seen++[b])++eZ nx (m+1) ((nx v).drop (k+1)) (seen++[b]++eZ nx (m+1) ((nx b).drop 0) (seen++[b]))))));rw[hd,e2,e3];generalize eZ nx (m+1) (nx b) (seen++[b])=K;generalize eZ nx (m+1) ((nx v).drop (k+1)) (seen++[b]++K)=K2;rw[T8 cP w (seen:=seen++(K++[b]++K2)) (seen2:=seen++[b]++K++K2) fun x=>by simp only[List.mem_append];exact⟨fun h=>by rcases h with h | (h | h) | h <;> simp[h],fun h=>by rcases h with ((h | h) | h) | h <;> simp[h]⟩];simp only[dW]
theorem af3{n:Nat}{nx:Int→List Int}{v:Int}{k:Nat}{w:List (Int×Nat)}{seen:List Int}(hk:(nx v).length≤k):l8 n nx ((v,k)::w) seen=v::l8 n nx w seen:=by
 have e:eZ nx n ((nx v).drop k) seen=[]:=by rw[C5 hk];unfold eZ;rfl
 show eZ nx n ((nx v).drop k) seen++([v]++l8 n nx w (seen++eZ nx n ((nx v).drop k) seen))=_;rw[e,mV,vD];rfl
theorem af2{n:Nat}{nx:Int→List Int}{a:Int}{met:List Int}(ha:a ∉ met):ij nx (n+1) a met=l8 n nx [(a,0)] (met++[a]):=by
 unfold ij l8 l8;rw[ag ha,gR,mV]
def s4(n:Nat)(nx:Int→List Int)(l:List Int):List Int:=l.foldl (fun out a=>out++ij nx (n+1) a out) []
inductive iT(e:Nat):Nat→AV→Hp→List AV→Prop
 |nil:iT e 0 .an [] []
 |ae (b k:Nat) (cs J:List AV) (h:cs.length=k*e):iT e k (.ae b 0 k e) [(b,cs++J)] cs
theorem iT.yK{e k:Nat}{v:AV}{acc:Hp}{cs:List AV}(h:iT e k v acc cs):iT e k (bR v) acc cs:=by
 cases h with
 |nil=>exact .nil
 |ae b k cs J h=>exact .ae b k cs J h
theorem iT.pos{e k:Nat}{v:AV}{acc:Hp}{cs:List AV}(h:iT e k v acc cs)(h0:0<k):∃b J,v=.ae b 0 k e∧acc=[(b,cs++J)]∧cs.length=k*e:=by
 cases h with
 |nil=>omega
 |ae b k cs J h=>exact⟨b,J,rfl,rfl,h⟩
theorem zh{i:TI}{K:AV→Hp→Prop}(fr:Hp){acc σ:Hp}{k n:Nat}{v x:AV}{cs new:List AV}(h:iT i.size k v acc cs)(hx:kx (fr++(acc++σ)) i.size x n new)(iG:new.length=n*i.size)(hn:k+n≤1048576)(hb:i.bytes≤1024)(h0:0<i.size)
  (go:∀v' aY,iT i.size (k+n) v' aY (cs++new)→K v' (fr++(aY++σ))):AppendAt i (fr++(acc++σ)) v x K:=by
 cases h with
 |nil=>
  refine .perm _ (fS fr [] σ) (.fresh n new (.inl rfl) (hx.perm (fS fr [] σ)) (by omega) hb h0 (K:=fun v eJ=>(n=0∧v=.an∧eJ=[]++(fr++σ))∨(n≠0∧∃b,v=.ae b 0 n i.size∧eJ=(b,new)::([]++(fr++σ)))) (fun aS b=>.inr ⟨aS,b,rfl,rfl⟩) (fun h0=>.inl ⟨h0,rfl,rfl⟩)) ?_;rintro v eJ (⟨hz,rfl,rfl⟩ | ⟨hz,b,rfl,rfl⟩)
  ·subst hz;obtain rfl:new=[]:=List.length_eq_zero_iff.1 (by simpa using iG);exact⟨_,(fS fr [] σ).symm,.inl (go _ _ .nil)⟩
  ·refine⟨_,(fS fr [(b,new)] σ).symm,.inl (go _ _ ?_)⟩;have:=iT.ae (e:=i.size) b (0+n) new [] (by rw[dI];exact iG);rw[mV,dI]at this;rw[dI];exact this
 |ae b k cs J hl=>
  refine .perm _ (fS fr [(b,cs++J)] σ) (.more 0 b k n (cs++J) new rfl rfl (by rw[bQ];omega) (hx.perm (fS fr [(b,cs++J)] σ)) hn hb h0 (K:=fun v eJ=>∃b',v=.ae b' 0 (k+n) i.size∧eJ=(b',cs++new)::(fr++σ)) (fun b'=>⟨b',rfl,by rw[Lf (by omega),eR (by omega)];rfl⟩)) ?_;rintro v eJ ⟨b',rfl,rfl⟩;refine⟨_,(fS fr [(b',cs++new)] σ).symm,.inl (go _ _ ?_)⟩;have:=iT.ae (e:=i.size) b' (k+n) (cs++new) [] (by rw[bQ,hl,iG,lU]);rw[mV]at this;exact this
theorem nU{i:TI}(hs:i.size=1){l:List Int}(x:Int){a:Int}(h1:0≤a)(h2:a<l.length):kO i (ai l) (0+a.toNat*1) (.int .i64 x)=some (ai (l.set a.toNat x)):=by
 rw[ug hs rfl (by rw[M8];omega),dI,dS];unfold ai;rw[oI]
theorem fy{i:TI}(hw:i.wide=false){l:List Int}{a:Int}(h1:0≤a)(h2:a<l.length):ei i (ai l) (0+a.toNat*1)=some (.int .i64 (l.getD a.toNat 0)):=by
 refine jz hw ?_;unfold ai;rw[dI,dS,fk,aZ,bB (by omega)];rfl
def dw(N:List (List Int))(bi bl bo n:Nat)(vs:AV)(aH:Nat)(vp:AV):List AV:=[.ah (.slice (.int .i64)) N,.ae bi 0 n 1,.ae bl 0 n 1,.ae bo 0 n 1,vs,.int .i64 aH,vp]
theorem BK(w bi bl bo n:Nat)(N:List (List Int))(ix lo st:List Int)(on:List Bool)(aH:Nat)(vs vp:AV)(acc:Hp)(a:Int)(σ:Hp)(h0:0≤a)(hn:a<n)(hi:ix.length=n)(hl:lo.length=n)(ho:on.length=n)(hs:iT 1 st.length vs acc (ai st))(cT:st.length≤10000)(hc:aH≤10000):
  ACalls Tryz.prog 314 [.ptr w 0,.int .i64 a] ((w,dw N bi bl bo n vs aH vp)::(bi,ai ix)::(bl,ai lo)::(bo,bN on)::(acc++σ))
   (fun r σ'=>r=.agg [.int .i64 a,.int .i64 0]∧∃eW aY,iT 1 (st++[a]).length eW aY (ai (st++[a]))∧σ'=(w,dw N bi bl bo n eW (aH+1) vp)::(bi,ai (ix.set a.toNat ((aH+1:Nat):Int)))::(bl,ai (lo.set a.toNat ((aH+1:Nat):Int)))::(bo,bN (on.set a.toNat true))::(aY++σ)):=by
 have hwr:IntKind.i64.wrap ((aH:Int)+1)=((aH+1:Nat):Int):=by rw[cC (by omega)];omega
 refine ay Tryz.func314 ?_;intro aF;refine aa 1 ?_;refine aj 1 ?_;refine .sched [] (upto [] 29 0) (by kernel_rfl) ?_;refine aa 1 ?_;refine aa 1 ?_;refine aa 1 ?_;refine aa 1 ?_;refine aa 1 ?_;refine aO ?_;refine cU 2 rfl (nU rfl _ h0 (by omega)) ?_;refine aO ?_;refine cU 3 rfl (nU rfl _ h0 (by omega)) ?_;refine aO ?_;refine cU 4 rfl (zr rfl true h0 (by omega)) ?_;refine aa 1 ?_;intro aF;refine zh [_,_,_,_,_,_] hs.yK (.ae 0 aF 0 1 _ rfl (cy rfl)) rfl (by omega) (by decide) (by decide) (fun v' aY h'=>?_);obtain⟨bq,J,rfl,rfl,hq⟩:=h'.pos (by omega);refine aj 2 ?_;refine aj 1 ?_;refine aa 1 ?_;refine .drop 0 2 (.done ⟨rfl,.ae bq 0 (st.length+1) 1,[(bq,(ai st++[.int .i64 a])++J)],?_,?_⟩)
 ·rw[bQ,show ai (st++[a])=ai st++[.int .i64 a] from cF];exact h'
 ·rw[hwr];rfl
end Go.Proofs.YtnikdflhefijbaaGreat
