import Derived.Test.YtnikdflhefijbaaGreatBn12
import Derived.Test.YtnikdflhefijbaaGreatBn26
namespace Go.Proofs.YtnikdflhefijbaaGreat
open Go.RowKit
set_option maxRecDepth 100000
set_option maxHeartbeats 4000000
theorem ig(l:List Int)(i j:Nat)(x:Int):(l.set i x).getD j 0=if i=j∧j<l.length then x else l.getD j 0:=by
 rw[aW,eR,aW]
 by_cases h:i=j
 ·subst h
  by_cases h2:i<l.length
  ·simp[h2]
  ·simp[h2]
 ·simp[h]
theorem TP{a c m:Nat}(h1:a<c)(h2:c-a<m):¬a % m=c % m:=fun h=>by
 have h3:=Nat.sub_mod_eq_zero_of_mod_eq h.symm
 have h4:=Nat.le_of_dvd (by omega) (Nat.dvd_of_mod_eq_zero h3)
 omega
theorem pZ{n:Nat}(h:n<9000000000000000000):wr (n:Int)=n:=by
 show IntKind.i64.wrap _=_
 rw[IntKind.wrap_i64];omega
theorem CV{n:Nat}(h:n<9000000000000000000):wu (n:Int)=n:=by
 show IntKind.u64.wrap _=_
 rw[IntKind.wrap_u64];omega
theorem wK{bs:Nat}(h:bs<1000000000):fI (bs:Int)=((bs+1:Nat):Int):=by
 unfold fI
 exact pZ (n:=bs+1) (by omega)
theorem FV{bs:Nat}(h:bs<1000000000)(cap:Int)(i:Nat):lp (bs:Int) cap (i:Nat)=((bs+2+i % rm cap:Nat):Int):=by
 have hr:=uH cap
 have hm:i % rm cap<rm cap:=nA _ (by omega)
 unfold lp
 rw[show ((bs:Int)+2)=((bs+2:Nat):Int) by omega,pZ (by omega),← Int.natCast_emod,pZ (by omega),← tQ]
 exact pZ (by omega)
theorem rU(ws:List Int)(a:Nat):dx ws (a:Int)=ws.getD a 0:=nJ
theorem CW(ws:List Int)(a:Nat)(x:Int):gX ws (a:Int) x=ws.set a x:=lh x
theorem GS{ws:List Int}{a:Nat}(h:a<ws.length)(o x:Int):(nk ws (a:Int) o=decide (ws.getD a 0=o))∧iM ws (a:Int) o x=if ws.getD a 0=o then ws.set a x else ws:=by
 have e:nk ws (a:Int) o=decide (ws.getD a 0=o):=by
  unfold nk
  rw[BU (by omega) (by omega),nJ]
  rfl
 refine⟨e,?_⟩
 unfold iM
 rw[e,lh]
 by_cases h2:ws.getD a 0=o
 ·rw[ai h2,ai (aV h2)]
 ·rw[ah h2,bR h2,ah Bj]
abbrev Own:Type:=Option (Bool×DQ)
def tg:Own→Nat
 |some (true,q)=>if 2≤q.at_ then 1 else 0
 |_=>0
structure DB(bs:Nat)(cap:Int)(ws:List Int)(lo T:Nat)(c:List Int):Prop where
 len:bs+2+rm cap≤ws.length
 top:ws.getD bs 0=(T:Int)
 t1:1≤T
 bot:ws.getD (bs+1) 0=((T+c.length-lo:Nat):Int)
 fits:c.length≤rm cap
 b9:∀i (h:i<c.length),ws.getD (bs+2+(T+i) % rm cap) 0=c[i]
structure Hy(bs:Nat)(cap:Int)(ws:List Int)(T:Nat)(c:List Int)(q:DQ):Prop where
 base:q.base=bs
 cp:q.cap=cap
 on:q.ended=false
 no:q.ok=false
 zo:q.at_≤3
 b:1≤q.at_→q.b=((T+c.length:Nat):Int)
 room:2≤q.at_→c.length<rm cap
 put:q.at_=3→ws.getD (bs+2+(T+c.length) % rm cap) 0=q.n
structure yR(bs:Nat)(cap:Int)(Th:DQ→Prop)(T:Nat)(c:List Int)(q:DQ):Prop where
 base:q.base=bs
 cp:q.cap=cap
 on:q.ended=false
 Jp:q.at_≤5
 no:q.at_≤4→q.ok=false
 b:1≤q.at_→q.b=((T+c.length-1:Nat):Int)
 a3:q.at_=3→∃t:Nat,q.t=t∧t≤T∧(t<T+c.length-1→1≤c.length∧∀z,Th z→z.ended=false→2≤z.at_→z.t<((T+c.length-1:Nat):Int))
 a4:q.at_=4→q.t=q.b∧c.length≤1∧∀x∈c,x=q.x
 a5:q.at_=5→c=[]
structure ThO(bs:Nat)(cap:Int)(T:Nat)(c:List Int)(z:DQ):Prop where
 base:z.base=bs
 cp:z.cap=cap
 no:z.ok=false
 zo:z.at_≤3
 t:1≤z.at_→∃t:Nat,z.t=t∧t≤T∧(2≤z.at_→t=T→0<c.length)∧(z.at_=3→t=T→c.head?=some z.x)
def H9(bs:Nat)(cap:Int)(ws:List Int)(Th:DQ→Prop)(T:Nat)(c:List Int):Own→Prop
 |none=>True
 |some (false,q)=>Hy bs cap ws T c q
 |some (true,q)=>yR bs cap Th T c q
structure DI(bs:Nat)(cap:Int)(ws:List Int)(own:Own)(Th:DQ→Prop)(T:Nat)(c:List Int):Prop where
 db:DB bs cap ws (tg own) T c
 ow:H9 bs cap ws Th T c own
 th:∀z,Th z→z.ended=false→ThO bs cap T c z
theorem DB.ET{bs:Nat}{cap:Int}{ws ws':List Int}{lo T:Nat}{c:List Int}(h:DB bs cap ws lo T c)(hl:ws'.length=ws.length)(he:∀a,bs≤a→a<bs+2+rm cap→ws'.getD a 0=ws.getD a 0):DB bs cap ws' lo T c:=by
 have hr:=uH cap
 refine⟨by rw[hl];exact h.len,by rw[he _ (by omega) (by omega)];exact h.top,h.t1,by rw[he _ (by omega) (by omega)];exact h.bot,h.fits,fun i hi=>?_⟩
 have hm:(T+i) % rm cap<rm cap:=nA _ (by omega)
 rw[he _ (by omega) (by omega)]
 exact h.b9 i hi
theorem DI.ET{bs:Nat}{cap:Int}{ws ws':List Int}{own:Own}{Th:DQ→Prop}{T:Nat}{c:List Int}(h:DI bs cap ws own Th T c)(hl:ws'.length=ws.length)(he:∀a,bs≤a→a<bs+2+rm cap→ws'.getD a 0=ws.getD a 0):DI bs cap ws' own Th T c:=by
 have hr:=uH cap
 refine⟨h.db.ET hl he,?_,h.th⟩
 have ho:=h.ow
 match own with
 |none=>trivial
 |some (false,q)=>
  have ho:Hy bs cap ws T c q:=ho
  refine⟨ho.base,ho.cp,ho.on,ho.no,ho.zo,ho.b,ho.room,fun h3=>?_⟩
  have hm:(T+c.length) % rm cap<rm cap:=nA _ (by omega)
  rw[he _ (by omega) (by omega)]
  exact ho.put h3
 |some (true,q)=>exact ho
theorem H9.qc{bs:Nat}{cap:Int}{ws:List Int}{own:Own}{Th E1:DQ→Prop}{T:Nat}{c:List Int}(h:H9 bs cap ws Th T c own)(hT:∀z,E1 z→z.ended=false→2≤z.at_→Th z):H9 bs cap ws E1 T c own:=by
 match own with
 |none=>trivial
 |some (false,q)=>exact h
 |some (true,q)=>
  have h:yR bs cap Th T c q:=h
  refine⟨h.base,h.cp,h.on,h.Jp,h.no,h.b,fun h3=>?_,h.a4,h.a5⟩
  obtain⟨t,h1,h2,h4⟩:=h.a3 h3
  exact⟨t,h1,h2,fun h5=>⟨(h4 h5).1,fun z h6 h7 h8=>(h4 h5).2 z (hT z h6 h7 h8) h7 h8⟩⟩
theorem DI.qc{bs:Nat}{cap:Int}{ws:List Int}{own:Own}{Th E1:DQ→Prop}{T:Nat}{c:List Int}(h:DI bs cap ws own Th T c)(hT:∀z,E1 z→Th z):DI bs cap ws own E1 T c:=
 ⟨h.db,h.ow.qc fun z hz _ _=>hT z hz,fun z hz=>h.th z (hT z hz)⟩
theorem DI.AR{bs:Nat}{cap:Int}{ws:List Int}{own:Own}{Th:DQ→Prop}{T:Nat}{c:List Int}(h:DI bs cap ws own Th T c){z:DQ}(h0:z.base=bs)(h1:z.cap=cap)(h2:z.ok=false)(h3:z.at_=0):DI bs cap ws own (fun x=>Th x∨x=z) T c:=by
 refine⟨h.db,h.ow.qc fun x hx _ ha=>?_,fun x hx ia=>?_⟩
 ·rcases hx with hx | rfl
  ·exact hx
  ·omega
 ·rcases hx with hx | rfl
  ·exact h.th x hx ia
  ·exact⟨h0,h1,h2,by omega,fun h4=>by omega⟩
theorem DI.push{bs:Nat}{cap:Int}{ws:List Int}{Th:DQ→Prop}{T:Nat}{c:List Int}(h:DI bs cap ws none Th T c){z:DQ}(h0:z.base=bs)(h1:z.cap=cap)(h2:z.ok=false)(h3:z.at_=0)(h4:z.ended=false):DI bs cap ws (some (false,z)) Th T c:=
 ⟨h.db,⟨h0,h1,h4,h2,by omega,fun _=>by omega,fun _=>by omega,fun _=>by omega⟩,h.th⟩
theorem DI.pop{bs:Nat}{cap:Int}{ws:List Int}{Th:DQ→Prop}{T:Nat}{c:List Int}(h:DI bs cap ws none Th T c){z:DQ}(h0:z.base=bs)(h1:z.cap=cap)(h2:z.ok=false)(h3:z.at_=0)(h4:z.ended=false):DI bs cap ws (some (true,z)) Th T c:=by
 refine⟨?_,⟨h0,h1,h4,by omega,fun _=>h2,fun _=>by omega,fun _=>by omega,fun _=>by omega,fun _=>by omega⟩,h.th⟩
 rw[show tg (some (true,z))=0 by simp[tg,h3]]
 exact h.db
theorem DB.more{bs:Nat}{cap:Int}{ws:List Int}{T:Nat}{c:List Int}(h:DB bs cap ws 0 T c){n:Int}(hf:c.length<rm cap)(hn:ws.getD (bs+2+(T+c.length) % rm cap) 0=n):DB bs cap (ws.set (bs+1) ((T+c.length+1:Nat):Int)) 0 T (c++[n]):=by
 have hr:=uH cap
 have hl:=h.len
 refine⟨by simpa using hl,?_,h.t1,?_,by simp;omega,fun i hi=>?_⟩
 ·rw[ig,ah (by omega)];exact h.top
 ·rw[ig,if_pos ⟨rfl,by omega⟩];simp;omega
 ·have hm:(T+i) % rm cap<rm cap:=nA _ (by omega)
  rw[ig,ah (by omega)]
  simp only[bQ,sF]at hi
  by_cases hic:i<c.length
  ·rw[List.getElem_append_left hic];exact h.b9 i hic
  ·obtain rfl:i=c.length:=by omega
   simpa using hn
theorem abU{bs:Nat}{cap:Int}{ws ws':List Int}{q q':DQ}{e:Bool}{Th:DQ→Prop}{T:Nat}{c:List Int}(h:DI bs cap ws (some (false,q)) Th T c)(er:bs<1000000000)(hN:T+c.length<4000000000000000000)(hs:gj bB q ws=(q',ws',e)):
  ws'.length=ws.length∧(∀a,¬(bs≤a∧a<bs+2+rm cap)→ws'.getD a 0=ws.getD a 0)∧q'.n=q.n∧q'.base=q.base∧((e=false∧DI bs cap ws' (some (false,q')) Th T c)∨(e=true∧q'.ok=false∧rm cap≤c.length∧DI bs cap ws' none Th T c)∨(e=true∧q'.ok=true∧c.length<rm cap∧DI bs cap ws' none Th T (c++[q.n]))):=by
 have hr:=uH cap
 have ho:Hy bs cap ws T c q:=h.ow
 have fi:DB bs cap ws 0 T c:=h.db
 have hl:=fi.len
 obtain⟨base,iV,n,ok,ended,at_,b,t,x⟩:=q
 obtain⟨e1,e2,e3,e4,h3,hb,nS,wY⟩:=ho
 dsimp only at e1 e2 e3 e4 h3 hb nS wY hs
 subst e1 e2 e3 e4
 have h3:at_=0∨at_=1∨at_=2∨at_=3:=by omega
 rcases h3 with rfl | rfl | rfl | rfl
 ·simp only[gj,wK er,rU,fi.bot]at hs
  simp at hs
  obtain⟨rfl,rfl,rfl⟩:=hs
  exact⟨rfl,fun _ _=>rfl,rfl,rfl,.inl ⟨rfl,fi,⟨rfl,rfl,rfl,rfl,by simp,fun _=>rfl,fun h=>absurd h (by simp),fun h=>absurd h (by simp)⟩,h.th⟩⟩
 ·have hb:=hb (aU _)
  subst hb
  have e1:wr (wu (((T+c.length:Nat):Int)-(T:Int)))=(c.length:Nat):=by
   rw[show ((T+c.length:Nat):Int)-(T:Int)=(c.length:Nat) by omega,CV (by omega),pZ (by omega)]
  by_cases hf:rm iV≤c.length
  ·simp only[gj,rU,fi.top,e1]at hs
   simp[hf]at hs
   obtain⟨rfl,rfl,rfl⟩:=hs
   exact⟨rfl,fun _ _=>rfl,rfl,rfl,.inr (.inl ⟨rfl,rfl,hf,fi,trivial,h.th⟩)⟩
  ·simp only[gj,rU,fi.top,e1]at hs
   simp[hf]at hs
   obtain⟨rfl,rfl,rfl⟩:=hs
   exact⟨rfl,fun _ _=>rfl,rfl,rfl,.inl ⟨rfl,fi,⟨rfl,rfl,rfl,rfl,by simp,fun _=>rfl,fun _=>by omega,fun h=>absurd h (by simp)⟩,h.th⟩⟩
 ·have hb:=hb (by omega)
  have nS:=nS (aU _)
  subst hb
  have hm:(T+c.length) % rm iV<rm iV:=nA _ (by omega)
  simp only[gj,FV er,CW]at hs
  simp at hs
  obtain⟨rfl,rfl,rfl⟩:=hs
  have hd:DB bs iV (ws.set (bs+2+(T+c.length) % rm iV) n) 0 T c:=by
   refine⟨by simpa using hl,?_,fi.t1,?_,fi.fits,fun i hi=>?_⟩
   ·rw[ig,ah (by omega)];exact fi.top
   ·rw[ig,ah (by omega)];exact fi.bot
   ·have:=TP (a:=T+i) (c:=T+c.length) (m:=rm iV) (by omega) (by omega)
    rw[ig,ah (by omega)];exact fi.b9 i hi
  refine⟨by simp,fun a ha=>?_,rfl,rfl,.inl ⟨rfl,hd,⟨rfl,rfl,rfl,rfl,by simp,fun _=>rfl,fun _=>nS,fun _=>?_⟩,h.th⟩⟩
  ·rw[ig,ah (by omega)]
  ·rw[ig,ai ⟨rfl,by omega⟩]
 ·have hb:=hb (by omega)
  have nS:=nS (by omega)
  have wY:=wY rfl
  subst hb
  have e1:wu (((T+c.length:Nat):Int)+1)=((T+c.length+1:Nat):Int):=CV (n:=T+c.length+1) (by omega)
  simp only[gj,wK er,e1,CW]at hs
  simp only[lN,↓reduceIte,Nat.reduceEqDiff,Prod.mk.injEq]at hs
  obtain⟨rfl,rfl,rfl⟩:=hs
  refine⟨by simp,fun a ha=>?_,rfl,rfl,.inr (.inr ⟨rfl,rfl,nS,fi.more nS wY,trivial,fun z hz fA=>?_⟩)⟩
  ·rw[ig,ah (by omega)]
  ·have:=h.th z hz fA
   refine⟨this.base,this.cp,this.no,this.zo,fun h1=>?_⟩
   obtain⟨t,a1,a2,a3,a4⟩:=this.t h1
   refine⟨t,a1,a2,fun _ _=>by simp,fun h5 h6=>?_⟩
   have:=a4 h5 h6
   cases c with
   |nil=>cases this
   |cons y c=>exact this
theorem adB{bs:Nat}{cap:Int}{ws ws':List Int}{q q':DQ}{e:Bool}{Th:DQ→Prop}{T:Nat}{c:List Int}(h:DI bs cap ws (some (true,q)) Th T c)(er:bs<1000000000)(hN:T+c.length<4000000000000000000)(hs:e9 bB q ws=(q',ws',e)):
  ws'.length=ws.length∧(∀a,¬(bs≤a∧a<bs+2+rm cap)→ws'.getD a 0=ws.getD a 0)∧q'.base=q.base∧
  ((e=false∧(q.at_=5→False)∧(q'.at_=5→q'.ok=false)∧DI bs cap ws' (some (true,q')) Th T c)∨
   (e=false∧q'.at_=5∧q'.ok=true∧c=[q'.x]∧DI bs cap ws' (some (true,q')) Th (T+1) [])∨
   (e=true∧q'.ok=false∧(q.at_=5→q.ok=false)∧c=[]∧DI bs cap ws' none Th T c)∨
   (e=true∧q'.ok=true∧q.at_=3∧∃c',c=c'++[q'.n]∧DI bs cap ws' none Th T c')∨
   (e=true∧q'.ok=true∧q.at_=5∧q.ok=true∧q'.n=q.x∧c=[]∧DI bs cap ws' none Th T [])):=by
 have hr:=uH cap
 have ho:yR bs cap Th T c q:=h.ow
 have fi:=h.db
 have hl:=fi.len
 have D5:=fi.t1
 have px:=fi.fits
 obtain⟨base,iV,n,ok,ended,at_,b,t,x⟩:=q
 obtain⟨e1,e2,e3,h5,kc,hb,ha3,ha4,ha5⟩:=ho
 dsimp only at e1 e2 e3 h5 kc hb ha3 ha4 ha5 hs
 subst e1 e2 e3
 have h5:at_=0∨at_=1∨at_=2∨at_=3∨at_=4∨at_=5:=by omega
 have afO:((T+c.length:Nat):Int)-1=((T+c.length-1:Nat):Int):=by omega
 have C5:wu (((T+c.length-1:Nat):Int)+1)=((T+c.length:Nat):Int):=by
  rw[show ((T+c.length-1:Nat):Int)+1=((T+c.length:Nat):Int) by omega,CV (by omega)]
 rcases h5 with rfl | rfl | rfl | rfl | rfl | rfl
 ·have kc:ok=false:=kc (by omega)
  subst kc
  have hd:DB bs iV ws 0 T c:=fi
  have hbt:=hd.bot
  have e1:wu (((T+c.length:Nat):Int)-1)=((T+c.length-1:Nat):Int):=by rw[afO,CV (by omega)]
  simp only[e9,wK er,rU,hbt,Nat.sub_zero,e1]at hs
  simp at hs
  obtain⟨rfl,rfl,rfl⟩:=hs
  exact⟨rfl,fun _ _=>rfl,rfl,.inl ⟨rfl,by simp,by simp,hd,⟨rfl,rfl,rfl,by simp,fun _=>rfl,fun _=>rfl,fun h=>absurd h (by simp),fun h=>absurd h (by simp),fun h=>absurd h (by simp)⟩,h.th⟩⟩
 ·have kc:ok=false:=kc (by omega)
  subst kc
  have hd:DB bs iV ws 0 T c:=fi
  have hb:=hb (aU _)
  subst hb
  simp only[e9,wK er,CW]at hs
  simp only[lN,↓reduceIte,Nat.reduceEqDiff,Prod.mk.injEq]at hs
  simp at hs
  obtain⟨rfl,rfl,rfl⟩:=hs
  refine⟨by simp,fun a ha=>?_,rfl,.inl ⟨rfl,by simp,by simp,⟨by simpa using hl,?_,D5,?_,px,fun i hi=>?_⟩,⟨rfl,rfl,rfl,by simp,fun _=>rfl,fun _=>rfl,fun h=>absurd h (by simp),fun h=>absurd h (by simp),fun h=>absurd h (by simp)⟩,h.th⟩⟩
  ·rw[ig,ah (by omega)]
  ·rw[ig,ah (by omega)];exact hd.top
  ·rw[ig,ai ⟨rfl,by omega⟩];rfl
  ·have hm:(T+i) % rm iV<rm iV:=nA _ (by omega)
   rw[ig,ah (by omega)];exact hd.b9 i hi
 ·have kc:ok=false:=kc (by omega)
  subst kc
  have hd:DB bs iV ws 1 T c:=fi
  have hb:=hb (by omega)
  subst hb
  simp only[e9,rU,hd.top]at hs
  simp at hs
  obtain⟨rfl,rfl,rfl⟩:=hs
  refine⟨rfl,fun _ _=>rfl,rfl,.inl ⟨rfl,by simp,by simp,hd,⟨rfl,rfl,rfl,by simp,fun _=>rfl,fun _=>rfl,fun _=>⟨T,rfl,Nat.le_refl _,fun h5=>⟨by omega,fun z hz fA l5=>?_⟩⟩,fun h=>absurd h (by simp),fun h=>absurd h (by simp)⟩,h.th⟩⟩
  obtain⟨t,a1,a2,_⟩:=(h.th z hz fA).t (by omega)
  rw[a1];omega
 ·have kc:ok=false:=kc (by omega)
  subst kc
  have hd:DB bs iV ws 1 T c:=fi
  have hb:=hb (by omega)
  subst hb
  obtain⟨tt,rfl,AZ,fx⟩:=ha3 rfl
  by_cases h1:T+c.length-1<tt
  ·have hc:c=[]:=jP.1 (by omega)
   subst hc
   simp only[e9,pZ (n:=T+([]:List Int).length-1) (by omega),pZ (n:=tt) (by omega),wK er,CW,C5]at hs
   have h1:T-1<tt:=h1
   simp[h1]at hs
   obtain⟨rfl,rfl,rfl⟩:=hs
   refine⟨by simp,fun a ha=>?_,rfl,.inr (.inr (.inl ⟨rfl,rfl,by simp,rfl,⟨by simpa using hl,?_,D5,?_,px,fun i hi=>absurd hi (by simp)⟩,trivial,h.th⟩))⟩
   ·rw[ig,ah (by omega)]
   ·rw[ig,ah (by omega)];exact hd.top
   ·rw[ig,ai ⟨rfl,by omega⟩];rfl
  ·have e1:¬((T+c.length-1:Nat):Int)<(tt:Int):=by omega
   by_cases h2:tt<T+c.length-1
   ·have e2:(tt:Int)<((T+c.length-1:Nat):Int):=by omega
    simp only[e9,pZ (n:=T+c.length-1) (by omega),pZ (n:=tt) (by omega),ah e1,ai e2,FV er,rU]at hs
    simp only[lN,↓reduceIte,Nat.reduceEqDiff,Prod.mk.injEq]at hs
    obtain⟨rfl,rfl,rfl⟩:=hs
    obtain⟨ma,sn⟩:=fx h2
    have aP:c≠[]:=fun h=>by subst h;simp at ma
    have L9:ws.getD (bs+2+(T+c.length-1) % rm iV) 0=c.getLast aP:=by
     rw[show T+c.length-1=T+(c.length-1) by omega,hd.b9 (c.length-1) (by omega),List.getLast_eq_getElem]
    refine⟨rfl,fun _ _=>rfl,rfl,.inr (.inr (.inr (.inl ⟨rfl,rfl,rfl,c.dropLast,?_,⟨hl,hd.top,D5,?_,by simp;omega,fun i hi=>?_⟩,trivial,fun z hz fA=>?_⟩)))⟩
    ·dsimp only
     rw[L9]
     exact (List.dropLast_concat_getLast aP).symm
    ·rw[hd.bot,List.length_dropLast]
     show ((T+c.length-1:Nat):Int)=((T+(c.length-1)-0:Nat):Int)
     omega
    ·rw[List.getElem_dropLast]
     exact hd.b9 i (by simp at hi;omega)
    ·have iw:=h.th z hz fA
     refine⟨iw.base,iw.cp,iw.no,iw.zo,fun l5=>?_⟩
     obtain⟨t,a1,a2,a3,a4⟩:=iw.t l5
     have hz4:2≤z.at_→(t:Int)<((T+c.length-1:Nat):Int):=fun h=>a1▸sn z hz fA h
     refine⟨t,a1,a2,fun h6 h7=>?_,fun h6 h7=>?_⟩
     ·have:=hz4 h6;simp;omega
     ·have:=hz4 (by omega)
      have h8:=a4 h6 h7
      match c,h8,ma,this,h7 with
      | [y],_,_,h9,h10=>simp at h9;omega
      |y::y2::c,h8,_,_,_=>exact h8
   ·have e2:¬(tt:Int)<((T+c.length-1:Nat):Int):=by omega
    simp only[e9,pZ (n:=T+c.length-1) (by omega),pZ (n:=tt) (by omega),ah e1,ah e2,FV er,rU]at hs
    simp only[lN,↓reduceIte,Nat.reduceEqDiff,Prod.mk.injEq]at hs
    obtain⟨rfl,rfl,rfl⟩:=hs
    refine⟨rfl,fun _ _=>rfl,rfl,.inl ⟨rfl,by simp,by simp,hd,⟨rfl,rfl,rfl,by simp,fun _=>rfl,fun _=>rfl,fun h=>absurd h (by simp),fun _=>⟨?_,by omega,fun y hy=>?_⟩,fun h=>absurd h (by simp)⟩,h.th⟩⟩
    ·show (tt:Int)=((T+c.length-1:Nat):Int);omega
    ·have ej:c.length≤1:=by omega
     match c,ej,hy with
     | [y2],_,hy=>
      have:=hd.b9 0 (by simp)
      simp at hy this
      subst hy
      show y=ws.getD (bs+2+(T+1-1) % rm iV) 0
      rw[Nat.add_sub_cancel,aW]
      exact this.symm
 ·have kc:ok=false:=kc (by omega)
  subst kc
  have hd:DB bs iV ws 1 T c:=fi
  have hb:=hb (by omega)
  subst hb
  obtain⟨rfl,ma,hx⟩:=ha4 rfl
  obtain⟨k1,k2⟩:=GS (ws:=ws) (a:=bs) (by omega) ((T+c.length-1:Nat):Int) ((T+c.length:Nat):Int)
  rw[hd.top]at k1 k2
  simp only[e9,C5,k1,k2]at hs
  match c,ma with
  | [],_=>
   have h2:¬((T:Int)=((T+([]:List Int).length-1:Nat):Int)):=by simp;omega
   simp only[ah h2,bR h2]at hs
   simp only[lN,↓reduceIte,Nat.reduceEqDiff,Prod.mk.injEq]at hs
   obtain⟨rfl,rfl,rfl⟩:=hs
   exact⟨rfl,fun _ _=>rfl,rfl,.inl ⟨rfl,by simp,fun _=>rfl,hd,⟨rfl,rfl,rfl,by simp,fun _=>rfl,fun _=>rfl,fun h=>absurd h (by simp),fun h=>absurd h (by simp),fun _=>rfl⟩,h.th⟩⟩
  | [y],_=>
   have h2:((T:Int)=((T+([y]:List Int).length-1:Nat):Int)):=by simp
   obtain rfl:y=x:=hx y (by simp)
   simp only[ai h2,aV h2]at hs
   simp only[lN,↓reduceIte,Nat.reduceEqDiff,Prod.mk.injEq]at hs
   obtain⟨rfl,rfl,rfl⟩:=hs
   refine⟨by simp,fun a ha=>?_,rfl,.inr (.inl ⟨rfl,rfl,rfl,rfl,⟨by simpa using hl,?_,by omega,?_,by simp,fun i hi=>absurd hi (by simp)⟩,⟨rfl,rfl,rfl,by simp,fun h=>absurd h (by simp),fun _=>by simp,fun h=>absurd h (by simp),fun h=>absurd h (by simp),fun _=>rfl⟩,fun z hz fA=>?_⟩)⟩
   ·rw[ig,ah (by omega)]
   ·rw[ig,if_pos ⟨rfl,by omega⟩];simp
   ·rw[ig,if_neg (by omega),hd.bot];simp[tg]
   ·have iw:=h.th z hz fA
    refine⟨iw.base,iw.cp,iw.no,iw.zo,fun l5=>?_⟩
    obtain⟨t,a1,a2,a3,a4⟩:=iw.t l5
    exact⟨t,a1,by omega,fun _ h=>by omega,fun _ h=>by omega⟩
 ·have hd:DB bs iV ws 1 T c:=fi
  have hb:=hb (by omega)
  have hc:=ha5 rfl
  subst hc hb
  simp only[e9,C5,wK er,CW]at hs
  simp only[lN,↓reduceIte,Nat.reduceEqDiff,Prod.mk.injEq]at hs
  obtain⟨rfl,rfl,rfl⟩:=hs
  have oG:DI bs iV (ws.set (bs+1) ((T+([]:List Int).length:Nat):Int)) none Th T []:=by
   refine⟨⟨by simpa using hl,?_,D5,?_,by simp,fun i hi=>absurd hi (by simp)⟩,trivial,h.th⟩
   ·rw[ig,ah (by omega)];exact hd.top
   ·rw[ig,ai ⟨rfl,by omega⟩];rfl
  refine⟨by simp,fun a ha=>by rw[ig,if_neg (by omega)],rfl,?_⟩
  cases ok with
  |true=>exact .inr (.inr (.inr (.inr ⟨rfl,rfl,rfl,rfl,rfl,rfl,oG⟩)))
  |false=>exact .inr (.inr (.inl ⟨rfl,rfl,fun _=>rfl,rfl,oG⟩))
theorem ZQ{bs:Nat}{cap:Int}{ws ws':List Int}{q q':DQ}{e:Bool}{own:Own}{Th:DQ→Prop}{T:Nat}{c:List Int}(h:DI bs cap ws own Th T c)(hq:Th q)(lM:q.ended=false)(er:bs<1000000000)(hN:T+c.length<4000000000000000000)(hs:gx bB q ws=(q',ws',e)):
  ws'.length=ws.length∧(∀a,¬(bs≤a∧a<bs+2+rm cap)→ws'.getD a 0=ws.getD a 0)∧q'.base=q.base∧
  ((e=false∧q'.ended=false∧DI bs cap ws' own (fun z=>Th z∨z=q') T c)∨(e=true∧q'.ok=false∧DI bs cap ws' own Th T c)∨(e=true∧q'.ok=true∧∃c',c=q'.n::c'∧DI bs cap ws' own Th (T+1) c')):=by
 have hr:=uH cap
 have hz:=h.th q hq lM
 have fi:=h.db
 have hl:=fi.len
 have D5:=fi.t1
 have px:=fi.fits
 have yL:=fi.top
 have AG:=fi.bot
 have sn:=h.th
 have jq:=h.ow
 obtain⟨base,iV,n,ok,ended,at_,b,t,x⟩:=q
 obtain⟨e1,e2,e3,h3,ht⟩:=hz
 dsimp only at e1 e2 e3 h3 ht hs lM
 subst e1 e2 e3 lM
 have h3:at_=0∨at_=1∨at_=2∨at_=3:=by omega
 have fx:tg own≤1:=by unfold tg;split <;> (try split) <;> omega
 rcases h3 with rfl | rfl | rfl | rfl
 ·simp only[gx,rU,yL]at hs
  simp at hs
  obtain⟨rfl,rfl,rfl⟩:=hs
  refine⟨rfl,fun _ _=>rfl,rfl,.inl ⟨rfl,rfl,fi,jq.qc fun z hz _ ha=>?_,fun z hz fA=>?_⟩⟩
  ·rcases hz with hz | rfl
   ·exact hz
   ·simp at ha
  ·rcases hz with hz | rfl
   ·exact sn z hz fA
   ·exact⟨rfl,rfl,rfl,by simp,fun _=>⟨T,rfl,Nat.le_refl _,fun h=>absurd h (by simp),fun h=>absurd h (by simp)⟩⟩
 ·obtain⟨tt,rfl,AZ,_,_⟩:=ht (aU _)
  clear ht
  have hbw:=pZ (n:=T+c.length-tg own) (zh (Nat.sub_le _ _) (Ev hN (by decide)))
  have htw:=pZ (n:=tt) (zh AZ (zh (I1 T c.length) (Ev hN (by decide))))
  by_cases h1:T+c.length-tg own≤tt
  ·simp only[gx,wK er,rU,AG,hbw,htw]at hs
   simp[h1]at hs
   obtain⟨rfl,rfl,rfl⟩:=hs
   exact⟨rfl,fun _ _=>rfl,rfl,.inr (.inl ⟨rfl,rfl,h⟩)⟩
  ·simp only[gx,wK er,rU,AG,hbw,htw]at hs
   simp[h1]at hs
   obtain⟨rfl,rfl,rfl⟩:=hs
   refine⟨rfl,fun _ _=>rfl,rfl,.inl ⟨rfl,rfl,fi,?_,fun z hz fA=>?_⟩⟩
   ·match own,jq,h1 with
    |none,_,_=>trivial
    |some (false,p),hp,_=>exact hp
    |some (true,p),hp,h1=>
     have hp:yR bs iV Th T c p:=hp
     refine⟨hp.base,hp.cp,hp.on,hp.Jp,hp.no,hp.b,fun p3=>?_,hp.a4,hp.a5⟩
     obtain⟨t3,b1,b2,b3⟩:=hp.a3 p3
     refine⟨t3,b1,b2,fun h5=>⟨(b3 h5).1,fun z hz fA l5=>?_⟩⟩
     rcases hz with hz | rfl
     ·exact (b3 h5).2 z hz fA l5
     ·have e1:tg (some (true,p))=1:=by simp[tg,p3]
      rw[e1]at h1
      show (tt:Int)<((T+c.length-1:Nat):Int)
      omega
   ·rcases hz with hz | rfl
    ·exact sn z hz fA
    ·exact⟨rfl,rfl,rfl,by simp,fun _=>⟨tt,rfl,AZ,fun _ h6=>by omega,fun h=>absurd h (by simp)⟩⟩
 ·obtain⟨tt,rfl,AZ,ha,_⟩:=ht (by decide)
  clear ht
  have ha:=ha (aU _)
  simp only[gx,FV er,rU]at hs
  simp only[lN,↓reduceIte,Nat.reduceEqDiff,Prod.mk.injEq]at hs
  obtain⟨rfl,rfl,rfl⟩:=hs
  refine⟨rfl,fun _ _=>rfl,rfl,.inl ⟨rfl,rfl,fi,?_,fun z hz fA=>?_⟩⟩
  ·match own,jq with
   |none,_=>trivial
   |some (false,p),hp=>exact hp
   |some (true,p),hp=>
    have hp:yR bs iV Th T c p:=hp
    refine⟨hp.base,hp.cp,hp.on,hp.Jp,hp.no,hp.b,fun p3=>?_,hp.a4,hp.a5⟩
    obtain⟨t3,b1,b2,b3⟩:=hp.a3 p3
    refine⟨t3,b1,b2,fun h5=>⟨(b3 h5).1,fun z hz fA l5=>?_⟩⟩
    rcases hz with hz | rfl
    ·exact (b3 h5).2 z hz fA l5
    ·have h9:(tt:Int)<((T+c.length-1:Nat):Int):=(b3 h5).2 _ hq rfl (aU _)
     exact h9
  ·rcases hz with hz | rfl
   ·exact sn z hz fA
   ·refine⟨rfl,rfl,rfl,by simp,fun _=>⟨tt,rfl,AZ,fun _ h6=>ha h6,fun _ h6=>?_⟩⟩
    have hc:=ha h6
    subst h6
    have:ws.getD (bs+2+tt % rm iV) 0=c[0]:=fi.b9 0 hc
    show c.head?=some (ws.getD (bs+2+tt % rm iV) 0)
    rw[this,List.head?_eq_getElem?,bJ hc]
 ·obtain⟨tt,rfl,AZ,ha,hb⟩:=ht (by decide)
  clear ht
  have ha:=ha (by omega)
  have hb:=hb rfl
  have e0:wu ((tt:Int)+1)=((tt+1:Nat):Int):=CV (n:=tt+1) (by omega)
  obtain⟨k1,k2⟩:=GS (ws:=ws) (a:=bs) (by omega) (tt:Int) ((tt+1:Nat):Int)
  rw[yL]at k1 k2
  simp only[gx,e0,k1,k2]at hs
  by_cases h1:(T:Int)=tt
  ·simp only[ai h1,aV h1]at hs
   simp only[lN,↓reduceIte,Nat.reduceEqDiff,Prod.mk.injEq]at hs
   obtain⟨rfl,rfl,rfl⟩:=hs
   obtain rfl:tt=T:=by omega
   have hc:=ha rfl
   have hx:=hb rfl
   match c,hc,hx,px,fi,sn,jq,AG with
   |y::c,_,hx,px,fi,sn,jq,AG=>
    obtain rfl:y=x:=by simpa using hx
    simp only[ie]at px AG
    refine⟨by simp,fun a ha=>by rw[ig,if_neg (by omega)],rfl,.inr (.inr ⟨rfl,rfl,c,rfl,⟨by simpa using hl,?_,by omega,?_,by omega,fun i hi=>?_⟩,?_,fun z hz fA=>?_⟩)⟩
    ·rw[ig,ai ⟨rfl,by omega⟩]
    ·rw[ig,ah (by omega),AG];congr 1;omega
    ·rw[ig,ah (by omega),show tt+1+i=tt+(i+1) by omega]
     exact fi.b9 (i+1) (by simp;omega)
    ·match own,jq with
     |none,_=>trivial
     |some (false,p),hp=>
      have hp:Hy bs iV ws tt (y::c) p:=hp
      have el:tt+(y::c).length=tt+1+c.length:=by simp;omega
      refine⟨hp.base,hp.cp,hp.on,hp.no,hp.zo,fun h=>by rw[hp.b h,el],fun h=>by have:=hp.room h;simp at this;omega,fun h=>?_⟩
      have:=hp.put h
      rw[el]at this
      rw[ig,ah (by omega)];exact this
     |some (true,p),hp=>
      have hp:yR bs iV Th tt (y::c) p:=hp
      have el:tt+(y::c).length=tt+1+c.length:=by simp;omega
      refine⟨hp.base,hp.cp,hp.on,hp.Jp,hp.no,fun h=>by rw[hp.b h,el],fun h=>?_,fun h=>?_,fun h=>absurd (hp.a5 h) (by simp)⟩
      ·obtain⟨t3,b1,b2,b3⟩:=hp.a3 h
       rw[el]at b3
       refine⟨t3,b1,by omega,fun h5=>⟨?_,(b3 h5).2⟩⟩
       have:=(b3 h5).2 _ hq rfl (by simp)
       have:(tt:Int)<((tt+1+c.length-1:Nat):Int):=this
       omega
      ·obtain⟨b1,b2,b3⟩:=hp.a4 h
       simp at b2
       subst b2
       exact⟨b1,by simp,by simp⟩
    ·have iw:=sn z hz fA
     refine⟨iw.base,iw.cp,iw.no,iw.zo,fun l5=>?_⟩
     obtain⟨t,a1,a2,a3,a4⟩:=iw.t l5
     exact⟨t,a1,by omega,fun _ h=>by omega,fun _ h=>by omega⟩
  ·simp only[ah h1,bR h1]at hs
   simp only[lN,↓reduceIte,Nat.reduceEqDiff,Prod.mk.injEq]at hs
   obtain⟨rfl,rfl,rfl⟩:=hs
   exact⟨rfl,fun _ _=>rfl,rfl,.inr (.inl ⟨rfl,rfl,h⟩)⟩
end Go.Proofs.YtnikdflhefijbaaGreat
