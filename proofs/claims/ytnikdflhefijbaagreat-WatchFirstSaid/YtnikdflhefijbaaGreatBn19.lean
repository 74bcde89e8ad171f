import Derived.Test.YtnikdflhefijbaaGreatBn5
import Derived.Test.YtnikdflhefijbaaGreatBn10
import Derived.Test.YtnikdflhefijbaaGreatBn6
import Derived.Test.YtnikdflhefijbaaGreatBn18
namespace Go.Proofs.YtnikdflhefijbaaGreat
open Go.RowKit
set_option maxRecDepth 100000
set_option maxHeartbeats 4000000
theorem im(l:List Int)(i j:Nat)(x:Int):(l.set i x).getD j 0=if i=j∧j<l.length then x else l.getD j 0:=by
 rw[aW,e9,aW]
 by_cases h:i=j
 ·subst h
  by_cases h2:i<l.length
  ·simp[h2]
  ·simp[h2]
 ·simp[h]
theorem Vb{a c m:Nat}(h1:a<c)(h2:c-a<m):¬a % m=c % m:=fun h=>by
 have h3:=Nat.sub_mod_eq_zero_of_mod_eq h.symm
 have h4:=Nat.le_of_dvd (by omega) (Nat.dvd_of_mod_eq_zero h3)
 omega
theorem lH{n:Nat}(h:n<9000000000000000000):wr (n:Int)=n:=by
 show IntKind.i64.wrap _=_
 rw[IntKind.wrap_i64];omega
theorem DU{n:Nat}(h:n<9000000000000000000):wu (n:Int)=n:=by
 show IntKind.u64.wrap _=_
 rw[IntKind.wrap_u64];omega
theorem xp{bs:Nat}(h:bs<1000000000):eZ (bs:Int)=((bs+1:Nat):Int):=by
 unfold eZ
 exact lH (n:=bs+1) (by omega)
theorem GS{bs:Nat}(h:bs<1000000000)(cap:Int)(i:Nat):lE (bs:Int) cap (i:Nat)=((bs+2+i % rm cap:Nat):Int):=by
 have hr:=vq cap
 have hm:i % rm cap<rm cap:=nT _ (by omega)
 unfold lE
 rw[show ((bs:Int)+2)=((bs+2:Nat):Int) by omega,lH (by omega),← Int.natCast_emod,lH (by omega),← uB]
 exact lH (by omega)
theorem sx(ws:List Int)(a:Nat):cN ws (a:Int)=ws.getD a 0:=ma
theorem DV(ws:List Int)(a:Nat)(x:Int):gZ ws (a:Int) x=ws.set a x:=lD x
theorem HJ{ws:List Int}{a:Nat}(h:a<ws.length)(o x:Int):(nE ws (a:Int) o=decide (ws.getD a 0=o))∧iU ws (a:Int) o x=if ws.getD a 0=o then ws.set a x else ws:=by
 have e:nE ws (a:Int) o=decide (ws.getD a 0=o):=by
  unfold nE
  rw[CX (by omega) (by omega),ma]
  rfl
 refine⟨e,?_⟩
 unfold iU
 rw[e,lD]
 by_cases h2:ws.getD a 0=o
 ·rw[ah h2,ah (aL h2)]
 ·rw[ag h2,bH h2,ag Cj]
abbrev Own:Type:=Option (Bool×DQ)
def oz:Own→Nat
 |some (true,q)=>if 2≤q.at_ then 1 else 0
 |_=>0
structure DB(bs:Nat)(cap:Int)(ws:List Int)(lo T:Nat)(c:List Int):Prop where
 len:bs+2+rm cap≤ws.length
 top:ws.getD bs 0=(T:Int)
 t1:1≤T
 bot:ws.getD (bs+1) 0=((T+c.length-lo:Nat):Int)
 fits:c.length≤rm cap
 cq:∀i (h:i<c.length),ws.getD (bs+2+(T+i) % rm cap) 0=c[i]
structure Ir(bs:Nat)(cap:Int)(ws:List Int)(T:Nat)(c:List Int)(q:DQ):Prop where
 base:q.base=bs
 cp:q.cap=cap
 on:q.ended=false
 no:q.ok=false
 Aa:q.at_≤3
 b:1≤q.at_→q.b=((T+c.length:Nat):Int)
 room:2≤q.at_→c.length<rm cap
 put:q.at_=3→ws.getD (bs+2+(T+c.length) % rm cap) 0=q.n
structure zy(bs:Nat)(cap:Int)(Th:DQ→Prop)(T:Nat)(c:List Int)(q:DQ):Prop where
 base:q.base=bs
 cp:q.cap=cap
 on:q.ended=false
 Kw:q.at_≤5
 no:q.at_≤4→q.ok=false
 b:1≤q.at_→q.b=((T+c.length-1:Nat):Int)
 a3:q.at_=3→∃t:Nat,q.t=t∧t≤T∧(t<T+c.length-1→1≤c.length∧∀z,Th z→z.ended=false→2≤z.at_→z.t<((T+c.length-1:Nat):Int))
 a4:q.at_=4→q.t=q.b∧c.length≤1∧∀x∈c,x=q.x
 a5:q.at_=5→c=[]
structure ThO(bs:Nat)(cap:Int)(T:Nat)(c:List Int)(z:DQ):Prop where
 base:z.base=bs
 cp:z.cap=cap
 no:z.ok=false
 Aa:z.at_≤3
 t:1≤z.at_→∃t:Nat,z.t=t∧t≤T∧(2≤z.at_→t=T→0<c.length)∧(z.at_=3→t=T→c.head?=some z.x)
def I3(bs:Nat)(cap:Int)(ws:List Int)(Th:DQ→Prop)(T:Nat)(c:List Int):Own→Prop
 |none=>True
 |some (false,q)=>Ir bs cap ws T c q
 |some (true,q)=>zy bs cap Th T c q
structure DI(bs:Nat)(cap:Int)(ws:List Int)(own:Own)(Th:DQ→Prop)(T:Nat)(c:List Int):Prop where
 db:DB bs cap ws (oz own) T c
 ow:I3 bs cap ws Th T c own
 th:∀z,Th z→z.ended=false→ThO bs cap T c z
theorem DB.FY{bs:Nat}{cap:Int}{ws ws':List Int}{lo T:Nat}{c:List Int}(h:DB bs cap ws lo T c)(hl:ws'.length=ws.length)(he:∀a,bs≤a→a<bs+2+rm cap→ws'.getD a 0=ws.getD a 0):DB bs cap ws' lo T c:=by
 have hr:=vq cap
 refine⟨by rw[hl];exact h.len,by rw[he _ (by omega) (by omega)];exact h.top,h.t1,by rw[he _ (by omega) (by omega)];exact h.bot,h.fits,fun i hi=>?_⟩
 have hm:(T+i) % rm cap<rm cap:=nT _ (by omega)
 rw[he _ (by omega) (by omega)]
 exact h.cq i hi
theorem DI.FY{bs:Nat}{cap:Int}{ws ws':List Int}{own:Own}{Th:DQ→Prop}{T:Nat}{c:List Int}(h:DI bs cap ws own Th T c)(hl:ws'.length=ws.length)(he:∀a,bs≤a→a<bs+2+rm cap→ws'.getD a 0=ws.getD a 0):DI bs cap ws' own Th T c:=by
 have hr:=vq cap
 refine⟨h.db.FY hl he,?_,h.th⟩
 have ho:=h.ow
 match own with
 |none=>trivial
 |some (false,q)=>
  have ho:Ir bs cap ws T c q:=ho
  refine⟨ho.base,ho.cp,ho.on,ho.no,ho.Aa,ho.b,ho.room,fun h3=>?_⟩
  have hm:(T+c.length) % rm cap<rm cap:=nT _ (by omega)
  rw[he _ (by omega) (by omega)]
  exact ho.put h3
 |some (true,q)=>exact ho
theorem I3.qB{bs:Nat}{cap:Int}{ws:List Int}{own:Own}{Th F7:DQ→Prop}{T:Nat}{c:List Int}(h:I3 bs cap ws Th T c own)(hT:∀z,F7 z→z.ended=false→2≤z.at_→Th z):I3 bs cap ws F7 T c own:=by
 match own with
 |none=>trivial
 |some (false,q)=>exact h
 |some (true,q)=>
  have h:zy bs cap Th T c q:=h
  refine⟨h.base,h.cp,h.on,h.Kw,h.no,h.b,fun h3=>?_,h.a4,h.a5⟩
  obtain⟨t,h1,h2,h4⟩:=h.a3 h3
  exact⟨t,h1,h2,fun h5=>⟨(h4 h5).1,fun z h6 h7 h8=>(h4 h5).2 z (hT z h6 h7 h8) h7 h8⟩⟩
theorem DI.qB{bs:Nat}{cap:Int}{ws:List Int}{own:Own}{Th F7:DQ→Prop}{T:Nat}{c:List Int}(h:DI bs cap ws own Th T c)(hT:∀z,F7 z→Th z):DI bs cap ws own F7 T c:=
 ⟨h.db,h.ow.qB fun z hz _ _=>hT z hz,fun z hz=>h.th z (hT z hz)⟩
theorem DI.BL{bs:Nat}{cap:Int}{ws:List Int}{own:Own}{Th:DQ→Prop}{T:Nat}{c:List Int}(h:DI bs cap ws own Th T c){z:DQ}(h0:z.base=bs)(h1:z.cap=cap)(h2:z.ok=false)(h3:z.at_=0):DI bs cap ws own (fun x=>Th x∨x=z) T c:=by
 refine⟨h.db,h.ow.qB fun x hx _ ha=>?_,fun x hx ie=>?_⟩
 ·rcases hx with hx | rfl
  ·exact hx
  ·omega
 ·rcases hx with hx | rfl
  ·exact h.th x hx ie
  ·exact⟨h0,h1,h2,by omega,fun h4=>by omega⟩
theorem DI.push{bs:Nat}{cap:Int}{ws:List Int}{Th:DQ→Prop}{T:Nat}{c:List Int}(h:DI bs cap ws none Th T c){z:DQ}(h0:z.base=bs)(h1:z.cap=cap)(h2:z.ok=false)(h3:z.at_=0)(h4:z.ended=false):DI bs cap ws (some (false,z)) Th T c:=
 ⟨h.db,⟨h0,h1,h4,h2,by omega,fun _=>by omega,fun _=>by omega,fun _=>by omega⟩,h.th⟩
theorem DI.pop{bs:Nat}{cap:Int}{ws:List Int}{Th:DQ→Prop}{T:Nat}{c:List Int}(h:DI bs cap ws none Th T c){z:DQ}(h0:z.base=bs)(h1:z.cap=cap)(h2:z.ok=false)(h3:z.at_=0)(h4:z.ended=false):DI bs cap ws (some (true,z)) Th T c:=by
 refine⟨?_,⟨h0,h1,h4,by omega,fun _=>h2,fun _=>by omega,fun _=>by omega,fun _=>by omega,fun _=>by omega⟩,h.th⟩
 rw[show oz (some (true,z))=0 by simp[oz,h3]]
 exact h.db
theorem DB.more{bs:Nat}{cap:Int}{ws:List Int}{T:Nat}{c:List Int}(h:DB bs cap ws 0 T c){n:Int}(hf:c.length<rm cap)(hn:ws.getD (bs+2+(T+c.length) % rm cap) 0=n):DB bs cap (ws.set (bs+1) ((T+c.length+1:Nat):Int)) 0 T (c++[n]):=by
 have hr:=vq cap
 have hl:=h.len
 refine⟨by simpa using hl,?_,h.t1,?_,by simp;omega,fun i hi=>?_⟩
 ·rw[im,ag (by omega)];exact h.top
 ·rw[im,if_pos ⟨rfl,by omega⟩];simp;omega
 ·have hm:(T+i) % rm cap<rm cap:=nT _ (by omega)
  rw[im,ag (by omega)]
  simp only[bV,td]at hi
  by_cases hic:i<c.length
  ·rw[List.getElem_append_left hic];exact h.cq i hic
  ·obtain rfl:i=c.length:=by omega
   simpa using hn
theorem adU{bs:Nat}{cap:Int}{ws ws':List Int}{q q':DQ}{e:Bool}{Th:DQ→Prop}{T:Nat}{c:List Int}(h:DI bs cap ws (some (false,q)) Th T c)(eG:bs<1000000000)(hN:T+c.length<4000000000000000000)(hs:gx bC q ws=(q',ws',e)):
  ws'.length=ws.length∧(∀a,¬(bs≤a∧a<bs+2+rm cap)→ws'.getD a 0=ws.getD a 0)∧q'.n=q.n∧q'.base=q.base∧((e=false∧DI bs cap ws' (some (false,q')) Th T c)∨(e=true∧q'.ok=false∧rm cap≤c.length∧DI bs cap ws' none Th T c)∨(e=true∧q'.ok=true∧c.length<rm cap∧DI bs cap ws' none Th T (c++[q.n]))):=by
 have hr:=vq cap
 have ho:Ir bs cap ws T c q:=h.ow
 have fE:DB bs cap ws 0 T c:=h.db
 have hl:=fE.len
 obtain⟨base,jg,n,ok,ended,at_,b,t,x⟩:=q
 obtain⟨e1,e2,e3,e4,h3,hb,om,tZ⟩:=ho
 dsimp only at e1 e2 e3 e4 h3 hb om tZ hs
 subst e1 e2 e3 e4
 have h3:at_=0∨at_=1∨at_=2∨at_=3:=by omega
 rcases h3 with rfl | rfl | rfl | rfl
 ·simp only[gx,xp eG,sx,fE.bot]at hs
  simp at hs
  obtain⟨rfl,rfl,rfl⟩:=hs
  exact⟨rfl,fun _ _=>rfl,rfl,rfl,.inl ⟨rfl,fE,⟨rfl,rfl,rfl,rfl,by simp,fun _=>rfl,fun h=>absurd h (by simp),fun h=>absurd h (by simp)⟩,h.th⟩⟩
 ·have hb:=hb (aR _)
  subst hb
  have e1:wr (wu (((T+c.length:Nat):Int)-(T:Int)))=(c.length:Nat):=by
   rw[show ((T+c.length:Nat):Int)-(T:Int)=(c.length:Nat) by omega,DU (by omega),lH (by omega)]
  by_cases hf:rm jg≤c.length
  ·simp only[gx,sx,fE.top,e1]at hs
   simp[hf]at hs
   obtain⟨rfl,rfl,rfl⟩:=hs
   exact⟨rfl,fun _ _=>rfl,rfl,rfl,.inr (.inl ⟨rfl,rfl,hf,fE,trivial,h.th⟩)⟩
  ·simp only[gx,sx,fE.top,e1]at hs
   simp[hf]at hs
   obtain⟨rfl,rfl,rfl⟩:=hs
   exact⟨rfl,fun _ _=>rfl,rfl,rfl,.inl ⟨rfl,fE,⟨rfl,rfl,rfl,rfl,by simp,fun _=>rfl,fun _=>by omega,fun h=>absurd h (by simp)⟩,h.th⟩⟩
 ·have hb:=hb (by omega)
  have om:=om (aR _)
  subst hb
  have hm:(T+c.length) % rm jg<rm jg:=nT _ (by omega)
  simp only[gx,GS eG,DV]at hs
  simp at hs
  obtain⟨rfl,rfl,rfl⟩:=hs
  have hd:DB bs jg (ws.set (bs+2+(T+c.length) % rm jg) n) 0 T c:=by
   refine⟨by simpa using hl,?_,fE.t1,?_,fE.fits,fun i hi=>?_⟩
   ·rw[im,ag (by omega)];exact fE.top
   ·rw[im,ag (by omega)];exact fE.bot
   ·have:=Vb (a:=T+i) (c:=T+c.length) (m:=rm jg) (by omega) (by omega)
    rw[im,ag (by omega)];exact fE.cq i hi
  refine⟨by simp,fun a ha=>?_,rfl,rfl,.inl ⟨rfl,hd,⟨rfl,rfl,rfl,rfl,by simp,fun _=>rfl,fun _=>om,fun _=>?_⟩,h.th⟩⟩
  ·rw[im,ag (by omega)]
  ·rw[im,ah ⟨rfl,by omega⟩]
 ·have hb:=hb (by omega)
  have om:=om (by omega)
  have tZ:=tZ rfl
  subst hb
  have e1:wu (((T+c.length:Nat):Int)+1)=((T+c.length+1:Nat):Int):=DU (n:=T+c.length+1) (by omega)
  simp only[gx,xp eG,e1,DV]at hs
  simp only[l4,↓reduceIte,Nat.reduceEqDiff,Prod.mk.injEq]at hs
  obtain⟨rfl,rfl,rfl⟩:=hs
  refine⟨by simp,fun a ha=>?_,rfl,rfl,.inr (.inr ⟨rfl,rfl,om,fE.more om tZ,trivial,fun z hz gm=>?_⟩)⟩
  ·rw[im,ag (by omega)]
  ·have:=h.th z hz gm
   refine⟨this.base,this.cp,this.no,this.Aa,fun h1=>?_⟩
   obtain⟨t,a1,a2,a3,a4⟩:=this.t h1
   refine⟨t,a1,a2,fun _ _=>by simp,fun h5 h6=>?_⟩
   have:=a4 h5 h6
   cases c with
   |nil=>cases this
   |cons y c=>exact this
theorem afG{bs:Nat}{cap:Int}{ws ws':List Int}{q q':DQ}{e:Bool}{Th:DQ→Prop}{T:Nat}{c:List Int}(h:DI bs cap ws (some (true,q)) Th T c)(eG:bs<1000000000)(hN:T+c.length<4000000000000000000)(hs:fx bC q ws=(q',ws',e)):
  ws'.length=ws.length∧(∀a,¬(bs≤a∧a<bs+2+rm cap)→ws'.getD a 0=ws.getD a 0)∧q'.base=q.base∧
  ((e=false∧(q.at_=5→False)∧(q'.at_=5→q'.ok=false)∧DI bs cap ws' (some (true,q')) Th T c)∨
   (e=false∧q'.at_=5∧q'.ok=true∧c=[q'.x]∧DI bs cap ws' (some (true,q')) Th (T+1) [])∨
   (e=true∧q'.ok=false∧(q.at_=5→q.ok=false)∧c=[]∧DI bs cap ws' none Th T c)∨
   (e=true∧q'.ok=true∧q.at_=3∧∃c',c=c'++[q'.n]∧DI bs cap ws' none Th T c')∨
   (e=true∧q'.ok=true∧q.at_=5∧q.ok=true∧q'.n=q.x∧c=[]∧DI bs cap ws' none Th T [])):=by
 have hr:=vq cap
 have ho:zy bs cap Th T c q:=h.ow
 have fE:=h.db
 have hl:=fE.len
 have E4:=fE.t1
 have pR:=fE.fits
 obtain⟨base,jg,n,ok,ended,at_,b,t,x⟩:=q
 obtain⟨e1,e2,e3,h5,kd,hb,ha3,ha4,ha5⟩:=ho
 dsimp only at e1 e2 e3 h5 kd hb ha3 ha4 ha5 hs
 subst e1 e2 e3
 have h5:at_=0∨at_=1∨at_=2∨at_=3∨at_=4∨at_=5:=by omega
 have ai2:((T+c.length:Nat):Int)-1=((T+c.length-1:Nat):Int):=by omega
 have D6:wu (((T+c.length-1:Nat):Int)+1)=((T+c.length:Nat):Int):=by
  rw[show ((T+c.length-1:Nat):Int)+1=((T+c.length:Nat):Int) by omega,DU (by omega)]
 rcases h5 with rfl | rfl | rfl | rfl | rfl | rfl
 ·have kd:ok=false:=kd (by omega)
  subst kd
  have hd:DB bs jg ws 0 T c:=fE
  have hbt:=hd.bot
  have e1:wu (((T+c.length:Nat):Int)-1)=((T+c.length-1:Nat):Int):=by rw[ai2,DU (by omega)]
  simp only[fx,xp eG,sx,hbt,Nat.sub_zero,e1]at hs
  simp at hs
  obtain⟨rfl,rfl,rfl⟩:=hs
  exact⟨rfl,fun _ _=>rfl,rfl,.inl ⟨rfl,by simp,by simp,hd,⟨rfl,rfl,rfl,by simp,fun _=>rfl,fun _=>rfl,fun h=>absurd h (by simp),fun h=>absurd h (by simp),fun h=>absurd h (by simp)⟩,h.th⟩⟩
 ·have kd:ok=false:=kd (by omega)
  subst kd
  have hd:DB bs jg ws 0 T c:=fE
  have hb:=hb (aR _)
  subst hb
  simp only[fx,xp eG,DV]at hs
  simp only[l4,↓reduceIte,Nat.reduceEqDiff,Prod.mk.injEq]at hs
  simp at hs
  obtain⟨rfl,rfl,rfl⟩:=hs
  refine⟨by simp,fun a ha=>?_,rfl,.inl ⟨rfl,by simp,by simp,⟨by simpa using hl,?_,E4,?_,pR,fun i hi=>?_⟩,⟨rfl,rfl,rfl,by simp,fun _=>rfl,fun _=>rfl,fun h=>absurd h (by simp),fun h=>absurd h (by simp),fun h=>absurd h (by simp)⟩,h.th⟩⟩
  ·rw[im,ag (by omega)]
  ·rw[im,ag (by omega)];exact hd.top
  ·rw[im,ah ⟨rfl,by omega⟩];rfl
  ·have hm:(T+i) % rm jg<rm jg:=nT _ (by omega)
   rw[im,ag (by omega)];exact hd.cq i hi
 ·have kd:ok=false:=kd (by omega)
  subst kd
  have hd:DB bs jg ws 1 T c:=fE
  have hb:=hb (by omega)
  subst hb
  simp only[fx,sx,hd.top]at hs
  simp at hs
  obtain⟨rfl,rfl,rfl⟩:=hs
  refine⟨rfl,fun _ _=>rfl,rfl,.inl ⟨rfl,by simp,by simp,hd,⟨rfl,rfl,rfl,by simp,fun _=>rfl,fun _=>rfl,fun _=>⟨T,rfl,Nat.le_refl _,fun h5=>⟨by omega,fun z hz gm mw=>?_⟩⟩,fun h=>absurd h (by simp),fun h=>absurd h (by simp)⟩,h.th⟩⟩
  obtain⟨t,a1,a2,_⟩:=(h.th z hz gm).t (by omega)
  rw[a1];omega
 ·have kd:ok=false:=kd (by omega)
  subst kd
  have hd:DB bs jg ws 1 T c:=fE
  have hb:=hb (by omega)
  subst hb
  obtain⟨tt,rfl,BU,fC⟩:=ha3 rfl
  by_cases h1:T+c.length-1<tt
  ·have hc:c=[]:=iR.1 (by omega)
   subst hc
   simp only[fx,lH (n:=T+([]:List Int).length-1) (by omega),lH (n:=tt) (by omega),xp eG,DV,D6]at hs
   have h1:T-1<tt:=h1
   simp[h1]at hs
   obtain⟨rfl,rfl,rfl⟩:=hs
   refine⟨by simp,fun a ha=>?_,rfl,.inr (.inr (.inl ⟨rfl,rfl,by simp,rfl,⟨by simpa using hl,?_,E4,?_,pR,fun i hi=>absurd hi (by simp)⟩,trivial,h.th⟩))⟩
   ·rw[im,ag (by omega)]
   ·rw[im,ag (by omega)];exact hd.top
   ·rw[im,ah ⟨rfl,by omega⟩];rfl
  ·have e1:¬((T+c.length-1:Nat):Int)<(tt:Int):=by omega
   by_cases h2:tt<T+c.length-1
   ·have e2:(tt:Int)<((T+c.length-1:Nat):Int):=by omega
    simp only[fx,lH (n:=T+c.length-1) (by omega),lH (n:=tt) (by omega),ag e1,ah e2,GS eG,sx]at hs
    simp only[l4,↓reduceIte,Nat.reduceEqDiff,Prod.mk.injEq]at hs
    obtain⟨rfl,rfl,rfl⟩:=hs
    obtain⟨lr,sT⟩:=fC h2
    have aQ:c≠[]:=fun h=>by subst h;simp at lr
    have Nj:ws.getD (bs+2+(T+c.length-1) % rm jg) 0=c.getLast aQ:=by
     rw[show T+c.length-1=T+(c.length-1) by omega,hd.cq (c.length-1) (by omega),List.getLast_eq_getElem]
    refine⟨rfl,fun _ _=>rfl,rfl,.inr (.inr (.inr (.inl ⟨rfl,rfl,rfl,c.dropLast,?_,⟨hl,hd.top,E4,?_,by simp;omega,fun i hi=>?_⟩,trivial,fun z hz gm=>?_⟩)))⟩
    ·dsimp only
     rw[Nj]
     exact (List.dropLast_concat_getLast aQ).symm
    ·rw[hd.bot,List.length_dropLast]
     show ((T+c.length-1:Nat):Int)=((T+(c.length-1)-0:Nat):Int)
     omega
    ·rw[List.getElem_dropLast]
     exact hd.cq i (by simp at hi;omega)
    ·have iA:=h.th z hz gm
     refine⟨iA.base,iA.cp,iA.no,iA.Aa,fun mw=>?_⟩
     obtain⟨t,a1,a2,a3,a4⟩:=iA.t mw
     have hz4:2≤z.at_→(t:Int)<((T+c.length-1:Nat):Int):=fun h=>a1▸sT z hz gm h
     refine⟨t,a1,a2,fun h6 h7=>?_,fun h6 h7=>?_⟩
     ·have:=hz4 h6;simp;omega
     ·have:=hz4 (by omega)
      have h8:=a4 h6 h7
      match c,h8,lr,this,h7 with
      | [y],_,_,h9,h10=>simp at h9;omega
      |y::y2::c,h8,_,_,_=>exact h8
   ·have e2:¬(tt:Int)<((T+c.length-1:Nat):Int):=by omega
    simp only[fx,lH (n:=T+c.length-1) (by omega),lH (n:=tt) (by omega),ag e1,ag e2,GS eG,sx]at hs
    simp only[l4,↓reduceIte,Nat.reduceEqDiff,Prod.mk.injEq]at hs
    obtain⟨rfl,rfl,rfl⟩:=hs
    refine⟨rfl,fun _ _=>rfl,rfl,.inl ⟨rfl,by simp,by simp,hd,⟨rfl,rfl,rfl,by simp,fun _=>rfl,fun _=>rfl,fun h=>absurd h (by simp),fun _=>⟨?_,by omega,fun y hy=>?_⟩,fun h=>absurd h (by simp)⟩,h.th⟩⟩
    ·show (tt:Int)=((T+c.length-1:Nat):Int);omega
    ·have ef:c.length≤1:=by omega
     match c,ef,hy with
     | [y2],_,hy=>
      have:=hd.cq 0 (by simp)
      simp at hy this
      subst hy
      show y=ws.getD (bs+2+(T+1-1) % rm jg) 0
      rw[Pz,aW]
      exact this.symm
 ·have kd:ok=false:=kd (by omega)
  subst kd
  have hd:DB bs jg ws 1 T c:=fE
  have hb:=hb (by omega)
  subst hb
  obtain⟨rfl,lr,hx⟩:=ha4 rfl
  obtain⟨k1,k2⟩:=HJ (ws:=ws) (a:=bs) (by omega) ((T+c.length-1:Nat):Int) ((T+c.length:Nat):Int)
  rw[hd.top]at k1 k2
  simp only[fx,D6,k1,k2]at hs
  match c,lr with
  | [],_=>
   have h2:¬((T:Int)=((T+([]:List Int).length-1:Nat):Int)):=by simp;omega
   simp only[ag h2,bH h2]at hs
   simp only[l4,↓reduceIte,Nat.reduceEqDiff,Prod.mk.injEq]at hs
   obtain⟨rfl,rfl,rfl⟩:=hs
   exact⟨rfl,fun _ _=>rfl,rfl,.inl ⟨rfl,by simp,fun _=>rfl,hd,⟨rfl,rfl,rfl,by simp,fun _=>rfl,fun _=>rfl,fun h=>absurd h (by simp),fun h=>absurd h (by simp),fun _=>rfl⟩,h.th⟩⟩
  | [y],_=>
   have h2:((T:Int)=((T+([y]:List Int).length-1:Nat):Int)):=by simp
   obtain rfl:y=x:=hx y (by simp)
   simp only[ah h2,aL h2]at hs
   simp only[l4,↓reduceIte,Nat.reduceEqDiff,Prod.mk.injEq]at hs
   obtain⟨rfl,rfl,rfl⟩:=hs
   refine⟨by simp,fun a ha=>?_,rfl,.inr (.inl ⟨rfl,rfl,rfl,rfl,⟨by simpa using hl,?_,by omega,?_,by simp,fun i hi=>absurd hi (by simp)⟩,⟨rfl,rfl,rfl,by simp,fun h=>absurd h (by simp),fun _=>by simp,fun h=>absurd h (by simp),fun h=>absurd h (by simp),fun _=>rfl⟩,fun z hz gm=>?_⟩)⟩
   ·rw[im,ag (by omega)]
   ·rw[im,if_pos ⟨rfl,by omega⟩];simp
   ·rw[im,if_neg (by omega),hd.bot];simp[oz]
   ·have iA:=h.th z hz gm
    refine⟨iA.base,iA.cp,iA.no,iA.Aa,fun mw=>?_⟩
    obtain⟨t,a1,a2,a3,a4⟩:=iA.t mw
    exact⟨t,a1,by omega,fun _ h=>by omega,fun _ h=>by omega⟩
 ·have hd:DB bs jg ws 1 T c:=fE
  have hb:=hb (by omega)
  have hc:=ha5 rfl
  subst hc hb
  simp only[fx,D6,xp eG,DV]at hs
  simp only[l4,↓reduceIte,Nat.reduceEqDiff,Prod.mk.injEq]at hs
  obtain⟨rfl,rfl,rfl⟩:=hs
  have mA:DI bs jg (ws.set (bs+1) ((T+([]:List Int).length:Nat):Int)) none Th T []:=by
   refine⟨⟨by simpa using hl,?_,E4,?_,by simp,fun i hi=>absurd hi (by simp)⟩,trivial,h.th⟩
   ·rw[im,ag (by omega)];exact hd.top
   ·rw[im,ah ⟨rfl,by omega⟩];rfl
  refine⟨by simp,fun a ha=>by rw[im,if_neg (by omega)],rfl,?_⟩
  cases ok with
  |true=>exact .inr (.inr (.inr (.inr ⟨rfl,rfl,rfl,rfl,rfl,rfl,mA⟩)))
  |false=>exact .inr (.inr (.inl ⟨rfl,rfl,fun _=>rfl,rfl,mA⟩))
theorem abg{bs:Nat}{cap:Int}{ws ws':List Int}{q q':DQ}{e:Bool}{own:Own}{Th:DQ→Prop}{T:Nat}{c:List Int}(h:DI bs cap ws own Th T c)(hq:Th q)(lU:q.ended=false)(eG:bs<1000000000)(hN:T+c.length<4000000000000000000)(hs:gJ bC q ws=(q',ws',e)):
  ws'.length=ws.length∧(∀a,¬(bs≤a∧a<bs+2+rm cap)→ws'.getD a 0=ws.getD a 0)∧q'.base=q.base∧
  ((e=false∧q'.ended=false∧DI bs cap ws' own (fun z=>Th z∨z=q') T c)∨(e=true∧q'.ok=false∧DI bs cap ws' own Th T c)∨(e=true∧q'.ok=true∧∃c',c=q'.n::c'∧DI bs cap ws' own Th (T+1) c')):=by
 have hr:=vq cap
 have hz:=h.th q hq lU
 have fE:=h.db
 have hl:=fE.len
 have E4:=fE.t1
 have pR:=fE.fits
 have zq:=fE.top
 have BA:=fE.bot
 have sT:=h.th
 have jz:=h.ow
 obtain⟨base,jg,n,ok,ended,at_,b,t,x⟩:=q
 obtain⟨e1,e2,e3,h3,ht⟩:=hz
 dsimp only at e1 e2 e3 h3 ht hs lU
 subst e1 e2 e3 lU
 have h3:at_=0∨at_=1∨at_=2∨at_=3:=by omega
 have fC:oz own≤1:=by unfold oz;split <;> (try split) <;> omega
 rcases h3 with rfl | rfl | rfl | rfl
 ·simp only[gJ,sx,zq]at hs
  simp at hs
  obtain⟨rfl,rfl,rfl⟩:=hs
  refine⟨rfl,fun _ _=>rfl,rfl,.inl ⟨rfl,rfl,fE,jz.qB fun z hz _ ha=>?_,fun z hz gm=>?_⟩⟩
  ·rcases hz with hz | rfl
   ·exact hz
   ·simp at ha
  ·rcases hz with hz | rfl
   ·exact sT z hz gm
   ·exact⟨rfl,rfl,rfl,by simp,fun _=>⟨T,rfl,Nat.le_refl _,fun h=>absurd h (by simp),fun h=>absurd h (by simp)⟩⟩
 ·obtain⟨tt,rfl,BU,_,_⟩:=ht (aR _)
  clear ht
  have hbw:=lH (n:=T+c.length-oz own) (yg (Nat.sub_le _ _) (Fz hN (by decide)))
  have htw:=lH (n:=tt) (yg BU (yg (Cd T c.length) (Fz hN (by decide))))
  by_cases h1:T+c.length-oz own≤tt
  ·simp only[gJ,xp eG,sx,BA,hbw,htw]at hs
   simp[h1]at hs
   obtain⟨rfl,rfl,rfl⟩:=hs
   exact⟨rfl,fun _ _=>rfl,rfl,.inr (.inl ⟨rfl,rfl,h⟩)⟩
  ·simp only[gJ,xp eG,sx,BA,hbw,htw]at hs
   simp[h1]at hs
   obtain⟨rfl,rfl,rfl⟩:=hs
   refine⟨rfl,fun _ _=>rfl,rfl,.inl ⟨rfl,rfl,fE,?_,fun z hz gm=>?_⟩⟩
   ·match own,jz,h1 with
    |none,_,_=>trivial
    |some (false,p),hp,_=>exact hp
    |some (true,p),hp,h1=>
     have hp:zy bs jg Th T c p:=hp
     refine⟨hp.base,hp.cp,hp.on,hp.Kw,hp.no,hp.b,fun p3=>?_,hp.a4,hp.a5⟩
     obtain⟨t3,b1,b2,b3⟩:=hp.a3 p3
     refine⟨t3,b1,b2,fun h5=>⟨(b3 h5).1,fun z hz gm mw=>?_⟩⟩
     rcases hz with hz | rfl
     ·exact (b3 h5).2 z hz gm mw
     ·have e1:oz (some (true,p))=1:=by simp[oz,p3]
      rw[e1]at h1
      show (tt:Int)<((T+c.length-1:Nat):Int)
      omega
   ·rcases hz with hz | rfl
    ·exact sT z hz gm
    ·exact⟨rfl,rfl,rfl,by simp,fun _=>⟨tt,rfl,BU,fun _ h6=>by omega,fun h=>absurd h (by simp)⟩⟩
 ·obtain⟨tt,rfl,BU,ha,_⟩:=ht (by decide)
  clear ht
  have ha:=ha (aR _)
  simp only[gJ,GS eG,sx]at hs
  simp only[l4,↓reduceIte,Nat.reduceEqDiff,Prod.mk.injEq]at hs
  obtain⟨rfl,rfl,rfl⟩:=hs
  refine⟨rfl,fun _ _=>rfl,rfl,.inl ⟨rfl,rfl,fE,?_,fun z hz gm=>?_⟩⟩
  ·match own,jz with
   |none,_=>trivial
   |some (false,p),hp=>exact hp
   |some (true,p),hp=>
    have hp:zy bs jg Th T c p:=hp
    refine⟨hp.base,hp.cp,hp.on,hp.Kw,hp.no,hp.b,fun p3=>?_,hp.a4,hp.a5⟩
    obtain⟨t3,b1,b2,b3⟩:=hp.a3 p3
    refine⟨t3,b1,b2,fun h5=>⟨(b3 h5).1,fun z hz gm mw=>?_⟩⟩
    rcases hz with hz | rfl
    ·exact (b3 h5).2 z hz gm mw
    ·have h9:(tt:Int)<((T+c.length-1:Nat):Int):=(b3 h5).2 _ hq rfl (aR _)
     exact h9
  ·rcases hz with hz | rfl
   ·exact sT z hz gm
   ·refine⟨rfl,rfl,rfl,by simp,fun _=>⟨tt,rfl,BU,fun _ h6=>ha h6,fun _ h6=>?_⟩⟩
    have hc:=ha h6
    subst h6
    have:ws.getD (bs+2+tt % rm jg) 0=c[0]:=fE.cq 0 hc
    show c.head?=some (ws.getD (bs+2+tt % rm jg) 0)
    rw[this,List.head?_eq_getElem?,bj hc]
 ·obtain⟨tt,rfl,BU,ha,hb⟩:=ht (by decide)
  clear ht
  have ha:=ha (by omega)
  have hb:=hb rfl
  have e0:wu ((tt:Int)+1)=((tt+1:Nat):Int):=DU (n:=tt+1) (by omega)
  obtain⟨k1,k2⟩:=HJ (ws:=ws) (a:=bs) (by omega) (tt:Int) ((tt+1:Nat):Int)
  rw[zq]at k1 k2
  simp only[gJ,e0,k1,k2]at hs
  by_cases h1:(T:Int)=tt
  ·simp only[ah h1,aL h1]at hs
   simp only[l4,↓reduceIte,Nat.reduceEqDiff,Prod.mk.injEq]at hs
   obtain⟨rfl,rfl,rfl⟩:=hs
   obtain rfl:tt=T:=by omega
   have hc:=ha rfl
   have hx:=hb rfl
   match c,hc,hx,pR,fE,sT,jz,BA with
   |y::c,_,hx,pR,fE,sT,jz,BA=>
    obtain rfl:y=x:=by simpa using hx
    simp only[gq]at pR BA
    refine⟨by simp,fun a ha=>by rw[im,if_neg (by omega)],rfl,.inr (.inr ⟨rfl,rfl,c,rfl,⟨by simpa using hl,?_,by omega,?_,by omega,fun i hi=>?_⟩,?_,fun z hz gm=>?_⟩)⟩
    ·rw[im,ah ⟨rfl,by omega⟩]
    ·rw[im,ag (by omega),BA];congr 1;omega
    ·rw[im,ag (by omega),show tt+1+i=tt+(i+1) by omega]
     exact fE.cq (i+1) (by simp;omega)
    ·match own,jz with
     |none,_=>trivial
     |some (false,p),hp=>
      have hp:Ir bs jg ws tt (y::c) p:=hp
      have el:tt+(y::c).length=tt+1+c.length:=by simp;omega
      refine⟨hp.base,hp.cp,hp.on,hp.no,hp.Aa,fun h=>by rw[hp.b h,el],fun h=>by have:=hp.room h;simp at this;omega,fun h=>?_⟩
      have:=hp.put h
      rw[el]at this
      rw[im,ag (by omega)];exact this
     |some (true,p),hp=>
      have hp:zy bs jg Th tt (y::c) p:=hp
      have el:tt+(y::c).length=tt+1+c.length:=by simp;omega
      refine⟨hp.base,hp.cp,hp.on,hp.Kw,hp.no,fun h=>by rw[hp.b h,el],fun h=>?_,fun h=>?_,fun h=>absurd (hp.a5 h) (by simp)⟩
      ·obtain⟨t3,b1,b2,b3⟩:=hp.a3 h
       rw[el]at b3
       refine⟨t3,b1,by omega,fun h5=>⟨?_,(b3 h5).2⟩⟩
       have:=(b3 h5).2 _ hq rfl (by simp)
       have:(tt:Int)<((tt+1+c.length-1:Nat):Int):=this
       omega
      ·obtain⟨b1,b2,b3⟩:=hp.a4 h
       simp at b2
       subst b2
       exact⟨b1,by simp,by simp⟩
    ·have iA:=sT z hz gm
     refine⟨iA.base,iA.cp,iA.no,iA.Aa,fun mw=>?_⟩
     obtain⟨t,a1,a2,a3,a4⟩:=iA.t mw
     exact⟨t,a1,by omega,fun _ h=>by omega,fun _ h=>by omega⟩
  ·simp only[ag h1,bH h1]at hs
   simp only[l4,↓reduceIte,Nat.reduceEqDiff,Prod.mk.injEq]at hs
   obtain⟨rfl,rfl,rfl⟩:=hs
   exact⟨rfl,fun _ _=>rfl,rfl,.inr (.inl ⟨rfl,rfl,h⟩)⟩
set_option maxHeartbeats 4000000
theorem CC{what w:Int}(h:what=1∨what=2∨what=3){i:Nat}{x:Int}(hx:fM what w i x):dD what x x=x:=by
 obtain⟨r7,ie⟩:=hx
 obtain⟨a,rfl⟩:=mC r7.1
 have ha:a<18446744073709551616:=by have:=r7.2;omega
 rcases h with rfl | rfl | rfl
 ·rw[show dD 1 (a:Int) a=bits .or .u64 (a:Int) a from rfl,tp ha ha,Nat.or_self]
 ·rw[show dD 2 (a:Int) a=bits .and .u64 (a:Int) a from rfl,rj ha ha,Nat.and_self]
 ·rw[ah rfl]at ie
  rw[rH,w8 ie ie,AL]
theorem YJ{what w:Int}(h:what=1∨what=2∨what=3){i:Nat}{x y:Int}(hx:fM what w i x)(hy:fM what w i y):dD what x y=dD what y x:=by
 obtain⟨r7,ie⟩:=hx
 obtain⟨uh,vZ⟩:=hy
 obtain⟨a,rfl⟩:=mC r7.1
 obtain⟨b,rfl⟩:=mC uh.1
 have ha:a<18446744073709551616:=by have:=r7.2;omega
 have hb:b<18446744073709551616:=by have:=uh.2;omega
 rcases h with rfl | rfl | rfl
 ·show bits .or .u64 (a:Int) b=bits .or .u64 (b:Int) a
  rw[tp ha hb,tp hb ha,Nat.or_comm]
 ·show bits .and .u64 (a:Int) b=bits .and .u64 (b:Int) a
  rw[rj ha hb,rj hb ha,Nat.and_comm]
 ·rw[ah rfl]at ie vZ
  rw[rH,rH,w8 ie vZ,w8 vZ ie,Ho]
theorem XS{what w:Int}(h:what=1∨what=2∨what=3){i:Nat}{x y z:Int}(hx:fM what w i x)(hy:fM what w i y)(hz:fM what w i z):dD what (dD what x y) z=dD what x (dD what y z):=by
 have aO:=(CD h hx hy).2
 have E1:=(CD h hy hz).2
 obtain⟨r7,ie⟩:=hx
 obtain⟨uh,vZ⟩:=hy
 obtain⟨xR,gm⟩:=hz
 obtain⟨a,rfl⟩:=mC r7.1
 obtain⟨b,rfl⟩:=mC uh.1
 obtain⟨c,rfl⟩:=mC xR.1
 have ha:a<18446744073709551616:=by have:=r7.2;omega
 have hb:b<18446744073709551616:=by have:=uh.2;omega
 have hc:c<18446744073709551616:=by have:=xR.2;omega
 rcases h with rfl | rfl | rfl
 ·have h1:a ||| b<2 ^ 64:=JY ha hb
  have h2:b ||| c<2 ^ 64:=JY hb hc
  show bits .or .u64 (bits .or .u64 (a:Int) b) c=bits .or .u64 (a:Int) (bits .or .u64 (b:Int) c)
  rw[tp ha hb,tp hb hc,tp h1 hc,tp ha h2,Nat.or_assoc]
 ·have h1:a &&& b≤a:=FH
  have h2:b &&& c≤b:=FH
  show bits .and .u64 (bits .and .u64 (a:Int) b) c=bits .and .u64 (a:Int) (bits .and .u64 (b:Int) c)
  rw[rj ha hb,rj hb hc,rj (by omega) hc,rj ha (by omega),Nat.and_assoc]
 ·rw[ah rfl]at ie vZ gm aO E1
  rw[rH]at aO E1
  rw[rH,rH,rH,rH]
  rw[w8 aO gm,w8 ie E1,w8 ie vZ,w8 vZ gm,S5]
theorem tR(a:List Int)(i:Nat):a.getD i 0=wd a i:=by rw[aW];rfl
section
variable {s:Sy} {l:Lay} (hs:LS s l)
include hs
theorem LS.aht:eX s.what s.w=(nW l:Int):=by have:=hs.words;have:=hs.ww;omega
theorem LS.rO{a:List Int}:eH s.what s.w a↔(a.length=nW l∧∀i,i<nW l→fM s.what s.w i (a.getD i 0)):=by
 rw[Gu hs.jf.ug,hs.aht]
 constructor
 ·rintro⟨h1,h2⟩
  have h1:a.length=nW l:=by omega
  exact⟨h1,fun i hi=>by rw[tR];exact h2 i (by omega)⟩
 ·rintro⟨h1,h2⟩
  exact⟨by omega,fun i hi=>by rw[← tR];exact h2 i (by omega)⟩
theorem LS.zJ{a b:List Int}(ha:eH s.what s.w a)(hb:eH s.what s.w b):eb s.what s.w a b↔∀i,i<nW l→dD s.what (a.getD i 0) (b.getD i 0)=b.getD i 0:=by
 have la:=((hs.rO).1 ha).1
 have lb:=((hs.rO).1 hb).1
 constructor
 ·intro h i hi
  rw[tR,tR,← yO (by omega) (by omega),h.2.2]
 ·intro h
  refine⟨ha,hb,AW ?_ fun i hi=>?_⟩
  ·rw[iS (by omega)];omega
  ·rw[iS (by omega)]at hi
   rw[yO hi (by omega),← tR,← tR]
   exact h i (by omega)
theorem LS.ahA{v:Nat}(hv:v<nN s){y:List Int}(hy:eH s.what s.w y):eH s.what s.w (ia s y v):=
 (LF hs.fit hs.jf (eb.refl hy) (v:=v) (by have:=hs.nn;omega)).1
end
def Ob(s:Sy)(v:Nat):List Nat:=(ar s.n s.aT v).map Int.toNat
theorem afP{s:Sy}{v u:Nat}(h:u∈Ob s v):u<nN s:=by
 obtain⟨z,hz,rfl⟩:=dL.1 h
 obtain⟨hz,_⟩:=lZ.1 hz
 obtain⟨i,hi,rfl⟩:=dL.1 hz
 rw[bO]
 exact gb.1 hi
def lC(s:Sy)(l:Lay)(hs:LS s l):SX.AP where
 n:=nN s
 W:=nW l
 k:=l.k.toNat
 nx:=Ob s
 jw:=dD s.what
 out v y:=ia s y v
 ok i z:=fM s.what s.w i z
 DW _ h:=afP h
 idem h:=CC hs.vh h
 comm h1 h2:=YJ hs.vh h1 h2
 assoc h1 h2 h3:=XS hs.vh h1 h2 h3
 Oa h1 h2:=CD hs.vh h1 h2
 H5 hv h1 h2:=(hs.rO).1 (hs.ahA hv ((hs.rO).2 ⟨h1,h2⟩))
 mono:=fun {v y z} hv h1 h2 h3 h4 h5=>by
  have hy:=(hs.rO).2 ⟨h1,h3⟩
  have hz:=(hs.rO).2 ⟨h2,h4⟩
  have hl:=LF hs.fit hs.jf ((hs.zJ hy hz).2 h5) (v:=v) (by have:=hs.nn;omega)
  exact (hs.zJ hl.1 hl.2.1).1 hl
def EV(does:Int)(node:Nat)(out:List Int)(u:Nat)(r:List Nat):SX.Ph:=
 if does=0 then .idle 0 0
 else if does=1 then .idle 1 0
 else if does=2 then .idle 2 0
 else if does=3 then .clear node
 else if does=4 then .read node []
 else if does=5 then .join node out u r 0 none false
 else if does=6 then .take node out u r
 else if does=7 then .push node out u r 0
 else .dW node
def phN(does:Int)(node:Nat)(out:List Int)(u:Nat)(r:List Nat):Nw→SX.Ph
 |.none=>EV does node out u r
 |.pop q=>if q.at_=5∧q.ok=true then .held q.x.toNat else .idle 0 q.at_
 |.cx z=>.idle 1 z.at_
 |.quiet _=>.idle 2 0
 |.clear _=>.clear node
 |.read y=>.read node y
 |.join j=>.join node out u r j.at_ (if j.fy=true then some j.x else none) j.changed
 |.take t=>if t.jS=true then .add node out u r else .take node out u r
 |.push q=>.push node out u r q.at_
 |.dW _=>.dW node
def dO(x:WS):SX.Ph:=if x.en=true then .done else phN x.does x.node.toNat x.out (x.nx.headD 0).toNat (x.nx.tail.map Int.toNat) x.now
theorem SH(l:Lay)(who d:Int)(x:WS):dO ⟨x.ev,x.jo,x.en,x.does,km l who x d,x.node,x.has,x.nx,x.out⟩=dO x:=by
 unfold dO
 dsimp only
 congr 1
 unfold km
 cases hn:x.now with
 |none=>
  dsimp only
  show _=EV _ _ _ _ _
  unfold EV
  by_cases h0:x.does=0
  ·rw[IY h0,ah h0];rfl
  by_cases h1:x.does=1
  ·rw[IX h1,ag h0,ah h1];rfl
  by_cases h2:x.does=2
  ·rw[IW h2,ag h0,ag h1,ah h2];rfl
  by_cases h3:x.does=3
  ·rw[IV h3,ag h0,ag h1,ag h2,ah h3];rfl
  by_cases h4:x.does=4
  ·rw[IU h4,ag h0,ag h1,ag h2,ag h3,ah h4];rfl
  by_cases h5:x.does=5
  ·rw[IT h5,ag h0,ag h1,ag h2,ag h3,ag h4,ah h5];rfl
  by_cases h6:x.does=6
  ·rw[IS h6,ag h0,ag h1,ag h2,ag h3,ag h4,ag h5,ah h6];rfl
  by_cases h7:x.does=7
  ·rw[IQ h7,ag h0,ag h1,ag h2,ag h3,ag h4,ag h5,ag h6,ah h7];rfl
  rw[IP h0 h1 h2 h3 h4 h5 h6 h7,ag h0,ag h1,ag h2,ag h3,ag h4,ag h5,ag h6,ag h7];rfl
 |_=>rfl
theorem Dq{ev jo:Int}{does node:Int}{has:Bool}{nx out:List Int}(hd:does=if nx.length=0 then 8 else 5):dO ⟨ev,jo,false,does,.none,node,has,nx,out⟩=SX.fW node.toNat out (nx.map Int.toNat):=by
 subst hd
 cases nx with
 |nil=>rfl
 |cons u r=>rfl
abbrev gd(s:Sy)(l:Lay)(j:Nat):Nat:=nN s*nW l+nN s+1+j*(nN s+3)
def sE:Nw→Own
 |.pop q=>some (true,q)
 |.push q=>some (false,q)
 |_=>none
def jL(W:List WS)(j:Nat):Own:=match W[j]? with
 |some x=>sE x.now
 |none=>none
def lN(s:Sy)(l:Lay)(W:List WS)(j:Nat)(z:DQ):Prop:=∃(i:Nat) (x:WS),W[i]?=some x∧x.now=.cx z∧z.base=(gd s l j:Int)
abbrev iY(c:List Nat):List Int:=c.map fun v:Nat=>(v:Int)
def bZ(s:Sy)(l:Lay)(W:List WS)(ws:List Int)(D:List (List Nat)):SX.AS where
 cell v i:=if v<nN s∧i<nW l then ws.getD (v*nW l+i) 0 else 0
 flag v:=decide (v<nN s∧¬ws.getD (nN s*nW l+v) 0=0)
 aF:=(ws.getD (nN s*nW l+nN s) 0).toNat
 dq:=D
 ph:=W.map dO
 ev:=SX.aI (fun x=>x.ev.toNat) W
 jo:=SX.aI (fun x=>x.jo.toNat) W
structure RJ(s:Sy)(l:Lay)(hs:LS s l)(W:List WS)(ws:List Int)(D:List (List Nat))(T:Nat→Nat)(M:Nat):Prop where
 len:(W.length:Int)=l.k
 fl:ws.length=nG l
 kl:0≤ws.getD (nN s*nW l+nN s) 0
 dl:D.length=W.length
 di:∀(j:Nat) (c:List Nat),D[j]?=some c→DI (gd s l j) (eA l) ws (jL W j) (lN s l W j) (T j) (iY c)
 top:∀j,T j≤M
 ev:∀x∈W,0≤x.ev∧x.ev≤M∧0≤x.jo∧x.jo≤M
 jn:∀x∈W,∀j,x.now=.join j→j.fy=true→dD j.what j.x (wd j.a j.at_)≠j.x
 pn:∀x∈W,∀q,x.now=.push q→q.n=x.nx.headD 0
 ti:SX.TI (lC s l hs) (bZ s l W ws D)
theorem AJ{W:List WS}{i:Nat}{x:WS}(h:W[i]?=some x):jL W i=sE x.now:=by unfold jL;rw[h]
theorem LD{W:List WS}{i:Nat}(hi:i<W.length)(x:WS)(j:Nat):jL (W.set i x) j=if i=j then sE x.now else jL W j:=by
 unfold jL
 rw[e9]
 by_cases h:i=j
 ·subst h;rw[ah rfl,ah hi,ah rfl]
 ·rw[ag h,ag h]
theorem pf{α:Type}{W:List α}{i:Nat}{x:α}(h:W[i]?=some x):W.set i x=W:=by
 refine zU fun j=>?_
 rw[e9]
 by_cases hj:i=j
 ·subst hj;rw[ah rfl,ah (ck.1 h).1,h]
 ·rw[ag hj]
theorem Hc{s:Sy}{l:Lay}{W:List WS}{i:Nat}{x:WS}{j:Nat}{z:DQ}(h:lN s l (W.set i x) j z):lN s l W j z∨(x.now=.cx z∧z.base=(gd s l j:Int)):=by
 obtain⟨k,y,hy,h1,h2⟩:=h
 rw[e9]at hy
 by_cases hk:i=k
 ·subst hk
  rw[ah rfl]at hy
  split at hy
  ·cases hy;exact .inr ⟨h1,h2⟩
  ·cases hy
 ·rw[ag hk]at hy
  exact .inl ⟨k,y,hy,h1,h2⟩
theorem Vq{N b i j:Nat}(h:i≠j){a:Nat}(h1:b+i*(N+3)≤a)(h2:a<b+i*(N+3)+2+(N+1)):¬(b+j*(N+3)≤a∧a<b+j*(N+3)+2+(N+1)):=by
 rintro⟨h3,h4⟩
 rcases Nat.lt_or_gt_of_ne h with h5 | h5
 ·have:=kg (N+3) (show i+1≤j by omega)
  rw[qa]at this
  omega
 ·have:=kg (N+3) (show j+1≤i by omega)
  rw[qa]at this
  omega
theorem Ah{α:Type}{W:List α}{i:Nat}{x y:α}(h:y∈W.set i x):y∈W∨y=x:=q9 h
section
variable {s:Sy} {l:Lay} {hs:LS s l} {W:List WS} {ws:List Int} {D:List (List Nat)} {T:Nat→Nat} {M:Nat}
theorem RJ.fin(hR:RJ s l hs W ws D T M){i:Nat}{x x':WS}(hx:W[i]?=some x){ws':List Int}{D':List (List Nat)}{T':Nat→Nat}(gL:ws'.length=ws.length)(hc:0≤ws'.getD (nN s*nW l+nN s) 0)(eF:D'.length=D.length)
  (kJ:∀(j:Nat) (c:List Nat),D'[j]?=some c→DI (gd s l j) (eA l) ws' (jL (W.set i x') j) (lN s l (W.set i x') j) (T' j) (iY c))
  (zq:∀j,T' j≤M+1) (ke:x'.ev=x.ev∨x'.ev=x.ev+1) (lW:x'.jo=x.jo∨x'.jo=x.jo+1) (zM:∀j,x'.now=.join j→j.fy=true→dD j.what j.x (wd j.a j.at_)≠j.x) (sV:∀q,x'.now=.push q→q.n=x'.nx.headD 0)
  (lR:SX.Tr (lC s l hs) (bZ s l W ws D) i (bZ s l (W.set i x') ws' D')):RJ s l hs (W.set i x') ws' D' T' (M+1)∧SX.Tr (lC s l hs) (bZ s l W ws D) i (bZ s l (W.set i x') ws' D'):=by
 have h0:=hR.ev x (cu hx)
 refine⟨⟨by rw[cM];exact hR.len,gL.trans hR.fl,hc,by rw[cM,eF];exact hR.dl,kJ,zq,fun y hy=>?_,fun y hy=>?_,fun y hy=>?_,hR.ti.step lR⟩,lR⟩
 ·rcases Ah hy with hy | rfl
  ·have:=hR.ev y hy;omega
  ·omega
 ·rcases Ah hy with hy | rfl
  ·exact hR.jn y hy
  ·exact zM
 ·rcases Ah hy with hy | rfl
  ·exact hR.pn y hy
  ·exact sV
theorem xr(hR:RJ s l hs W ws D T M){i:Nat}{x x':WS}(hx:W[i]?=some x){ws':List Int}{c':List Nat}{T':Nat}(gL:ws'.length=ws.length)
  (je:∀a,¬(gd s l i≤a∧a<gd s l i+2+rm (eA l))→ws'.getD a 0=ws.getD a 0) (NK:∀z,x'.now≠.cx z)
  (hD:DI (gd s l i) (eA l) ws' (sE x'.now) (lN s l W i) T' (iY c')):∀(j:Nat) (c:List Nat),(D.set i c')[j]?=some c→DI (gd s l j) (eA l) ws' (jL (W.set i x') j) (lN s l (W.set i x') j) (if j=i then T' else T j) (iY c):=by
 intro j c hj
 have hi:=(ck.1 hx).1
 have sT:∀z,lN s l (W.set i x') j z→lN s l W j z:=fun z hz=>by
  rcases Hc hz with h | h
  ·exact h
  ·exact absurd h.1 (NK z)
 rw[LD hi]
 rw[e9]at hj
 by_cases h:i=j
 ·subst h
  rw[ah rfl,ah (by rw[hR.dl];exact hi)]at hj
  cases hj
  rw[ah rfl,ah rfl]
  exact hD.qB sT
 ·rw[ag h]at hj
  rw[ag h,ag (fun e=>h e.symm)]
  refine ((hR.di j c hj).FY gL fun a h1 h2=>?_).qB sT
  rw[hs.room.2]at h2 je
  exact je a (Vq (fun e=>h e.symm) h1 h2)
theorem pt(hR:RJ s l hs W ws D T M){i:Nat}{x x':WS}(hx:W[i]?=some x){ws':List Int}(gL:ws'.length=ws.length)
  (je:∀a,nN s*nW l+nN s+1≤a→ws'.getD a 0=ws.getD a 0) (NK:∀z,x'.now≠.cx z) (ho:sE x.now=sE x'.now) :
  ∀(j:Nat) (c:List Nat),D[j]?=some c→DI (gd s l j) (eA l) ws' (jL (W.set i x') j) (lN s l (W.set i x') j) (T j) (iY c):=by
 intro j c hj
 have hi:=(ck.1 hx).1
 have e:jL (W.set i x') j=jL W j:=by
  rw[LD hi]
  by_cases h:i=j
  ·subst h;rw[ah rfl,AJ hx,ho]
  ·rw[ag h]
 rw[e]
 refine ((hR.di j c hj).FY gL fun a h1 h2=>je a (by unfold gd at h1;omega)).qB fun z hz=>?_
 rcases Hc hz with h | h
 ·exact h
 ·exact absurd h.1 (NK z)
theorem HQ(hR:RJ s l hs W ws D T M){i v:Nat}{x x':WS}{q':DQ}(hx:W[i]?=some x)(hv:v<D.length){ws':List Int}{c':List Nat}{T':Nat}(gL:ws'.length=ws.length)
  (je:∀a,¬(gd s l v≤a∧a<gd s l v+2+rm (eA l))→ws'.getD a 0=ws.getD a 0) (an:(x'.now=.cx q'∧q'.base=(gd s l v:Int))∨∀z,x'.now≠.cx z) (ho:sE x.now=sE x'.now)
  (hD:DI (gd s l v) (eA l) ws' (jL W v) (fun z=>lN s l W v z∨(x'.now=.cx z∧z=q')) T' (iY c')):∀(j:Nat) (c:List Nat),(D.set v c')[j]?=some c→DI (gd s l j) (eA l) ws' (jL (W.set i x') j) (lN s l (W.set i x') j) (if j=v then T' else T j) (iY c):=by
 intro j c hj
 have hi:=(ck.1 hx).1
 have e:jL (W.set i x') j=jL W j:=by
  rw[LD hi]
  by_cases h:i=j
  ·subst h;rw[ah rfl,AJ hx,ho]
  ·rw[ag h]
 rw[e]
 rw[e9]at hj
 by_cases h:v=j
 ·subst h
  rw[ah rfl,ah hv]at hj
  cases hj
  rw[ah rfl]
  refine hD.qB fun z hz=>?_
  rcases Hc hz with h | h
  ·exact .inl h
  ·refine .inr ⟨h.1,?_⟩
   rcases an with h2 | h2
   ·have:=h.1.symm.trans h2.1
    cases this;rfl
   ·exact absurd h.1 (h2 z)
 ·rw[ag h]at hj
  rw[ag (fun e=>h e.symm)]
  refine ((hR.di j c hj).FY gL fun a h1 h2=>?_).qB fun z hz=>?_
  ·rw[hs.room.2]at h2 je
   exact je a (Vq (fun e=>h e.symm) h1 h2)
  ·rcases Hc hz with h3 | h3
   ·exact h3
   ·rcases an with h2 | h2
    ·have h4:=h3.1.symm.trans h2.1
     cases h4
     have h5:=h3.2.symm.trans h2.2
     have h6:j*(nN s+3)=v*(nN s+3):=by unfold gd at h5;omega
     exact absurd (Nat.eq_of_mul_eq_mul_right (by omega) h6).symm h
    ·exact absurd h3.1 (h2 z)
theorem Bp{A B:SX.AS}(h1:∀v i,A.cell v i=B.cell v i)(h2:∀v,A.flag v=B.flag v)(h3:A.aF=B.aF)(h4:A.dq=B.dq)(h5:A.ph=B.ph)(h6:A.ev=B.ev)(h7:A.jo=B.jo):A=B:=by
 obtain⟨a1,a2,a3,a4,a5,a6,a7⟩:=A
 obtain⟨b1,b2,b3,b4,b5,b6,b7⟩:=B
 obtain rfl:a1=b1:=funext fun v=>funext fun i=>h1 v i
 obtain rfl:a2=b2:=funext h2
 cases h3;cases h4;cases h5;cases h6;cases h7;rfl
theorem uM{f:WS→Nat}{i:Nat}{x x':WS}(hx:W[i]?=some x)(h:f x'=f x):SX.aI f (W.set i x')=SX.aI f W:=by
 have:=SX.fK f W i x x' hx
 omega
theorem mc{i:Nat}{x x':WS}(hx:W[i]?=some x){ws':List Int}(fC:∀a,a<nN s*nW l+nN s+1→ws'.getD a 0=ws.getD a 0)(ke:x'.ev=x.ev)(lW:x'.jo=x.jo)(D':List (List Nat)):
  bZ s l (W.set i x') ws' D' = { bZ s l W ws D with dq:=D',ph:=(bZ s l W ws D).ph.set i (dO x') }:=by
 refine Bp (fun v j=>?_) (fun v=>?_) ?_ rfl ?_ ?_ ?_
 ·show (if _ then _ else _)=(if _ then _ else _)
  by_cases h:v<nN s∧j<nW l
  ·have:=tE h.1 h.2
   rw[ah h,ah h,fC _ (by omega)]
  ·rw[ag h,ag h]
 ·show decide _=decide _
  by_cases h:v<nN s
  ·rw[fC _ (by omega)]
  ·rw[bH (fun e=>h e.1),bH (fun e=>h e.1)]
 ·show (ws'.getD _ 0).toNat=(ws.getD _ 0).toNat
  rw[fC _ (by omega)]
 ·show (W.set i x').map dO=(W.map dO).set i (dO x')
  rw[nU]
 ·exact uM hx (by rw[ke])
 ·exact uM hx (by rw[lW])
theorem mF{i:Nat}{x:WS}(hx:W[i]?=some x):(bZ s l W ws D).ph[i]?=some (dO x):=by
 show (W.map dO)[i]?=_
 rw[fm,hx];rfl
theorem Tv{i:Nat}{x x':WS}(hx:W[i]?=some x){ws':List Int}{u:Nat}{z:Int}(hu:u<nN s)(hl:nN s*nW l+u<ws.length)(hw:ws'=ws.set (nN s*nW l+u) z)(ke:x'.ev=x.ev)(lW:x'.jo=x.jo):
  bZ s l (W.set i x') ws' D = { bZ s l W ws D with flag:=fun v=>if v=u then decide (¬z=0) else (bZ s l W ws D).flag v,ph:=(bZ s l W ws D).ph.set i (dO x') }:=by
 subst hw
 refine Bp (fun v j=>?_) (fun v=>?_) ?_ rfl ?_ ?_ ?_
 ·show (if _ then _ else _)=(if _ then _ else _)
  by_cases h:v<nN s∧j<nW l
  ·have:=tE h.1 h.2
   rw[ah h,ah h,jW,ag (by omega)]
  ·rw[ag h,ag h]
 ·show decide _=if v=u then _ else decide _
  by_cases h:v=u
  ·subst h
   rw[ah rfl,jW,ah ⟨rfl,hl⟩]
   simp[hu]
  ·rw[ag h,jW,ag (by omega)]
 ·show ((ws.set _ _).getD _ 0).toNat=(ws.getD _ 0).toNat
  rw[jW,ag (by omega)]
 ·show (W.set i x').map dO=(W.map dO).set i (dO x')
  rw[nU]
 ·exact uM hx (by rw[ke])
 ·exact uM hx (by rw[lW])
theorem UI{i:Nat}{x x':WS}(hx:W[i]?=some x){ws':List Int}{z:Int}(hl:nN s*nW l+nN s<ws.length)(hw:ws'=ws.set (nN s*nW l+nN s) z)(ke:x'.ev=x.ev)(lW:x'.jo=x.jo):
  bZ s l (W.set i x') ws' D = { bZ s l W ws D with aF:=z.toNat,ph:=(bZ s l W ws D).ph.set i (dO x') }:=by
 subst hw
 refine Bp (fun v j=>?_) (fun v=>?_) ?_ rfl ?_ ?_ ?_
 ·show (if _ then _ else _)=(if _ then _ else _)
  by_cases h:v<nN s∧j<nW l
  ·have:=tE h.1 h.2
   rw[ah h,ah h,jW,ag (by omega)]
  ·rw[ag h,ag h]
 ·show decide _=decide _
  by_cases h:v<nN s
  ·rw[jW,ag (by omega)]
  ·rw[bH (fun e=>h e.1),bH (fun e=>h e.1)]
 ·show ((ws.set _ _).getD _ 0).toNat=z.toNat
  rw[jW,ah ⟨rfl,hl⟩]
 ·show (W.set i x').map dO=(W.map dO).set i (dO x')
  rw[nU]
 ·exact uM hx (by rw[ke])
 ·exact uM hx (by rw[lW])
theorem acP{i:Nat}{x x':WS}(hx:W[i]?=some x){ws':List Int}{u j:Nat}{z:Int}(hu:u<nN s)(hj:j<nW l)(hl:u*nW l+j<ws.length)(hw:ws'=ws.set (u*nW l+j) z)(ke:x'.ev=x.ev)(k:Nat)(lW:x'.jo.toNat=x.jo.toNat+k):
  bZ s l (W.set i x') ws' D = { bZ s l W ws D with cell:=SX.eN (bZ s l W ws D).cell u j z,ph:=(bZ s l W ws D).ph.set i (dO x'),jo:=(bZ s l W ws D).jo+k }:=by
 subst hw
 have h0:=tE hu hj
 refine Bp (fun v t=>?_) (fun v=>?_) ?_ rfl ?_ ?_ ?_
 ·show (if _ then _ else _)=SX.eN _ _ _ _ _ _
  unfold SX.eN
  by_cases h:v<nN s∧t<nW l
  ·rw[ah h,jW]
   by_cases e:v=u∧t=j
   ·obtain⟨rfl,rfl⟩:=e
    rw[ah ⟨rfl,hl⟩,ah ⟨rfl,rfl⟩]
   ·rw[ag e,ag fun h2=>e (Ts h.2 hj h2.1.symm)]
    show _=if _ then _ else _
    rw[ah h]
  ·rw[ag h,ag (fun e=>h (by rw[e.1,e.2];exact⟨hu,hj⟩))]
   show _=if _ then _ else _
   rw[ag h]
 ·show decide _=decide _
  rw[jW,ag (by omega)]
 ·show ((ws.set _ _).getD _ 0).toNat=(ws.getD _ 0).toNat
  rw[jW,ag (by omega)]
 ·show (W.set i x').map dO=(W.map dO).set i (dO x')
  rw[nU]
 ·exact uM hx (by rw[ke])
 ·show SX.aI _ _=SX.aI _ _+k
  have:=SX.fK (fun x:WS=>x.jo.toNat) W i x x' hx
  omega
theorem agd{i:Nat}{x x':WS}(hx:W[i]?=some x)(ke:x'.ev.toNat=x.ev.toNat+1)(lW:x'.jo=x.jo):
  bZ s l (W.set i x') ws D = { bZ s l W ws D with ph:=(bZ s l W ws D).ph.set i (dO x'),ev:=(bZ s l W ws D).ev+1 }:=by
 refine Bp (fun _ _=>rfl) (fun _=>rfl) rfl rfl ?_ ?_ ?_
 ·show (W.set i x').map dO=(W.map dO).set i (dO x')
  rw[nU]
 ·show SX.aI _ _=SX.aI _ _+1
  have:=SX.fK (fun x:WS=>x.ev.toNat) W i x x' hx
  omega
 ·exact uM hx (by rw[lW])
theorem agc{i:Nat}{x x':WS}(hx:W[i]?=some x)(ke:x'.ev=x.ev)(k:Nat)(lW:x'.jo.toNat=x.jo.toNat+k):
  bZ s l (W.set i x') ws D = { bZ s l W ws D with ph:=(bZ s l W ws D).ph.set i (dO x'),jo:=(bZ s l W ws D).jo+k }:=by
 refine Bp (fun _ _=>rfl) (fun _=>rfl) rfl rfl ?_ ?_ ?_
 ·show (W.set i x').map dO=(W.map dO).set i (dO x')
  rw[nU]
 ·exact uM hx (by rw[ke])
 ·show SX.aI _ _=SX.aI _ _+k
  have:=SX.fK (fun x:WS=>x.jo.toNat) W i x x' hx
  omega
end
set_option maxHeartbeats 4000000
def gE(s:Sy)(l:Lay)(x:WS)(ws:List Int):WS×List Int:=
 (if (gi bC l x.node x.now ws).2.2=true then eB s l x (gi bC l x.node x.now ws).1 else ⟨x.ev,x.jo,x.en,x.does,(gi bC l x.node x.now ws).1,x.node,x.has,x.nx,x.out⟩,(gi bC l x.node x.now ws).2.1)
theorem rD{s:Sy}{l:Lay}{ev jo:Int}{en:Bool}{does node:Int}{now:Nw}{has:Bool}{nx out:List Int}{ws ws':List Int}{n':Nw}{b:Bool}(h:gi bC l node now ws=(n',ws',b)):gE s l ⟨ev,jo,en,does,now,node,has,nx,out⟩ ws=(if b=true then eB s l ⟨ev,jo,en,does,now,node,has,nx,out⟩ n' else ⟨ev,jo,en,does,n',node,has,nx,out⟩,ws'):=by
 unfold gE;dsimp only;rw[h]
section
variable {l:Lay} {node:Int} {ws ws':List Int} {b:Bool}
theorem Uk{t t':Tk}(h:kR bC t ws=(t',ws',b)):gi bC l node (.take t) ws=(.take t',ws',b):=by
 show (Nw.take (kR bC t ws).1,(kR bC t ws).2)=_;rw[h]
theorem Dt{t t':Jn}(h:iq bC t ws=(t',ws',b)):gi bC l node (.join t) ws=(.join t',ws',b):=by
 show (Nw.join (iq bC t ws).1,(iq bC t ws).2)=_;rw[h]
theorem Ul{t t':List Int}(h:mG bC l (aX l node) t ws=(t',ws',b)):gi bC l node (.read t) ws=(.read t',ws',b):=by
 show (Nw.read (mG bC l (aX l node) t ws).1,(mG bC l (aX l node) t ws).2)=_;rw[h]
theorem afQ{t t':DQ}(h:fx bC t ws=(t',ws',b)):gi bC l node (.pop t) ws=(.pop t',ws',b):=by
 show (Nw.pop (fx bC t ws).1,(fx bC t ws).2)=_;rw[h]
theorem aea{t t':DQ}(h:gx bC t ws=(t',ws',b)):gi bC l node (.push t) ws=(.push t',ws',b):=by
 show (Nw.push (gx bC t ws).1,(gx bC t ws).2)=_;rw[h]
theorem abY{t t':DQ}(h:gJ bC t ws=(t',ws',b)):gi bC l node (.cx t) ws=(.cx t',ws',b):=by
 show (Nw.cx (gJ bC t ws).1,(gJ bC t ws).2)=_;rw[h]
end
def qI(s:Sy)(l:Lay)(hs:LS s l)(W:List WS)(ws:List Int)(D:List (List Nat))(M i:Nat)(X:WS×List Int):Prop:=
 ∃D' T',RJ s l hs (W.set i X.1) X.2 D' T' (M+1)∧SX.Tr (lC s l hs) (bZ s l W ws D) i (bZ s l (W.set i X.1) X.2 D')
section
variable {s:Sy} {l:Lay} {hs:LS s l} {W:List WS} {ws:List Int} {D:List (List Nat)} {T:Nat→Nat} {M:Nat}
theorem xc{α:Type}(f:α→Nat)(m:Nat):∀{l:List α},(∀x∈l,f x≤m)→SX.aI f l≤l.length*m
 | [],_=>bE _
 |a::l,h=>by
  have h1:=h a (bU ..)
  have h2:=xc f m (l:=l) fun x hx=>h x (cQ _ hx)
  show f a+SX.aI f l≤(l.length+1)*m
  rw[p9];omega
theorem LW:∀(n:Nat) (l:List Nat),(∀v,l.count v≤1)→(∀v∈l,v<n)→l.length≤n
 | 0,l,_,h2=>by
  cases l with
  |nil=>exact aR _
  |cons a l=>exact absurd (h2 a (bU ..)) (nV _)
 |n+1,l,h1,h2=>by
  have h3:=LW n (l.erase n) (fun v=>eu (List.Sublist.count_le v (List.erase_sublist ..)) (h1 v)) (fun v hv=>by
   have h4:=h2 v (List.mem_of_mem_erase hv)
   rcases Cl (Ch h4) with h5 | rfl
   ·exact h5
   ·have h6:0<(l.erase v).count v:=List.count_pos_iff.2 hv
    rw[List.count_erase_self]at h6
    have:=h1 v
    omega)
  have h7:l.length≤(l.erase n).length+1:=by
   rw[List.length_erase];split <;> omega
  omega
theorem RJ.BC(hR:RJ s l hs W ws D T M){j:Nat}{c:List Nat}(hc:D[j]?=some c):c.length≤nN s∧∀v∈c,v<nN s:=by
 have h1:∀v∈c,v<nN s:=hR.ti.ng c (cu hc)
 refine⟨LW _ _ (fun v=>?_) h1,h1⟩
 have h2:=hR.ti.tok v
 have h3:c.count v≤SX.aI (fun l:List Nat=>l.count v) D:=SX.Dl (fun l:List Nat=>l.count v) D j c hc
 unfold SX.tok at h2
 have h4:SX.aI (fun l:List Nat=>l.count v) (bZ s l W ws D).dq=SX.aI (fun l:List Nat=>l.count v) D:=rfl
 rw[h4]at h2
 split at h2 <;> omega
theorem RJ.aF(hR:RJ s l hs W ws D T M):ws.getD (nN s*nW l+nN s) 0≤100000:=by
 have h1:=hR.ti.aF
 have hn:=hs.nn
 have hk:=hs.k2
 have hl:=hR.len
 have h2:SX.aI List.length (bZ s l W ws D).dq≤D.length*256:=xc _ _ fun c hc=>by
  obtain⟨j,hj⟩:=sh.1 hc
  have:=(hR.BC hj).1
  omega
 have h3:SX.aI SX.cw (bZ s l W ws D).ph≤(W.map dO).length*2:=xc _ _ fun p _=>by
  cases p <;> simp[SX.cw]
 rw[cj]at h3
 have h4:(bZ s l W ws D).aF=(ws.getD (nN s*nW l+nN s) 0).toNat:=rfl
 have h5:=hR.dl
 have h6:D.length*256≤64*256:=kg _ (by omega)
 have h7:=hR.kl
 omega
theorem RJ.bound(hR:RJ s l hs W ws D T M)(hM:M<1000000000){j:Nat}{c:List Nat}(hc:D[j]?=some c):T j+(iY c).length<4000000000000000000:=by
 have h1:=(hR.BC hc).1
 have h2:=hR.top j
 have h3:=hs.nn
 rw[cj];omega
theorem RJ.at_(hR:RJ s l hs W ws D T M){i:Nat}{x:WS}(hx:W[i]?=some x):∃c,D[i]?=some c:=by
 have hi:=(ck.1 hx).1
 exact⟨D[i]'(by rw[hR.dl];exact hi),bj _⟩
theorem RJ.lo(hR:RJ s l hs W ws D T M):nN s*nW l+nN s<ws.length:=by
 rw[hR.fl]
 have:=hs.size
 have h2:=hs.low
 omega
theorem tI(hR:RJ s l hs W ws D T M)(i:Nat){t:Nat}(h:t≤M+1)(j:Nat):(if j=i then t else T j)≤M+1:=by
 have:=hR.top j
 split <;> omega
theorem n9(hR:RJ s l hs W ws D T M)(j:Nat):T j≤M+1:=by
 have:=hR.top j
 omega
theorem jK{A:SX.AP}{S S' S'':SX.AS}{i:Nat}(e:S'=S'')(h:SX.Tr A S i S''):SX.Tr A S i S':=e▸h
theorem abl(hR:RJ s l hs W ws D T M){i:Nat}{ev jo:Int}{v:Nat}{has:Bool}{nx out:List Int}(hv:v<nN s)
  (hx:W[i]?=some ⟨ev,jo,false,3,.clear ⟨cT l,cE l,v,false⟩,v,has,nx,out⟩) :
  qI s l hs W ws D M i (gE s l ⟨ev,jo,false,3,.clear ⟨cT l,cE l,v,false⟩,v,has,nx,out⟩ ws):=by
 have e:gE s l ⟨ev,jo,false,3,.clear ⟨cT l,cE l,v,false⟩,v,has,nx,out⟩ ws=(⟨ev,jo,false,4,.none,v,has,nx,out⟩,if (0:Int)≤(v:Nat) then gZ ws (wr (cT l+(v:Nat))) 0 else ws):=rfl
 rw[e,ah (by omega),hs.Bi hv,lD]
 have oV:=hR.lo
 refine⟨D,T,RJ.fin hR hx (by rw[cM]) ?_ rfl (pt hR hx (by rw[cM]) (fun a ha=>?_) (fun z h=>by cases h) rfl) (n9 hR) (.inl rfl) (.inl rfl) (fun j h=>by cases h) (fun j h=>by cases h) ?_⟩
 ·rw[jW,ag (by omega)];exact hR.kl
 ·rw[jW,ag (by omega)]
 ·refine jK (Tv (ws:=ws) (D:=D) hx hv (by omega) (by rfl) (by rfl) (by rfl)) ?_
  exact SX.Tr.clear v (mF hx)
theorem abk(hR:RJ s l hs W ws D T M){i:Nat}{ev jo node:Int}{has:Bool}{nx out:List Int}
  (hx:W[i]?=some ⟨ev,jo,false,2,.quiet ⟨cT l,cE l,false,false⟩,node,has,nx,out⟩) :
  qI s l hs W ws D M i (gE s l ⟨ev,jo,false,2,.quiet ⟨cT l,cE l,false,false⟩,node,has,nx,out⟩ ws):=by
 have e:gE s l ⟨ev,jo,false,2,.quiet ⟨cT l,cE l,false,false⟩,node,has,nx,out⟩ ws=(⟨ev,jo,decide (cN ws (cE l)=0),uQ l,.none,node,has,nx,out⟩,ws):=rfl
 rw[e,hs.count,ma]
 have W6:=hR.kl
 refine⟨D,T,RJ.fin hR hx rfl hR.kl rfl (pt hR hx rfl (fun a ha=>rfl) (fun z h=>by cases h) rfl) (n9 hR) (.inl rfl) (.inl rfl) (fun j h=>by cases h) (fun j h=>by cases h) ?_⟩
 refine jK (mc (ws:=ws) (D:=D) hx (fun _ _=>rfl) (by rfl) (by rfl) D) ?_
 by_cases h0:ws.getD (nN s*nW l+nN s) 0=0
 ·rw[aL h0]
  exact SX.Tr.zj (mF hx) (show (ws.getD (nN s*nW l+nN s) 0).toNat=0 by omega)
 ·rw[bH h0]
  have hp:dO ⟨ev,jo,false,uQ l,.none,node,has,nx,out⟩=.idle (if (lC s l hs).k<2 then 0 else 1) 0:=by
   show EV (uQ l) _ _ _ _=.idle (if l.k.toNat<2 then 0 else 1) 0
   unfold uQ
   by_cases hk:l.k<2
   ·rw[ah hk,ah (by omega)];rfl
   ·rw[ag hk,ag (by omega)];rfl
  rw[hp]
  exact SX.Tr.ask (mF hx) (show (ws.getD (nN s*nW l+nN s) 0).toNat≠0 by omega)
theorem ZN(hR:RJ s l hs W ws D T M){i:Nat}{ev jo:Int}{v:Nat}{has:Bool}{nx out:List Int}
  (hx:W[i]?=some ⟨ev,jo,false,8,.dW ⟨cT l,cE l,0,false⟩,v,has,nx,out⟩) :
  qI s l hs W ws D M i (gE s l ⟨ev,jo,false,8,.dW ⟨cT l,cE l,0,false⟩,v,has,nx,out⟩ ws):=by
 have e:gE s l ⟨ev,jo,false,8,.dW ⟨cT l,cE l,0,false⟩,v,has,nx,out⟩ ws=(⟨ev,jo,false,0,.none,v,false,nx,out⟩,nm ws (cE l) 18446744073709551615):=rfl
 have oV:=hR.lo
 have W6:=hR.kl
 have hc:=hR.aF
 have h1:1≤(ws.getD (nN s*nW l+nN s) 0).toNat:=by
  have h2:=hR.ti.aF
  have h3:=SX.Dl SX.cw (bZ s l W ws D).ph i _ (mF (s:=s) (l:=l) (ws:=ws) (D:=D) hx)
  have h4:SX.cw (dO ⟨ev,jo,false,8,.dW ⟨cT l,cE l,0,false⟩,v,has,nx,out⟩)=1:=rfl
  have h5:(bZ s l W ws D).aF=(ws.getD (nN s*nW l+nN s) 0).toNat:=rfl
  omega
 have hw:nm ws (cE l) 18446744073709551615=ws.set (nN s*nW l+nN s) (ws.getD (nN s*nW l+nN s) 0-1):=by
  unfold nm
  rw[hs.count,ah (CX (by omega) (by omega)),ma,lD]
  congr 1
  omega
 rw[e,hw]
 refine⟨D,T,RJ.fin hR hx (by rw[cM]) ?_ rfl (pt hR hx (by rw[cM]) (fun a ha=>?_) (fun z h=>by cases h) rfl) (n9 hR) (.inl rfl) (.inl rfl) (fun j h=>by cases h) (fun j h=>by cases h) ?_⟩
 ·rw[jW,ah ⟨rfl,oV⟩];omega
 ·rw[jW,ag (by omega)]
 ·refine jK (UI (ws:=ws) (D:=D) hx oV (by rfl) (by rfl) (by rfl)) ?_
  rw[show (ws.getD (nN s*nW l+nN s) 0-1).toNat=(bZ s l W ws D).aF-1 by show _=(ws.getD (nN s*nW l+nN s) 0).toNat-1;omega]
  exact SX.Tr.dW v (mF hx)
theorem abi(hR:RJ s l hs W ws D T M){i:Nat}{ev jo:Int}{v u:Nat}{has:Bool}{nx out:List Int}(hu:u<nN s)
  (hx:W[i]?=some ⟨ev,jo,false,6,.take ⟨cT l,cE l,u,false,false,false⟩,v,has,u::nx,out⟩) :
  qI s l hs W ws D M i (gE s l ⟨ev,jo,false,6,.take ⟨cT l,cE l,u,false,false,false⟩,v,has,u::nx,out⟩ ws):=by
 have oV:=hR.lo
 obtain⟨k1,k2⟩:=HJ (ws:=ws) (a:=nN s*nW l+u) (by omega) 0 1
 by_cases hf:ws.getD (nN s*nW l+u) 0=0
 ·rw[aL hf]at k1
  rw[ah hf]at k2
  have e:gE s l ⟨ev,jo,false,6,.take ⟨cT l,cE l,u,false,false,false⟩,v,has,u::nx,out⟩ ws=(⟨ev,jo,false,6,.take ⟨cT l,cE l,u,true,false,true⟩,v,has,u::nx,out⟩,ws.set (nN s*nW l+u) 1):=by
   have e1:kR bC ⟨cT l,cE l,u,false,false,false⟩ ws=(⟨cT l,cE l,u,true,false,true⟩,ws.set (nN s*nW l+u) 1,false):=by
    show (if (0:Int)≤(u:Nat) then (if nE ws (wr (cT l+(u:Nat))) 0=true then ((⟨cT l,cE l,u,true,false,true⟩:Tk),iU ws (wr (cT l+(u:Nat))) 0 1,false) else (⟨cT l,cE l,u,false,true,true⟩,iU ws (wr (cT l+(u:Nat))) 0 1,true)) else (⟨cT l,cE l,u,false,true,true⟩,ws,true))=_
    rw[ah (by omega),hs.Bi hu,k1,k2];rfl
   exact rD (Uk e1)
  rw[e]
  refine⟨D,T,RJ.fin hR hx (by rw[cM]) ?_ rfl (pt hR hx (by rw[cM]) (fun a ha=>?_) (fun z h=>by cases h) rfl) (n9 hR) (.inl rfl) (.inl rfl) (fun j h=>by cases h) (fun j h=>by cases h) ?_⟩
  ·rw[jW,ag (by omega)];exact hR.kl
  ·rw[jW,ag (by omega)]
  ·refine jK (Tv (ws:=ws) (D:=D) hx hu (by omega) (by rfl) (by rfl) (by rfl)) ?_
   exact SX.Tr.flag v out u (nx.map Int.toNat) (mF hx) (bH fun h=>h.2 hf)
 ·rw[bH hf]at k1
  rw[ag hf]at k2
  have e:gE s l ⟨ev,jo,false,6,.take ⟨cT l,cE l,u,false,false,false⟩,v,has,u::nx,out⟩ ws=(⟨ev,jo,false,kp (u::nx),.none,v,has,nx,out⟩,ws):=by
   have e1:kR bC ⟨cT l,cE l,u,false,false,false⟩ ws=(⟨cT l,cE l,u,false,true,true⟩,ws,true):=by
    show (if (0:Int)≤(u:Nat) then (if nE ws (wr (cT l+(u:Nat))) 0=true then ((⟨cT l,cE l,u,true,false,true⟩:Tk),iU ws (wr (cT l+(u:Nat))) 0 1,false) else (⟨cT l,cE l,u,false,true,true⟩,iU ws (wr (cT l+(u:Nat))) 0 1,true)) else (⟨cT l,cE l,u,false,true,true⟩,ws,true))=_
    rw[ah (by omega),hs.Bi hu,k1,k2];rfl
   exact rD (Uk e1)
  rw[e]
  refine⟨D,T,RJ.fin hR hx rfl hR.kl rfl (pt hR hx rfl (fun a ha=>rfl) (fun z h=>by cases h) rfl) (n9 hR) (.inl rfl) (.inl rfl) (fun j h=>by cases h) (fun j h=>by cases h) ?_⟩
  refine jK (mc (ws:=ws) (D:=D) hx (fun _ _=>rfl) (by rfl) (by rfl) D) ?_
  dsimp only
  rw[Dq (nx:=nx) (does:=kp (u::nx)) rfl]
  exact SX.Tr.zp v out u (nx.map Int.toNat) (mF hx) (aL ⟨hu,hf⟩)
theorem abh(hR:RJ s l hs W ws D T M){i:Nat}{ev jo:Int}{v u:Nat}{has:Bool}{nx out:List Int}
  (hx:W[i]?=some ⟨ev,jo,false,6,.take ⟨cT l,cE l,u,true,false,true⟩,v,has,u::nx,out⟩) :
  qI s l hs W ws D M i (gE s l ⟨ev,jo,false,6,.take ⟨cT l,cE l,u,true,false,true⟩,v,has,u::nx,out⟩ ws):=by
 have e:gE s l ⟨ev,jo,false,6,.take ⟨cT l,cE l,u,true,false,true⟩,v,has,u::nx,out⟩ ws=(⟨ev,jo,false,7,.none,v,has,u::nx,out⟩,nm ws (cE l) 1):=rfl
 have oV:=hR.lo
 have W6:=hR.kl
 have hc:=hR.aF
 have hw:nm ws (cE l) 1=ws.set (nN s*nW l+nN s) (ws.getD (nN s*nW l+nN s) 0+1):=by
  unfold nm
  rw[hs.count,ah (CX (by omega) (by omega)),ma,lD]
  congr 1
  omega
 rw[e,hw]
 refine⟨D,T,RJ.fin hR hx (by rw[cM]) ?_ rfl (pt hR hx (by rw[cM]) (fun a ha=>?_) (fun z h=>by cases h) rfl) (n9 hR) (.inl rfl) (.inl rfl) (fun j h=>by cases h) (fun j h=>by cases h) ?_⟩
 ·rw[jW,ah ⟨rfl,oV⟩];omega
 ·rw[jW,ag (by omega)]
 ·refine jK (UI (ws:=ws) (D:=D) hx oV (by rfl) (by rfl) (by rfl)) ?_
  rw[show (ws.getD (nN s*nW l+nN s) 0+1).toNat=(bZ s l W ws D).aF+1 by show _=(ws.getD (nN s*nW l+nN s) 0).toNat+1;omega]
  exact SX.Tr.add v out u (nx.map Int.toNat) (mF hx)
theorem adB(hR:RJ s l hs W ws D T M)(hM:M<1000000000)(OA:MV s l ws){i:Nat}{ev jo:Int}{v:Nat}{has:Bool}{nx out y:List Int}(hv:v<nN s)
  (hy:y.length<nW l∨(nW l=0∧y=[])) (hk:∀i,i<y.length→fM s.what s.w i (wd y i)) (hx:W[i]?=some ⟨ev,jo,false,4,.read y,v,has,nx,out⟩) :
  qI s l hs W ws D M i (gE s l ⟨ev,jo,false,4,.read y,v,has,nx,out⟩ ws):=by
 have hE:=(hR.ev _ (cu hx)).1
 have zS:=(hR.ev _ (cu hx)).2.1
 dsimp only at hE zS
 have hew:wr (ev+1)=ev+1:=by show IntKind.i64.wrap _=_;rw[IntKind.wrap_i64];omega
 have done:∀y':List Int,((y.length+1=nW l∧y'=y++[(bZ s l W ws D).cell v y.length])∨(nW l=0∧y'=[]))→eH s.what s.w y'→qI s l hs W ws D M i (eB s l ⟨ev,jo,false,4,.read y,v,has,nx,out⟩ (.read y'),ws):=by
  intro y' ui By
  have hn:iX s v=0:=(GC (Au hs.jf) ⟨by omega,by have:=hs.nn;omega⟩).symm
  rw[acL (SI hn By.v)]
  dsimp only
  rw[hew]
  refine⟨D,T,RJ.fin hR hx rfl hR.kl rfl (pt hR hx rfl (fun a ha=>rfl) (fun z h=>by cases h) rfl) (n9 hR) (.inr rfl) (.inl rfl) (fun j h=>by cases h) (fun j h=>by cases h) ?_⟩
  refine jK (agd (ws:=ws) (D:=D) hx (show (ev+1).toNat=ev.toNat+1 by omega) (by rfl)) ?_
  dsimp only
  rw[Dq (does:=uY s v) rfl]
  exact SX.Tr.y5 v y y' (mF hx) ui
 by_cases hl:y.length<nW l
 ·have ef:cN ws (wr (aX l v+(y.length:Nat)))=(bZ s l W ws D).cell v y.length:=by
   rw[hs.Bm hv hl,ma]
   show _=if _ then _ else _
   rw[ah ⟨hv,hl⟩]
  have nO:=afB (l:=l) (base:=aX l v) hl ef
  have e:gE s l ⟨ev,jo,false,4,.read y,v,has,nx,out⟩ ws=(if decide (y.length+1=cw l.words)=true then eB s l ⟨ev,jo,false,4,.read y,v,has,nx,out⟩ (.read (y++[(bZ s l W ws D).cell v y.length])) else ⟨ev,jo,false,4,.read (y++[(bZ s l W ws D).cell v y.length]),v,has,nx,out⟩,ws):=by
   exact rD (Ul nO)
  rw[e]
  have sS:fM s.what s.w y.length ((bZ s l W ws D).cell v y.length):=by
   rw[← ef,hs.Bm hv hl]
   exact OA.load hv hl
  by_cases he:y.length+1=nW l
  ·rw[ah (aL he)]
   refine done _ (.inl ⟨he,rfl⟩) ((hs.rO).2 ⟨by simp;omega,fun j hj=>?_⟩)
   rw[tR,UZ]
   by_cases h2:j<y.length
   ·rw[ah h2];exact hk j h2
   ·rw[ag h2,ah (by omega),show j=y.length by omega];exact sS
  ·rw[ag (by rw[bH he];decide)]
   refine⟨D,T,RJ.fin hR hx rfl hR.kl rfl (pt hR hx rfl (fun a ha=>rfl) (fun z h=>by cases h) rfl) (n9 hR) (.inl rfl) (.inl rfl) (fun j h=>by cases h) (fun j h=>by cases h) ?_⟩
   refine jK (mc (ws:=ws) (D:=D) hx (fun _ _=>rfl) (by rfl) (by rfl) D) ?_
   exact SX.Tr.y4 v y (mF hx) (show y.length+1<nW l by omega)
 ·obtain⟨h0,rfl⟩:=hy.resolve_left hl
  have e:gE s l ⟨ev,jo,false,4,.read [],v,has,nx,out⟩ ws=(eB s l ⟨ev,jo,false,4,.read [],v,has,nx,out⟩ (.read []),ws):=by
   have e1:mG bC l (aX l v) [] ws=([],ws,true):=ag (by show ¬0<cw l.words;show ¬0<nW l;omega)
   exact rD (Ul e1)
  rw[e]
  exact done _ (.inr ⟨h0,rfl⟩) ((hs.rO).2 ⟨by rw[h0];rfl,fun j hj=>by omega⟩)
theorem TW(hs:LS s l){ev jo:Int}{v u:Nat}{has:Bool}{nx out:List Int}(j:Jn)(lW:0≤jo)(hjo2:jo<1000000000)(hw:j.words=l.words)(BX:j.fy=false):
  ∃x':WS,(if (gO j).2=true then eB s l ⟨ev,jo,false,5,.join j,v,has,u::nx,out⟩ (.join (gO j).1) else ⟨ev,jo,false,5,.join (gO j).1,v,has,u::nx,out⟩)=x'∧dO x'=(SX.fh (lC s l hs) v out u (nx.map Int.toNat) j.at_ j.changed).1∧x'.ev=ev∧x'.jo.toNat=jo.toNat+(SX.fh (lC s l hs) v out u (nx.map Int.toNat) j.at_ j.changed).2∧(x'.jo=jo∨x'.jo=jo+1)∧(∀z,x'.now≠.cx z)∧sE x'.now=none∧(∀j,x'.now=.join j→j.fy=false)∧(∀q,x'.now≠.push q):=by
 have hjw:wr (jo+1)=jo+1:=by show IntKind.i64.wrap _=_;rw[IntKind.wrap_i64];omega
 unfold SX.fh
 by_cases h1:j.at_+1<cw l.words
 ·have zM:gO j=({ j with at_:=j.at_+1 },false):=by unfold gO;rw[hw,ah h1]
  rw[zM,ah (show j.at_+1<(lC s l hs).W from h1)]
  dsimp only
  rw[ag Cj]
  refine⟨_,rfl,?_,rfl,rfl,.inl rfl,fun z h=>Nw.noConfusion h,rfl,fun j' h=>?_,fun q h=>Nw.noConfusion h⟩
  ·show SX.Ph.join _ _ _ _ _ (if j.fy=true then _ else _) _=_
   rw[BX];rfl
  ·cases h;exact BX
 ·have zM:gO j=({ j with at_:=j.at_+1,ended:=true },true):=by unfold gO;rw[hw,ag h1]
  rw[zM,ag (show ¬j.at_+1<(lC s l hs).W from h1)]
  dsimp only
  rw[ah rfl]
  cases hc:j.changed with
  |true=>
   have e:eB s l ⟨ev,jo,false,5,.join j,v,has,u::nx,out⟩ (.join { j with at_:=j.at_+1,ended:=true })=⟨ev,jo+1,false,6,.none,v,has,u::nx,out⟩:=by
    show (if j.changed=true then _ else _)=_
    rw[ah hc]
    dsimp only
    rw[hjw]
   rw[hc]at e
   refine⟨_,e,?_,rfl,?_,.inr rfl,fun z h=>Nw.noConfusion h,rfl,fun j' h=>Nw.noConfusion h,fun q h=>Nw.noConfusion h⟩
   ·rw[ah rfl];rfl
   ·rw[ah rfl];show (jo+1).toNat=jo.toNat+1;omega
  |false=>
   have e:eB s l ⟨ev,jo,false,5,.join j,v,has,u::nx,out⟩ (.join { j with at_:=j.at_+1,ended:=true })=⟨ev,jo,false,kp (u::nx),.none,v,has,nx,out⟩:=by
    show (if j.changed=true then _ else _)=_
    rw[ag (by rw[hc];decide)]
    rfl
   rw[hc]at e
   refine⟨_,e,?_,rfl,?_,.inl rfl,fun z h=>Nw.noConfusion h,rfl,fun j' h=>Nw.noConfusion h,fun q h=>Nw.noConfusion h⟩
   ·rw[ag Cj];exact Dq (nx:=nx) (does:=kp (u::nx)) rfl
   ·rw[ag Cj];rfl
theorem adD(hR:RJ s l hs W ws D T M)(hM:M<1000000000){i:Nat}{ev jo:Int}{v u:Nat}{has:Bool}{nx out:List Int}(hu:u<nN s)(j:Jn)
  (hj:j.base=aX l u∧j.what=l.what∧j.words=l.words∧j.a=out) (k9:j.ended=false) (dV:j.at_≤nW l) (xB:j.at_<nW l∨(j.at_=0∧j.fy=false∧j.changed=false)) (agZ:j.fy=true→j.at_<nW l)
  (hx:W[i]?=some ⟨ev,jo,false,5,.join j,v,has,u::nx,out⟩) :
  qI s l hs W ws D M i (gE s l ⟨ev,jo,false,5,.join j,v,has,u::nx,out⟩ ws):=by
 have hE:=hR.ev _ (cu hx)
 dsimp only at hE
 have hJ:=hR.jn _ (cu hx) j rfl
 have hp:=mF (s:=s) (l:=l) (ws:=ws) (D:=D) hx
 have oV:=hR.lo
 obtain⟨base,what,words,a,changed,ended,tries,at_,fy,xx⟩:=j
 obtain⟨rfl,rfl,rfl,rfl⟩:=hj
 dsimp only at k9 dV xB agZ hJ
 subst k9
 by_cases h0:at_=nW l
 ·obtain⟨h1,h2,h3⟩:=xB.resolve_left (by omega)
  subst h1 h2 h3
  have JC:nW l=0:=h0.symm
  have e:gE s l ⟨ev,jo,false,5,.join ⟨aX l u,l.what,l.words,a,false,false,tries,0,false,xx⟩,v,has,u::nx,a⟩ ws=(⟨ev,jo,false,kp (u::nx),.none,v,has,nx,a⟩,ws):=by
   have e1:iq bC ⟨aX l u,l.what,l.words,a,false,false,tries,0,false,xx⟩ ws=(⟨aX l u,l.what,l.words,a,false,true,tries,0,false,xx⟩,ws,true):=by
    exact ah h0
   exact rD (Dt e1)
  rw[e]
  refine⟨D,T,RJ.fin hR hx rfl hR.kl rfl (pt hR hx rfl (fun a ha=>rfl) (fun z h=>by cases h) rfl) (n9 hR) (.inl rfl) (.inl rfl) (fun j h=>by cases h) (fun j h=>by cases h) ?_⟩
  refine jK (mc (ws:=ws) (D:=D) hx (fun _ _=>rfl) (by rfl) (by rfl) D) ?_
  dsimp only
  rw[Dq (nx:=nx) (does:=kp (u::nx)) rfl]
  exact SX.Tr.none v a u (nx.map Int.toNat) hp JC
 have ab:at_<nW l:=by omega
 have ef:ws.getD (u*nW l+at_) 0=(bZ s l W ws D).cell u at_:=by
  show _=if _ then _ else _
  rw[ah ⟨hu,ab⟩]
 have lI:=tE hu ab
 have JA:=hs.Bm hu ab
 have Oq:=hs.what
 have OT:wd a at_=a.getD at_ 0:=(tR a at_).symm
 cases fy with
 |true=>
  have hJ:=hJ rfl
  obtain⟨k1,k2⟩:=HJ (ws:=ws) (a:=u*nW l+at_) (by omega) xx (dD l.what xx (wd a at_))
  by_cases hf:ws.getD (u*nW l+at_) 0=xx
  ·rw[aL hf]at k1
   rw[ah hf]at k2
   obtain⟨x',kG,q1,q2,q3,q4,q5,q6,q7,q8⟩:=TW hs (ev:=ev) (v:=v) (u:=u) (has:=has) (nx:=nx) (out:=a) ⟨aX l u,l.what,l.words,a,true,false,tries,at_,false,xx⟩ hE.2.2.1 (by omega) rfl rfl
   have e:gE s l ⟨ev,jo,false,5,.join ⟨aX l u,l.what,l.words,a,changed,false,tries,at_,true,xx⟩,v,has,u::nx,a⟩ ws=(x',ws.set (u*nW l+at_) (dD l.what xx (wd a at_))):=by
    have e1:iq bC ⟨aX l u,l.what,l.words,a,changed,false,tries,at_,true,xx⟩ ws=((gO ⟨aX l u,l.what,l.words,a,true,false,tries,at_,false,xx⟩).1,ws.set (u*nW l+at_) (dD l.what xx (wd a at_)),(gO ⟨aX l u,l.what,l.words,a,true,false,tries,at_,false,xx⟩).2):=by
     show (if at_=cw l.words then ((⟨aX l u,l.what,l.words,a,changed,true,tries,at_,true,xx⟩:Jn),ws,true) else if nE ws (wr (aX l u+(at_:Nat))) xx=true then ((gO ⟨aX l u,l.what,l.words,a,true,false,tries,at_,false,xx⟩).1,iU ws (wr (aX l u+(at_:Nat))) xx (dD l.what xx (wd a at_)),(gO ⟨aX l u,l.what,l.words,a,true,false,tries,at_,false,xx⟩).2) else (⟨aX l u,l.what,l.words,a,changed,false,wr (tries+1),at_,false,xx⟩,iU ws (wr (aX l u+(at_:Nat))) xx (dD l.what xx (wd a at_)),false))=_
     rw[ag h0,JA,k1,k2,ah rfl]
    rw[← kG]
    exact rD (Dt e1)
   rw[e]
   refine⟨D,T,RJ.fin hR hx (by rw[cM]) ?_ rfl (pt hR hx (by rw[cM]) (fun a ha=>?_) q5 q6.symm) (n9 hR) (.inl q2) q4 (fun j h h2=>absurd ((q7 j h).symm.trans h2) (by decide)) (fun q h=>absurd h (q8 q)) ?_⟩
   ·rw[jW,ag (by omega)];exact hR.kl
   ·rw[jW,ag (by omega)]
   ·refine jK (acP (ws:=ws) (D:=D) hx hu ab (by omega) (by rfl) q2 _ q3) ?_
    rw[q1]
    rw[OT,Oq]at hJ ⊢
    have h9:xx=(bZ s l W ws D).cell u at_:=hf.symm.trans ef
    have hp:(bZ s l W ws D).ph[i]?=some (.join v a u (nx.map Int.toNat) at_ (some xx) changed):=hp
    rw[h9]at hp hJ ⊢
    exact SX.Tr.zB v a u (nx.map Int.toNat) at_ changed hp ab hJ
  ·rw[bH hf]at k1
   rw[ag hf]at k2
   have e:gE s l ⟨ev,jo,false,5,.join ⟨aX l u,l.what,l.words,a,changed,false,tries,at_,true,xx⟩,v,has,u::nx,a⟩ ws=(⟨ev,jo,false,5,.join ⟨aX l u,l.what,l.words,a,changed,false,wr (tries+1),at_,false,xx⟩,v,has,u::nx,a⟩,ws):=by
    have e1:iq bC ⟨aX l u,l.what,l.words,a,changed,false,tries,at_,true,xx⟩ ws=(⟨aX l u,l.what,l.words,a,changed,false,wr (tries+1),at_,false,xx⟩,ws,false):=by
     show (if at_=cw l.words then ((⟨aX l u,l.what,l.words,a,changed,true,tries,at_,true,xx⟩:Jn),ws,true) else if nE ws (wr (aX l u+(at_:Nat))) xx=true then ((gO ⟨aX l u,l.what,l.words,a,true,false,tries,at_,false,xx⟩).1,iU ws (wr (aX l u+(at_:Nat))) xx (dD l.what xx (wd a at_)),(gO ⟨aX l u,l.what,l.words,a,true,false,tries,at_,false,xx⟩).2) else (⟨aX l u,l.what,l.words,a,changed,false,wr (tries+1),at_,false,xx⟩,iU ws (wr (aX l u+(at_:Nat))) xx (dD l.what xx (wd a at_)),false))=_
     rw[ag h0,JA,k1,k2,ag (by decide)]
    exact rD (Dt e1)
   rw[e]
   refine⟨D,T,RJ.fin hR hx rfl hR.kl rfl (pt hR hx rfl (fun a ha=>rfl) (fun z h=>by cases h) rfl) (n9 hR) (.inl rfl) (.inl rfl) (fun j h h2=>by cases h;cases h2) (fun j h=>by cases h) ?_⟩
   refine jK (mc (ws:=ws) (D:=D) hx (fun _ _=>rfl) (by rfl) (by rfl) D) ?_
   exact SX.Tr.lost v a u (nx.map Int.toNat) at_ changed xx hp ab (fun h=>hf (ef.trans h))
 |false=>
  by_cases hf:dD l.what (ws.getD (u*nW l+at_) 0) (wd a at_)=ws.getD (u*nW l+at_) 0
  ·obtain⟨x',kG,q1,q2,q3,q4,q5,q6,q7,q8⟩:=TW hs (ev:=ev) (v:=v) (u:=u) (has:=has) (nx:=nx) (out:=a) ⟨aX l u,l.what,l.words,a,changed,false,tries,at_,false,ws.getD (u*nW l+at_) 0⟩ hE.2.2.1 (by omega) rfl rfl
   have e:gE s l ⟨ev,jo,false,5,.join ⟨aX l u,l.what,l.words,a,changed,false,tries,at_,false,xx⟩,v,has,u::nx,a⟩ ws=(x',ws):=by
    have e1:iq bC ⟨aX l u,l.what,l.words,a,changed,false,tries,at_,false,xx⟩ ws=((gO ⟨aX l u,l.what,l.words,a,changed,false,tries,at_,false,ws.getD (u*nW l+at_) 0⟩).1,ws,(gO ⟨aX l u,l.what,l.words,a,changed,false,tries,at_,false,ws.getD (u*nW l+at_) 0⟩).2):=by
     show (if at_=cw l.words then ((⟨aX l u,l.what,l.words,a,changed,true,tries,at_,false,xx⟩:Jn),ws,true) else if dD l.what (cN ws (wr (aX l u+(at_:Nat)))) (wd a at_)=cN ws (wr (aX l u+(at_:Nat))) then ((gO ⟨aX l u,l.what,l.words,a,changed,false,tries,at_,false,cN ws (wr (aX l u+(at_:Nat)))⟩).1,ws,(gO ⟨aX l u,l.what,l.words,a,changed,false,tries,at_,false,cN ws (wr (aX l u+(at_:Nat)))⟩).2) else (⟨aX l u,l.what,l.words,a,changed,false,tries,at_,true,cN ws (wr (aX l u+(at_:Nat)))⟩,ws,false))=_
     rw[ag h0,JA,ma,ah hf]
    rw[← kG]
    exact rD (Dt e1)
   rw[e]
   refine⟨D,T,RJ.fin hR hx rfl hR.kl rfl (pt hR hx rfl (fun a ha=>rfl) q5 q6.symm) (n9 hR) (.inl q2) q4 (fun j h h2=>absurd ((q7 j h).symm.trans h2) (by decide)) (fun q h=>absurd h (q8 q)) ?_⟩
   refine jK (agc (ws:=ws) (D:=D) hx q2 _ q3) ?_
   rw[q1]
   refine SX.Tr.same v a u (nx.map Int.toNat) at_ changed hp ab ?_
   show dD s.what _ _=_
   rw[← ef,← OT,← Oq];exact hf
  ·have e:gE s l ⟨ev,jo,false,5,.join ⟨aX l u,l.what,l.words,a,changed,false,tries,at_,false,xx⟩,v,has,u::nx,a⟩ ws=(⟨ev,jo,false,5,.join ⟨aX l u,l.what,l.words,a,changed,false,tries,at_,true,ws.getD (u*nW l+at_) 0⟩,v,has,u::nx,a⟩,ws):=by
    have e1:iq bC ⟨aX l u,l.what,l.words,a,changed,false,tries,at_,false,xx⟩ ws=(⟨aX l u,l.what,l.words,a,changed,false,tries,at_,true,ws.getD (u*nW l+at_) 0⟩,ws,false):=by
     show (if at_=cw l.words then ((⟨aX l u,l.what,l.words,a,changed,true,tries,at_,false,xx⟩:Jn),ws,true) else if dD l.what (cN ws (wr (aX l u+(at_:Nat)))) (wd a at_)=cN ws (wr (aX l u+(at_:Nat))) then ((gO ⟨aX l u,l.what,l.words,a,changed,false,tries,at_,false,cN ws (wr (aX l u+(at_:Nat)))⟩).1,ws,(gO ⟨aX l u,l.what,l.words,a,changed,false,tries,at_,false,cN ws (wr (aX l u+(at_:Nat)))⟩).2) else (⟨aX l u,l.what,l.words,a,changed,false,tries,at_,true,cN ws (wr (aX l u+(at_:Nat)))⟩,ws,false))=_
     rw[ag h0,JA,ma,ag hf]
    exact rD (Dt e1)
   rw[e]
   refine⟨D,T,RJ.fin hR hx rfl hR.kl rfl (pt hR hx rfl (fun a ha=>rfl) (fun z h=>by cases h) rfl) (n9 hR) (.inl rfl) (.inl rfl) (fun j h h2=>by cases h;exact hf) (fun j h=>by cases h) ?_⟩
   refine jK (mc (ws:=ws) (D:=D) hx (fun _ _=>rfl) (by rfl) (by rfl) D) ?_
   have h9:dO ⟨ev,jo,false,5,.join ⟨aX l u,l.what,l.words,a,changed,false,tries,at_,true,ws.getD (u*nW l+at_) 0⟩,v,has,u::nx,a⟩=.join v a u (nx.map Int.toNat) at_ (some ((bZ s l W ws D).cell u at_)) changed:=by rw[← ef];rfl
   rw[h9]
   refine SX.Tr.load v a u (nx.map Int.toNat) at_ changed hp ab ?_
   show ¬dD s.what _ _=_
   rw[← ef,← OT,← Oq];exact hf
end
end Go.Proofs.YtnikdflhefijbaaGreat
