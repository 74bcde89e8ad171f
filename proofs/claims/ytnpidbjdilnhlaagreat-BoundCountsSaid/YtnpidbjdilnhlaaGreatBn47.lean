import Derived.Test.YtnpidbjdilnhlaaGreatBn11
import Derived.Test.YtnpidbjdilnhlaaGreatBn24
import Derived.Test.YtnpidbjdilnhlaaGreatBn12
namespace Go.Proofs.YtnpidbjdilnhlaaGreat
open Go.RowKit
set_option maxRecDepth 100000
set_option maxHeartbeats 4000000
theorem fU(l:List Int)(i j:Nat)(x:Int):(l.set i x).getD j 0=if i=j∧j<l.length then x else l.getD j 0:=by
 rw[List.getD_eq_getElem?_getD,List.getElem?_set,List.getD_eq_getElem?_getD]
 by_cases h:i=j
 ·subst h
  by_cases h2:i<l.length
  ·simp[h2]
  ·simp[h2]
 ·simp[h]
theorem Po{a c m:Nat}(h1:a<c)(h2:c-a<m):¬a % m=c % m:=fun h=>by
 have h3:=Nat.sub_mod_eq_zero_of_mod_eq h.symm
 have h4:=Nat.le_of_dvd (by omega) (Nat.dvd_of_mod_eq_zero h3)
 omega
theorem mN{n:Nat}(h:n<9000000000000000000):wr (n:Int)=n:=by
 show IntKind.i64.wrap _=_
 rw[IntKind.wrap_i64];omega
theorem Au{n:Nat}(h:n<9000000000000000000):wu (n:Int)=n:=by
 show IntKind.u64.wrap _=_
 rw[IntKind.wrap_u64];omega
theorem tQ{bs:Nat}(h:bs<1000000000):eJ (bs:Int)=((bs+1:Nat):Int):=by
 unfold eJ
 exact mN (n:=bs+1) (by omega)
theorem CV{bs:Nat}(h:bs<1000000000)(cap:Int)(i:Nat):jL (bs:Int) cap (i:Nat)=((bs+2+i % rm cap:Nat):Int):=by
 have hr:=sj cap
 have hm:i % rm cap<rm cap:=Nat.mod_lt _ (by omega)
 unfold jL
 rw[show ((bs:Int)+2)=((bs+2:Nat):Int) by omega,mN (by omega),← Int.natCast_emod,mN (by omega),← Int.natCast_add]
 exact mN (by omega)
theorem pN(ws:List Int)(a:Nat):cC ws (a:Int)=ws.getD a 0:=mD
theorem Av(ws:List Int)(a:Nat)(x:Int):fN ws (a:Int) x=ws.set a x:=jJ x
theorem DF{ws:List Int}{a:Nat}(h:a<ws.length)(o x:Int):(lB ws (a:Int) o=decide (ws.getD a 0=o))∧gw ws (a:Int) o x=if ws.getD a 0=o then ws.set a x else ws:=by
 have e:lB ws (a:Int) o=decide (ws.getD a 0=o):=by
  unfold lB
  rw[zn (by omega) (by omega),mD]
  rfl
 refine⟨e,?_⟩
 unfold gw
 rw[e,jJ]
 by_cases h2:ws.getD a 0=o
 ·rw[if_pos h2,if_pos (decide_eq_true h2)]
 ·rw[if_neg h2,decide_eq_false h2,if_neg Bool.false_ne_true]
abbrev Own:Type:=Option (Bool×DQ)
def re:Own→Nat
 | some (true,q)=>if 2≤q.at_ then 1 else 0
 | _=>0
structure DB(bs:Nat)(cap:Int)(ws:List Int)(lo T:Nat)(c:List Int):Prop where
 len:bs+2+rm cap≤ws.length
 top:ws.getD bs 0=(T:Int)
 t1:1≤T
 bot:ws.getD (bs+1) 0=((T+c.length-lo:Nat):Int)
 fits:c.length≤rm cap
 bG:∀i (h:i<c.length),ws.getD (bs+2+(T+i) % rm cap) 0=c[i]
structure El(bs:Nat)(cap:Int)(ws:List Int)(T:Nat)(c:List Int)(q:DQ):Prop where
 base:q.base=bs
 cp:q.cap=cap
 on:q.ended=false
 no:q.ok=false
 wV:q.at_≤3
 b:1≤q.at_→q.b=((T+c.length:Nat):Int)
 room:2≤q.at_→c.length<rm cap
 put:q.at_=3→ws.getD (bs+2+(T+c.length) % rm cap) 0=q.n
structure wo(bs:Nat)(cap:Int)(Th:DQ→Prop)(T:Nat)(c:List Int)(q:DQ):Prop where
 base:q.base=bs
 cp:q.cap=cap
 on:q.ended=false
 FL:q.at_≤5
 no:q.at_≤4→q.ok=false
 b:1≤q.at_→q.b=((T+c.length-1:Nat):Int)
 a3:q.at_=3→∃t:Nat,q.t=t∧t≤T∧(t<T+c.length-1→1≤c.length∧∀z,Th z→z.ended=false→2≤z.at_→z.t<((T+c.length-1:Nat):Int))
 a4:q.at_=4→q.t=q.b∧c.length≤1∧∀x∈c,x=q.x
 a5:q.at_=5→c=[]
structure ThO(bs:Nat)(cap:Int)(T:Nat)(c:List Int)(z:DQ):Prop where
 base:z.base=bs
 cp:z.cap=cap
 no:z.ok=false
 wV:z.at_≤3
 t:1≤z.at_→∃t:Nat,z.t=t∧t≤T∧(2≤z.at_→t=T→0<c.length)∧(z.at_=3→t=T→c.head?=some z.x)
def EZ(bs:Nat)(cap:Int)(ws:List Int)(Th:DQ→Prop)(T:Nat)(c:List Int):Own→Prop
 | none=>True
 | some (false,q)=>El bs cap ws T c q
 | some (true,q)=>wo bs cap Th T c q
structure DI(bs:Nat)(cap:Int)(ws:List Int)(own:Own)(Th:DQ→Prop)(T:Nat)(c:List Int):Prop where
 db:DB bs cap ws (re own) T c
 ow:EZ bs cap ws Th T c own
 th:∀z,Th z→z.ended=false→ThO bs cap T c z
theorem DB.B4{bs:Nat}{cap:Int}{ws ws':List Int}{lo T:Nat}{c:List Int}(h:DB bs cap ws lo T c)(hl:ws'.length=ws.length)(he:∀a,bs≤a→a<bs+2+rm cap→ws'.getD a 0=ws.getD a 0):DB bs cap ws' lo T c:=by
 have hr:=sj cap
 refine⟨by rw[hl];exact h.len,by rw[he _ (by omega) (by omega)];exact h.top,h.t1,by rw[he _ (by omega) (by omega)];exact h.bot,h.fits,fun i hi =>?_⟩
 have hm:(T+i) % rm cap<rm cap:=Nat.mod_lt _ (by omega)
 rw[he _ (by omega) (by omega)]
 exact h.bG i hi
theorem DI.B4{bs:Nat}{cap:Int}{ws ws':List Int}{own:Own}{Th:DQ→Prop}{T:Nat}{c:List Int}(h:DI bs cap ws own Th T c)(hl:ws'.length=ws.length)(he:∀a,bs≤a→a<bs+2+rm cap→ws'.getD a 0=ws.getD a 0):DI bs cap ws' own Th T c:=by
 have hr:=sj cap
 refine⟨h.db.B4 hl he,?_,h.th⟩
 have ho:=h.ow
 match own with
 | none=>trivial
 | some (false,q) =>
  have ho:El bs cap ws T c q:=ho
  refine⟨ho.base,ho.cp,ho.on,ho.no,ho.wV,ho.b,ho.room,fun h3 =>?_⟩
  have hm:(T+c.length) % rm cap<rm cap:=Nat.mod_lt _ (by omega)
  rw[he _ (by omega) (by omega)]
  exact ho.put h3
 | some (true,q)=>exact ho
theorem EZ.nU{bs:Nat}{cap:Int}{ws:List Int}{own:Own}{Th B9:DQ→Prop}{T:Nat}{c:List Int}(h:EZ bs cap ws Th T c own)(hT:∀z,B9 z→z.ended=false→2≤z.at_→Th z):EZ bs cap ws B9 T c own:=by
 match own with
 | none=>trivial
 | some (false,q)=>exact h
 | some (true,q) =>
  have h:wo bs cap Th T c q:=h
  refine⟨h.base,h.cp,h.on,h.FL,h.no,h.b,fun h3 =>?_,h.a4,h.a5⟩
  obtain⟨t,h1,h2,h4⟩:=h.a3 h3
  exact⟨t,h1,h2,fun h5=>⟨(h4 h5).1,fun z h6 h7 h8=>(h4 h5).2 z (hT z h6 h7 h8) h7 h8⟩⟩
theorem DI.nU{bs:Nat}{cap:Int}{ws:List Int}{own:Own}{Th B9:DQ→Prop}{T:Nat}{c:List Int}(h:DI bs cap ws own Th T c)(hT:∀z,B9 z→Th z):DI bs cap ws own B9 T c:=
 ⟨h.db,h.ow.nU fun z hz _ _=>hT z hz,fun z hz=>h.th z (hT z hz)⟩
theorem DI.yw{bs:Nat}{cap:Int}{ws:List Int}{own:Own}{Th:DQ→Prop}{T:Nat}{c:List Int}(h:DI bs cap ws own Th T c){z:DQ}(h0:z.base=bs)(h1:z.cap=cap)(h2:z.ok=false)(h3:z.at_=0):DI bs cap ws own (fun x=>Th x∨x=z) T c:=by
 refine⟨h.db,h.ow.nU fun x hx _ ha =>?_,fun x hx fR =>?_⟩
 ·rcases hx with hx | rfl
  ·exact hx
  ·omega
 ·rcases hx with hx | rfl
  ·exact h.th x hx fR
  ·exact⟨h0,h1,h2,by omega,fun h4=>by omega⟩
theorem DI.push{bs:Nat}{cap:Int}{ws:List Int}{Th:DQ→Prop}{T:Nat}{c:List Int}(h:DI bs cap ws none Th T c){z:DQ}(h0:z.base=bs)(h1:z.cap=cap)(h2:z.ok=false)(h3:z.at_=0)(h4:z.ended=false):DI bs cap ws (some (false,z)) Th T c:=
 ⟨h.db,⟨h0,h1,h4,h2,by omega,fun _=>by omega,fun _=>by omega,fun _=>by omega⟩,h.th⟩
theorem DI.pop{bs:Nat}{cap:Int}{ws:List Int}{Th:DQ→Prop}{T:Nat}{c:List Int}(h:DI bs cap ws none Th T c){z:DQ}(h0:z.base=bs)(h1:z.cap=cap)(h2:z.ok=false)(h3:z.at_=0)(h4:z.ended=false):DI bs cap ws (some (true,z)) Th T c:=by
 refine⟨?_,⟨h0,h1,h4,by omega,fun _=>h2,fun _=>by omega,fun _=>by omega,fun _=>by omega,fun _=>by omega⟩,h.th⟩
 rw[show re (some (true,z))=0 by simp[re,h3]]
 exact h.db
theorem DB.more{bs:Nat}{cap:Int}{ws:List Int}{T:Nat}{c:List Int}(h:DB bs cap ws 0 T c){n:Int}(hf:c.length<rm cap)(hn:ws.getD (bs+2+(T+c.length) % rm cap) 0=n):DB bs cap (ws.set (bs+1) ((T+c.length+1:Nat):Int)) 0 T (c++[n]):=by
 have hr:=sj cap
 have hl:=h.len
 refine⟨by simpa using hl,?_,h.t1,?_,by simp;omega,fun i hi =>?_⟩
 ·rw[fU,if_neg (by omega)];exact h.top
 ·rw[fU,if_pos ⟨rfl,by omega⟩];simp;omega
 ·have hm:(T+i) % rm cap<rm cap:=Nat.mod_lt _ (by omega)
  rw[fU,if_neg (by omega)]
  simp only[List.length_append,List.length_singleton]at hi
  by_cases hic:i<c.length
  ·rw[List.getElem_append_left hic];exact h.bG i hic
  ·obtain rfl:i=c.length:=by omega
   simpa using hn
theorem Yg{bs:Nat}{cap:Int}{ws ws':List Int}{q q':DQ}{e:Bool}{Th:DQ→Prop}{T:Nat}{c:List Int}(h:DI bs cap ws (some (false,q)) Th T c)(dB:bs<1000000000)(hN:T+c.length<4000000000000000000)(hs:fg aT q ws=(q',ws',e)):
  ws'.length=ws.length∧(∀a,¬(bs≤a∧a<bs+2+rm cap)→ws'.getD a 0=ws.getD a 0)∧q'.n=q.n∧q'.base=q.base∧((e=false∧DI bs cap ws' (some (false,q')) Th T c)∨(e=true∧q'.ok=false∧rm cap≤c.length∧DI bs cap ws' none Th T c)∨(e=true∧q'.ok=true∧c.length<rm cap∧DI bs cap ws' none Th T (c++[q.n]))):=by
 have hr:=sj cap
 have ho:El bs cap ws T c q:=h.ow
 have ep:DB bs cap ws 0 T c:=h.db
 have hl:=ep.len
 obtain⟨base,gE,n,ok,ended,at_,b,t,x⟩:=q
 obtain⟨e1,e2,e3,e4,h3,hb,l0,rf⟩:=ho
 dsimp only at e1 e2 e3 e4 h3 hb l0 rf hs
 subst e1 e2 e3 e4
 have h3:at_=0∨at_=1∨at_=2∨at_=3:=by omega
 rcases h3 with rfl | rfl | rfl | rfl
 ·simp only[fg,tQ dB,pN,ep.bot]at hs
  simp at hs
  obtain⟨rfl,rfl,rfl⟩:=hs
  exact⟨rfl,fun _ _=>rfl,rfl,rfl,.inl ⟨rfl,ep,⟨rfl,rfl,rfl,rfl,by simp,fun _=>rfl,fun h=>absurd h (by simp),fun h=>absurd h (by simp)⟩,h.th⟩⟩
 ·have hb:=hb (Nat.le_refl _)
  subst hb
  have e1:wr (wu (((T+c.length:Nat):Int)-(T:Int)))=(c.length:Nat):=by
   rw[show ((T+c.length:Nat):Int)-(T:Int)=(c.length:Nat) by omega,Au (by omega),mN (by omega)]
  by_cases hf:rm gE≤c.length
  ·simp only[fg,pN,ep.top,e1]at hs
   simp[hf]at hs
   obtain⟨rfl,rfl,rfl⟩:=hs
   exact⟨rfl,fun _ _=>rfl,rfl,rfl,.inr (.inl ⟨rfl,rfl,hf,ep,trivial,h.th⟩)⟩
  ·simp only[fg,pN,ep.top,e1]at hs
   simp[hf]at hs
   obtain⟨rfl,rfl,rfl⟩:=hs
   exact⟨rfl,fun _ _=>rfl,rfl,rfl,.inl ⟨rfl,ep,⟨rfl,rfl,rfl,rfl,by simp,fun _=>rfl,fun _=>by omega,fun h=>absurd h (by simp)⟩,h.th⟩⟩
 ·have hb:=hb (by omega)
  have l0:=l0 (Nat.le_refl _)
  subst hb
  have hm:(T+c.length) % rm gE<rm gE:=Nat.mod_lt _ (by omega)
  simp only[fg,CV dB,Av]at hs
  simp at hs
  obtain⟨rfl,rfl,rfl⟩:=hs
  have hd:DB bs gE (ws.set (bs+2+(T+c.length) % rm gE) n) 0 T c:=by
   refine⟨by simpa using hl,?_,ep.t1,?_,ep.fits,fun i hi =>?_⟩
   ·rw[fU,if_neg (by omega)];exact ep.top
   ·rw[fU,if_neg (by omega)];exact ep.bot
   ·have:=Po (a:=T+i) (c:=T+c.length) (m:=rm gE) (by omega) (by omega)
    rw[fU,if_neg (by omega)];exact ep.bG i hi
  refine⟨by simp,fun a ha =>?_,rfl,rfl,.inl ⟨rfl,hd,⟨rfl,rfl,rfl,rfl,by simp,fun _=>rfl,fun _=>l0,fun _ =>?_⟩,h.th⟩⟩
  ·rw[fU,if_neg (by omega)]
  ·rw[fU,if_pos ⟨rfl,by omega⟩]
 ·have hb:=hb (by omega)
  have l0:=l0 (by omega)
  have rf:=rf rfl
  subst hb
  have e1:wu (((T+c.length:Nat):Int)+1)=((T+c.length+1:Nat):Int):=Au (n:=T+c.length+1) (by omega)
  simp only[fg,tQ dB,e1,Av]at hs
  simp only[Bool.false_eq_true,↓reduceIte,Nat.reduceEqDiff,Prod.mk.injEq]at hs
  obtain⟨rfl,rfl,rfl⟩:=hs
  refine⟨by simp,fun a ha =>?_,rfl,rfl,.inr (.inr ⟨rfl,rfl,l0,ep.more l0 rf,trivial,fun z hz eX =>?_⟩)⟩
  ·rw[fU,if_neg (by omega)]
  ·have:=h.th z hz eX
   refine⟨this.base,this.cp,this.no,this.wV,fun h1 =>?_⟩
   obtain⟨t,a1,a2,a3,a4⟩:=this.t h1
   refine⟨t,a1,a2,fun _ _=>by simp,fun h5 h6 =>?_⟩
   have:=a4 h5 h6
   cases c with
   | nil=>cases this
   | cons y c=>exact this
theorem ZU{bs:Nat}{cap:Int}{ws ws':List Int}{q q':DQ}{e:Bool}{Th:DQ→Prop}{T:Nat}{c:List Int}(h:DI bs cap ws (some (true,q)) Th T c)(dB:bs<1000000000)(hN:T+c.length<4000000000000000000)(hs:ei aT q ws=(q',ws',e)):
  ws'.length=ws.length∧(∀a,¬(bs≤a∧a<bs+2+rm cap)→ws'.getD a 0=ws.getD a 0)∧q'.base=q.base∧
  ((e=false∧(q.at_=5→False)∧(q'.at_=5→q'.ok=false)∧DI bs cap ws' (some (true,q')) Th T c)∨
   (e=false∧q'.at_=5∧q'.ok=true∧c=[q'.x]∧DI bs cap ws' (some (true,q')) Th (T+1) [])∨
   (e=true∧q'.ok=false∧(q.at_=5→q.ok=false)∧c=[]∧DI bs cap ws' none Th T c)∨
   (e=true∧q'.ok=true∧q.at_=3∧∃c',c=c'++[q'.n]∧DI bs cap ws' none Th T c')∨
   (e=true∧q'.ok=true∧q.at_=5∧q.ok=true∧q'.n=q.x∧c=[]∧DI bs cap ws' none Th T [])):=by
 have hr:=sj cap
 have ho:wo bs cap Th T c q:=h.ow
 have ep:=h.db
 have hl:=ep.len
 have BE:=ep.t1
 have ni:=ep.fits
 obtain⟨base,gE,n,ok,ended,at_,b,t,x⟩:=q
 obtain⟨e1,e2,e3,h5,iK,hb,ha3,ha4,ha5⟩:=ho
 dsimp only at e1 e2 e3 h5 iK hb ha3 ha4 ha5 hs
 subst e1 e2 e3
 have h5:at_=0∨at_=1∨at_=2∨at_=3∨at_=4∨at_=5:=by omega
 have ac7:((T+c.length:Nat):Int)-1=((T+c.length-1:Nat):Int):=by omega
 have AF:wu (((T+c.length-1:Nat):Int)+1)=((T+c.length:Nat):Int):=by
  rw[show ((T+c.length-1:Nat):Int)+1=((T+c.length:Nat):Int) by omega,Au (by omega)]
 rcases h5 with rfl | rfl | rfl | rfl | rfl | rfl
 ·have iK:ok=false:=iK (by omega)
  subst iK
  have hd:DB bs gE ws 0 T c:=ep
  have hbt:=hd.bot
  have e1:wu (((T+c.length:Nat):Int)-1)=((T+c.length-1:Nat):Int):=by rw[ac7,Au (by omega)]
  simp only[ei,tQ dB,pN,hbt,Nat.sub_zero,e1]at hs
  simp at hs
  obtain⟨rfl,rfl,rfl⟩:=hs
  exact⟨rfl,fun _ _=>rfl,rfl,.inl ⟨rfl,by simp,by simp,hd,⟨rfl,rfl,rfl,by simp,fun _=>rfl,fun _=>rfl,fun h=>absurd h (by simp),fun h=>absurd h (by simp),fun h=>absurd h (by simp)⟩,h.th⟩⟩
 ·have iK:ok=false:=iK (by omega)
  subst iK
  have hd:DB bs gE ws 0 T c:=ep
  have hb:=hb (Nat.le_refl _)
  subst hb
  simp only[ei,tQ dB,Av]at hs
  simp only[Bool.false_eq_true,↓reduceIte,Nat.reduceEqDiff,Prod.mk.injEq]at hs
  simp at hs
  obtain⟨rfl,rfl,rfl⟩:=hs
  refine⟨by simp,fun a ha =>?_,rfl,.inl ⟨rfl,by simp,by simp,⟨by simpa using hl,?_,BE,?_,ni,fun i hi =>?_⟩,⟨rfl,rfl,rfl,by simp,fun _=>rfl,fun _=>rfl,fun h=>absurd h (by simp),fun h=>absurd h (by simp),fun h=>absurd h (by simp)⟩,h.th⟩⟩
  ·rw[fU,if_neg (by omega)]
  ·rw[fU,if_neg (by omega)];exact hd.top
  ·rw[fU,if_pos ⟨rfl,by omega⟩];rfl
  ·have hm:(T+i) % rm gE<rm gE:=Nat.mod_lt _ (by omega)
   rw[fU,if_neg (by omega)];exact hd.bG i hi
 ·have iK:ok=false:=iK (by omega)
  subst iK
  have hd:DB bs gE ws 1 T c:=ep
  have hb:=hb (by omega)
  subst hb
  simp only[ei,pN,hd.top]at hs
  simp at hs
  obtain⟨rfl,rfl,rfl⟩:=hs
  refine⟨rfl,fun _ _=>rfl,rfl,.inl ⟨rfl,by simp,by simp,hd,⟨rfl,rfl,rfl,by simp,fun _=>rfl,fun _=>rfl,fun _=>⟨T,rfl,Nat.le_refl _,fun h5=>⟨by omega,fun z hz eX ki =>?_⟩⟩,fun h=>absurd h (by simp),fun h=>absurd h (by simp)⟩,h.th⟩⟩
  obtain⟨t,a1,a2,_⟩:=(h.th z hz eX).t (by omega)
  rw[a1];omega
 ·have iK:ok=false:=iK (by omega)
  subst iK
  have hd:DB bs gE ws 1 T c:=ep
  have hb:=hb (by omega)
  subst hb
  obtain⟨tt,rfl,yG,eo⟩:=ha3 rfl
  by_cases h1:T+c.length-1<tt
  ·have hc:c=[]:=List.length_eq_zero_iff.1 (by omega)
   subst hc
   simp only[ei,mN (n:=T+([]:List Int).length-1) (by omega),mN (n:=tt) (by omega),tQ dB,Av,AF]at hs
   have h1:T-1<tt:=h1
   simp[h1]at hs
   obtain⟨rfl,rfl,rfl⟩:=hs
   refine⟨by simp,fun a ha =>?_,rfl,.inr (.inr (.inl ⟨rfl,rfl,by simp,rfl,⟨by simpa using hl,?_,BE,?_,ni,fun i hi=>absurd hi (by simp)⟩,trivial,h.th⟩))⟩
   ·rw[fU,if_neg (by omega)]
   ·rw[fU,if_neg (by omega)];exact hd.top
   ·rw[fU,if_pos ⟨rfl,by omega⟩];rfl
  ·have e1:¬((T+c.length-1:Nat):Int)<(tt:Int):=by omega
   by_cases h2:tt<T+c.length-1
   ·have e2:(tt:Int)<((T+c.length-1:Nat):Int):=by omega
    simp only[ei,mN (n:=T+c.length-1) (by omega),mN (n:=tt) (by omega),if_neg e1,if_pos e2,CV dB,pN]at hs
    simp only[Bool.false_eq_true,↓reduceIte,Nat.reduceEqDiff,Prod.mk.injEq]at hs
    obtain⟨rfl,rfl,rfl⟩:=hs
    obtain⟨km,qi⟩:=eo h2
    have aI:c≠[]:=fun h=>by subst h;simp at km
    have Iy:ws.getD (bs+2+(T+c.length-1) % rm gE) 0=c.getLast aI:=by
     rw[show T+c.length-1=T+(c.length-1) by omega,hd.bG (c.length-1) (by omega),List.getLast_eq_getElem]
    refine⟨rfl,fun _ _=>rfl,rfl,.inr (.inr (.inr (.inl ⟨rfl,rfl,rfl,c.dropLast,?_,⟨hl,hd.top,BE,?_,by simp;omega,fun i hi =>?_⟩,trivial,fun z hz eX =>?_⟩)))⟩
    ·dsimp only
     rw[Iy]
     exact (List.dropLast_concat_getLast aI).symm
    ·rw[hd.bot,List.length_dropLast]
     show ((T+c.length-1:Nat):Int)=((T+(c.length-1)-0:Nat):Int)
     omega
    ·rw[List.getElem_dropLast]
     exact hd.bG i (by simp at hi;omega)
    ·have gp:=h.th z hz eX
     refine⟨gp.base,gp.cp,gp.no,gp.wV,fun ki =>?_⟩
     obtain⟨t,a1,a2,a3,a4⟩:=gp.t ki
     have hz4:2≤z.at_→(t:Int)<((T+c.length-1:Nat):Int):=fun h=>a1▸qi z hz eX h
     refine⟨t,a1,a2,fun h6 h7 =>?_,fun h6 h7 =>?_⟩
     ·have:=hz4 h6;simp;omega
     ·have:=hz4 (by omega)
      have h8:=a4 h6 h7
      match c,h8,km,this,h7 with
      | [y],_,_,h9,h10=>simp at h9;omega
      | y::y2::c,h8,_,_,_=>exact h8
   ·have e2:¬(tt:Int)<((T+c.length-1:Nat):Int):=by omega
    simp only[ei,mN (n:=T+c.length-1) (by omega),mN (n:=tt) (by omega),if_neg e1,if_neg e2,CV dB,pN]at hs
    simp only[Bool.false_eq_true,↓reduceIte,Nat.reduceEqDiff,Prod.mk.injEq]at hs
    obtain⟨rfl,rfl,rfl⟩:=hs
    refine⟨rfl,fun _ _=>rfl,rfl,.inl ⟨rfl,by simp,by simp,hd,⟨rfl,rfl,rfl,by simp,fun _=>rfl,fun _=>rfl,fun h=>absurd h (by simp),fun _=>⟨?_,by omega,fun y hy =>?_⟩,fun h=>absurd h (by simp)⟩,h.th⟩⟩
    ·show (tt:Int)=((T+c.length-1:Nat):Int);omega
    ·have dw:c.length≤1:=by omega
     match c,dw,hy with
     | [y2],_,hy =>
      have:=hd.bG 0 (by simp)
      simp at hy this
      subst hy
      show y=ws.getD (bs+2+(T+1-1) % rm gE) 0
      rw[Nat.add_sub_cancel,List.getD_eq_getElem?_getD]
      exact this.symm
 ·have iK:ok=false:=iK (by omega)
  subst iK
  have hd:DB bs gE ws 1 T c:=ep
  have hb:=hb (by omega)
  subst hb
  obtain⟨rfl,km,hx⟩:=ha4 rfl
  obtain⟨k1,k2⟩:=DF (ws:=ws) (a:=bs) (by omega) ((T+c.length-1:Nat):Int) ((T+c.length:Nat):Int)
  rw[hd.top]at k1 k2
  simp only[ei,AF,k1,k2]at hs
  match c,km with
  | [],_ =>
   have h2:¬((T:Int)=((T+([]:List Int).length-1:Nat):Int)):=by simp;omega
   simp only[if_neg h2,decide_eq_false h2]at hs
   simp only[Bool.false_eq_true,↓reduceIte,Nat.reduceEqDiff,Prod.mk.injEq]at hs
   obtain⟨rfl,rfl,rfl⟩:=hs
   exact⟨rfl,fun _ _=>rfl,rfl,.inl ⟨rfl,by simp,fun _=>rfl,hd,⟨rfl,rfl,rfl,by simp,fun _=>rfl,fun _=>rfl,fun h=>absurd h (by simp),fun h=>absurd h (by simp),fun _=>rfl⟩,h.th⟩⟩
  | [y],_ =>
   have h2:((T:Int)=((T+([y]:List Int).length-1:Nat):Int)):=by simp
   obtain rfl:y=x:=hx y (by simp)
   simp only[if_pos h2,decide_eq_true h2]at hs
   simp only[Bool.false_eq_true,↓reduceIte,Nat.reduceEqDiff,Prod.mk.injEq]at hs
   obtain⟨rfl,rfl,rfl⟩:=hs
   refine⟨by simp,fun a ha =>?_,rfl,.inr (.inl ⟨rfl,rfl,rfl,rfl,⟨by simpa using hl,?_,by omega,?_,by simp,fun i hi=>absurd hi (by simp)⟩,⟨rfl,rfl,rfl,by simp,fun h=>absurd h (by simp),fun _=>by simp,fun h=>absurd h (by simp),fun h=>absurd h (by simp),fun _=>rfl⟩,fun z hz eX =>?_⟩)⟩
   ·rw[fU,if_neg (by omega)]
   ·rw[fU,if_pos ⟨rfl,by omega⟩];simp
   ·rw[fU,if_neg (by omega),hd.bot];simp[re]
   ·have gp:=h.th z hz eX
    refine⟨gp.base,gp.cp,gp.no,gp.wV,fun ki =>?_⟩
    obtain⟨t,a1,a2,a3,a4⟩:=gp.t ki
    exact⟨t,a1,by omega,fun _ h=>by omega,fun _ h=>by omega⟩
 ·have hd:DB bs gE ws 1 T c:=ep
  have hb:=hb (by omega)
  have hc:=ha5 rfl
  subst hc hb
  simp only[ei,AF,tQ dB,Av]at hs
  simp only[Bool.false_eq_true,↓reduceIte,Nat.reduceEqDiff,Prod.mk.injEq]at hs
  obtain⟨rfl,rfl,rfl⟩:=hs
  have mu:DI bs gE (ws.set (bs+1) ((T+([]:List Int).length:Nat):Int)) none Th T []:=by
   refine⟨⟨by simpa using hl,?_,BE,?_,by simp,fun i hi=>absurd hi (by simp)⟩,trivial,h.th⟩
   ·rw[fU,if_neg (by omega)];exact hd.top
   ·rw[fU,if_pos ⟨rfl,by omega⟩];rfl
  refine⟨by simp,fun a ha=>by rw[fU,if_neg (by omega)],rfl,?_⟩
  cases ok with
  | true=>exact .inr (.inr (.inr (.inr ⟨rfl,rfl,rfl,rfl,rfl,rfl,mu⟩)))
  | false=>exact .inr (.inr (.inl ⟨rfl,rfl,fun _=>rfl,rfl,mu⟩))
theorem VM{bs:Nat}{cap:Int}{ws ws':List Int}{q q':DQ}{e:Bool}{own:Own}{Th:DQ→Prop}{T:Nat}{c:List Int}(h:DI bs cap ws own Th T c)(hq:Th q)(jZ:q.ended=false)(dB:bs<1000000000)(hN:T+c.length<4000000000000000000)(hs:fv aT q ws=(q',ws',e)):
  ws'.length=ws.length∧(∀a,¬(bs≤a∧a<bs+2+rm cap)→ws'.getD a 0=ws.getD a 0)∧q'.base=q.base∧
  ((e=false∧q'.ended=false∧DI bs cap ws' own (fun z=>Th z∨z=q') T c)∨(e=true∧q'.ok=false∧DI bs cap ws' own Th T c)∨(e=true∧q'.ok=true∧∃c',c=q'.n::c'∧DI bs cap ws' own Th (T+1) c')):=by
 have hr:=sj cap
 have hz:=h.th q hq jZ
 have ep:=h.db
 have hl:=ep.len
 have BE:=ep.t1
 have ni:=ep.fits
 have wg:=ep.top
 have yl:=ep.bot
 have qi:=h.th
 have gV:=h.ow
 obtain⟨base,gE,n,ok,ended,at_,b,t,x⟩:=q
 obtain⟨e1,e2,e3,h3,ht⟩:=hz
 dsimp only at e1 e2 e3 h3 ht hs jZ
 subst e1 e2 e3 jZ
 have h3:at_=0∨at_=1∨at_=2∨at_=3:=by omega
 have eo:re own≤1:=by unfold re;split <;> (try split) <;> omega
 rcases h3 with rfl | rfl | rfl | rfl
 ·simp only[fv,pN,wg]at hs
  simp at hs
  obtain⟨rfl,rfl,rfl⟩:=hs
  refine⟨rfl,fun _ _=>rfl,rfl,.inl ⟨rfl,rfl,ep,gV.nU fun z hz _ ha =>?_,fun z hz eX =>?_⟩⟩
  ·rcases hz with hz | rfl
   ·exact hz
   ·simp at ha
  ·rcases hz with hz | rfl
   ·exact qi z hz eX
   ·exact⟨rfl,rfl,rfl,by simp,fun _=>⟨T,rfl,Nat.le_refl _,fun h=>absurd h (by simp),fun h=>absurd h (by simp)⟩⟩
 ·obtain⟨tt,rfl,yG,_,_⟩:=ht (Nat.le_refl _)
  clear ht
  have hbw:=mN (n:=T+c.length-re own) (Nat.lt_of_le_of_lt (Nat.sub_le _ _) (Nat.lt_trans hN (by decide)))
  have htw:=mN (n:=tt) (Nat.lt_of_le_of_lt yG (Nat.lt_of_le_of_lt (Nat.le_add_right T c.length) (Nat.lt_trans hN (by decide))))
  by_cases h1:T+c.length-re own≤tt
  ·simp only[fv,tQ dB,pN,yl,hbw,htw]at hs
   simp[h1]at hs
   obtain⟨rfl,rfl,rfl⟩:=hs
   exact⟨rfl,fun _ _=>rfl,rfl,.inr (.inl ⟨rfl,rfl,h⟩)⟩
  ·simp only[fv,tQ dB,pN,yl,hbw,htw]at hs
   simp[h1]at hs
   obtain⟨rfl,rfl,rfl⟩:=hs
   refine⟨rfl,fun _ _=>rfl,rfl,.inl ⟨rfl,rfl,ep,?_,fun z hz eX =>?_⟩⟩
   ·match own,gV,h1 with
    | none,_,_=>trivial
    | some (false,p),hp,_=>exact hp
    | some (true,p),hp,h1 =>
     have hp:wo bs gE Th T c p:=hp
     refine⟨hp.base,hp.cp,hp.on,hp.FL,hp.no,hp.b,fun p3 =>?_,hp.a4,hp.a5⟩
     obtain⟨t3,b1,b2,b3⟩:=hp.a3 p3
     refine⟨t3,b1,b2,fun h5=>⟨(b3 h5).1,fun z hz eX ki =>?_⟩⟩
     rcases hz with hz | rfl
     ·exact (b3 h5).2 z hz eX ki
     ·have e1:re (some (true,p))=1:=by simp[re,p3]
      rw[e1]at h1
      show (tt:Int)<((T+c.length-1:Nat):Int)
      omega
   ·rcases hz with hz | rfl
    ·exact qi z hz eX
    ·exact⟨rfl,rfl,rfl,by simp,fun _=>⟨tt,rfl,yG,fun _ h6=>by omega,fun h=>absurd h (by simp)⟩⟩
 ·obtain⟨tt,rfl,yG,ha,_⟩:=ht (by decide)
  clear ht
  have ha:=ha (Nat.le_refl _)
  simp only[fv,CV dB,pN]at hs
  simp only[Bool.false_eq_true,↓reduceIte,Nat.reduceEqDiff,Prod.mk.injEq]at hs
  obtain⟨rfl,rfl,rfl⟩:=hs
  refine⟨rfl,fun _ _=>rfl,rfl,.inl ⟨rfl,rfl,ep,?_,fun z hz eX =>?_⟩⟩
  ·match own,gV with
   | none,_=>trivial
   | some (false,p),hp=>exact hp
   | some (true,p),hp =>
    have hp:wo bs gE Th T c p:=hp
    refine⟨hp.base,hp.cp,hp.on,hp.FL,hp.no,hp.b,fun p3 =>?_,hp.a4,hp.a5⟩
    obtain⟨t3,b1,b2,b3⟩:=hp.a3 p3
    refine⟨t3,b1,b2,fun h5=>⟨(b3 h5).1,fun z hz eX ki =>?_⟩⟩
    rcases hz with hz | rfl
    ·exact (b3 h5).2 z hz eX ki
    ·have h9:(tt:Int)<((T+c.length-1:Nat):Int):=(b3 h5).2 _ hq rfl (Nat.le_refl _)
     exact h9
  ·rcases hz with hz | rfl
   ·exact qi z hz eX
   ·refine⟨rfl,rfl,rfl,by simp,fun _=>⟨tt,rfl,yG,fun _ h6=>ha h6,fun _ h6 =>?_⟩⟩
    have hc:=ha h6
    subst h6
    have:ws.getD (bs+2+tt % rm gE) 0=c[0]:=ep.bG 0 hc
    show c.head?=some (ws.getD (bs+2+tt % rm gE) 0)
    rw[this,List.head?_eq_getElem?,List.getElem?_eq_getElem hc]
 ·obtain⟨tt,rfl,yG,ha,hb⟩:=ht (by decide)
  clear ht
  have ha:=ha (by omega)
  have hb:=hb rfl
  have e0:wu ((tt:Int)+1)=((tt+1:Nat):Int):=Au (n:=tt+1) (by omega)
  obtain⟨k1,k2⟩:=DF (ws:=ws) (a:=bs) (by omega) (tt:Int) ((tt+1:Nat):Int)
  rw[wg]at k1 k2
  simp only[fv,e0,k1,k2]at hs
  by_cases h1:(T:Int)=tt
  ·simp only[if_pos h1,decide_eq_true h1]at hs
   simp only[Bool.false_eq_true,↓reduceIte,Nat.reduceEqDiff,Prod.mk.injEq]at hs
   obtain⟨rfl,rfl,rfl⟩:=hs
   obtain rfl:tt=T:=by omega
   have hc:=ha rfl
   have hx:=hb rfl
   match c,hc,hx,ni,ep,qi,gV,yl with
   | y::c,_,hx,ni,ep,qi,gV,yl =>
    obtain rfl:y=x:=by simpa using hx
    simp only[List.length_cons]at ni yl
    refine⟨by simp,fun a ha=>by rw[fU,if_neg (by omega)],rfl,.inr (.inr ⟨rfl,rfl,c,rfl,⟨by simpa using hl,?_,by omega,?_,by omega,fun i hi =>?_⟩,?_,fun z hz eX =>?_⟩)⟩
    ·rw[fU,if_pos ⟨rfl,by omega⟩]
    ·rw[fU,if_neg (by omega),yl];congr 1;omega
    ·rw[fU,if_neg (by omega),show tt+1+i=tt+(i+1) by omega]
     exact ep.bG (i+1) (by simp;omega)
    ·match own,gV with
     | none,_=>trivial
     | some (false,p),hp =>
      have hp:El bs gE ws tt (y::c) p:=hp
      have el:tt+(y::c).length=tt+1+c.length:=by simp;omega
      refine⟨hp.base,hp.cp,hp.on,hp.no,hp.wV,fun h=>by rw[hp.b h,el],fun h=>by have:=hp.room h;simp at this;omega,fun h =>?_⟩
      have:=hp.put h
      rw[el]at this
      rw[fU,if_neg (by omega)];exact this
     | some (true,p),hp =>
      have hp:wo bs gE Th tt (y::c) p:=hp
      have el:tt+(y::c).length=tt+1+c.length:=by simp;omega
      refine⟨hp.base,hp.cp,hp.on,hp.FL,hp.no,fun h=>by rw[hp.b h,el],fun h =>?_,fun h =>?_,fun h=>absurd (hp.a5 h) (by simp)⟩
      ·obtain⟨t3,b1,b2,b3⟩:=hp.a3 h
       rw[el]at b3
       refine⟨t3,b1,by omega,fun h5=>⟨?_,(b3 h5).2⟩⟩
       have:=(b3 h5).2 _ hq rfl (by simp)
       have:(tt:Int)<((tt+1+c.length-1:Nat):Int):=this
       omega
      ·obtain⟨b1,b2,b3⟩:=hp.a4 h
       simp at b2
       subst b2
       exact⟨b1,by simp,by simp⟩
    ·have gp:=qi z hz eX
     refine⟨gp.base,gp.cp,gp.no,gp.wV,fun ki =>?_⟩
     obtain⟨t,a1,a2,a3,a4⟩:=gp.t ki
     exact⟨t,a1,by omega,fun _ h=>by omega,fun _ h=>by omega⟩
  ·simp only[if_neg h1,decide_eq_false h1]at hs
   simp only[Bool.false_eq_true,↓reduceIte,Nat.reduceEqDiff,Prod.mk.injEq]at hs
   obtain⟨rfl,rfl,rfl⟩:=hs
   exact⟨rfl,fun _ _=>rfl,rfl,.inr (.inl ⟨rfl,rfl,h⟩)⟩
end Go.Proofs.YtnpidbjdilnhlaaGreat
