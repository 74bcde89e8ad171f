import Derived.ChangeKeysEq
import Derived.Deep.MidRow
import Derived.Laws.Pointers
import Derived.Laws.Small
import Derived.Laws.StructEq
import Derived.Test.YtnikdflhefijbaaGreatBr1
import Derived.OrdersHeld
import Derived.OrdersIn
import Derived.RangeFuncRecord
import Derived.TacticsIn
namespace Go.Proofs.YtnikdflhefijbaaGreat
open Go.RowKit
def TK.fits:TypeDesc→TK→Bool
 |.int k,.int k'=>decide (k=k')
 |.bool,.bool=>true
 |.string,.str=>true
 |.slice e,.slice e'=>decide (e=e')
 |.pointer e,.ptr e'=>decide (e=e')
 |.struct fs,.bB l=>decide (fs.toList.map (fun f=>(f.offset,f.type))=l)
 |.array n e,.arr n' e'=>decide (n=n')&&decide (e=e')
 |.interface _,.iface=>true
 |.func _ _ _,.func=>true
 |.map k e,.map k' e'=>decide (k=k')&&decide (e=e')
 |.float .f64,.gr=>true
 |.complex .f64,.fS=>true
 |_,_=>false
def AV.isVal:AV→Value→Bool
 |.int k n,.int k' n'=>decide (k=k')&&decide (n=n')
 |.bool b,.bool b'=>b == b'
 |.str s,.string s'=>decide (s.size=0)&&decide (s'.size=0)
 |.aG,.pointer none=>true
 |.ak,.slice none 0 0=>true
 |.nilif,.nilIface=>true
 |.iI,.nilFunc=>true
 |.oS,.map none=>true
 |.gr n,.float .f64 b=>decide (n=0)&&decide (b=0)
 |.fS n m,.complex .f64 a b=>decide (n=0∧m=0)&&decide (a=0∧b=0)
 |_,_=>false
def pB:List AV→List Value→Bool
 | [],[]=>true
 |x::xs,v::vs=>x.isVal v&&pB xs vs
 |_,_=>false
def Rg:Value→Bool
 |.agg _=>true
 |_=>false
def FH(P:Program)(t:TypeId)(i:TI):Bool:=
 match P.info? t,P.underlying t with
 |some j,some d=>decide (j.size=i.size)&&(decide (j.bytes=i.bytes∧i.zero.length=i.size)&&(TK.fits d i.k&&(match j.zero with | some z=>pB i.zero z.cells.toList&&(i.wide||!Rg z) | none=>false)))
 |_,_=>false
def dH(P:Program)(TT:TypeId→Option TI):Prop:=∀t i,TT t=some i→FH P t i=true
def RV(P:Program)(TT:TypeId→Option TI)(n:Nat):Bool:=(List.range n).all fun t=>match TT t with | some i=>FH P t i | none=>true
theorem Zq{P:Program}{TT:TypeId→Option TI}{n:Nat}(h:RV P TT n=true)(ho:∀t,n≤t→TT t=none):dH P TT:=by
 intro t i hi
 by_cases ht:t<n
 ·have:=fN.1 h t (gq.2 ht)
  rw[hi]at this
  exact this
 ·rw[ho t (Nat.le_of_not_lt ht)]at hi
  cases hi
theorem dz{P:Program}{TT:TypeId→Option TI}(ok:dH P TT){t:TypeId}{i:TI}(h:TT t=some i):
  ∃j d z,P.info? t=some j∧P.underlying t=some d∧j.size=i.size∧(j.bytes=i.bytes∧i.zero.length=i.size)∧TK.fits d i.k=true∧j.zero=some z∧pB i.zero z.cells.toList=true:=by
 have h1:=ok t i h
 unfold FH at h1
 split at h1
 ·rename_i j d hj hd
  simp only[b9,decide_eq_true_eq]at h1
  obtain⟨h2,h3,h4,h5⟩:=h1
  split at h5
  ·rename_i z hz
   simp only[b9]at h5
   exact⟨j,d,z,hj,hd,h2,h3,h4,hz,h5.1⟩
  ·cases h5
 ·cases h1
theorem P7{P:Program}{TT:TypeId→Option TI}(ok:dH P TT){t:TypeId}{i:TI}(h:TT t=some i)(hw:i.wide=false):∃j z,P.info? t=some j∧j.zero=some z∧Rg z=false:=by
 have h1:=ok t i h
 unfold FH at h1
 split at h1
 ·rename_i j d hj hd
  simp only[b9,decide_eq_true_eq]at h1
  obtain⟨h2,h3,h4,h5⟩:=h1
  split at h5
  ·rename_i z hz
   simp only[b9,o9,hw,uR,false_or,ke]at h5
   exact⟨j,z,hj,hz,h5.2⟩
  ·cases h5
 ·cases h1
theorem fits_int{d:TypeDesc}{k:IntKind}(h:TK.fits d (.int k)=true):d=.int k:=by cases d <;> simp_all [TK.fits]
theorem fits_bool{d:TypeDesc}(h:TK.fits d .bool=true):d=.bool:=by cases d <;> simp_all [TK.fits]
theorem jZ{d:TypeDesc}{e:TypeId}(h:TK.fits d (.slice e)=true):d=.slice e:=by cases d <;> simp_all [TK.fits]
theorem Yj{d:TypeDesc}{k e:TypeId}(h:TK.fits d (.map k e)=true):d=.map k e:=by cases d <;> simp_all [TK.fits]
theorem Et{d:TypeDesc}{e:TypeId}(h:TK.fits d (.ptr e)=true):d=.pointer e:=by cases d <;> simp_all [TK.fits]
theorem HD{d:TypeDesc}{l:List (Nat×TypeId)}(h:TK.fits d (.bB l)=true):∃fs,d=.struct fs∧fs.toList.map (fun f=>(f.offset,f.type))=l:=by cases d <;> simp_all [TK.fits]
theorem PD{d:TypeDesc}{n:Nat}{e:TypeId}(h:TK.fits d (.arr n e)=true):d=.array n e:=by cases d <;> simp_all [TK.fits]
theorem Nu{d:TypeDesc}(h:TK.fits d .iface=true):∃m,d=.interface m:=by cases d <;> simp_all [TK.fits]
theorem OA{d:TypeDesc}(h:TK.fits d .func=true):∃a b c,d=.func a b c:=by cases d <;> simp_all [TK.fits]
theorem Yk{d:TypeDesc}(h:TK.fits d .gr=true):d=.float .f64:=by
 unfold TK.fits at h
 split at h <;> simp_all
theorem Oz{d:TypeDesc}{i:TI}(h:TK.fits d i.k=true):d.isRow=i.wide:=by
 unfold TI.wide
 cases hk:i.k <;> rw[hk]at h <;> cases d <;> first | rfl | simp[TK.fits]at h
theorem Wx{F:Nat→Prop}{w:World}{x:AV}{v:Value}(h:x.isVal v=true):aF F w x v∧x.leaf=true:=by
 unfold AV.isVal at h
 split at h
 ·simp only[b9,decide_eq_true_eq]at h;obtain⟨rfl,rfl⟩:=h;exact⟨.int _ _,rfl⟩
 ·simp only[beq_iff_eq]at h;subst h;exact⟨.bool _,rfl⟩
 ·rename_i s s'
  simp only[b9,decide_eq_true_eq]at h
  obtain⟨h1,h2⟩:=h
  have:s=s':=by
   apply ByteArray.ext
   apply Array.ext
   ·exact h1.trans h2.symm
   ·intro i hi _;have:i<s.size:=hi;omega
  subst this
  exact⟨.str _,rfl⟩
 ·exact⟨.aG,rfl⟩
 ·exact⟨.ak,rfl⟩
 ·exact⟨.nilif,rfl⟩
 ·exact⟨.iI,rfl⟩
 ·exact⟨.oS,rfl⟩
 ·simp only[b9,decide_eq_true_eq]at h;obtain⟨rfl,rfl⟩:=h;exact⟨.gr _ _ Iq,rfl⟩
 ·simp only[b9,decide_eq_true_eq]at h;obtain⟨⟨rfl,rfl⟩,rfl,rfl⟩:=h;exact⟨.fS _ _ _ _ Iq Iq,rfl⟩
 ·cases h
theorem NK{F:Nat→Prop}{w:World}:∀{xs:List AV} {vs:List Value},pB xs vs=true→xs.length=vs.length∧∀i x,xs[i]?=some x→aF F w x (vs.getD i undef)∧x.leaf=true
 | [],[],_=>⟨rfl,fun i x h=>by simp at h⟩
 |x::xs,v::vs,h=>by
  simp only[pB,b9]at h
  obtain⟨h1,h2⟩:=NK (F:=F) (w:=w) h.2
  refine⟨by simp[h1],fun i y hi=>?_⟩
  cases i with
  |zero=>simp at hi;subst hi;simpa using Wx h.1
  |succ i=>simpa using h2 i y (by simpa using hi)
 | [],_::_,h=>by simp[pB]at h
 |_::_,[],h=>by simp[pB]at h
theorem bL.refl(F:Nat→Prop)(w:World):bL F w F w:=⟨rfl,rfl,rfl,bJ _,fun _ h=>h,fun _ _=>rfl,fun _ c _ fz h=>⟨c,fz,h,rfl⟩,bJ _⟩
theorem bL.trans{F F' ny:Nat→Prop}{w w' l7:World}(h:bL F w F' w')(k:bL F' w' ny l7):bL F w ny l7:=
 ⟨k.os.trans h.os,k.tape.trans h.tape,k.output.trans h.output,ey h.size k.size,fun b hb=>k.sub b (h.sub b hb),fun b hb=>(k.fix b (h.sub b hb)).trans (h.fix b hb),
  fun b c T fz hb=>by
   obtain⟨c',qW,h1,h2⟩:=h.rows b c T fz hb
   obtain⟨c'',aeg,h3,h4⟩:=k.rows b c' T qW h1
   exact⟨c'',aeg,h3,h4.trans h2⟩,ey h.drawn k.drawn⟩
theorem Iv{w w':World}{b:Nat}(h:w'.heap[b]?=w.heap[b]?)(o:Nat):w'.cell? ⟨b,o,none⟩=w.cell? ⟨b,o,none⟩:=World.cell?_of_block (w:=w) (a:=⟨b,o,none⟩) h
theorem ui.fix{w w':World}{b o:Nat}{cs:List Value}(h:ui w b o cs)(hb:w'.heap[b]?=w.heap[b]?):ui w' b o cs:=fun j u hu=>(Iv hb _).trans (h j u hu)
theorem nE.mono{F F':Nat→Prop}{w w':World}(ao:bL F w F' w'){b:Nat}(h:nE w b):nE w' b:=by
 obtain⟨c,T,fz,h⟩:=h
 obtain⟨c',qW,h',_⟩:=ao.rows b c T fz h
 exact⟨c',T,qW,h'⟩
theorem FC.mono{F F':Nat→Prop}{w w':World}(ao:bL F w F' w'){b:Nat}(h:FC F w b):FC F' w' b:=⟨ao.sub b h.1,h.2.mono ao⟩
theorem kG.mono{F F':Nat→Prop}{w w':World}(ao:bL F w F' w'):∀(s:Sh) (cs:List Value) (d:s.T),kG F w s cs d→kG F' w' s cs d:=by
 intro s
 induction s with
 |int k=>exact fun _ _ h=>h
 |bool=>exact fun _ _ h=>h
 |str=>exact fun _ _ h=>h
 |nil=>exact fun _ _ h=>h
 |slice e ih=>
  rintro cs l ⟨a,c,h1,h2,h3,h0,h4⟩
  refine⟨a,c,h1,h2,h3,h0,fun bc=>?_⟩
  obtain⟨b,o,rfl,hF,hi⟩:=h4 bc
  refine⟨b,o,rfl,hF.mono ao,fun i h=>?_⟩
  obtain⟨cs',q1,q2,q3⟩:=hi i h
  exact⟨cs',q1,q2.fix (ao.fix b hF.1),ih _ _ q3⟩
 |field f r pS jS=>
  rintro cs d ⟨c1,c2,h1,h2,h3,h4⟩
  exact⟨c1,c2,h1,h2,pS _ _ h3,jS _ _ h4⟩
theorem Cw.mono{F F':Nat→Prop}{w w':World}(ao:bL F w F' w'){b off len e:Nat}{a:Addr}{cap:Nat}(h:Cw w b off len e a cap):Cw w' b off len e a cap:=by
 obtain⟨c,T,fz,h1,h2,h3,h4⟩:=h
 obtain⟨c',qW,h5,h6⟩:=ao.rows b c T fz h1
 exact⟨c',T,qW,h5,h2,h3,by rw[h6];exact h4⟩
theorem aF.mono{F F':Nat→Prop}{w w':World}(ao:bL F w F' w'){x:AV}{v:Value}(h:aF F w x v):aF F' w' x v:=by
 induction h with
 |int k n=>exact .int k n
 |bool b=>exact .bool b
 |str s=>exact .str s
 |af e l v h=>exact .af e l v (kG.mono ao _ _ _ h)
 |km a=>exact .km a
 |gZ a c h=>exact .gZ a c h
 |ak=>exact .ak
 |ah b off len e a cap h=>exact .ah b off len e a cap (h.mono ao)
 |aG=>exact .aG
 |ptr b off h=>exact .ptr b off (h.mono ao)
 |nf b=>exact .nf b
 |nk b=>exact .nk b
 |fY cs b o f hF h1 hl h ih=>exact .fY cs b o f (hF.mono ao) (fun i x hx=>(Iv (ao.fix b hF.1) _).trans (h1 i x hx)) hl ih
 |agg cs vs hs hl h ih=>exact .agg cs vs hs hl ih
 |tup cs vs hs h ih=>exact .tup cs vs hs ih
 |iface t a v h ih=>exact .iface t a v ih
 |nilif=>exact .nilif
 |fn f c1 c2 v1 v2 fE gV h1 h2 CH CG=>exact .fn f c1 c2 v1 v2 fE gV CH CG
 |iI=>exact .iI
 |oS=>exact .oS
 |gr n b h=>exact .gr n b h
 |fS n m a b h1 h2=>exact .fS n m a b h1 h2
 |any v=>exact .any v
 |via x v hl h ih=>exact .via x v hl ih
theorem aF.bZ{F:Nat→Prop}{w:World}{x:AV}{v:Value}(h:aF F w x v):aF F w (Go.Proofs.YtnikdflhefijbaaGreat.bZ x) v:=by
 cases h with
 |via x v hl h=>exact h
 |int k n=>exact .int k n
 |bool b=>exact .bool b
 |str s=>exact .str s
 |af e l v h=>exact .af e l v h
 |km a=>exact .km a
 |gZ a c h=>exact .gZ a c h
 |ak=>exact .ak
 |ah b off len e a cap h=>exact .ah b off len e a cap h
 |aG=>exact .aG
 |ptr b off h=>exact .ptr b off h
 |nf b=>exact .nf b
 |nk b=>exact .nk b
 |fY cs b o f hF h1 hl h=>exact .fY cs b o f hF h1 hl h
 |agg cs vs hs hl h=>exact .agg cs vs hs hl h
 |tup cs vs hs h=>exact .tup cs vs hs h
 |iface t a v h=>exact .iface t a v h
 |nilif=>exact .nilif
 |fn f c1 c2 v1 v2 fE gV h1 h2=>exact .fn f c1 c2 v1 v2 fE gV h1 h2
 |iI=>exact .iI
 |oS=>exact .oS
 |gr n b h=>exact .gr n b h
 |fS n m a b h1 h2=>exact .fS n m a b h1 h2
 |any v=>exact .any v
theorem ja.mono{F F':Nat→Prop}{w w':World}(ao:bL F w F' w'){xs:List AV}{vs:Array Value}(h:ja F w xs vs):ja F' w' xs vs:=⟨h.1,fun i x hx=>(h.2 i x hx).mono ao⟩
theorem aF.one{F:Nat→Prop}{w:World}{x:AV}{v:Value}(h:aF F w x v)(hl:x.leaf=true):v.oneCell'=true:=by
 induction h with
 |af e l v h=>
  obtain⟨a,c,h1,_⟩:=h
  obtain rfl:=GU.1 h1
  rfl
 |agg=>cases hl
 |tup=>cases hl
 |any=>cases hl
 |via x v h1 h ih=>exact ih h1
 |_=>rfl
theorem aF.Cm{F:Nat→Prop}{w:World}{e:Sh}{l:List e.T}{v:Value}(h:aF F w (.af e l) v):∃a c,v=.slice a l.length c∧l.length≤c∧c≤maxLen∧
   (l≠[]→∃b o,a=some ⟨b,o,none⟩∧FC F w b∧∀i,(h:i<l.length)→∃cs',cs'.length=e.size∧ui w b (o+i*e.size) cs'∧kG F w e cs' l[i]):=by
 cases h with
 |af e l v h=>
  obtain⟨a,c,h1,h2,h3,_,h4⟩:=h
  exact⟨a,c,GU.1 h1,h2,h3,h4⟩
theorem aF.aeh{F:Nat→Prop}{w:World}{e:Sh}{l:List e.T}{v:Value}(h:aF F w (.af e l) v){a:Option Addr}{n c:Nat}(hv:v=.slice a n c):a=none→c=0:=by
 cases h with
 |af e l v h=>
  obtain⟨a',c',h1,h2,h3,h4,_⟩:=h
  have:=GU.1 h1
  rw[hv]at this
  cases this
  exact h4
theorem kG.cells{F:Nat→Prop}{w:World}:∀(s:Sh) (cs:List Value) (d:s.T),kG F w s cs d→(s.cells d).length=cs.length∧∀i x,(s.cells d)[i]?=some x→x.leaf=true∧aF F w x (cs.getD i undef):=by
 intro s
 induction s with
 |int k=>rintro cs d h;obtain rfl:cs=[.int k d]:=h;exact⟨rfl,fun i x hx=>by cases i <;> simp[Sh.cells]at hx;subst hx;exact⟨rfl,.int _ _⟩⟩
 |bool=>rintro cs d h;obtain rfl:cs=[.bool d]:=h;exact⟨rfl,fun i x hx=>by cases i <;> simp[Sh.cells]at hx;subst hx;exact⟨rfl,.bool _⟩⟩
 |str=>rintro cs d h;obtain rfl:cs=[.string d]:=h;exact⟨rfl,fun i x hx=>by cases i <;> simp[Sh.cells]at hx;subst hx;exact⟨rfl,.str _⟩⟩
 |nil=>rintro cs d h;obtain rfl:cs=[]:=h;exact⟨rfl,fun i x hx=>by simp[Sh.cells]at hx⟩
 |slice e ih=>
  rintro cs l h
  have h':=h
  obtain⟨a,c,rfl,_⟩:=h'
  exact⟨rfl,fun i x hx=>by cases i <;> simp[Sh.cells]at hx;subst hx;exact⟨rfl,.af e l _ h⟩⟩
 |field f r pS jS=>
  rintro cs d ⟨c1,c2,rfl,h2,h3,h4⟩
  obtain⟨a1,a2⟩:=pS _ _ h3
  obtain⟨b1,b2⟩:=jS _ _ h4
  refine⟨by simp[Sh.cells,a1,b1],fun i x hx=>?_⟩
  simp only[Sh.cells]at hx
  by_cases hi:i<(f.cells d.1).length
  ·rw[ky hi]at hx
   have:=a2 i x hx
   rw[bO,ky (by omega),← bO]
   exact this
  ·rw[iP (by omega)]at hx
   have:=b2 _ x hx
   rw[bO,iP (by omega),← bO,← a1]
   exact this
theorem Sh.sf(s:Sh)(d:s.T):(s.cells d).length=s.size:=by
 induction s with
 |field f r pS jS=>simp[Sh.cells,Sh.size,pS,jS]
 |_=>rfl
def At(F:Nat→Prop)(w:World)(b o:Nat)(cs:List AV):Prop:=∀(i:Nat) (x:AV),cs[i]?=some x→x.leaf=true∧∃v,w.cell? ⟨b,o+i,none⟩=some v∧aF F w x v
theorem HT{x:AV}{o:Obj}(h:vP x=some o):x.leaf=false:=by cases x <;> first | rfl | simp[vP]at h
theorem Nr{x:AV}{c:Array Value}{T:TypeId}{fz:Nat×Nat}(h:vP x=some (.cells c T fz)):False:=by cases x <;> simp[vP]at h
theorem Holds.cells{F:Nat→Prop}{w:World}{b:Nat}{cs:List AV}(h:Holds F w b cs)(hc:nE w b):¬F b∧Fh F w b cs:=by
 obtain⟨hF,h | ⟨x,o,_,h,hx⟩ | ⟨L,t,_,h,_⟩⟩:=h
 ·exact⟨hF,h⟩
 ·obtain⟨c,T,fz,h'⟩:=hc
  rw[h]at h';cases h'
  cases Nr hx
 ·obtain⟨c,T,fz,h'⟩:=hc
  rw[h]at h';cases h'
theorem Holds.JD{F:Nat→Prop}{w:World}{b k:Nat}{cs:List AV}{x:AV}(h:Holds F w b cs)(hk:cs[k]?=some x)(hx:x.leaf=true):¬F b∧Fh F w b cs:=by
 obtain⟨hF,h | ⟨y,o,rfl,h,hy⟩ | ⟨L,t,rfl,h,_⟩⟩:=h
 ·exact⟨hF,h⟩
 ·cases k with
  |zero=>simp at hk;subst hk;rw[HT hy]at hx;cases hx
  |succ k=>simp at hk
 ·cases k with
  |zero=>simp at hk;subst hk;cases hx
  |succ k=>simp at hk
theorem aF.yF{F:Nat→Prop}{w:World}{b o:Nat}{v:Value}(h:aF F w (.ptr b o) v):nE w b:=by cases h;assumption
theorem Holds.at_{F:Nat→Prop}{w:World}{b:Nat}{cs:List AV}(h0:Holds F w b cs)(hc:nE w b):At F w b 0 cs:=by
 obtain⟨_,c,T,h1,h2,h3⟩:=h0.cells hc
 intro i x hx
 have hi:i<cs.length:=(cR.1 hx).1
 obtain⟨h4,h5⟩:=h3 i x hx
 refine⟨h4,c.getD i undef,?_,h5⟩
 rw[dU,IV h1]
 have:i<c.size:=by omega
 simp[Array.getD,this]
theorem At.drop{F:Nat→Prop}{w:World}{b o:Nat}{cs:List AV}(h:At F w b o cs)(k:Nat):At F w b (o+k) (cs.drop k):=by
 intro i x hx
 rw[yo]at hx
 obtain⟨h1,v,h2,h3⟩:=h (k+i) x hx
 exact⟨h1,v,by rw[← h2,Du],h3⟩
theorem At.Qo{F:Nat→Prop}{w:World}{b o:Nat}(s:Sh){cs:List Value}{d:s.T}(h:ui w b o cs)(hr:kG F w s cs d):At F w b o (s.cells d):=by
 obtain⟨h1,h2⟩:=kG.cells s cs d hr
 intro i x hx
 obtain⟨h3,h4⟩:=h2 i x hx
 have hi:i<cs.length:=by rw[← h1];exact (cR.1 hx).1
 exact⟨h3,_,h i _ (by rw[List.getElem?_eq_getElem hi]),by simpa [List.getD,hi]using h4⟩
theorem At.fY{F:Nat→Prop}{w:World}{b o:Nat}{cs:List AV}(h:At F w b o cs)(hF:FC F w b):aF F w (.fY cs) (.pointer (some ⟨b,o,none⟩)):=by
 refine .fY cs b o (fun i=>(w.cell? ⟨b,o+i,none⟩).getD undef) hF (fun i x hx=>?_) (fun i x hx=>(h i x hx).1) (fun i x hx=>?_)
 ·obtain⟨_,v,h2,_⟩:=h i x hx;rw[h2];rfl
 ·obtain⟨_,v,h2,h3⟩:=h i x hx;rw[h2];exact h3
theorem aF.xq{F:Nat→Prop}{w:World}{cs:List AV}{v:Value}(h:aF F w (.fY cs) v):∃b o,v=.pointer (some ⟨b,o,none⟩)∧FC F w b∧At F w b o cs:=by
 cases h with
 |fY cs b o f hF h1 hl h=>exact⟨b,o,rfl,hF,fun i x hx=>⟨hl i x hx,f i,h1 i x hx,h i x hx⟩⟩
section
variable {P:Program} {TT:TypeId→Option TI} {F:Nat→Prop} {w:World}
theorem HP{t:TypeId}{d:TypeDesc}(h:P.underlying t=some d)(w:World):(isAgg t).run P w=.ok d.isRow w:=by
 unfold isAgg
 rw[Sem.run_bind,run_underlying h w]
 cases d <;> rfl
theorem run_sizeOf{t:TypeId}{j:TypeInfo}(h:P.info? t=some j)(w:World):(sizeOf t).run P w=.ok j.size w:=by simp[sizeOf,typeInfo,h]
theorem DS(ok:dH P TT){t:TypeId}{i:TI}(ht:TT t=some i){b o:Nat}{cs:List AV}(h:At F w b o cs){k:Nat}{v:AV}(hv:eF i cs k=some v):
  ∃v',(loadVar t ⟨b,o+k,none⟩).run P w=.ok v' w∧aF F w v v':=by
 obtain⟨j,d,z,hj,hd,hs,hb,hf,hz,gU⟩:=dz ok ht
 have hw:=Oz hf
 unfold eF at hv
 split at hv
 ·rename_i xD
  split at hv
  ·rename_i hle
   have hle:=cp hle
   simp only[Option.some.injEq]at hv
   subst hv
   have hc:∀m,m<i.size→∃x,cs[k+m]?=some x∧x.leaf=true∧∃v,w.cell? ⟨b,o+k+m,none⟩=some v∧aF F w x v:=by
    intro m hm
    have hk:k+m<cs.length:=by omega
    obtain⟨h1,v,h2,h3⟩:=h (k+m) cs[k+m] (by simp[hk])
    exact⟨_,by simp[hk],h1,v,by rw[← h2,Nat.add_assoc],h3⟩
   have hr:w.rangeAt b (o+k) ((List.range i.size).map fun m=>(w.cell? ⟨b,o+k+m,none⟩).getD undef):=by
    intro m v hm
    have hmi:m<i.size:=by have:=(List.getElem?_eq_some_iff.1 hm).1;simpa using this
    obtain⟨x,_,_,v',h2,_⟩:=hc m hmi
    simp[hmi]at hm
    rw[h2]at hm ⊢
    simpa using hm
   refine⟨_,run_loadVar_mid (P:=P) w b (o+k) t _ d hr hd (by rw[hw,xD]) (by simp[hj,hs]),?_⟩
   refine .agg _ _ (by simp;omega) (fun m x hx=>?_) (fun m x hx=>?_)
   ·rw[qc]at hx
    split at hx
    ·rename_i hm
     obtain⟨x',h1,h2,_⟩:=hc m hm
     rw[yo,h1]at hx
     cases hx
     exact h2
    ·cases hx
   ·rw[qc]at hx
    split at hx
    ·rename_i hm
     obtain⟨x',h1,_,v,h2,h3⟩:=hc m hm
     rw[yo,h1]at hx
     cases hx
     simpa [hm,h2]using h3
    ·cases hx
  ·cases hv
 ·rename_i xD
  obtain⟨_,v',h2,h3⟩:=h k v hv
  refine⟨v',?_,h3⟩
  unfold loadVar
  rw[Sem.run_bind,HP hd]
  simp[hw,xD,h2]
def Cv(P:Program)(op:Op)(ρ:Operand→AV)(σ:Hp)(v:AV):Prop:=
 ∀(η:Operand→Value) (F:Nat→Prop) (w:World) (o:Oper),o.op=op→(∀x∈op.operands.toList,aF F w (ρ x) (η x))→bC F w σ→∃v',(execOp η o).run P w=.ok (.value v') w∧aF F w v v'
def e8(P:Program)(op:Op)(ρ:Operand→AV)(v:AV):Prop:=
 ∀(η:Operand→Value) (F:Nat→Prop) (w:World) (o:Oper),o.op=op→(∀x∈op.operands.toList,aF F w (ρ x) (η x))→∃v',(∀w',(execOp η o).run P w'=.ok (.value v') w')∧aF F w v v'
theorem e8.bZ{P:Program}{op:Op}{ρ:Operand→AV}{v:AV}(h:e8 P op (fun x=>Go.Proofs.YtnikdflhefijbaaGreat.bZ (ρ x)) v):e8 P op ρ v:=fun η F w o ho hx=>h η F w o ho (fun x hm=>(hx x hm).bZ)
theorem AK{P:Program}{op:Op}{ρ:Operand→AV}{K:AV→Prop}(h:∃v,K v∧e8 P op (fun x=>Go.Proofs.YtnikdflhefijbaaGreat.bZ (ρ x)) v):∃v,K v∧e8 P op ρ v:=by
 obtain⟨v,h1,h2⟩:=h
 exact⟨v,h1,h2.bZ⟩
theorem e8.adq{P:Program}{op:Op}{ρ:Operand→AV}{v:AV}(h:e8 P op ρ v)(σ:Hp):Cv P op ρ σ v:=fun η F w o ho hx _=>by
 obtain⟨v',h1,h2⟩:=h η F w o ho hx
 exact⟨v',h1 w,h2⟩
theorem bC.at_{F:Nat→Prop}{w:World}{σ:Hp}(h:bC F w σ){j b:Nat}{cs:List AV}(hj:σ[j]?=some (b,cs))(hc:nE w b):At F w b 0 cs:=(h.holds (b,cs) (dm hj)).at_ hc
theorem V0{x:Operand}{ρ:Operand→AV}:e8 P (.move x) ρ (ρ x):=fun η F w o ho hx=>⟨η x,fun _=>by simp[execOp,ho],hx x (by simp[Op.operands])⟩
theorem Uc{x:Operand}{ρ:Operand→AV}:e8 P (.assign x) ρ (ρ x):=fun η F w o ho hx=>⟨η x,fun _=>by simp[execOp,ho],hx x (by simp[Op.operands])⟩
theorem aF.qz{b:Bool}{v:Value}(h:aF F w (.bool b) v):v=.bool b:=by cases h;rfl
theorem aF.gM{k:IntKind}{n:Int}{v:Value}(h:aF F w (.int k n) v):v=.int k n:=by cases h;rfl
theorem aF.FY{n:Int}{v:Value}(h:aF F w (.gr n) v):∃b,v=.float .f64 b∧jn b n:=by cases h with | gr n b h=>exact⟨b,rfl,h⟩
theorem aF.F7{n m:Int}{v:Value}(h:aF F w (.fS n m) v):∃a b,v=.complex .f64 a b∧jn a n∧jn b m:=by cases h with | fS n m a b h1 h2=>exact⟨a,b,rfl,h1,h2⟩
theorem aF.B2{s:ByteArray}{v:Value}(h:aF F w (.str s) v):v=.string s:=by cases h;rfl
theorem aF.tW{b o:Nat}{v:Value}(h:aF F w (.ptr b o) v):v=.pointer (some ⟨b,o,none⟩):=by cases h;rfl
theorem aF.lh{b off len e:Nat}{v:Value}(h:aF F w (.ah b off len e) v):∃a cap,v=.slice (some a) len cap∧Cw w b off len e a cap:=by cases h with | ah _ _ _ _ a cap h=>exact⟨a,cap,rfl,h⟩
theorem aF.sN{cs:List AV}{v:Value}(h:aF F w (.agg cs) v):∃vs,v=.agg vs∧cs.length=vs.size∧(∀(i:Nat) (x:AV),cs[i]?=some x→x.leaf=true∧aF F w x (vs.getD i undef)):=by
 cases h with | agg cs vs hs hl h=>exact⟨vs,rfl,hs,fun i x hx=>⟨hl i x hx,h i x hx⟩⟩
theorem IW{b o:Nat}{v:Value}(h:aF F w (.agg [.ptr b o]) v):v=.agg #[.pointer (some ⟨b,o,none⟩)]∧aF F w (.ptr b o) (.pointer (some ⟨b,o,none⟩)):=by
 obtain⟨vs,rfl,hs,hi⟩:=h.sN
 have h0:=(hi 0 _ rfl).2
 have e:vs = #[vs.getD 0 undef]:=Array.ext (by simpa using hs.symm) fun i h1 h2=>by
  have h3:i=0:=by simpa using h2
  subst h3
  simp[Array.getD,h1]
 have e2:=h0.tW
 rw[e2]at e h0
 exact⟨by rw[e],h0⟩
theorem W5{P:Program}{t:TypeId}{m:String}{x:AV}{u:Value}(h:AheadOk P t m x)(hu:aF F w x u)(w':World):(nilAhead (P.types.size+Made.depth) t u m).run P w'=.ok (some false) w':=by
 unfold AheadOk at h
 split at h
 ·rw[hu.tW];exact h _ w'
 ·rw[(IW hu).1];exact h _ w'
 ·exact h.elim
theorem Wr{P:Program}{t:TypeId}{m:String}{x r:AV}{g:FuncId}{u:Value}(h:MethX P t m x g r)(hu:aF F w x u):∃ru,aF F w r ru∧∀w',(method (P.types.size+Made.depth) t u m).run P w'=.ok (g,ru) w':=by
 unfold MethX at h
 split at h
 ·obtain⟨h,rfl⟩:=h
  refine⟨u,hu,fun w'=>?_⟩
  rw[hu.tW];exact h _ w'
 ·obtain⟨h,rfl⟩:=h
  refine⟨u,hu,fun w'=>?_⟩
  obtain⟨b,o,e,_⟩:=hu.xq
  rw[e];exact h _ w'
 ·obtain⟨h,rfl⟩:=h
  refine⟨_,(IW hu).2,fun w'=>?_⟩
  rw[(IW hu).1];exact h _ w'
 ·exact h.elim
theorem VZ{c a b:Operand}{ρ:Operand→AV}{x:Bool}(h:ρ c=.bool x):e8 P (.pick c a b) ρ (if x then ρ a else ρ b):=by
 intro η F w o ho hx
 have hc:=hx c (by simp[Op.operands])
 have ha:=hx a (by simp[Op.operands])
 have hb:=hx b (by simp[Op.operands])
 rw[h]at hc
 have hc:=hc.qz
 cases x
 ·exact⟨η b,fun _=>by simp[execOp,ho,hc,asBool],hb⟩
 ·exact⟨η a,fun _=>by simp[execOp,ho,hc,asBool],ha⟩
theorem Vh(ok:dH P TT){t:TypeId}{a:Operand}{ρ:Operand→AV}{σ:Hp}{K:AV→Prop}{i:TI}(ht:TT t=some i)(h:pD i (ρ a) σ K):∃v,K v∧Cv P (.load t a) ρ σ v:=by
 unfold pD at h
 split at h
 ·rename_i cs fw
  split at h
  ·rename_i v hv
   refine⟨v,h,fun η F w o ho hx _=>?_⟩
   have ha:=hx a (by simp[Op.operands])
   rw[fw]at ha
   obtain⟨b,o',e,hF,eP⟩:=ha.xq
   obtain⟨v',h1,h2⟩:=DS ok ht eP hv
   rw[uN]at h1
   exact⟨v',by simp[execOp,ho,e,Instr.loadAt,Instr.sureAddr,h1],h2⟩
  ·exact h.elim
 ·rename_i b o' fw
  obtain⟨j,cs,v,h1,h2,go⟩:=h
  refine⟨v,go,fun η F w o ho hx aJ =>?_⟩
  have ha:=hx a (by simp[Op.operands])
  rw[fw]at ha
  obtain⟨v',h3,h4⟩:=DS ok ht (aJ.at_ h1 ha.yF) h2
  rw[dU]at h3
  exact⟨v',by simp[execOp,ho,ha.tW,Instr.loadAt,Instr.sureAddr,h3],h4⟩
 ·exact h.elim
end
section
variable {P:Program} {TT:TypeId→Option TI}
theorem Fj{op:Op}{ρ:Operand→AV}{b o:Nat}{u:Value}(h0:u=.pointer (some ⟨b,o,none⟩))(h:∀(η:Operand→Value) (F:Nat→Prop) (w:World) (o:Oper),o.op=op→(∀x∈op.operands.toList,aF F w (ρ x) (η x))→nE w b∧∀w',(execOp η o).run P w'=.ok (.value u) w'):e8 P op ρ (.ptr b o):=fun η F w o ho hx=>by
 obtain⟨h1,h2⟩:=h η F w o ho hx
 exact⟨u,h2,h0▸.ptr _ _ h1⟩
theorem mR{op:Op}{ρ:Operand→AV}{v:AV}{u:Value}(hu:∀F w,aF F w v u)(h:∀(η:Operand→Value) (F:Nat→Prop) (w:World) (o:Oper),o.op=op→(∀x∈op.operands.toList,aF F w (ρ x) (η x))→∀w',(execOp η o).run P w'=.ok (.value u) w'):e8 P op ρ v:=
 fun η F w o ho hx=>⟨u,h η F w o ho hx,hu F w⟩
theorem qn{b:Bool}{K:AV→Prop}(h:n0 b K):K (.bool b):=by cases b <;> exact h
theorem Vm{op:BinOp}{k:IntKind}{a b:Int}{K:AV→Prop}(lH:op≠.shl∧op≠.shr)(h:FN op k a b K):
  ∃v u,K v∧(∀F w,aF F w v u)∧∀(t:TypeId) (w:World),(binOp op t (.int k a) (.int k b)).run P w=.ok u w:=by
 cases op <;> simp only[FN]at h
 case add=>exact⟨_,_,h,fun _ _=>.int _ _,fun t w=>by simp[binOp,Op.intArith]⟩
 case sub=>exact⟨_,_,h,fun _ _=>.int _ _,fun t w=>by simp[binOp,Op.intArith]⟩
 case mul=>exact⟨_,_,h,fun _ _=>.int _ _,fun t w=>by simp[binOp,Op.intArith]⟩
 case quo=>exact⟨_,_,h.go,fun _ _=>.int _ _,fun t w=>by simp[binOp,Op.intDiv,h.fact]⟩
 case rem=>exact⟨_,_,h.go,fun _ _=>.int _ _,fun t w=>by simp[binOp,Op.intDiv,h.fact]⟩
 case and=>exact⟨_,_,h,fun _ _=>.int _ _,fun t w=>by rw[show binOp .and t (.int k a) (.int k b)=Op.intBits .and k a b by simp[binOp]];rfl⟩
 case or=>exact⟨_,_,h,fun _ _=>.int _ _,fun t w=>by rw[show binOp .or t (.int k a) (.int k b)=Op.intBits .or k a b by simp[binOp]];rfl⟩
 case xor=>exact⟨_,_,h,fun _ _=>.int _ _,fun t w=>by rw[show binOp .xor t (.int k a) (.int k b)=Op.intBits .xor k a b by simp[binOp]];rfl⟩
 case andNot=>exact⟨_,_,h,fun _ _=>.int _ _,fun t w=>by rw[show binOp .andNot t (.int k a) (.int k b)=Op.intBits .andNot k a b by simp[binOp]];rfl⟩
 case eql=>exact⟨_,_,qn h,fun _ _=>.bool _,fun t w=>by simp[binOp,Op.intCmp];exact Bool.beq_eq_decide_eq _ _⟩
 case neq=>exact⟨_,_,qn h,fun _ _=>.bool _,fun t w=>by simp[binOp,Op.intCmp,bne,Bool.beq_eq_decide_eq]⟩
 case lss=>exact⟨_,_,qn h,fun _ _=>.bool _,fun t w=>by simp[binOp,Op.intCmp]⟩
 case leq=>exact⟨_,_,qn h,fun _ _=>.bool _,fun t w=>by simp[binOp,Op.intCmp]⟩
 case gtr=>exact⟨_,_,qn h,fun _ _=>.bool _,fun t w=>by simp[binOp,Op.intCmp]⟩
 case geq=>exact⟨_,_,qn h,fun _ _=>.bool _,fun t w=>by simp[binOp,Op.intCmp]⟩
theorem MA{op:BinOp}{k yk:IntKind}{a b:Int}{K:AV→Prop}(h:EW op k a b K):
  ∃v u,K v∧(∀F w,aF F w v u)∧∀(t:TypeId) (w:World),(binOp op t (.int k a) (.int yk b)).run P w=.ok u w:=by
 cases op <;> simp only[EW]at h
 case shl=>exact⟨_,_,h.go,fun _ _=>.int _ _,fun t w=>by have:=h.fact;simp[binOp,Op.shift,show ¬b<0 by omega]⟩
 case shr=>exact⟨_,_,h.go,fun _ _=>.int _ _,fun t w=>by have:=h.fact;simp[binOp,Op.shift,show ¬b<0 by omega]⟩
theorem uZ{op:BinOp}{t:TypeId}{x y:Operand}{a b:Value}(h:(∀u,a≠.agg u)∧(a≠.nilIface∨b≠.nilIface))(w:World):(eqGuard op t x y a b).run P w=.ok () w:=by
 obtain⟨h1,h2⟩:=h
 cases op <;> first
  |rfl
  |(cases a <;> first
    |rfl
    |exact absurd rfl (h1 _)
    |(cases b <;> first
      |rfl
      |exact absurd rfl (h2.resolve_left (by simp))))
theorem MU{op:BinOp}{t:TypeId}{x:Operand}{v:Value}{a b:Value}(w:World)(h:∀u,a≠.agg u):(eqGuard op t x (.const v) a b).run P w=.ok () w:=by
 by_cases hn:a=.nilIface∧b=.nilIface
 ·obtain⟨rfl,rfl⟩:=hn
  cases op <;> first | rfl | simp[eqGuard]
 ·exact uZ ⟨h,by by_cases ha:a=.nilIface;exact .inr fun hb=>hn ⟨ha,hb⟩;exact .inl ha⟩ w
theorem qZ{η:Operand→Value}{o:Oper}{op:BinOp}{t yt:TypeId}{x y:Operand}{w:World}{u:Value}(ho:o.op=.binOp op t x y yt)(hg:(eqGuard op t x y (η x) (η y)).run P w=.ok () w)(h:(binOp op t (η x) (η y)).run P w=.ok u w):
  (execOp η o).run P w=.ok (.value u) w:=by
 simp[execOp,ho,hg,h]
theorem qi{t:TypeId}(a b:Value)(w:World):
  (Op.equal t a b).run P w=(Op.equalIn (9999+1) t a b).run P w:=rfl
theorem MT(ok:dH P TT){t:TypeId}{i:TI}(ht:TT t=some i){x y:AV}{want:Bool}{K:AV→Prop}(h:zh i.k want x y K):
  ∃r:Bool,K (.bool (r == want))∧∀(F:Nat→Prop) (w:World) (a b:Value),aF F w x a→aF F w y b→(∀u,a≠.agg u)∧(∀w',(Op.equal t a b).run P w'=.ok r w')∧
   binOp .eql t a b=(do pure (.bool (← Op.equal t a b)))∧binOp .neq t a b=(do pure (.bool (!(← Op.equal t a b)))):=by
 obtain⟨j,d,z,hj,hd,_,_,hf,_,_⟩:=dz ok ht
 unfold zh at h
 split at h
 ·rename_i e hk
  rw[hk]at hf;have:=Et hf;subst this
  refine⟨true,by simpa using h,fun F w a b ha hb=>?_⟩
  cases ha;cases hb
  exact⟨by simp,fun w'=>by rw[qi,Op.equalIn,Sem.run_bind,run_underlying hd];rfl,rfl,rfl⟩
 ·rename_i e b' o' hk
  rw[hk]at hf;have:=Et hf;subst this
  refine⟨false,by simpa using h,fun F w a b ha hb=>?_⟩
  cases ha;cases hb
  exact⟨by simp,fun w'=>by rw[qi,Op.equalIn,Sem.run_bind,run_underlying hd];rfl,rfl,rfl⟩
 ·rename_i e cs hk
  rw[hk]at hf;have:=Et hf;subst this
  refine⟨false,by simpa using h,fun F w a b ha hb=>?_⟩
  obtain⟨_,_,rfl,_⟩:=ha.xq
  cases hb
  exact⟨by simp,fun w'=>by rw[qi,Op.equalIn,Sem.run_bind,run_underlying hd];rfl,rfl,rfl⟩
 ·rename_i e hk
  rw[hk]at hf;have:=jZ hf;subst this
  refine⟨true,by simpa using h,fun F w a b ha hb=>?_⟩
  cases ha;cases hb
  exact⟨by simp,fun w'=>by rw[qi,Op.equalIn,Sem.run_bind,run_underlying hd];rfl,rfl,rfl⟩
 ·rename_i e _ _ _ _ hk
  rw[hk]at hf;have:=jZ hf;subst this
  refine⟨false,by simpa using h,fun F w a b ha hb=>?_⟩
  obtain⟨_,_,rfl,_⟩:=ha.lh
  cases hb
  exact⟨by simp,fun w'=>by rw[qi,Op.equalIn,Sem.run_bind,run_underlying hd];rfl,rfl,rfl⟩
 ·rename_i e hk
  rw[hk]at hf;have:=jZ hf;subst this
  refine⟨false,by simpa using h,fun F w a b ha hb=>?_⟩
  cases ha;cases hb
  exact⟨by simp,fun w'=>by rw[qi,Op.equalIn,Sem.run_bind,run_underlying hd];rfl,rfl,rfl⟩
 ·rename_i e s l hk
  rw[hk]at hf;have:=jZ hf;subst this
  refine⟨false,by simpa using h.go,fun F w a b ha hb=>?_⟩
  obtain⟨_,c,rfl,_,_,h4⟩:=ha.Cm
  obtain⟨b',o,rfl,_⟩:=h4 (List.ne_nil_of_length_pos h.fact)
  cases hb
  exact⟨by simp,fun w'=>by rw[qi,Op.equalIn,Sem.run_bind,run_underlying hd];rfl,rfl,rfl⟩
 ·rename_i hk
  rw[hk]at hf;obtain⟨m,rfl⟩:=Nu hf
  refine⟨true,by simpa using h,fun F w a b ha hb=>?_⟩
  cases ha;cases hb
  exact⟨by simp,fun w'=>by rw[qi,Op.equalIn,Sem.run_bind,run_underlying hd];rfl,rfl,rfl⟩
 ·rename_i _ _ hk
  rw[hk]at hf;obtain⟨m,rfl⟩:=Nu hf
  refine⟨false,by simpa using h,fun F w a b ha hb=>?_⟩
  cases ha;cases hb
  exact⟨by simp,fun w'=>by rw[qi,Op.equalIn,Sem.run_bind,run_underlying hd];rfl,rfl,rfl⟩
 ·rename_i hk
  rw[hk]at hf;obtain⟨_,_,_,rfl⟩:=OA hf
  refine⟨true,by simpa using h,fun F w a b ha hb=>?_⟩
  cases ha;cases hb
  exact⟨by simp,fun w'=>by rw[qi,Op.equalIn,Sem.run_bind,run_underlying hd];rfl,rfl,rfl⟩
 ·rename_i _ _ _ hk
  rw[hk]at hf;obtain⟨_,_,_,rfl⟩:=OA hf
  refine⟨false,by simpa using h,fun F w a b ha hb=>?_⟩
  cases ha;cases hb
  exact⟨by simp,fun w'=>by rw[qi,Op.equalIn,Sem.run_bind,run_underlying hd];rfl,rfl,rfl⟩
 ·exact h.elim
theorem WX(ok:dH P TT){op:BinOp}{t yt:TypeId}{x y:Operand}{ρ:Operand→AV}{K:AV→Prop}(h:Cp TT op t y (ρ x) (ρ y) K):∃v,K v∧e8 P (.binOp op t x y yt) ρ v:=by
 unfold Cp at h
 split at h
 ·rename_i k a k' b hx hy
  have fin:(∃v u,K v∧(∀F w,aF F w v u)∧∀(t:TypeId) (w:World),(binOp op t (.int k a) (.int k' b)).run P w=.ok u w)→∃v,K v∧e8 P (.binOp op t x y yt) ρ v:=by
   rintro⟨v,u,hk,hu,hr⟩
   refine⟨v,hk,mR hu fun η F w o ho a6=>?_⟩
   have h1:=a6 x (by simp[Op.operands])
   have h2:=a6 y (by simp[Op.operands])
   rw[hx]at h1;rw[hy]at h2
   have e1:=h1.gM;have e2:=h2.gM
   intro w
   refine qZ ho ?_ ?_
   ·rw[e1,e2];exact uZ ⟨by simp,.inl (by simp)⟩ w
   ·rw[e1,e2];exact hr t w
  split at h
  ·exact fin (MA h)
  ·exact fin (MA h)
  ·rename_i qP mG
   split at h
   ·rename_i hk
    have:=fk hk
    subst this
    exact fin (Vm ⟨qP,mG⟩ h)
   ·exact h.elim
 ·rename_i a b hx hy
  split at h
  ·rename_i s b' z' ht
   obtain⟨j,d,z,hj,hd,_,_,hf,_,_⟩:=dz ok ht
   have:=fits_bool hf;subst this
   have he:∀w,(Op.equal t (.bool a) (.bool b)).run P w=.ok (a == b) w:=fun w=>by rw[qi,Op.equalIn,Sem.run_bind,run_underlying hd];rfl
   split at h
   ·refine⟨_,qn h,mR (fun _ _=>.bool _) fun η F w o ho a6=>?_⟩
    have h1:=a6 x (by simp[Op.operands])
    have h2:=a6 y (by simp[Op.operands])
    rw[hx]at h1;rw[hy]at h2
    have e1:=h1.qz;have e2:=h2.qz
    intro w
    refine qZ ho ?_ ?_
    ·rw[e1,e2];exact uZ ⟨by simp,.inl (by simp)⟩ w
    ·rw[e1,e2];simp[binOp,he]
   ·refine⟨_,qn h,mR (fun _ _=>.bool _) fun η F w o ho a6=>?_⟩
    have h1:=a6 x (by simp[Op.operands])
    have h2:=a6 y (by simp[Op.operands])
    rw[hx]at h1;rw[hy]at h2
    have e1:=h1.qz;have e2:=h2.qz
    intro w
    refine qZ ho ?_ ?_
    ·rw[e1,e2];exact uZ ⟨by simp,.inl (by simp)⟩ w
    ·rw[e1,e2];simp[binOp,he]
   ·exact h.elim
  ·exact h.elim
 ·rename_i a b hx hy
  have fin:∀r:Bool,K (.bool r)→(∀w,(binOp op t (.string a) (.string b)).run P w=.ok (.bool r) w)→∃v,K v∧e8 P (.binOp op t x y yt) ρ v:=by
   intro r hk hr
   refine⟨_,hk,mR (fun _ _=>.bool _) fun η F w o ho a6=>?_⟩
   have h1:=a6 x (by simp[Op.operands])
   have h2:=a6 y (by simp[Op.operands])
   rw[hx]at h1;rw[hy]at h2
   have e1:=h1.B2;have e2:=h2.B2
   intro w
   refine qZ ho ?_ ?_
   ·rw[e1,e2];exact uZ ⟨by simp,.inl (by simp)⟩ w
   ·rw[e1,e2];exact hr w
  split at h
  ·exact fin _ (qn h) fun w=>rfl
  ·exact fin _ (qn h) fun w=>rfl
  ·exact h.elim
 ·split at h
  ·rename_i i hc ht
   obtain⟨cv,rfl⟩:∃cv,y=.const cv:=by cases y <;> first | exact⟨_,rfl⟩ | cases hc
   split at h
   ·obtain⟨r,hk,hr⟩:=MT ok ht h
    refine⟨_,hk,mR (fun _ _=>.bool _) fun η F w o ho a6=>?_⟩
    obtain⟨g1,g2,g3,g4⟩:=hr F w _ _ (a6 x (by simp[Op.operands])) (a6 (.const cv) (by simp[Op.operands]))
    exact fun w=>qZ ho (MU w g1) (by rw[g3];simp[g2])
   ·obtain⟨r,hk,hr⟩:=MT ok ht h
    refine⟨_,hk,mR (fun _ _=>.bool _) fun η F w o ho a6=>?_⟩
    obtain⟨g1,g2,g3,g4⟩:=hr F w _ _ (a6 x (by simp[Op.operands])) (a6 (.const cv) (by simp[Op.operands]))
    exact fun w=>qZ ho (MU w g1) (by rw[g4];simp[g2])
   ·exact h.elim
  ·exact h.elim
end
section
variable {P:Program} {TT:TypeId→Option TI}
theorem HG{F:Nat→Prop}{w:World}{x:AV}{v:Value}{cs:List AV}(h:aF F w x v)(hc:x.cells?=some cs):
  v.cells.size=cs.length∧∀(i:Nat) (y:AV),cs[i]?=some y→y.leaf=true∧aF F w y (v.cells.getD i undef):=by
 have one:∀(hl:x.leaf=true),some [x]=some cs→v.cells.size=cs.length∧∀(i:Nat) (y:AV),cs[i]?=some y→y.leaf=true∧aF F w y (v.cells.getD i undef):=by
  intro hl e
  have e:=Option.some.inj e
  subst e
  have h1:=h.one hl
  have hv:v.cells = #[v]:=by cases v <;> first | rfl | cases h1
  rw[hv]
  exact⟨rfl,fun i y hi=>by cases i <;> simp at hi;subst hi;exact⟨hl,h⟩⟩
 cases x with
 |agg cs'=>
  obtain rfl:=Option.some.inj hc
  obtain⟨vs,rfl,h1,h2⟩:=h.sN
  exact⟨h1.symm,h2⟩
 |tup=>cases hc
 |any=>cases hc
 |nT=>cases hc
 |rD=>cases hc
 |mu=>cases hc
 |_=>exact one rfl hc
def oW(F:Nat→Prop)(w:World)(cs:List AV)(vs:Array Value):Prop:=cs.length=vs.size∧∀(i:Nat) (x:AV),cs[i]?=some x→x.leaf=true∧aF F w x (vs.getD i undef)
theorem oW.set{F:Nat→Prop}{w:World}{cs:List AV}{vs:Array Value}(h:oW F w cs vs)(k:Nat){x:AV}{v:Value}(hl:x.leaf=true)(hx:aF F w x v):oW F w (cs.set k x) (vs.setIfInBounds k v):=by
 refine⟨by simp[h.1],fun i y hi=>?_⟩
 rw[gX]at hi
 by_cases hk:k=i
 ·subst hk
  by_cases ab:k<cs.length
  ·simp[ab]at hi
   subst hi
   have:k<vs.size:=by rw[← h.1];exact ab
   exact⟨hl,by simpa [Array.getD,this]using hx⟩
  ·simp[ab]at hi
 ·simp[hk]at hi
  obtain⟨h1,h2⟩:=h.2 i y hi
  refine⟨h1,?_⟩
  have ab:i<vs.size:=by rw[← h.1];exact (cR.1 hi).1
  simpa [Array.getD,ab,Array.getElem_setIfInBounds,hk]using h2
theorem Nf{F:Nat→Prop}{w:World}:∀(xs:List AV) (us:List Value) (cs:List AV) (vs:Array Value) (k n:Nat),xs.length=us.length→
  (∀(i:Nat) (x:AV),xs[i]?=some x→x.leaf=true∧aF F w x (us.getD i undef))→oW F w cs vs→oW F w (gi cs (k+n) xs) ((us.zipIdx n).foldl (fun c p=>c.setIfInBounds (k+p.2) p.1) vs)
 | [],[],cs,vs,k,n,_,_,h=>h
 |x::xs,u::us,cs,vs,k,n,hl,hx,h=>by
  have h0:=hx 0 x rfl
  simp only[gi,List.zipIdx_cons,An]
  exact Nf xs us _ _ k (n+1) (by simpa using hl) (fun i y hi=>by simpa using hx (i+1) y (by simpa using hi)) (h.set _ h0.1 (by simpa using h0.2))
 | [],_::_,_,_,_,_,hl,_,_=>by simp at hl
 |_::_,[],_,_,_,_,hl,_,_=>by simp at hl
theorem yz:∀(xs cs:List AV) (k:Nat),(gi cs k xs).length=cs.length
 | [],cs,k=>rfl
 |x::xs,cs,k=>by simp[gi,yz xs]
theorem Eu{F:Nat→Prop}{w:World}{pl:List (Nat×Nat)}{place:Nat→Option (Nat×Nat)}(hp:∀(i:Nat) (p:Nat×Nat),pl[i]?=some p→place i=some p):
  ∀(parts:List (Nat×AV)) (us:List (Nat×Value)) (cs:List AV) (vs:Array Value) (out:List AV),parts.length=us.length→
   (∀(i:Nat) (p:Nat×AV) (u:Nat×Value),parts[i]?=some p→us[i]?=some u→p.1=u.1∧aF F w p.2 u.2)→oW F w cs vs→rj pl cs parts=some out→∃eD,Instr.fill place vs us=some eD∧oW F w out eD
 | [],[],cs,vs,out,_,_,h,e=>⟨vs,rfl,by simp[rj]at e;subst e;exact h⟩
 |p::parts,u::us,cs,vs,out,hl,hx,h,e=>by
  obtain⟨i,x⟩:=p
  obtain⟨i',v⟩:=u
  obtain⟨rfl,hv⟩:=hx 0 _ _ rfl rfl
  simp only[rj]at e
  split at e
  ·rename_i off size xs h1 h2
   split at e
   ·rename_i e1 e2
    have e1:=jF e1
    have e2:=cp e2
    obtain⟨c1,c2⟩:=HG hv h2
    have hs:=Nf xs v.cells.toList cs vs off 0 (by simp[c1]) (fun i y hi=>by
     have:=c2 i y hi
     have ab:i<v.cells.size:=by rw[c1];exact (cR.1 hi).1
     simpa [Array.getD,List.getD,ab]using this) h
    obtain⟨eD,f1,f2⟩:=Eu hp parts us _ _ out (by simpa using hl) (fun i p u hi hu=>hx (i+1) p u (by simpa using hi) (by simpa using hu)) hs e
    refine⟨eD,?_,f2⟩
    simp only[Instr.fill,hp _ _ h1]
    rw[if_neg (by simp[c1,e1];rw[← h.1];omega)]
    rw[← f1]
    congr 1
    rw[← Array.foldl_toList]
    simp
   ·cases e
  ·cases e
 | [],_::_,_,_,_,hl,_,_,_=>by simp at hl
 |_::_,[],_,_,_,hl,_,_,_=>by simp at hl
theorem MD(ok:dH P TT):∀(fs:List Field) (ps:List (Nat×Nat)),Bj TT (fs.map fun f=>(f.offset,f.type))=some ps→fs.mapM (fun f=>(P.info? f.type).map fun i=>(f.offset,i.size))=some ps
 | [],ps,h=>by simp[Bj]at h;subst h;rfl
 |f::fs,ps,h=>by
  simp only[o8,Bj]at h
  split at h
  ·rename_i i ps' h1 h2
   obtain⟨j,_,_,hj,_,hs,_⟩:=dz ok h1
   have:=MD ok fs ps' h2
   simp at h
   subst h
   simp[List.mapM_cons,hj,this,hs]
  ·cases h
theorem vq{F:Nat→Prop}{w:World}{xs:List AV}{z:Value}(h:pB xs z.cells.toList=true):oW F w xs z.cells:=by
 obtain⟨h1,h2⟩:=NK (F:=F) (w:=w) h
 refine⟨by simpa using h1,fun i x hx=>?_⟩
 obtain⟨h3,h4⟩:=h2 i x hx
 refine⟨h4,?_⟩
 have ab:i<z.cells.size:=by have:=(List.getElem?_eq_some_iff.1 hx).1;simp at h1;omega
 simpa [Array.getD,List.getD,ab]using h3
theorem oW.Tb{F:Nat→Prop}{w:World}{cs:List AV}{vs:Array Value}(h:oW F w cs vs):aF F w (.agg cs) (.agg vs):=.agg _ _ h.1 (fun i x hx=>(h.2 i x hx).1) (fun i x hx=>(h.2 i x hx).2)
theorem N6{F:Nat→Prop}{w:World}{parts:Array (Nat×Operand)}{ρ:Operand→AV}{η:Operand→Value}(hx:∀x∈(parts.toList.map (·.2)),aF F w (ρ x) (η x)):
  (parts.toList.map fun p=>(p.1,ρ p.2)).length=(parts.map fun (i,x)=>(i,η x)).toList.length∧∀(i:Nat) (p:Nat×AV) (u:Nat×Value),(parts.toList.map fun p=>(p.1,ρ p.2))[i]?=some p→(parts.map fun (i,x)=>(i,η x)).toList[i]?=some u→p.1=u.1∧aF F w p.2 u.2:=by
 refine⟨by simp,fun i p u hp hu=>?_⟩
 simp only[Array.toList_map,fm,wT]at hp hu
 obtain⟨a,h1,rfl⟩:=hp
 obtain⟨a',h2,rfl⟩:=hu
 rw[h1]at h2
 cases h2
 exact⟨rfl,hx a.2 (fi.2 ⟨a,dm h1,rfl⟩)⟩
theorem UF(ok:dH P TT){t:TypeId}{parts:Array (Nat×Operand)}{ρ:Operand→AV}{v:AV}(h:E5 TT t (parts.toList.map fun p=>(p.1,ρ p.2))=some v):e8 P (.build t parts) ρ v:=by
 intro η F w o ho hx
 obtain⟨hl,hr⟩:=N6 (parts:=parts) (ρ:=ρ) (η:=η) (F:=F) (w:=w) (by simpa [Op.operands]using hx)
 have fin:∀{cells:Array Value} {cs:List AV},P.built t (parts.map fun (i,x)=>(i,η x)).toList=some cells→oW F w cs cells→∃v',(∀w',(execOp η o).run P w'=.ok (.value v') w')∧aF F w (.agg cs) v':=
  fun hb hc=>⟨_,fun w'=>by simp only[execOp,ho,Sem.run_bind,run_build w' t _ _ hb];rfl,hc.Tb⟩
 unfold E5 at h
 split at h
 ·rename_i fs sz qf z0 ht
  obtain⟨j,d,z,hj,hd,hs,hb,hf,hz,gU⟩:=dz ok ht
  obtain⟨fields,rfl,yd⟩:=HD hf
  split at h
  ·rename_i ps wx
   rw[← yd]at wx
   have hm:=MD ok _ _ wx
   obtain⟨out,e1,rfl⟩:=wT.1 h
   obtain⟨eD,f1,f2⟩:=Eu (place:=(ps.toArray[·]?)) (fun i p hi=>by simpa using hi) _ _ _ _ _ hl hr (vq (F:=F) (w:=w) gU) e1
   exact fin (by simp only[Program.built,hj,hd,hz,hm];exact f1) f2
  ·cases h
 ·rename_i n e sz qf z0 ht
  obtain⟨j,d,z,hj,hd,hs,hb,hf,hz,gU⟩:=dz ok ht
  obtain rfl:=PD hf
  split at h
  ·rename_i i hi
   obtain⟨j',d',z',kU,kd,dS,_⟩:=dz ok hi
   obtain⟨out,e1,rfl⟩:=wT.1 h
   obtain⟨eD,f1,f2⟩:=Eu (place:=fun k=>some (k*j'.size,j'.size)) (fun k p hk=>by
    obtain⟨a,ha,rfl⟩:=cR.1 hk
    simp[dS]) _ _ _ _ _ hl hr (vq (F:=F) (w:=w) gU) e1
   exact fin (by simp only[Program.built,hj,hd,hz,kU];exact f1) f2
  ·cases h
 ·cases h
end
section
variable {P:Program} {TT:TypeId→Option TI}
theorem Xu{op:UnOp}{t:TypeId}{x:Operand}{ρ:Operand→AV}{K:AV→Prop}(h:CA op (ρ x) K):∃v,K v∧e8 P (.unOp op t x) ρ v:=by
 unfold CA at h
 split at h
 ·rename_i b hx
  refine⟨_,h,mR (fun _ _=>.bool _) fun η F w o ho a6=>?_⟩
  have h1:=a6 x (by simp[Op.operands]);rw[hx]at h1
  simp[execOp,ho,h1.qz,Op.unary]
 ·rename_i k n hx
  refine⟨_,h,mR (fun _ _=>.int _ _) fun η F w o ho a6=>?_⟩
  have h1:=a6 x (by simp[Op.operands]);rw[hx]at h1
  simp[execOp,ho,h1.gM,Op.unary,Op.intArith]
 ·rename_i k n hx
  refine⟨_,h,mR (fun _ _=>.int _ _) fun η F w o ho a6=>?_⟩
  have h1:=a6 x (by simp[Op.operands]);rw[hx]at h1
  rw[show execOp η o=(do pure (.value (← Op.intBits .xor k (if k.signed then -1 else k.max) n))) by simp[execOp,ho,h1.gM,Op.unary]]
  exact fun _=>rfl
 ·rename_i n hx
  refine⟨_,h,fun η F w o ho a6=>?_⟩
  have h1:=a6 x (by simp[Op.operands]);rw[hx]at h1
  obtain⟨b,e,hb⟩:=h1.FY
  exact⟨.float .f64 (Op.negFloat .f64 b),fun w'=>by simp[execOp,ho,e,Op.unary],.gr _ _ (Z1 hb)⟩
 ·exact h.elim
theorem Vz(ok:dH P TT){s d:TypeId}{x:Operand}{ρ:Operand→AV}{K:AV→Prop}(h:BX TT s d (ρ x) K):∃v,K v∧e8 P (.convert s d x) ρ v:=by
 unfold BX at h
 split at h
 ·rename_i i k sz qf z0 k' n hs hd hx
  obtain⟨_,ds,_,_,C0,_⟩:=dz ok hs
  obtain⟨_,dd,_,_,sV,_,_,hf,_,_⟩:=dz ok hd
  obtain rfl:=fits_int hf
  refine⟨_,h,mR (fun _ _=>.int _ _) fun η F w o ho a6=>?_⟩
  have h1:=a6 x (by simp[Op.operands]);rw[hx]at h1
  simp[execOp,ho,h1.gM,convert,run_underlying C0,run_underlying sV,Conv.intToInt]
 ·rename_i i sz qf z0 k' n hs hd hx
  obtain⟨_,ds,_,_,C0,_⟩:=dz ok hs
  obtain⟨_,dd,_,_,sV,_,_,hf,_,_⟩:=dz ok hd
  obtain rfl:=Yk hf
  refine⟨_,h.go,fun η F w o ho a6=>?_⟩
  have h1:=a6 x (by simp[Op.operands]);rw[hx]at h1
  refine⟨.float .f64 (FloatKind.nearest .f64 n),fun w'=>?_,.gr _ _ (abw h.fact)⟩
  have hr:=run_convert_int_float (P:=P) w' s d k' .f64 n (by rw[C0];rfl) sV
  simp only[execOp,ho,h1.gM,Sem.run_bind,hr]
  rfl
 ·rename_i i k sz qf z0 n hs hd hx
  obtain⟨_,ds,_,_,C0,_⟩:=dz ok hs
  obtain⟨_,dd,_,_,sV,_,_,hf,_,_⟩:=dz ok hd
  obtain rfl:=fits_int hf
  refine⟨_,h.go,fun η F w o ho a6=>?_⟩
  have h1:=a6 x (by simp[Op.operands]);rw[hx]at h1
  obtain⟨b,e,hb⟩:=h1.FY
  refine⟨.int k n,fun w'=>?_,.int _ _⟩
  have hr:=run_convert_float_int (P:=P) w' s d .f64 k b n (by rw[C0];rfl) sV (Z2 hb k h.fact)
  simp only[execOp,ho,e,Sem.run_bind,hr]
  rfl
 ·exact h.elim
theorem Ux(ok:dH P TT){t:TypeId}{x:Operand}{ρ:Operand→AV}{i:TI}(ht:TT t=some i)(hn:i.k≠.iface):e8 P (.makeInterface t x) ρ (.iface t (ρ x)):=by
 intro η F w o ho hx
 obtain⟨_,d,_,_,hd,_,_,hf,_,_⟩:=dz ok ht
 refine⟨_,?_,.iface _ _ _ (hx x (by simp[Op.operands]))⟩
 have:∀m,d≠.interface m:=by rintro m rfl;cases hk:i.k <;> rw[hk]at hf <;> simp_all [TK.fits]
 cases d <;> first | exact absurd rfl (this _) | simp[execOp,ho,Instr.makeInterface,run_underlying hd]
theorem Tu{f:Fn}{first cap:Array Operand}{ρ:Operand→AV}:e8 P (.makeFunc f first cap) ρ (.fn f (first.toList.map ρ) (cap.toList.map ρ)):=by
 intro η F w o ho hx
 have key:∀(xs:Array Operand),(∀x∈xs.toList,aF F w (ρ x) (η x))→∀(i:Nat) (x:AV),(xs.toList.map ρ)[i]?=some x→aF F w x ((xs.map η).getD i undef):=by
  intro xs h i x hi
  simp only[fm,wT]at hi
  obtain⟨a,h1,rfl⟩:=hi
  have ab:i<xs.size:=by have:=(List.getElem?_eq_some_iff.1 h1).1;simpa using this
  have:xs[i]=a:=by simpa [ab]using h1
  simpa [Array.getD,ab,this]using h a (List.mem_of_getElem? h1)
 exact⟨.func f (first.map η) (cap.map η),by simp[execOp,ho,Instr.makeFunc],.fn _ _ _ _ _ (by simp) (by simp) (key first fun x uw=>hx x (by simp only[Op.operands,Array.toList_append,List.mem_append];exact .inl uw)) (key cap fun x uw=>hx x (by simp only[Op.operands,Array.toList_append,List.mem_append];exact .inr uw))⟩
theorem ox(b o n:Nat):(⟨b,o,none⟩:Addr).add n=⟨b,o+n,none⟩:=Addr.add_mid b o n
theorem Tr(ok:dH P TT){s:TypeId}{x:Operand}{f:Nat}{ρ:Operand→AV}{K:AV→Prop}(h:AR TT s (ρ x) f K):∃v,K v∧e8 P (.fieldAddr s x f) ρ v:=by
 unfold AR at h
 split at h
 ·rename_i fs sz qf z0 ht
  obtain⟨_,d,_,_,hd,_,_,hf,_,_⟩:=dz ok ht
  obtain⟨fields,rfl,yd⟩:=HD hf
  split at h
  ·rename_i off t jU
   split at h
   ·rename_i i hi
    obtain⟨j',d',z',kU,kd,dS,_⟩:=dz ok hi
    rw[← yd,fm,wT]at jU
    obtain⟨fd,Lk,e⟩:=jU
    cases e
    have FT:fields[f]?=some fd:=by simpa using Lk
    split at h
    ·rename_i b o' hb hx
     have hb:=cp hb
     have hz:¬j'.size=0:=by omega
     refine⟨_,h,Fj rfl fun η F w o ho a6=>?_⟩
     have h1:=a6 x (by simp[Op.operands]);rw[hx]at h1
     exact⟨h1.yF,fun _=>by simp[execOp,ho,h1.tW,Instr.fieldAt,run_underlying hd,FT,Instr.sureAddr,fieldPlace,run_sizeOf kU,hz,ox]⟩
    ·rename_i cs hb hx
     have hb:=cp hb
     have hz:¬j'.size=0:=by omega
     refine⟨_,h,fun η F w o ho a6=>?_⟩
     have h1:=a6 x (by simp[Op.operands]);rw[hx]at h1
     obtain⟨b,o',e,hF,eP⟩:=h1.xq
     exact⟨_,by simp[execOp,ho,e,Instr.fieldAt,run_underlying hd,FT,Instr.sureAddr,fieldPlace,run_sizeOf kU,hz,ox],(eP.drop _).fY hF⟩
    ·exact h.elim
   ·exact h.elim
  ·exact h.elim
 ·exact h.elim
theorem AN(ok:dH P TT){t:TypeId}{i:TI}(ht:TT t=some i){F:Nat→Prop}{w:World}{cs:List AV}{vs:Array Value}(h:oW F w cs vs){k:Nat}{v:AV}(hv:eF i cs k=some v):
  ∃v',(∀w',(part t vs k).run P w'=.ok v' w')∧aF F w v v':=by
 obtain⟨j,d,z,hj,hd,hs,hb,hf,hz,gU⟩:=dz ok ht
 have hw:=Oz hf
 obtain⟨hl,hr⟩:=h
 unfold eF at hv
 split at hv
 ·rename_i xD
  split at hv
  ·rename_i hle
   have hle:=cp hle
   simp only[Option.some.injEq]at hv
   subst hv
   refine⟨.agg (vs.extract k (k+j.size)),fun _=>by unfold part;simp[Sem.run_bind,HP hd,hw,xD,run_sizeOf hj],oW.Tb ⟨by simp;omega,fun m x hx=>?_⟩⟩
   rw[qc]at hx
   split at hx
   ·rename_i hm
    rw[yo]at hx
    obtain⟨h1,h2⟩:=hr _ x hx
    have ab:k+m<vs.size:=by rw[← hl];exact (cR.1 hx).1
    have db:m<min (k+j.size) vs.size-k:=by omega
    refine⟨h1,?_⟩
    simpa [Array.getD,ab,db]using h2
   ·cases hx
  ·cases hv
 ·rename_i xD
  obtain⟨h1,h2⟩:=hr k v hv
  have ab:k<vs.size:=by rw[← hl];exact (cR.1 hv).1
  refine⟨vs.getD k undef,fun w'=>?_,h2⟩
  unfold part
  rw[Sem.run_bind,HP hd]
  simp[hw,xD,ab,Array.getD]
theorem OC(ok:dH P TT)(D:Nat):∀(d:Nat) (t:TypeId) (x y:AV) (l:List Bool),yw P TT d t x y=some l→∀(F:Nat→Prop) (w:World) (a b:Value),aF F w x a→aF F w y b→∀w',(Op.equalIn (D+d) t a b).run P w'=.ok (gl l) w':=by
 intro d
 induction d with
 |zero=>intro t x y l h;cases h
 |succ d ih=>
  intro t x y l h F w a b ha hb w'
  unfold yw at h
  split at h
  ·rename_i p q hu
   cases h
   rw[ha.qz,hb.qz]
   rw[show D+(d+1)=(D+d)+1 from rfl,run_equalIn_bool' w' (D+d) t p q hu]
   simp[gl]
  ·rename_i k0 k p k' q hu
   split at h
   ·rename_i hk
    have:=fk hk
    subst this
    cases h
    rw[ha.gM,hb.gM]
    rw[show D+(d+1)=(D+d)+1 from rfl,run_equalIn_int w' (D+d) t k k0 p q hu]
    simp[gl]
    exact gt4 _ _
   ·cases h
  ·rename_i p q hu
   cases h
   rw[ha.B2,hb.B2]
   rw[show D+(d+1)=(D+d)+1 from rfl,run_equalIn_string w' (D+d) t p q hu]
   simp[gl]
  ·rename_i fs xs ys hu
   split at h
   ·cases h
   ·rename_i ao
    obtain⟨vs,rfl,cg⟩:=ha.sN
    obtain⟨us,rfl,gb⟩:=hb.sN
    have hf:P.fieldsOf t=fs:=by simp[Program.fieldsOf,hu]
    rw[show D+(d+1)=(D+d)+1 from rfl,run_equalIn_agg w' (D+d) t vs us (by rw[hf];exact hu) ao,hf]
    have key:∀(gs:List Field) (l:List Bool),F4 TT (yw P TT d) xs ys gs=some l→(Op.eqFields (D+d) vs us gs).run P w'=.ok (gl l) w':=by
     intro gs
     induction gs with
     |nil=>intro l h;cases h;simp[Op.eqFields,gl]
     |cons f gs ihg=>
      intro l h
      unfold F4 at h
      split at h
      ·rename_i i hn hi
       split at h
       ·rename_i p q hp hq
        split at h
        ·rename_i l1 l2 h1 h2
         cases h
         obtain⟨p',e1,r1⟩:=AN ok hi ⟨cg.1,cg.2⟩ hp
         obtain⟨q',e2,r2⟩:=AN ok hi ⟨gb.1,gb.2⟩ hq
         have e3:=ih f.type p q l1 h1 F w p' q' r1 r2 w'
         have hn' : f.name ≠ "_" := by intro e; rw [e] at hn; cases hn
         simp only[Op.eqFields,hn',ne_eq,not_false_eq_true,if_true,Sem.run_bind,e1,e2,e3,Result.andThen_ok]
         cases mh:gl l1
         ·simp only[Bool.not_false,if_true,Sem.run_pure]
          have:gl (l1++l2)=false:=by unfold gl at mh ⊢;rw[tb,mh];rfl
          rw[this]
         ·simp only[Dn,uR,if_false]
          rw[ihg l2 h2]
          have:gl (l1++l2)=gl l2:=by unfold gl at mh ⊢;rw[tb,mh];rfl
          rw[this]
        ·cases h
       ·cases h
      ·cases h
    exact key fs.toList l h
  ·rename_i n e xs ys hu
   obtain⟨vs,rfl,cg⟩:=ha.sN
   obtain⟨us,rfl,gb⟩:=hb.sN
   have key:∀(ks:List Nat) (l:List Bool),FZ TT (yw P TT d) e (P.cellsOf e) xs ys ks=some l→(Op.eqItems (D+d) e (P.cellsOf e) vs us ks).run P w'=.ok (gl l) w':=by
    intro ks
    induction ks with
    |nil=>intro l h;cases h;simp[Op.eqItems,gl]
    |cons k ks ihk=>
     intro l h
     unfold FZ at h
     split at h
     ·rename_i i hi
      split at h
      ·rename_i p q hp hq
       split at h
       ·rename_i l1 l2 h1 h2
        cases h
        obtain⟨p',e1,r1⟩:=AN ok hi ⟨cg.1,cg.2⟩ hp
        obtain⟨q',e2,r2⟩:=AN ok hi ⟨gb.1,gb.2⟩ hq
        have e3:=ih e p q l1 h1 F w p' q' r1 r2 w'
        simp only[Op.eqItems,Sem.run_bind,e1,e2,e3,Result.andThen_ok]
        cases mh:gl l1
        ·simp only[Bool.not_false,if_true,Sem.run_pure]
         have:gl (l1++l2)=false:=by unfold gl at mh ⊢;rw[tb,mh];rfl
         rw[this]
        ·simp only[Dn,uR,if_false]
         rw[ihk l2 h2]
         have:gl (l1++l2)=gl l2:=by unfold gl at mh ⊢;rw[tb,mh];rfl
         rw[this]
       ·cases h
      ·cases h
     ·cases h
   split at h
   ·rename_i i hi
    obtain⟨j,_,_,hj,_⟩:=dz ok hi
    rw[show D+(d+1)=(D+d)+1 from rfl,run_equalIn_array w' (D+d) vs us hu hj]
    exact key _ l h
   ·cases h
  ·cases h
theorem WK{op:BinOp}{t yt:TypeId}{x y:Operand}{ρ:Operand→AV}{K:AV→Prop}{a b c d:Int}(hx:ρ x=.fS a b)(hy:ρ y=.fS c d)(h:Ks op a b c d K):∃v,K v∧e8 P (.binOp op t x y yt) ρ v:=by
 have both:∀{η:Operand→Value} {F:Nat→Prop} {w:World},(∀z∈(Op.binOp op t x y yt).operands.toList,aF F w (ρ z) (η z))→∃a' b' c' d',η x=.complex .f64 a' b'∧η y=.complex .f64 c' d'∧jn a' a∧jn b' b∧jn c' c∧jn d' d:=fun {η F w} a6=>by
  have h1:=a6 x (by simp[Op.operands])
  have h2:=a6 y (by simp[Op.operands])
  rw[hx]at h1;rw[hy]at h2
  obtain⟨a',b',e1,h3,h4⟩:=h1.F7
  obtain⟨c',d',e2,h5,h6⟩:=h2.F7
  exact⟨a',b',c',d',e1,e2,h3,h4,h5,h6⟩
 cases op <;> simp only[Ks]at h
 case add=>
  refine⟨_,h.go,fun η F w o ho a6=>?_⟩
  obtain⟨a',b',c',d',e1,e2,h3,h4,h5,h6⟩:=both a6
  obtain⟨r,g1,g2⟩:=IL h3 h5 h.fact.1
  obtain⟨q,g3,g4⟩:=IL h4 h6 h.fact.2
  refine⟨.complex .f64 r q,fun w'=>qZ ho (by rw[e1,e2];exact uZ ⟨by simp,.inl (by simp)⟩ w') ?_,.fS _ _ _ _ g2 g4⟩
  rw[e1,e2]
  exact run_complex_sum w' .add (.inl rfl) t .f64 a' b' c' d' r q (by simp[cSumBits,g1,g3])
 case sub=>
  refine⟨_,h.go,fun η F w o ho a6=>?_⟩
  obtain⟨a',b',c',d',e1,e2,h3,h4,h5,h6⟩:=both a6
  obtain⟨r,g1,g2⟩:=IK h3 h5 h.fact.1
  obtain⟨q,g3,g4⟩:=IK h4 h6 h.fact.2
  refine⟨.complex .f64 r q,fun w'=>qZ ho (by rw[e1,e2];exact uZ ⟨by simp,.inl (by simp)⟩ w') ?_,.fS _ _ _ _ g2 g4⟩
  rw[e1,e2]
  exact run_complex_sum w' .sub (.inr rfl) t .f64 a' b' c' d' r q (by simp[cSumBits,g1,g3])
 case mul=>
  refine⟨_,h.go,fun η F w o ho a6=>?_⟩
  obtain⟨a',b',c',d',e1,e2,h3,h4,h5,h6⟩:=both a6
  obtain⟨⟨f1,f2,f3⟩,f4,f5,f6⟩:=h.fact
  obtain⟨r1,p1,q1⟩:=EM h3 h5 f1
  obtain⟨r2,p2,q2⟩:=EM h4 h6 f2
  obtain⟨r3,p3,q3⟩:=IK q1 q2 f3
  obtain⟨r4,p4,q4⟩:=EM h3 h6 f4
  obtain⟨r5,p5,q5⟩:=EM h4 h5 f5
  obtain⟨r6,p6,q6⟩:=IL q4 q5 f6
  refine⟨.complex .f64 r3 r6,fun w'=>qZ ho (by rw[e1,e2];exact uZ ⟨by simp,.inl (by simp)⟩ w') ?_,.fS _ _ _ _ q3 q6⟩
  rw[e1,e2]
  exact run_complex_mul w' t a' b' c' d' r3 r6 (by simp[cMulBits,p1,p2,p3,p4,p5,p6])
theorem VD(ok:dH P TT){op:BinOp}{t yt:TypeId}{x y:Operand}{ρ:Operand→AV}{K:AV→Prop}(h:Cq P TT op t y (ρ x) (ρ y) K):∃v,K v∧e8 P (.binOp op t x y yt) ρ v:=by
 unfold Cq at h
 split at h
 ·rename_i xs ys hx hy
  have both:∀(η:Operand→Value) (F:Nat→Prop) (w:World),(∀z∈(Op.binOp op t x y yt).operands.toList,aF F w (ρ z) (η z))→∃vs us,η x=.agg vs∧η y=.agg us∧aF F w (.agg xs) (.agg vs)∧aF F w (.agg ys) (.agg us):=fun η F w a6=>by
   have h1:=a6 x (by simp[Op.operands])
   have h2:=a6 y (by simp[Op.operands])
   rw[hx]at h1;rw[hy]at h2
   obtain⟨vs,e1,_⟩:=h1.sN
   obtain⟨us,e2,_⟩:=h2.sN
   rw[e1]at h1;rw[e2]at h2
   exact⟨vs,us,e1,e2,h1,h2⟩
  split at h
  ·obtain⟨g1,g2,go⟩:=h
   refine⟨_,qn go,mR (fun _ _=>.bool _) fun η F w o ho a6=>?_⟩
   obtain⟨vs,us,e1,e2,r1,r2⟩:=both η F w a6
   intro w'
   refine qZ ho ?_ ?_
   ·rw[e1,e2];exact run_eqGuard_agg w' _ t x y vs us g1
   ·rw[e1,e2,run_eql_struct,show (10000:Nat)=9992+8 from rfl,OC ok 9992 8 t _ _ _ g2 F w _ _ r1 r2 w'];rfl
  ·obtain⟨g1,g2,go⟩:=h
   refine⟨_,qn go,mR (fun _ _=>.bool _) fun η F w o ho a6=>?_⟩
   obtain⟨vs,us,e1,e2,r1,r2⟩:=both η F w a6
   intro w'
   refine qZ ho ?_ ?_
   ·rw[e1,e2];exact run_eqGuard_agg w' _ t x y vs us g1
   ·rw[e1,e2,run_neq_struct,show (10000:Nat)=9992+8 from rfl,OC ok 9992 8 t _ _ _ g2 F w _ _ r1 r2 w'];rfl
  ·exact h.elim
 ·rename_i a b c d hx hy
  exact WK hx hy h
 ·exact WX ok h
theorem Uy(ok:dH P TT){s:TypeId}{x:Operand}{f:Nat}{ρ:Operand→AV}{K:AV→Prop}(h:BA TT s (ρ x) f K):∃v,K v∧e8 P (.field s x f) ρ v:=by
 unfold BA at h
 split at h
 ·rename_i fs sz qf z0 cs ht hx
  obtain⟨_,d,_,_,hd,_,_,hf,_,_⟩:=dz ok ht
  obtain⟨fields,rfl,yd⟩:=HD hf
  split at h
  ·rename_i off t jU
   split at h
   ·rename_i i hi
    rw[← yd,fm,wT]at jU
    obtain⟨fd,Lk,e⟩:=jU
    cases e
    have FT:fields[f]?=some fd:=by simpa using Lk
    split at h
    ·rename_i v hv
     refine⟨v,h,fun η F w o ho a6=>?_⟩
     have h1:=a6 x (by simp[Op.operands]);rw[hx]at h1
     obtain⟨vs,e,h2,h3⟩:=h1.sN
     obtain⟨v',h4,h5⟩:=AN ok hi (w:=w) ⟨h2,h3⟩ hv
     exact⟨v',by simp[execOp,ho,e,Instr.field,run_underlying hd,FT,asAgg,h4],h5⟩
    ·exact h.elim
   ·exact h.elim
  ·exact h.elim
 ·exact h.elim
theorem Tp(ok:dH P TT){t:TypeId}{x ix:Operand}{ρ:Operand→AV}{K:AV→Prop}(h:AO TT t (ρ x) (ρ ix) K):∃v,K v∧e8 P (.indexAddr t x ix) ρ v:=by
 unfold AO at h
 split at h
 ·rename_i e sz qf z0 k n ht yb
  obtain⟨_,d,_,_,hd,_,_,hf,_,_⟩:=dz ok ht
  obtain rfl:=jZ hf
  split at h
  ·rename_i i s l hi hx
   obtain⟨j',_,_,kU,_,dS,_⟩:=dz ok hi
   obtain⟨eE,l5⟩:=h
   obtain⟨dt,h0,h1,go⟩:=l5
   refine⟨_,go,fun η F w o ho a6=>?_⟩
   have a1:=a6 x (by simp[Op.operands]);rw[hx]at a1
   have a2:=a6 ix (by simp[Op.operands]);rw[yb]at a2
   obtain⟨a,c,e,Ad,uI,hc3⟩:=a1.Cm
   have ab:n.toNat<l.length:=(cR.1 h1).1
   obtain⟨b,o',rfl,hF,Sb⟩:=hc3 (fun e=>by subst e;cases ab)
   obtain⟨cs',q1,q2,q3⟩:=Sb _ ab
   have kd:l[n.toNat]=dt:=by rw[bN ab]at h1;exact Option.some.inj h1
   rw[kd]at q3
   have hn:0≤n∧n<(l.length:Int):=by omega
   refine⟨_,?_,(At.Qo s q2 q3).fY hF⟩
   simp[execOp,ho,e,a2.gM,Instr.indexAt,asIntOf,run_underlying hd,hn,run_sizeOf kU,ox,dS,eE]
  ·rename_i i b off len es hi hx
   obtain⟨j',_,_,kU,_,dS,_⟩:=dz ok hi
   obtain⟨⟨eE,h0,h1⟩,go⟩:=h
   refine⟨_,go,Fj rfl fun η F w o ho a6=>?_⟩
   have a1:=a6 x (by simp[Op.operands]);rw[hx]at a1
   have a2:=a6 ix (by simp[Op.operands]);rw[yb]at a2
   obtain⟨a,cap,e,c,T,fz,m1,m2,m3,m4⟩:=a1.lh
   have ha:a=⟨b,off,none⟩:=by rcases m4 with m4 | m4;exact m4.1;omega
   subst ha
   exact⟨⟨c,T,fz,m1⟩,fun _=>by simp[execOp,ho,e,a2.gM,Instr.indexAt,asIntOf,run_underlying hd,h0,h1,run_sizeOf kU,ox,dS,eE]⟩
  ·exact h.elim
 ·rename_i m e sz qf z0 k n ht yb
  obtain⟨_,d,_,_,hd,_,_,hf,_,_⟩:=dz ok ht
  obtain rfl:=PD hf
  split at h
  ·rename_i i b o' hi hx
   obtain⟨j',_,_,kU,_,dS,_⟩:=dz ok hi
   obtain⟨⟨h0,h1⟩,go⟩:=h
   refine⟨_,go,Fj rfl fun η F w o ho a6=>?_⟩
   have a1:=a6 x (by simp[Op.operands]);rw[hx]at a1
   have a2:=a6 ix (by simp[Op.operands]);rw[yb]at a2
   exact⟨a1.yF,fun _=>by simp[execOp,ho,a1.tW,a2.gM,Instr.indexAt,asIntOf,Instr.sureAddr,run_underlying hd,h0,h1,run_sizeOf kU,ox,dS]⟩
  ·rename_i i cs hi hx
   obtain⟨j',_,_,kU,_,dS,_⟩:=dz ok hi
   obtain⟨⟨h0,h1⟩,go⟩:=h
   refine⟨_,go,fun η F w o ho a6=>?_⟩
   have a1:=a6 x (by simp[Op.operands]);rw[hx]at a1
   have a2:=a6 ix (by simp[Op.operands]);rw[yb]at a2
   obtain⟨b,o',e,hF,eP⟩:=a1.xq
   exact⟨_,by simp[execOp,ho,e,a2.gM,Instr.indexAt,asIntOf,Instr.sureAddr,run_underlying hd,h0,h1,run_sizeOf kU,ox,dS],(eP.drop _).fY hF⟩
  ·exact h.elim
 ·exact h.elim
theorem TC{x:Operand}{i:Nat}{ρ:Operand→AV}{vs:List AV}{v:AV}(hx:ρ x=.tup vs)(hv:vs[i]?=some v):e8 P (.extract x i) ρ v:=by
 intro η F w o ho a6
 have a1:=a6 x (by simp[Op.operands]);rw[hx]at a1
 cases he:η x with
 |tuple us=>
  rw[he]at a1
  cases a1 with
  |tup cs vs hs h=>
   have h1:=h i v hv
   have ab:i<us.size:=by rw[← hs];exact (cR.1 hv).1
   refine⟨us.getD i undef,?_,h1⟩
   simp[execOp,ho,he,Instr.extract,ab,Array.getD]
 |_=>rw[he]at a1;cases a1
theorem MJ(ok:dH P TT){x:Operand}{tx t e:TypeId}{s b:Nat}{z:List AV}{ρ:Operand→AV}{K:AV→Prop}(ht:TT t=some ⟨.ptr e,s,b,z⟩)(l9:z=[.aG])(h:(∃t' v,ρ x=.iface t' v∧(match Nat.beq t' t with | true=>K (.tup [v,.bool true]) | false=>K (.tup [.aG,.bool false])))∨(ρ x=.nilif∧K (.tup [.aG,.bool false]))):∃v,K v∧e8 P (.typeAssert x tx t true) ρ v:=by
 obtain⟨j,d,zv,hj,hd,hs,⟨hb,oa⟩,hf,hz,gU⟩:=dz ok ht
 obtain rfl:=Et hf
 have JX:∀{F:Nat→Prop} {w:World} {a c:AV} {u v:Value},aF F w a u→aF F w c v→aF F w (.tup [a,c]) (.tuple #[u,v]):=fun h1 h2=>.tup _ _ rfl fun i y hy=>by
  rcases i with _ | _ | i
  ·simp at hy;subst hy;exact h1
  ·simp at hy;subst hy;exact h2
  ·simp at hy
 have KV:zv=.pointer none:=by
  obtain⟨j2,z2,k1,k2,k3⟩:=P7 ok ht rfl
  rw[hj]at k1;cases k1
  rw[hz]at k2;cases k2
  cases zv with
  |agg cs=>cases k3
  |pointer p=>cases p with
   |none=>rfl
   |some p=>subst l9;exact absurd gU (by simp[Value.cells,pB,AV.isVal])
  |_=>subst l9;exact absurd gU (by simp[Value.cells,pB,AV.isVal])
 have hzv:∀w,(zeroValue t).run P w=.ok (.pointer none) w:=fun w=>by simp[zeroValue,typeInfo,hj,hz,KV]
 rcases h with ⟨t',v,hx,h⟩ | ⟨hx,h⟩
 ·split at h
  ·rename_i hb
   have e:=jF hb
   subst e
   refine⟨_,h,fun η F w o ho a6=>?_⟩
   have a1:=a6 x (by simp[Op.operands]);rw[hx]at a1
   cases hv:η x with
   |iface t2 u=>
    rw[hv]at a1
    cases a1 with
    |iface _ _ _ hu=>exact⟨.tuple #[u,.bool true],fun w'=>by simp[execOp,ho,hv,Instr.typeAssert,run_underlying hd],JX hu (.bool _)⟩
   |_=>rw[hv]at a1;cases a1
  ·rename_i hb
   refine⟨_,h,fun η F w o ho a6=>?_⟩
   have a1:=a6 x (by simp[Op.operands]);rw[hx]at a1
   cases hv:η x with
   |iface t2 u=>
    rw[hv]at a1
    cases a1 with
    |iface _ _ _ hu=>
     have bc:¬t'=t:=fun e=>by subst e;rw[wM]at hb;cases hb
     exact⟨.tuple #[.pointer none,.bool false],fun w'=>by simp[execOp,ho,hv,Instr.typeAssert,run_underlying hd,bc,hzv],JX .aG (.bool _)⟩
   |_=>rw[hv]at a1;cases a1
 ·refine⟨_,h,fun η F w o ho a6=>?_⟩
  have a1:=a6 x (by simp[Op.operands]);rw[hx]at a1
  have hv:η x=.nilIface:=by revert a1;generalize η x=u;intro a1;cases a1;rfl
  exact⟨.tuple #[.pointer none,.bool false],fun w'=>by simp[execOp,ho,hv,Instr.typeAssert,run_underlying hd,hzv],JX .aG (.bool _)⟩
theorem tq{n:Int}{y:Nat}{code:BoundsCode}{k:IntKind}(h0:0≤n)(h1:n≤y)(w:World):(Instr.sliceBound (.int k n) y code).run P w=.ok n.toNat w:=by
 simp[Instr.sliceBound,asIntOf,h0,h1]
theorem Ho{lo hi:Option AV}{rK Cz:Option Value}{F:Nat→Prop}{w:World}{len cap:Nat}{l h:Int}(CR:∀x,lo=some x→∃v,rK=some v∧aF F w x v)(Ke:lo=none→rK=none)(Gy:∀x,hi=some x→∃v,Cz=some v∧aF F w x v)(ae5:hi=none→Cz=none)
  (el:sy lo=some l) (eh:zn len hi=some h) (h1:0≤l) (h2:l≤h) (h3:h≤len) (h4:len≤cap) (w':World):(Instr.sliceBounds true len cap rK Cz none).run P w'=.ok (l.toNat,h.toNat,cap) w':=by
 have e2:(Cz=none∧h=len)∨∃k,Cz=some (.int k h):=by
  cases hi with
  |none=>exact .inl ⟨ae5 rfl,by simpa [zn]using eh.symm⟩
  |some x=>
   obtain⟨v,rfl,hv⟩:=Gy x rfl
   cases x <;> simp[zn]at eh
   subst eh
   exact .inr ⟨_,by rw[hv.gM]⟩
 have e1:(rK=none∧l=0)∨∃k,rK=some (.int k l):=by
  cases lo with
  |none=>exact .inl ⟨Ke rfl,by simpa [sy]using el.symm⟩
  |some x=>
   obtain⟨v,rfl,hv⟩:=CR x rfl
   cases x <;> simp[sy]at el
   subst el
   exact .inr ⟨_,by rw[hv.gM]⟩
 have hh:(h.toNat:Int)=h:=by omega
 rcases e2 with ⟨rfl,rfl⟩ | ⟨k2,rfl⟩ <;> rcases e1 with ⟨rfl,rfl⟩ | ⟨k1,rfl⟩
 ·simp[Instr.sliceBounds]
 ·simp[Instr.sliceBounds,tq h1 (show l≤(len:Nat) from h2)]
 ·simp[Instr.sliceBounds,tq (show 0≤h by omega) (show h≤(cap:Nat) by omega)]
 ·simp[Instr.sliceBounds,tq (show 0≤h by omega) (show h≤(cap:Nat) by omega),tq h1 (show l≤(h.toNat:Nat) by omega)]
theorem TE{lo:Option AV}{rK:Option Value}{F:Nat→Prop}{w:World}{len cap:Nat}{l h m:Int}{k1 k2:IntKind}(CR:∀x,lo=some x→∃v,rK=some v∧aF F w x v)(Ke:lo=none→rK=none)
  (el:sy lo=some l) (h1:0≤l) (h2:l≤h) (h3:h≤m) (h4:m≤len) (h5:len≤cap) (w':World):(Instr.sliceBounds true len cap rK (some (.int k1 h)) (some (.int k2 m))).run P w'=.ok (l.toNat,h.toNat,m.toNat) w':=by
 have e1:(rK=none∧l=0)∨∃k,rK=some (.int k l):=by
  cases lo with
  |none=>exact .inl ⟨Ke rfl,by simpa [sy]using el.symm⟩
  |some x=>
   obtain⟨v,rfl,hv⟩:=CR x rfl
   cases x <;> simp[sy]at el
   subst el
   exact .inr ⟨_,by rw[hv.gM]⟩
 have hh:(h.toNat:Int)=h:=by omega
 rcases e1 with ⟨rfl,rfl⟩ | ⟨k1,rfl⟩
 ·simp[Instr.sliceBounds,tq (show 0≤m by omega) (show m≤(cap:Nat) by omega),tq (show 0≤h by omega) (show h≤(m.toNat:Nat) by omega)]
 ·simp[Instr.sliceBounds,tq (show 0≤m by omega) (show m≤(cap:Nat) by omega),tq (show 0≤h by omega) (show h≤(m.toNat:Nat) by omega),tq h1 (show l≤(h.toNat:Nat) by omega)]
theorem oy{F:Nat→Prop}{w:World}{ρ:Operand→AV}{η:Operand→Value}{o:Option Operand}(h:∀x,o=some x→aF F w (ρ x) (η x)):(∀x,o.map ρ=some x→∃v,o.map η=some v∧aF F w x v)∧(o.map ρ=none→o.map η=none):=by
 cases o with
 |none=>exact⟨(fun x h=>by cases h),fun _=>rfl⟩
 |some y=>exact⟨(fun x hx=>by cases hx;exact⟨_,rfl,h y rfl⟩),(fun h=>by cases h)⟩
theorem Ub(ok:dH P TT){t:TypeId}{x:Operand}{lo hi mx:Option Operand}{ρ:Operand→AV}{K:AV→Prop}(h:y6 TT t (ρ x) (lo.map ρ) (hi.map ρ) (mx.map ρ) K):∃v,K v∧e8 P (.slice t x lo hi mx) ρ v:=by
 unfold y6 at h
 split at h
 ·rename_i e sz qf z0 ht zY
  have zY:mx=none:=by simpa using zY
  subst zY
  obtain⟨_,d,_,_,hd,_,_,hf,_,_⟩:=dz ok ht
  obtain rfl:=jZ hf
  have xJ:∀{η:Operand→Value} {F:Nat→Prop} {w:World},(∀y∈(Op.slice t x lo hi none).operands.toList,aF F w (ρ y) (η y))→aF F w (ρ x) (η x)∧(∀y,lo=some y→aF F w (ρ y) (η y))∧(∀y,hi=some y→aF F w (ρ y) (η y)):=by
   intro η F w hy
   refine⟨hy x (by simp[Op.operands]),fun y e=>hy y (by subst e;simp[Op.operands]),fun y e=>hy y (by subst e;simp[Op.operands])⟩
  split at h
  ·rename_i i b off len es oh hx
   obtain⟨j',_,_,kU,_,dS,_⟩:=dz ok oh
   split at h
   ·rename_i l hh el eh
    obtain⟨⟨h1,h2,h3,eE⟩,go⟩:=h
    refine⟨_,go,fun η F w o ho a6=>?_⟩
    obtain⟨a1,a2,a3⟩:=xJ a6
    rw[hx]at a1
    obtain⟨a,cap,ea,c,T,fz,m1,m2,m3,m4⟩:=a1.lh
    have hb:=Ho (P:=P) (w:=w) (oy a2).1 (oy a2).2 (oy a3).1 (oy a3).2 el eh h1 h2 h3 m2
    refine⟨.slice (some (if cap=l.toNat then a else a.add (l.toNat*j'.size))) (hh.toNat-l.toNat) (cap-l.toNat),?_,?_⟩
    ·intro w'
     simp only[execOp,ho,Instr.sliceAt,Sem.run_bind,run_underlying hd,Result.andThen_ok,Option.map_none,ea,Instr.slice,hb,run_sizeOf kU,Sem.run_pure]
     split <;> rfl
    ·refine .ah _ _ _ _ _ _ ⟨c,T,fz,m1,by omega,by omega,?_⟩
     by_cases fh:cap=l.toNat
     ·refine .inr ?_
      rw[az fh]
      rcases m4 with ⟨rfl,_⟩ | ⟨q1,q2,q3,q4⟩
      ·exact⟨rfl,rfl,by omega,by omega⟩
      ·exact⟨q1,q2,by omega,by omega⟩
     ·refine .inl ?_
      rw[aA fh]
      rcases m4 with ⟨rfl,q⟩ | ⟨q1,q2,q3,q4⟩
      ·refine⟨by rw[ox,dS,eE],?_⟩
       have:off+l.toNat*es+(cap-l.toNat)*es=off+cap*es:=by
        rw[Du,← qT];congr 2;omega
       omega
      ·omega
   ·exact h.elim
  ·rename_i i s xs oh hx
   obtain⟨j',_,_,kU,_,dS,_⟩:=dz ok oh
   split at h
   ·rename_i l hh el eh
    obtain⟨⟨h1,h2,h3,eE⟩,go⟩:=h
    refine⟨_,go,fun η F w o ho a6=>?_⟩
    obtain⟨a1,a2,a3⟩:=xJ a6
    rw[hx]at a1
    obtain⟨a,cap,ea,c1,c2,c3⟩:=a1.Cm
    have hb:=Ho (P:=P) (w:=w) (oy a2).1 (oy a2).2 (oy a3).1 (oy a3).2 el eh h1 h2 h3 c1
    have hlen:((xs.drop l.toNat).take (hh.toNat-l.toNat)).length=hh.toNat-l.toNat:=by simp;omega
    refine⟨.slice (if cap=l.toNat then a else a.map (·.add (l.toNat*j'.size))) (hh.toNat-l.toNat) (cap-l.toNat),?_,?_⟩
    ·intro w'
     simp only[execOp,ho,Instr.sliceAt,Sem.run_bind,run_underlying hd,Result.andThen_ok,Option.map_none,ea,Instr.slice,hb,run_sizeOf kU,Sem.run_pure]
    ·refine .af _ _ _ ⟨_,_,by rw[hlen],by omega,by omega,(fun he=>?_),fun bc=>?_⟩
     ·have LL:=a1.aeh ea
      split at he
      ·have:=LL he;omega
      ·have:=LL (Option.map_eq_none_iff.1 he);omega
     have sJ:0<hh.toNat-l.toNat:=by
      rcases r8 (hh.toNat-l.toNat) with h0 | h0
      ·exact absurd (jm.1 (by rw[hlen,h0])) bc
      ·exact h0
     obtain⟨b,o',rfl,hF,hr⟩:=c3 (fun e=>by subst e;simp at h3;omega)
     refine⟨b,o'+l.toNat*s.size,by rw[if_neg (by omega)];simp[ox,dS,eE],hF,fun m hm=>?_⟩
     rw[hlen]at hm
     obtain⟨cs',q1,q2,q3⟩:=hr (l.toNat+m) (by omega)
     refine⟨cs',q1,?_,by simpa using q3⟩
     rw[Du,← qT]
     exact q2
   ·exact h.elim
  ·rename_i i oh hx
   obtain⟨j',_,_,kU,_,dS,_⟩:=dz ok oh
   split at h
   ·rename_i l hh el eh
    obtain⟨⟨h1,h2,h3⟩,go⟩:=h
    refine⟨_,go,fun η F w o ho a6=>?_⟩
    obtain⟨a1,a2,a3⟩:=xJ a6
    rw[hx]at a1
    have ea:η x=.slice none 0 0:=by revert a1;generalize η x=u;intro a1;cases a1;rfl
    have hb:=Ho (P:=P) (w:=w) (cap:=0) (oy a2).1 (oy a2).2 (oy a3).1 (oy a3).2 el eh h1 h2 h3 (bJ _)
    have gD:l.toNat=0:=by omega
    have hh0:hh.toNat=0:=by omega
    refine⟨.slice none 0 0,?_,.ak⟩
    intro w'
    simp[execOp,ho,Instr.sliceAt,Sem.run_bind,run_underlying hd,Result.andThen_ok,ea,Instr.slice,hb,run_sizeOf kU,gD,hh0]
   ·exact h.elim
  ·exact h.elim
 ·rename_i e sz qf z0 k2 m ht zY
  obtain⟨mo,rfl,ya⟩:∃mo,mx=some mo∧ρ mo=.int k2 m:=by
   cases mx with
   |none=>cases zY
   |some mo=>exact⟨mo,rfl,Option.some.inj zY⟩
  obtain⟨_,d,_,_,hd,_,_,hf,_,_⟩:=dz ok ht
  obtain rfl:=jZ hf
  split at h
  ·rename_i i b off len es k1 hh oh hx Gy
   obtain⟨gn,rfl,hho⟩:∃gn,hi=some gn∧ρ gn=.int k1 hh:=by
    cases hi with
    |none=>cases Gy
    |some gn=>exact⟨gn,rfl,Option.some.inj Gy⟩
   obtain⟨j',_,_,kU,_,dS,_⟩:=dz ok oh
   split at h
   ·rename_i l el
    obtain⟨⟨h1,h2,h3,h4,eE⟩,go⟩:=h
    refine⟨_,go,fun η F w o ho a6=>?_⟩
    have a1:=a6 x (by simp[Op.operands])
    have a2:∀y,lo=some y→aF F w (ρ y) (η y):=fun y e=>a6 y (by subst e;simp[Op.operands])
    have a3:=a6 gn (by simp[Op.operands])
    have a4:=a6 mo (by simp[Op.operands])
    rw[hx]at a1
    rw[hho]at a3
    rw[ya]at a4
    have e3:=a3.gM
    have e4:=a4.gM
    obtain⟨a,cap,ea,c,T,fz,m1,m2,m3,m4⟩:=a1.lh
    have hb:=TE (P:=P) (w:=w) (k1:=k1) (k2:=k2) (oy a2).1 (oy a2).2 el h1 h2 h3 h4 m2
    refine⟨.slice (some (if m.toNat=l.toNat then a else a.add (l.toNat*j'.size))) (hh.toNat-l.toNat) (m.toNat-l.toNat),?_,?_⟩
    ·intro w'
     simp only[execOp,ho,Instr.sliceAt,Sem.run_bind,run_underlying hd,Result.andThen_ok,Option.map_some,ea,e3,e4,Instr.slice,hb,run_sizeOf kU,Sem.run_pure]
     split <;> rfl
    ·refine .ah _ _ _ _ _ _ ⟨c,T,fz,m1,by omega,by omega,?_⟩
     by_cases fh:m.toNat=l.toNat
     ·refine .inr ?_
      rw[az fh]
      rcases m4 with ⟨rfl,_⟩ | ⟨q1,q2,q3,q4⟩
      ·exact⟨rfl,rfl,by omega,by omega⟩
      ·exact⟨q1,q2,by omega,by omega⟩
     ·refine .inl ?_
      rw[aA fh]
      rcases m4 with ⟨rfl,q⟩ | ⟨q1,q2,q3,q4⟩
      ·refine⟨by rw[ox,dS,eE],?_⟩
       have h6:off+l.toNat*es+(m.toNat-l.toNat)*es=off+m.toNat*es:=by
        rw[Du,← qT];congr 2;omega
       have h7:m.toNat*es≤cap*es:=pf _ (by omega)
       omega
      ·omega
   ·exact h.elim
  ·exact h.elim
 ·exact h.elim
theorem sj{η:Operand→Value}(b:Builtin)(args:Array Operand)(cJ:Array TypeId)(o:Oper)(ho:o.op=.call ⟨.builtin b,args,cJ⟩):execOp η o=builtin b cJ o.type (args.map fun | .const _=>true | _=>false) (args.map η):=by
 simp[execOp,ho,resolve,invoke]
 rfl
theorem Ww(ok:dH P TT){x:Operand}{cJ:Array TypeId}{t:TypeId}{i:TI}{ρ:Operand→AV}{K:AV→Prop}(hty:cJ.toList=[t])(ht:TT t=some i)(h:Cb i.k (ρ x) K):∃v,K v∧e8 P (.call ⟨.builtin .len,#[x],cJ⟩) ρ v:=by
 obtain⟨_,d,_,_,hd,_,_,hf,_,_⟩:=dz ok ht
 obtain rfl:cJ = #[t]:=by cases cJ;simp_all
 unfold Cb at h
 have fin:∀(n:Nat),K (.int .i64 n)→(∀(F:Nat→Prop) (w:World) (v:Value),aF F w (ρ x) v→∀ty w',(Builtin.len_ #[t] ty #[v]).run P w'=.ok (.int .i64 n) w')→∃v,K v∧e8 P (.call ⟨.builtin .len,#[x],#[t]⟩) ρ v:=by
  intro n hk hr
  refine⟨_,hk,mR (fun _ _=>.int _ _) fun η F w o ho a6=>?_⟩
  have a1:=a6 x (by simp[Op.operands,Call.operands])
  rw[sj _ _ _ o ho]
  simp[builtin,hr F w _ a1]
 split at h
 ·rename_i e s l hk hx
  rw[hk]at hf;obtain rfl:=jZ hf
  refine fin _ h fun F w v hv ty w'=>?_
  rw[hx]at hv
  obtain⟨a,c,rfl,_⟩:=hv.Cm
  simp[Builtin.len_,run_underlying hd,goInt]
 ·rename_i e b off len es hk hx
  rw[hk]at hf;obtain rfl:=jZ hf
  refine fin _ h fun F w v hv ty w'=>?_
  rw[hx]at hv
  obtain⟨a,c,rfl,_⟩:=hv.lh
  simp[Builtin.len_,run_underlying hd,goInt]
 ·rename_i e hk hx
  rw[hk]at hf;obtain rfl:=jZ hf
  refine fin 0 h fun F w v hv ty w'=>?_
  rw[hx]at hv
  cases hv
  simp[Builtin.len_,run_underlying hd,goInt]
 ·rename_i e hk hx
  rw[hk]at hf;obtain rfl:=jZ hf
  refine fin 0 h fun F w v hv ty w'=>?_
  rw[hx]at hv
  cases hv
  simp[Builtin.len_,run_underlying hd,goInt]
 ·rename_i e hk hx
  rw[hk]at hf;obtain rfl:=jZ hf
  refine fin 0 h fun F w v hv ty w'=>?_
  rw[hx]at hv
  cases hv
  simp[Builtin.len_,run_underlying hd,goInt]
 ·exact h.elim
theorem WQ(ok:dH P TT){x:Operand}{cJ:Array TypeId}{t:TypeId}{i:TI}{ρ:Operand→AV}{K:AV→Prop}(hty:cJ.toList=[t])(ht:TT t=some i)(h:Co i.k (ρ x) K):∃v,K v∧e8 P (.call ⟨.builtin .cap,#[x],cJ⟩) ρ v:=by
 obtain⟨_,d,_,_,hd,_,_,hf,_,_⟩:=dz ok ht
 obtain rfl:cJ = #[t]:=by cases cJ;simp_all
 unfold Co at h
 have fin:K (.int .i64 0)→(∀(F:Nat→Prop) (w:World) (v:Value),aF F w (ρ x) v→∀ty w',(Builtin.cap_ #[t] ty #[v]).run P w'=.ok (.int .i64 0) w')→∃v,K v∧e8 P (.call ⟨.builtin .cap,#[x],#[t]⟩) ρ v:=by
  intro hk hr
  refine⟨_,hk,mR (fun _ _=>.int _ _) fun η F w o ho a6=>?_⟩
  have a1:=a6 x (by simp[Op.operands,Call.operands])
  rw[sj _ _ _ o ho]
  simp[builtin,hr F w _ a1]
 split at h
 ·rename_i e hk hx
  rw[hk]at hf;obtain rfl:=jZ hf
  refine fin h fun F w v hv ty w'=>?_
  rw[hx]at hv
  cases hv
  simp[Builtin.cap_,run_underlying hd,goInt]
 ·rename_i e hk hx
  rw[hk]at hf;obtain rfl:=jZ hf
  refine fin h fun F w v hv ty w'=>?_
  rw[hx]at hv
  cases hv
  simp[Builtin.cap_,run_underlying hd,goInt]
 ·exact h.elim
theorem Wq{x y:Operand}{cJ:Array TypeId}{ρ:Operand→AV}{K:AV→Prop}(h:B8 [ρ x,ρ y] K):∃v,K v∧e8 P (.call ⟨.builtin .min,#[x,y],cJ⟩) ρ v:=by
 unfold B8 at h
 split at h
 ·rename_i k a k' b e
  simp only[List.cons.injEq,and_true]at e
  split at h
  ·refine⟨_,h,mR (fun _ _=>.int _ _) fun η F w o ho a6=>?_⟩
   have a1:=a6 x (by simp[Op.operands,Call.operands]);rw[e.1]at a1
   have a2:=a6 y (by simp[Op.operands,Call.operands]);rw[e.2]at a2
   rw[sj _ _ _ o ho]
   simp[builtin,Builtin.min_,Builtin.min2,a1.gM,a2.gM]
  ·exact h.elim
 ·exact h.elim
theorem Wt{x y:Operand}{cJ:Array TypeId}{ρ:Operand→AV}{K:AV→Prop}(h:B9 [ρ x,ρ y] K):∃v,K v∧e8 P (.call ⟨.builtin .max,#[x,y],cJ⟩) ρ v:=by
 unfold B9 at h
 split at h
 ·rename_i k a k' b e
  simp only[List.cons.injEq,and_true]at e
  split at h
  ·refine⟨_,h,mR (fun _ _=>.int _ _) fun η F w o ho a6=>?_⟩
   have a1:=a6 x (by simp[Op.operands,Call.operands]);rw[e.1]at a1
   have a2:=a6 y (by simp[Op.operands,Call.operands]);rw[e.2]at a2
   rw[sj _ _ _ o ho]
   simp[builtin,Builtin.max_,Builtin.max2,a1.gM,a2.gM]
  ·exact h.elim
 ·exact h.elim
theorem Vw{x y:Operand}{cJ:Array TypeId}{ρ:Operand→AV}{K:AV→Prop}(h:BW (ρ x) (ρ y) K):∃v,K v∧e8 P (.call ⟨.builtin .complex,#[x,y],cJ⟩) ρ v:=by
 unfold BW at h
 split at h
 ·rename_i a b hx hy
  refine⟨_,h,fun η F w o ho a6=>?_⟩
  have a1:=a6 x (by simp[Op.operands,Call.operands]);rw[hx]at a1
  have a2:=a6 y (by simp[Op.operands,Call.operands]);rw[hy]at a2
  obtain⟨r,e1,h1⟩:=a1.FY
  obtain⟨q,e2,h2⟩:=a2.FY
  refine⟨.complex .f64 r q,fun w'=>?_,.fS _ _ _ _ h1 h2⟩
  rw[sj _ _ _ o ho]
  rw[show Array.map η #[x,y] = #[η x,η y] by simp,e1,e2];rfl
 ·exact h.elim
theorem U5{x:Operand}{cJ:Array TypeId}{ρ:Operand→AV}{K:AV→Prop}(h:BI (ρ x) K):∃v,K v∧e8 P (.call ⟨.builtin .real,#[x],cJ⟩) ρ v:=by
 unfold BI at h
 split at h
 ·rename_i a b hx
  refine⟨_,h,fun η F w o ho a6=>?_⟩
  have a1:=a6 x (by simp[Op.operands,Call.operands]);rw[hx]at a1
  obtain⟨r,q,e1,h1,h2⟩:=a1.F7
  refine⟨.float .f64 r,fun w'=>?_,.gr _ _ h1⟩
  rw[sj _ _ _ o ho]
  rw[show Array.map η #[x] = #[η x] by simp,e1];rfl
 ·exact h.elim
theorem Vn{x:Operand}{cJ:Array TypeId}{ρ:Operand→AV}{K:AV→Prop}(h:BM (ρ x) K):∃v,K v∧e8 P (.call ⟨.builtin .imag,#[x],cJ⟩) ρ v:=by
 unfold BM at h
 split at h
 ·rename_i a b hx
  refine⟨_,h,fun η F w o ho a6=>?_⟩
  have a1:=a6 x (by simp[Op.operands,Call.operands]);rw[hx]at a1
  obtain⟨r,q,e1,h1,h2⟩:=a1.F7
  refine⟨.float .f64 q,fun w'=>?_,.gr _ _ h2⟩
  rw[sj _ _ _ o ho]
  rw[show Array.map η #[x] = #[η x] by simp,e1];rfl
 ·exact h.elim
theorem Holds.FM{F:Nat→Prop}{w:World}{b:Nat}{x:AV}{o:Obj}(h:Holds F w b [x])(hx:vP x=some o):¬F b∧w.heap[b]?=some o:=by
 obtain⟨hF,⟨c,T,h1,h2,h3⟩ | ⟨x',o',h1,h2,h3⟩ | ⟨_,_,h1,_⟩⟩:=h
 ·have:=(h3 0 _ rfl).1;rw[HT hx]at this;cases this
 ·cases h1;rw[hx]at h3;cases h3;exact⟨hF,h2⟩
 ·cases h1;cases hx
theorem Holds.Ca{F:Nat→Prop}{w:World}{b:Nat}{l:List (Int×Int)}(h:Holds F w b [.nT l]):¬F b∧w.heap[b]?=some (.map (gk 0 l).toArray l.length):=h.FM rfl
theorem Holds.R7{F:Nat→Prop}{w:World}{b:Nat}{L:Loop}{t:Nat→AV}(h:Holds F w b [.mu L t]):¬F b∧w.heap[b]?=some (.loop L)∧∀i,aF F w (t i) (L.tmps.getD i undef):=by
 obtain⟨hF,⟨c,T,h1,h2,h3⟩ | ⟨x,o,h1,h2,h3⟩ | ⟨_,_,h1,h2⟩⟩:=h
 ·have:=(h3 0 _ rfl).1;cases this
 ·cases h1;cases h3
 ·cases h1;exact⟨hF,h2⟩
theorem aF.SJ{F:Nat→Prop}{w:World}{b:Nat}{v:Value}(h:aF F w (.nk b) v):v=.pointer (some ⟨b,0,none⟩):=by cases h;rfl
theorem aF.JA{F:Nat→Prop}{w:World}{b:Nat}{v:Value}(h:aF F w (.nf b) v):v=.map (some b):=by cases h;rfl
theorem HW(ok:dH P TT){t:TypeId}{z:Int}(h:zD TT t=some z):∃k e,P.underlying t=some (.map k e)∧P.underlying k=some (.int .i64)∧∀w,(zeroValue e).run P w=.ok (.int .i64 z) w:=by
 unfold zD at h
 split at h
 ·rename_i k e s1 b1 z1 ht
  split at h
  ·rename_i s2 b2 z2 s3 b3 zz hk he
   cases h
   obtain⟨_,d1,_,_,qS,_,_,iN,_,_⟩:=dz ok ht
   obtain⟨_,d2,_,_,o7,_,_,uF,_,_⟩:=dz ok hk
   obtain⟨j3,d3,zv,hj3,hd3,_,_,hf3,x4,gU⟩:=dz ok he
   have:=Yj iN;subst this
   have:=fits_int uF;subst this
   have KV:zv=.int .i64 z:=by
    obtain⟨j2,z2',k1,k2,k3⟩:=P7 ok he rfl
    rw[hj3]at k1;cases k1
    rw[x4]at k2;cases k2
    cases zv with
    |agg cs=>cases k3
    |int q n=>
     simp[Value.cells,pB,AV.isVal]at gU
     obtain⟨rfl,rfl⟩:=gU
     rfl
    |_=>exact absurd gU (by simp[Value.cells,pB,AV.isVal])
   exact⟨k,e,qS,o7,fun w=>by simp[zeroValue,typeInfo,hj3,x4,KV]⟩
  ·cases h
 ·cases h
theorem TO(ok:dH P TT){t:TypeId}{m k:Operand}{c:Bool}{ρ:Operand→AV}{σ:Hp}{K:AV→Prop}(h:Bm TT t (bZ (ρ m)) (bZ (ρ k)) c σ K):∃v,K v∧Cv P (.lookup t m k c) ρ σ v:=by
 unfold Bm at h
 split at h
 ·rename_i z n hz hk
  obtain⟨kt,et,h1,h2,h3⟩:=HW ok hz
  obtain⟨j,b,l,hm,hj,go⟩:=h
  have hs:∀(η:Operand→Value) (F:Nat→Prop) (w:World) (o:Oper),o.op=.lookup t m k c→(∀x∈(Op.lookup t m k c).operands.toList,aF F w (ρ x) (η x))→bC F w σ→(execOp η o).run P w=.ok (.value (if c then .tuple #[.int .i64 ((getM l n).getD z),.bool (getM l n).isSome] else .int .i64 ((getM l n).getD z))) w:=fun η F w o ho hx aJ=>by
   have a1:=(hx m (by simp[Op.operands])).bZ
   rw[hm]at a1
   have a2:=(hx k (by simp[Op.operands])).bZ
   rw[hk]at a2
   have e1:η m=.map (some b):=a1.JA
   have e2:η k=.int .i64 n:=a2.gM
   obtain⟨_,hb⟩:=(aJ.holds _ (dm hj)).Ca
   simp[execOp,ho,e1,e2,Ue h1 h2 (h3 w) hb n c]
  cases c with
  |true=>
   exact⟨_,go,fun η F w o ho hx aJ=>⟨_,hs η F w o ho hx aJ,.tup _ _ rfl fun i y hy=>by
    rcases i with _ | _ | i
    ·simp at hy;subst hy;exact .int _ _
    ·simp at hy;subst hy;exact .bool _
    ·simp at hy⟩⟩
  |false=>exact⟨_,go,fun η F w o ho hx aJ=>⟨_,hs η F w o ho hx aJ,.int _ _⟩⟩
 ·exact h.elim
def Jd:Op→Bool
 |.load _ _ | .lookup _ _ _ _=>false
 |_=>true
theorem Od(ok:dH P TT){op:Op}{ρ:Operand→AV}{σ:Hp}{K:AV→Prop}(hb:Jd op=true)(h:fM P TT op ρ σ K):∃v,K v∧e8 P op ρ v:=by
 unfold fM at h
 split at h
 ·rw[xg]at h;exact⟨_,h,V0⟩
 ·rw[xg]at h;exact⟨_,h,Uc⟩
 ·split at h
  ·rename_i x hx
   rw[xg,xg]at h
   refine⟨_,?_,VZ hx⟩
   cases x <;> exact h
  ·exact h.elim
 ·split at h
  ·rename_i v hv
   exact⟨v,h,UF ok hv⟩
  ·exact h.elim
 ·split at h
  ·cases hb
  ·exact h.elim
 ·rename_i x
  split at h
  ·rename_i b o' hx
   refine⟨_,h,Fj rfl fun η F w o ho a6=>?_⟩
   have h1:=a6 x (by simp[Op.operands]);rw[hx]at h1
   exact⟨h1.yF,fun _=>by simp[execOp,ho,h1.tW]⟩
  ·rename_i cs hx
   refine⟨_,h,fun η F w o ho a6=>?_⟩
   have h1:=a6 x (by simp[Op.operands]);rw[hx]at h1
   obtain⟨b,o',e,hF,eP⟩:=h1.xq
   exact⟨_,by simp[execOp,ho,e],eP.fY hF⟩
  ·rename_i f a c hx
   refine⟨_,h,fun η F w o ho a6=>?_⟩
   have h1:=a6 x (by simp[Op.operands]);rw[hx]at h1
   cases hv:η x with
   |func f' v1 v2=>
    rw[hv]at h1
    have:f'=.func f:=by cases h1;rfl
    subst this
    exact⟨_,by simp[execOp,ho,hv],h1⟩
   |_=>rw[hv]at h1;cases h1
  ·rename_i m t pv c hx
   obtain⟨ha,h⟩:=h
   refine⟨_,h,fun η F w o ho a6=>?_⟩
   have h1:=a6 x (by simp[Op.operands]);rw[hx]at h1
   cases hv:η x with
   |func f' v1 v2=>
    rw[hv]at h1
    have h2:=h1
    obtain⟨rfl,hs,hr⟩:f'=.method m∧1=v1.size∧aF F w (.iface t pv) (v1.getD 0 undef):=by
     cases h1 with | fn _ _ _ _ _ fE gV h1 h2=>exact⟨rfl,fE,h1 0 _ rfl⟩
    obtain⟨u,h0,hn⟩:∃u,v1[0]?=some (.iface t u)∧∀w',(nilAhead (P.types.size+Made.depth) t u m).run P w'=.ok (some false) w':=by
     have ab:0<v1.size:=by omega
     have e1:v1.getD 0 undef=v1[0]:=by simp[Array.getD,ab]
     rw[e1]at hr
     rw[wU ab]
     revert hr
     generalize v1[0]=u
     intro hr
     cases hr with
     |iface _ _ u h=>exact⟨u,rfl,W5 ha h⟩
    refine⟨.func (.method m) v1 v2,fun w'=>?_,h2⟩
    have hn:=hn w'
    simp only[execOp,ho,hv,h0,Sem.run_bind,run_program,Result.andThen_ok,hn]
    rfl
   |_=>rw[hv]at h1;cases h1
  ·rename_i t v hx
   refine⟨_,h,fun η F w o ho a6=>?_⟩
   have h1:=a6 x (by simp[Op.operands]);rw[hx]at h1
   cases hv:η x with
   |iface t' v'=>
    rw[hv]at h1
    exact⟨_,by simp[execOp,ho,hv],h1⟩
   |_=>rw[hv]at h1;cases h1
  ·exact h.elim
 ·exact AK (VD ok (ρ:=fun x=>bZ (ρ x)) h)
 ·exact Xu h
 ·exact Vz ok h
 ·rename_i t x
  split at h
  ·exact h.elim
  ·rename_i i hn hi
   exact⟨_,h,Ux ok hi (fun e=>hn i.size i.bytes i.zero (by rw[← e]))⟩
  ·exact h.elim
 ·exact⟨_,h,Tu⟩
 ·exact AK (Ub ok (ρ:=fun x=>bZ (ρ x)) h)
 ·exact Tr ok h
 ·exact Uy ok h
 ·exact AK (Tp ok (ρ:=fun x=>bZ (ρ x)) h)
 ·rename_i x tx t ok2
  split at h
  ·rename_i e s b t' v ht hx
   exact MJ ok ht rfl (.inl ⟨t',v,hx,h⟩)
  ·rename_i e s b ht hx
   exact MJ ok ht rfl (.inr ⟨hx,h⟩)
  ·exact h.elim
 ·cases hb
 ·split at h
  ·rename_i vs hx
   split at h
   ·rename_i v hv;exact⟨v,h,TC hx hv⟩
   ·exact h.elim
  ·exact h.elim
 ·rename_i args cJ
  split at h
  ·rename_i x t hx ht
   obtain rfl:args = #[x]:=by cases args;simp_all
   split at h
   ·rename_i i hi;exact AK (Ww ok ht hi (ρ:=fun x=>bZ (ρ x)) h)
   ·exact h.elim
  ·exact h.elim
 ·rename_i args cJ
  split at h
  ·rename_i x y hx
   obtain rfl:args = #[x,y]:=by cases args;simp_all
   exact Wq h
  ·exact h.elim
 ·rename_i args cJ
  split at h
  ·rename_i x y hx
   obtain rfl:args = #[x,y]:=by cases args;simp_all
   exact Wt h
  ·exact h.elim
 ·rename_i args cJ
  split at h
  ·rename_i x y hx
   obtain rfl:args = #[x,y]:=by cases args;simp_all
   exact Vw h
  ·exact h.elim
 ·rename_i args cJ
  split at h
  ·rename_i x hx
   obtain rfl:args = #[x]:=by cases args;simp_all
   exact U5 h
  ·exact h.elim
 ·rename_i args cJ
  split at h
  ·rename_i x hx
   obtain rfl:args = #[x]:=by cases args;simp_all
   exact Vn h
  ·exact h.elim
 ·rename_i args cJ
  split at h
  ·rename_i x t hx ht
   obtain rfl:args = #[x]:=by cases args;simp_all
   split at h
   ·rename_i i hi;exact AK (WQ ok ht hi (ρ:=fun x=>bZ (ρ x)) h)
   ·exact h.elim
  ·exact h.elim
 ·exact h.elim
theorem D6(ok:dH P TT){op:Op}{ρ:Operand→AV}{σ:Hp}{K:AV→Prop}(h:fM P TT op ρ σ K):∃v,K v∧Cv P op ρ σ v:=by
 cases hb:Jd op with
 |true=>
  obtain⟨v,h1,h2⟩:=Od ok hb h
  exact⟨v,h1,h2.adq σ⟩
 |false=>
  cases op with
  |load t a=>
   have h:(match TT t with | some i=>pD i (ρ a) σ K | none=>False):=h
   split at h
   ·rename_i i hi;exact Vh ok hi h
   ·exact h.elim
  |lookup t m k c=>exact TO ok h
  |_=>cases hb
end
section
variable {P:Program} {ops:Array Oper} {Q:Exit→Act→World→Prop} {md:Region.Mode} {S:World→Prop}
def xV(P:Program)(o:Oper)(a:Act)(next:Act→World→Prop):Result Next→Prop
 |.ok (.value v) w'=>next (a.put o.dst v) w'
 |.ok .skip w'=>next (a.put o.dst undef) w'
 |.ok (.enter f args) w'=>Calls P f args w' fun e l7=>∃v,e=.returned v∧next (a.put o.dst v) l7
 |.ok (.round l f tmps assign body) w'=>RoundIn Fence.wide 0 P l f tmps assign body w' fun e l7=>∃v,e=.returned v∧next (a.put o.dst v) l7
 |_=>False
def wq(P:Program)(o:Oper)(a:Act)(w:World)(next:Act→World→Prop)(_:Exit→Act→World→Prop):Prop:=xV P o a next ((execOp a.eval o).run P w)
theorem PY{o:Oper}{a:Act}{w:World}{K K':Act→World→Prop}(h:∀a w,K a w→K' a w)(hh:wq P o a w K Q):wq P o a w K' Q:=by
 unfold wq at *
 generalize (execOp a.eval o).run P w=r at *
 cases r with
 |ok x w'=>
  cases x <;> simp only[xV]at hh ⊢ <;>
   first
    |exact h _ _ hh
    |exact Calls.mono hh (fun _ _ ⟨v,he,hv⟩=>⟨v,he,h _ _ hv⟩)
    |exact RoundIn.mono hh (fun _ _ ⟨v,he,hv⟩=>⟨v,he,h _ _ hv⟩)
 |halt x w'=>cases x <;> simp only[xV]at hh
def nP(P:Program)(ops:Array Oper)(Q:Exit→Act→World→Prop)(i:Nat)(K:Act→World→Prop)(a:Act)(w:World):Prop:=
 match ops[i]? with
 |none=>K a w
 |some o=>if Region.wanted o (yielded ops a.tmps) then wq P o a w K Q else K (a.put o.dst undef) w
theorem HL{i:Nat}{a:Act}{w:World}{K K':Act→World→Prop}(h:∀a w,K a w→K' a w)(hh:nP P ops Q i K a w):nP P ops Q i K' a w:=by
 unfold nP at *
 split
 ·exact h _ _ (by simpa [*]using hh)
 ·rename_i o ho
  simp only[ho]at hh
  split
  ·rename_i hw;simp only[hw,if_true]at hh;exact PY h hh
  ·rename_i hw;simp only[hw]at hh;exact h _ _ hh
def vF(P:Program)(ops:Array Oper)(Q:Exit→Act→World→Prop):List Oper→Act→World→Prop
 | [],a,w=>Q .normal a w
 |o::rest,a,w=>if Region.wanted o (yielded ops a.tmps) then wq P o a w (vF P ops Q rest) Q else vF P ops Q rest (a.put o.dst undef) w
def vH(P:Program)(md:Region.Mode)(ops:Array Oper)(Q:Exit→Act→World→Prop):Nat→Array Bool→Act→World→Prop
 | 0,aC,a,w=>Region.ready md ops aC=[]∧Q .normal a w
 |fuel+1,aC,a,w=>(Region.ready md ops aC=[]→Q .normal a w)∧∀i∈Region.ready md ops aC,nP P ops Q i (vH P md ops Q fuel (aC.setIfInBounds i true)) a w
theorem TY{i:Nat}{o:Oper}{v:Value}{a:Act}(hi:ops[i]?=some o)(hy:YieldsIf P ops S o v a){K:Act→World→Prop}{w:World}(hS:S w)(h:K (a.put o.dst v) w):nP P ops Q i K a w:=by
 unfold nP
 simp only[hi]
 rcases hy with ⟨hw,hv⟩ | ⟨hw,rfl⟩
 ·simp only[hw,if_true,wq,hv w hS];exact h
 ·simp only[hw,uR,if_false];exact h
theorem VO{j:Nat}{oi oj:Oper}{v:Value}(hj:ops[j]?=some oj)(uK:oi.apart ops oj=true)(hsi:∀cs b,oi.op≠.select cs b)(hsj:∀cs b,oj.op≠.select cs b)
  {K:Act→World→Prop} {a:Act} {w:World} (hy:YieldsIf P ops S oi v a) (h:nP P ops Q j K (a.put oi.dst v) w):nP P ops Q j (fun a' w'=>YieldsIf P ops S oi v a'∧K (a'.put oi.dst v) w') a w:=by
 obtain⟨h1,h2,h3⟩:=Oper.apart_spec uK
 have keep:∀u,YieldsIf P ops S oi v (a.put oj.dst u):=fun u=>hy.of_same (execOp_put oi hsi a oj.dst u h3) (wanted_put oi a oj.dst u h3)
 have go:∀(u:Value) (w':World),K ((a.put oi.dst v).put oj.dst u) w'→YieldsIf P ops S oi v (a.put oj.dst u)∧K ((a.put oj.dst u).put oi.dst v) w':=fun u w' hk=>⟨keep u,by rw[← Act.put_comm a v u h2];exact hk⟩
 unfold nP at *
 simp only[hj]at *
 rw[wanted_put oj a oi.dst v h1]at h
 by_cases hw:Region.wanted oj (yielded ops a.tmps)=true
 ·rw[az hw]at h ⊢
  unfold wq at *
  rw[execOp_put oj hsj a oi.dst v h1]at h
  generalize (execOp a.eval oj).run P w=r at *
  cases r with
  |ok x w'=>
   cases x <;> simp only[xV]at h ⊢
   case value u=>exact go u w' h
   case skip=>exact go undef w' h
   case enter f args=>exact Calls.mono h fun e l7 ⟨u,he,hk⟩=>⟨u,he,go u l7 hk⟩
   case round l f tmps assign body=>exact RoundIn.mono h fun e l7 ⟨u,he,hk⟩=>⟨u,he,go u l7 hk⟩
  |halt x w'=>cases x <;> simp only[xV]at h
 ·rw[aA hw]at h ⊢
  exact go undef w h
def FW(r:Option Nat):Fence:= { Fence.wide with round:=r }
variable {r:Option Nat}
theorem RS{o:Oper}(ck:∀c,o.op≠.defer c){a:Act}{w:World}{K:Act→World→Prop}(h:wq P o a w K Q):o.wpIn (FW r) 0 P a w K Q:=by
 refine⟨fun _ _=>trivial,?_⟩
 rw[show (FW r).round=r from rfl,Oper.semAt_eq r a.eval o ck]
 unfold wq at h
 generalize (execOp a.eval o).run P w=x at *
 cases x with
 |ok x w'=>
  cases x <;> simp only[xV]at h <;> simp only[Oper.uponIn]
  case value u=>exact h
  case skip=>exact h
  case enter f args=>
   refine⟨fun hd=>(by cases hd),?_⟩
   have h2:CallsIn Fence.wide (0-1) P f args w' _:=callsIn_wide.2 h
   exact CallsIn.mono (F:=FW r) h2 fun e l7 ⟨u,he,hk⟩=>by subst he;exact hk
  case round l f tmps assign body=>
   refine⟨fun hd=>(by cases hd),?_⟩
   exact RoundIn.mono (F:=FW r) h fun e l7 ⟨u,he,hk⟩=>by subst he;exact hk
 |halt x w'=>cases x <;> simp only[xV]at h
theorem NM:∀(l:List Oper) (a:Act) (w:World),(∀o∈l,∀c,o.op≠.defer c)→vF P ops Q l a w→wpListIn (FW r) 0 P ops Q l a w
 | [],_,_,_,h=>h
 |o::l,a,w,ck,h=>by
  have ih:=fun a w=>NM l a w fun o ho=>ck o (dy _ ho)
  unfold vF at h
  unfold wpListIn
  split
  ·rename_i hw
   rw[az hw]at h
   exact RS (ck o (cF ..)) (PY ih h)
  ·rename_i hw
   rw[aA hw]at h
   exact⟨fun _ _=>trivial,ih _ _ h⟩
theorem OO(ck:∀o∈ops.toList,∀c,o.op≠.defer c):∀(fuel:Nat) (aC:Array Bool) (a:Act) (w:World),vH P md ops Q fuel aC a w→wpAnyIn (FW r) 0 P md ops Q fuel aC a w
 | 0,_,_,_,h=>h
 |fuel+1,aC,a,w,h=>by
  refine⟨h.1,fun i hi=>?_⟩
  have h2:=HL (OO ck fuel (aC.setIfInBounds i true)) (h.2 i hi)
  unfold nP at h2
  unfold wpOpIn
  cases ho:ops[i]? with
  |none=>rw[ho]at h2;exact h2
  |some o=>
   rw[ho]at h2
   simp only at h2 ⊢
   split
   ·rename_i hw
    rw[az hw]at h2
    exact RS (ck o (Array.mem_toList_iff.2 (Array.mem_of_getElem? ho))) h2
   ·rename_i hw
    rw[aA hw]at h2
    exact⟨fun _ _=>trivial,h2⟩
theorem Ug{id:Nat}{a:Act}{w:World}(ck:∀o∈ops.toList,∀c,o.op≠.defer c)(h:vF P ops Q ops.toList a w):(Code.region id ops false).wpIn (FW r) 0 P Q a w:=
 wpIn_region_list (NM _ _ _ ck h)
theorem Hy{id:Nat}{a:Act}{w:World}(hm:P.follows .mixedOrders=true)(ck:∀o∈ops.toList,∀c,o.op≠.defer c)(h:vH P .any ops Q ops.size (Array.replicate ops.size false) a { w with drawn:=w.drawn+1 }):(Code.region id ops true).wpIn (FW r) 0 P Q a w:=
 wpIn_region_any hm (OO ck _ _ _ _ h)
end
end Go.Proofs.YtnikdflhefijbaaGreat
