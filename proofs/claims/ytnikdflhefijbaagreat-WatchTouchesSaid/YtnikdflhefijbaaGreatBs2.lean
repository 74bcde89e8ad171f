import Derived.ChangeKeysEq
import Derived.Deep.MidRow
import Derived.Laws.Pointers
import Derived.Laws.Small
import Derived.Laws.StructEq
import Derived.Test.YtnikdflhefijbaaGreatBs1
import Derived.OrdersHeld
import Derived.OrdersIn
import Derived.RangeFuncRecord
import Derived.TacticsIn
namespace Go.Proofs.YtnikdflhefijbaaGreat
open Go.RowKit
def TK.fits:TypeDesc→TK→Bool
 |.int k,.int k'=>decide (k=k')
 |.bool,.bool=>true
 |.string,.str=>true
 |.slice e,.slice e'=>decide (e=e')
 |.pointer e,.ptr e'=>decide (e=e')
 |.struct fs,.bz l=>decide (fs.toList.map (fun f=>(f.offset,f.type))=l)
 |.array n e,.arr n' e'=>decide (n=n')&&decide (e=e')
 |.interface _,.iface=>true
 |.func _ _ _,.func=>true
 |.map k e,.map k' e'=>decide (k=k')&&decide (e=e')
 |.float .f64,.gi=>true
 |.complex .f64,.fK=>true
 |_,_=>false
def AV.isVal:AV→Value→Bool
 |.int k n,.int k' n'=>decide (k=k')&&decide (n=n')
 |.bool b,.bool b'=>b == b'
 |.str s,.string s'=>decide (s.size=0)&&decide (s'.size=0)
 |.cR,.pointer none=>true
 |.ag,.slice none 0 0=>true
 |.nilif,.nilIface=>true
 |.iE,.nilFunc=>true
 |.oW,.map none=>true
 |.gi n,.float .f64 b=>decide (n=0)&&decide (b=0)
 |.fK n m,.complex .f64 a b=>decide (n=0∧m=0)&&decide (a=0∧b=0)
 |_,_=>false
def pM:List AV→List Value→Bool
 | [],[]=>true
 |x::xs,v::vs=>x.isVal v&&pM xs vs
 |_,_=>false
def SU:Value→Bool
 |.agg _=>true
 |_=>false
def GJ(P:Program)(t:TypeId)(i:TI):Bool:=
 match P.info? t,P.underlying t with
 |some j,some d=>decide (j.size=i.size)&&(decide (j.bytes=i.bytes∧i.zero.length=i.size)&&(TK.fits d i.k&&(match j.zero with | some z=>pM i.zero z.cells.toList&&(i.wide||!SU z) | none=>false)))
 |_,_=>false
def dP(P:Program)(TT:TypeId→Option TI):Prop:=∀t i,TT t=some i→GJ P t i=true
def TA(P:Program)(TT:TypeId→Option TI)(n:Nat):Bool:=(List.range n).all fun t=>match TT t with | some i=>GJ P t i | none=>true
theorem abo{P:Program}{TT:TypeId→Option TI}{n:Nat}(h:TA P TT n=true)(ho:∀t,n≤t→TT t=none):dP P TT:=by
 intro t i hi
 by_cases ht:t<n
 ·have:=fq.1 h t (gP.2 ht);rw[hi]at this;exact this
 ·rw[ho t (Nat.le_of_not_lt ht)]at hi;cases hi
theorem dF{P:Program}{TT:TypeId→Option TI}(ok:dP P TT){t:TypeId}{i:TI}(h:TT t=some i):
  ∃j d z,P.info? t=some j∧P.underlying t=some d∧j.size=i.size∧(j.bytes=i.bytes∧i.zero.length=i.size)∧TK.fits d i.k=true∧j.zero=some z∧pM i.zero z.cells.toList=true:=by
 have h1:=ok t i h;unfold GJ at h1;split at h1
 ·rename_i j d hj hd
  simp only[bS,decide_eq_true_eq]at h1;obtain⟨h2,h3,h4,h5⟩:=h1;split at h5
  ·rename_i z hz
   simp only[bS]at h5;exact⟨j,d,z,hj,hd,h2,h3,h4,hz,h5.1⟩
  ·cases h5
 ·cases h1
theorem RI{P:Program}{TT:TypeId→Option TI}(ok:dP P TT){t:TypeId}{i:TI}(h:TT t=some i)(hw:i.wide=false):∃j z,P.info? t=some j∧j.zero=some z∧SU z=false:=by
 have h1:=ok t i h;unfold GJ at h1;split at h1
 ·rename_i j d hj hd
  simp only[bS,decide_eq_true_eq]at h1;obtain⟨h2,h3,h4,h5⟩:=h1;split at h5
  ·rename_i z hz
   simp only[bS,pq,hw,vJ,false_or,j7]at h5;exact⟨j,z,hj,hz,h5.2⟩
  ·cases h5
 ·cases h1
theorem fits_int{d:TypeDesc}{k:IntKind}(h:TK.fits d (.int k)=true):d=.int k:=by cases d <;> simp_all [TK.fits]
theorem fits_bool{d:TypeDesc}(h:TK.fits d .bool=true):d=.bool:=by cases d <;> simp_all [TK.fits]
theorem jN{d:TypeDesc}{e:TypeId}(h:TK.fits d (.slice e)=true):d=.slice e:=by cases d <;> simp_all [TK.fits]
theorem aa6{d:TypeDesc}{k e:TypeId}(h:TK.fits d (.map k e)=true):d=.map k e:=by cases d <;> simp_all [TK.fits]
theorem Fg{d:TypeDesc}{e:TypeId}(h:TK.fits d (.ptr e)=true):d=.pointer e:=by cases d <;> simp_all [TK.fits]
theorem IM{d:TypeDesc}{l:List (Nat×TypeId)}(h:TK.fits d (.bz l)=true):∃fs,d=.struct fs∧fs.toList.map (fun f=>(f.offset,f.type))=l:=by cases d <;> simp_all [TK.fits]
theorem Q8{d:TypeDesc}{n:Nat}{e:TypeId}(h:TK.fits d (.arr n e)=true):d=.array n e:=by cases d <;> simp_all [TK.fits]
theorem OR{d:TypeDesc}(h:TK.fits d .iface=true):∃m,d=.interface m:=by cases d <;> simp_all [TK.fits]
theorem PX{d:TypeDesc}(h:TK.fits d .func=true):∃a b c,d=.func a b c:=by cases d <;> simp_all [TK.fits]
theorem aa7{d:TypeDesc}(h:TK.fits d .gi=true):d=.float .f64:=by
 unfold TK.fits at h;split at h <;> simp_all
theorem PW{d:TypeDesc}{i:TI}(h:TK.fits d i.k=true):d.isRow=i.wide:=by
 unfold TI.wide;cases hk:i.k <;> rw[hk]at h <;> cases d <;> first | rfl | simp[TK.fits]at h
theorem Yn{F:Nat→Prop}{w:World}{x:AV}{v:Value}(h:x.isVal v=true):aD F w x v∧x.leaf=true:=by
 unfold AV.isVal at h;split at h
 ·simp only[bS,decide_eq_true_eq]at h;obtain⟨rfl,rfl⟩:=h;exact⟨.int _ _,rfl⟩
 ·simp only[beq_iff_eq]at h;subst h;exact⟨.bool _,rfl⟩
 ·rename_i s s'
  simp only[bS,decide_eq_true_eq]at h;obtain⟨h1,h2⟩:=h
  have:s=s':=by
   apply ByteArray.ext;apply Array.ext
   ·exact h1.trans h2.symm
   ·intro i hi _;have:i<s.size:=hi;omega
  subst this;exact⟨.str _,rfl⟩
 ·exact⟨.cR,rfl⟩
 ·exact⟨.ag,rfl⟩
 ·exact⟨.nilif,rfl⟩
 ·exact⟨.iE,rfl⟩
 ·exact⟨.oW,rfl⟩
 ·simp only[bS,decide_eq_true_eq]at h;obtain⟨rfl,rfl⟩:=h;exact⟨.gi _ _ Jz,rfl⟩
 ·simp only[bS,decide_eq_true_eq]at h;obtain⟨⟨rfl,rfl⟩,rfl,rfl⟩:=h;exact⟨.fK _ _ _ _ Jz Jz,rfl⟩
 ·cases h
theorem Pa{F:Nat→Prop}{w:World}:∀{xs:List AV} {vs:List Value},pM xs vs=true→xs.length=vs.length∧∀i x,xs[i]?=some x→aD F w x (vs.getD i undef)∧x.leaf=true
 | [],[],_=>⟨rfl,fun i x h=>by simp at h⟩
 |x::xs,v::vs,h=>by
  simp only[pM,bS]at h;obtain⟨h1,h2⟩:=Pa (F:=F) (w:=w) h.2;refine⟨by simp[h1],fun i y hi=>?_⟩;cases i with
  |zero=>simp at hi;subst hi;simpa using Yn h.1
  |succ i=>simpa using h2 i y (by simpa using hi)
 | [],_::_,h=>by simp[pM]at h
 |_::_,[],h=>by simp[pM]at h
theorem bH.refl(F:Nat→Prop)(w:World):bH F w F w:=⟨rfl,rfl,rfl,bg _,fun _ h=>h,fun _ _=>rfl,fun _ c _ fz h=>⟨c,fz,h,rfl⟩,bg _⟩
theorem bH.trans{F F' nw:Nat→Prop}{w w' lX:World}(h:bH F w F' w')(k:bH F' w' nw lX):bH F w nw lX:=
 ⟨k.os.trans h.os,k.tape.trans h.tape,k.output.trans h.output,dE h.size k.size,fun b hb=>k.sub b (h.sub b hb),fun b hb=>(k.fix b (h.sub b hb)).trans (h.fix b hb),
  fun b c T fz hb=>by
   obtain⟨c',rF,h1,h2⟩:=h.rows b c T fz hb;obtain⟨c'',agG,h3,h4⟩:=k.rows b c' T rF h1
   exact⟨c'',agG,h3,h4.trans h2⟩,dE h.drawn k.drawn⟩
theorem JE{w w':World}{b:Nat}(h:w'.heap[b]?=w.heap[b]?)(o:Nat):w'.cell? ⟨b,o,none⟩=w.cell? ⟨b,o,none⟩:=World.cell?_of_block (w:=w) (a:=⟨b,o,none⟩) h
theorem uV.fix{w w':World}{b o:Nat}{cs:List Value}(h:uV w b o cs)(hb:w'.heap[b]?=w.heap[b]?):uV w' b o cs:=fun j u hu=>(JE hb _).trans (h j u hu)
theorem nD.mono{F F':Nat→Prop}{w w':World}(aq:bH F w F' w'){b:Nat}(h:nD w b):nD w' b:=by
 obtain⟨c,T,fz,h⟩:=h;obtain⟨c',rF,h',_⟩:=aq.rows b c T fz h;exact⟨c',T,rF,h'⟩
theorem FC.mono{F F':Nat→Prop}{w w':World}(aq:bH F w F' w'){b:Nat}(h:FC F w b):FC F' w' b:=⟨aq.sub b h.1,h.2.mono aq⟩
theorem kI.mono{F F':Nat→Prop}{w w':World}(aq:bH F w F' w'):∀(s:Sh) (cs:List Value) (d:s.T),kI F w s cs d→kI F' w' s cs d:=by
 intro s
 induction s with
 |int k=>exact fun _ _ h=>h
 |bool=>exact fun _ _ h=>h
 |str=>exact fun _ _ h=>h
 |nil=>exact fun _ _ h=>h
 |slice e ih=>
  rintro cs l ⟨a,c,h1,h2,h3,h0,h4⟩;refine⟨a,c,h1,h2,h3,h0,fun bf=>?_⟩;obtain⟨b,o,rfl,hF,hi⟩:=h4 bf;refine⟨b,o,rfl,hF.mono aq,fun i h=>?_⟩;obtain⟨cs',q1,q2,q3⟩:=hi i h;exact⟨cs',q1,q2.fix (aq.fix b hF.1),ih _ _ q3⟩
 |field f r qf jH=>
  rintro cs d ⟨c1,c2,h1,h2,h3,h4⟩;exact⟨c1,c2,h1,h2,qf _ _ h3,jH _ _ h4⟩
theorem C5.mono{F F':Nat→Prop}{w w':World}(aq:bH F w F' w'){b off len e:Nat}{a:Addr}{cap:Nat}(h:C5 w b off len e a cap):C5 w' b off len e a cap:=by
 obtain⟨c,T,fz,h1,h2,h3,h4⟩:=h;obtain⟨c',rF,h5,h6⟩:=aq.rows b c T fz h1;exact⟨c',T,rF,h5,h2,h3,by rw[h6];exact h4⟩
theorem aD.mono{F F':Nat→Prop}{w w':World}(aq:bH F w F' w'){x:AV}{v:Value}(h:aD F w x v):aD F' w' x v:=by
 induction h with
 |int k n=>exact .int k n
 |bool b=>exact .bool b
 |str s=>exact .str s
 |ae e l v h=>exact .ae e l v (kI.mono aq _ _ _ h)
 |kj a=>exact .kj a
 |gz a c h=>exact .gz a c h
 |ag=>exact .ag
 |af b off len e a cap h=>exact .af b off len e a cap (h.mono aq)
 |cR=>exact .cR
 |ptr b off h=>exact .ptr b off (h.mono aq)
 |mX b=>exact .mX b
 |nk b=>exact .nk b
 |fQ cs b o f hF h1 hl h ih=>exact .fQ cs b o f (hF.mono aq) (fun i x hx=>(JE (aq.fix b hF.1) _).trans (h1 i x hx)) hl ih
 |agg cs vs hs hl h ih=>exact .agg cs vs hs hl ih
 |tup cs vs hs h ih=>exact .tup cs vs hs ih
 |iface t a v h ih=>exact .iface t a v ih
 |nilif=>exact .nilif
 |fn f c1 c2 v1 v2 fj dw h1 h2 Df De=>exact .fn f c1 c2 v1 v2 fj dw Df De
 |iE=>exact .iE
 |oW=>exact .oW
 |gi n b h=>exact .gi n b h
 |fK n m a b h1 h2=>exact .fK n m a b h1 h2
 |any v=>exact .any v
 |via x v hl h ih=>exact .via x v hl ih
theorem aD.bV{F:Nat→Prop}{w:World}{x:AV}{v:Value}(h:aD F w x v):aD F w (Go.Proofs.YtnikdflhefijbaaGreat.bV x) v:=by
 cases h with
 |via x v hl h=>exact h
 |int k n=>exact .int k n
 |bool b=>exact .bool b
 |str s=>exact .str s
 |ae e l v h=>exact .ae e l v h
 |kj a=>exact .kj a
 |gz a c h=>exact .gz a c h
 |ag=>exact .ag
 |af b off len e a cap h=>exact .af b off len e a cap h
 |cR=>exact .cR
 |ptr b off h=>exact .ptr b off h
 |mX b=>exact .mX b
 |nk b=>exact .nk b
 |fQ cs b o f hF h1 hl h=>exact .fQ cs b o f hF h1 hl h
 |agg cs vs hs hl h=>exact .agg cs vs hs hl h
 |tup cs vs hs h=>exact .tup cs vs hs h
 |iface t a v h=>exact .iface t a v h
 |nilif=>exact .nilif
 |fn f c1 c2 v1 v2 fj dw h1 h2=>exact .fn f c1 c2 v1 v2 fj dw h1 h2
 |iE=>exact .iE
 |oW=>exact .oW
 |gi n b h=>exact .gi n b h
 |fK n m a b h1 h2=>exact .fK n m a b h1 h2
 |any v=>exact .any v
theorem iS.mono{F F':Nat→Prop}{w w':World}(aq:bH F w F' w'){xs:List AV}{vs:Array Value}(h:iS F w xs vs):iS F' w' xs vs:=⟨h.1,fun i x hx=>(h.2 i x hx).mono aq⟩
theorem aD.one{F:Nat→Prop}{w:World}{x:AV}{v:Value}(h:aD F w x v)(hl:x.leaf=true):v.oneCell'=true:=by
 induction h with
 |ae e l v h=>
  obtain⟨a,c,h1,_⟩:=h;obtain rfl:=HX.1 h1;rfl
 |agg=>cases hl
 |tup=>cases hl
 |any=>cases hl
 |via x v h1 h ih=>exact ih h1
 |_=>rfl
theorem aD.CW{F:Nat→Prop}{w:World}{e:Sh}{l:List e.T}{v:Value}(h:aD F w (.ae e l) v):∃a c,v=.slice a l.length c∧l.length≤c∧c≤maxLen∧
   (l≠[]→∃b o,a=some ⟨b,o,none⟩∧FC F w b∧∀i,(h:i<l.length)→∃cs',cs'.length=e.size∧uV w b (o+i*e.size) cs'∧kI F w e cs' l[i]):=by
 cases h with
 |ae e l v h=>
  obtain⟨a,c,h1,h2,h3,_,h4⟩:=h;exact⟨a,c,HX.1 h1,h2,h3,h4⟩
theorem aD.agH{F:Nat→Prop}{w:World}{e:Sh}{l:List e.T}{v:Value}(h:aD F w (.ae e l) v){a:Option Addr}{n c:Nat}(hv:v=.slice a n c):a=none→c=0:=by
 cases h with
 |ae e l v h=>
  obtain⟨a',c',h1,h2,h3,h4,_⟩:=h;have:=HX.1 h1;rw[hv]at this;cases this;exact h4
theorem kI.cells{F:Nat→Prop}{w:World}:∀(s:Sh) (cs:List Value) (d:s.T),kI F w s cs d→(s.cells d).length=cs.length∧∀i x,(s.cells d)[i]?=some x→x.leaf=true∧aD F w x (cs.getD i undef):=by
 intro s
 induction s with
 |int k=>rintro cs d h;obtain rfl:cs=[.int k d]:=h;exact⟨rfl,fun i x hx=>by cases i <;> simp[Sh.cells]at hx;subst hx;exact⟨rfl,.int _ _⟩⟩
 |bool=>rintro cs d h;obtain rfl:cs=[.bool d]:=h;exact⟨rfl,fun i x hx=>by cases i <;> simp[Sh.cells]at hx;subst hx;exact⟨rfl,.bool _⟩⟩
 |str=>rintro cs d h;obtain rfl:cs=[.string d]:=h;exact⟨rfl,fun i x hx=>by cases i <;> simp[Sh.cells]at hx;subst hx;exact⟨rfl,.str _⟩⟩
 |nil=>rintro cs d h;obtain rfl:cs=[]:=h;exact⟨rfl,fun i x hx=>by simp[Sh.cells]at hx⟩
 |slice e ih=>
  rintro cs l h;have h':=h;obtain⟨a,c,rfl,_⟩:=h';exact⟨rfl,fun i x hx=>by cases i <;> simp[Sh.cells]at hx;subst hx;exact⟨rfl,.ae e l _ h⟩⟩
 |field f r qf jH=>
  rintro cs d ⟨c1,c2,rfl,h2,h3,h4⟩;obtain⟨a1,a2⟩:=qf _ _ h3;obtain⟨b1,b2⟩:=jH _ _ h4;refine⟨by simp[Sh.cells,a1,b1],fun i x hx=>?_⟩;simp only[Sh.cells]at hx
  by_cases hi:i<(f.cells d.1).length
  ·rw[ku hi]at hx;have:=a2 i x hx;rw[bK,ku (by omega),← bK];exact this
  ·rw[iL (by omega)]at hx;have:=b2 _ x hx;rw[bK,iL (by omega),← bK,← a1];exact this
theorem Sh.sK(s:Sh)(d:s.T):(s.cells d).length=s.size:=by
 induction s with
 |field f r qf jH=>simp[Sh.cells,Sh.size,qf,jH]
 |_=>rfl
def At(F:Nat→Prop)(w:World)(b o:Nat)(cs:List AV):Prop:=∀(i:Nat) (x:AV),cs[i]?=some x→x.leaf=true∧∃v,w.cell? ⟨b,o+i,none⟩=some v∧aD F w x v
theorem ES{x:AV}{o:Obj}(h:wJ x=some o):x.leaf=false:=by cases x <;> first | rfl | simp[wJ]at h
theorem OM{x:AV}{c:Array Value}{T:TypeId}{fz:Nat×Nat}(h:wJ x=some (.cells c T fz)):False:=by cases x <;> simp[wJ]at h
theorem Holds.cells{F:Nat→Prop}{w:World}{b:Nat}{cs:List AV}(h:Holds F w b cs)(hc:nD w b):¬F b∧Cf F w b cs:=by
 obtain⟨hF,h | ⟨x,o,_,h,hx⟩ | ⟨L,t,_,h,_⟩⟩:=h
 ·exact⟨hF,h⟩
 ·obtain⟨c,T,fz,h'⟩:=hc;rw[h]at h';cases h';cases OM hx
 ·obtain⟨c,T,fz,h'⟩:=hc;rw[h]at h';cases h'
theorem Holds.KM{F:Nat→Prop}{w:World}{b k:Nat}{cs:List AV}{x:AV}(h:Holds F w b cs)(hk:cs[k]?=some x)(hx:x.leaf=true):¬F b∧Cf F w b cs:=by
 obtain⟨hF,h | ⟨y,o,rfl,h,hy⟩ | ⟨L,t,rfl,h,_⟩⟩:=h
 ·exact⟨hF,h⟩
 ·cases k with
  |zero=>simp at hk;subst hk;rw[ES hy]at hx;cases hx
  |succ k=>simp at hk
 ·cases k with
  |zero=>simp at hk;subst hk;cases hx
  |succ k=>simp at hk
theorem aD.zh{F:Nat→Prop}{w:World}{b o:Nat}{v:Value}(h:aD F w (.ptr b o) v):nD w b:=by cases h;assumption
theorem Holds.at_{F:Nat→Prop}{w:World}{b:Nat}{cs:List AV}(h0:Holds F w b cs)(hc:nD w b):At F w b 0 cs:=by
 obtain⟨_,c,T,h1,h2,h3⟩:=h0.cells hc;intro i x hx;have hi:i<cs.length:=(cW.1 hx).1;obtain⟨h4,h5⟩:=h3 i x hx;refine⟨h4,c.getD i undef,?_,h5⟩;rw[dD,FJ h1];have:i<c.size:=by omega
 simp[Array.getD,this]
theorem At.drop{F:Nat→Prop}{w:World}{b o:Nat}{cs:List AV}(h:At F w b o cs)(k:Nat):At F w b (o+k) (cs.drop k):=by
 intro i x hx;rw[yY]at hx;obtain⟨h1,v,h2,h3⟩:=h (k+i) x hx;exact⟨h1,v,by rw[← h2,D8],h3⟩
theorem At.RY{F:Nat→Prop}{w:World}{b o:Nat}(s:Sh){cs:List Value}{d:s.T}(h:uV w b o cs)(hr:kI F w s cs d):At F w b o (s.cells d):=by
 obtain⟨h1,h2⟩:=kI.cells s cs d hr;intro i x hx;obtain⟨h3,h4⟩:=h2 i x hx;have hi:i<cs.length:=by rw[← h1];exact (cW.1 hx).1
 exact⟨h3,_,h i _ (by rw[List.getElem?_eq_getElem hi]),by simpa [List.getD,hi]using h4⟩
theorem At.fQ{F:Nat→Prop}{w:World}{b o:Nat}{cs:List AV}(h:At F w b o cs)(hF:FC F w b):aD F w (.fQ cs) (.pointer (some ⟨b,o,none⟩)):=by
 refine .fQ cs b o (fun i=>(w.cell? ⟨b,o+i,none⟩).getD undef) hF (fun i x hx=>?_) (fun i x hx=>(h i x hx).1) (fun i x hx=>?_)
 ·obtain⟨_,v,h2,_⟩:=h i x hx;rw[h2];rfl
 ·obtain⟨_,v,h2,h3⟩:=h i x hx;rw[h2];exact h3
theorem aD.x5{F:Nat→Prop}{w:World}{cs:List AV}{v:Value}(h:aD F w (.fQ cs) v):∃b o,v=.pointer (some ⟨b,o,none⟩)∧FC F w b∧At F w b o cs:=by
 cases h with
 |fQ cs b o f hF h1 hl h=>exact⟨b,o,rfl,hF,fun i x hx=>⟨hl i x hx,f i,h1 i x hx,h i x hx⟩⟩
section
variable {P:Program} {TT:TypeId→Option TI} {F:Nat→Prop} {w:World}
theorem IX{t:TypeId}{d:TypeDesc}(h:P.underlying t=some d)(w:World):(isAgg t).run P w=.ok d.isRow w:=by
 unfold isAgg;rw[Sem.run_bind,run_underlying h w];cases d <;> rfl
theorem run_sizeOf{t:TypeId}{j:TypeInfo}(h:P.info? t=some j)(w:World):(sizeOf t).run P w=.ok j.size w:=by simp[sizeOf,typeInfo,h]
theorem ED(ok:dP P TT){t:TypeId}{i:TI}(ht:TT t=some i){b o:Nat}{cs:List AV}(h:At F w b o cs){k:Nat}{v:AV}(hv:ef i cs k=some v):
  ∃v',(loadVar t ⟨b,o+k,none⟩).run P w=.ok v' w∧aD F w v v':=by
 obtain⟨j,d,z,hj,hd,hs,hb,hf,hz,gN⟩:=dF ok ht;have hw:=PW hf;unfold ef at hv;split at hv
 ·rename_i yf
  split at hv
  ·rename_i hle
   have hle:=cj hle;simp only[Option.some.injEq]at hv;subst hv
   have hc:∀m,m<i.size→∃x,cs[k+m]?=some x∧x.leaf=true∧∃v,w.cell? ⟨b,o+k+m,none⟩=some v∧aD F w x v:=by
    intro m hm;have hk:k+m<cs.length:=by omega
    obtain⟨h1,v,h2,h3⟩:=h (k+m) cs[k+m] (by simp[hk]);exact⟨_,by simp[hk],h1,v,by rw[← h2,Nat.add_assoc],h3⟩
   have hr:w.rangeAt b (o+k) ((List.range i.size).map fun m=>(w.cell? ⟨b,o+k+m,none⟩).getD undef):=by
    intro m v hm;have hmi:m<i.size:=by have:=(List.getElem?_eq_some_iff.1 hm).1;simpa using this
    obtain⟨x,_,_,v',h2,_⟩:=hc m hmi;simp[hmi]at hm;rw[h2]at hm ⊢;simpa using hm
   refine⟨_,run_loadVar_mid (P:=P) w b (o+k) t _ d hr hd (by rw[hw,yf]) (by simp[hj,hs]),?_⟩;refine .agg _ _ (by simp;omega) (fun m x hx=>?_) (fun m x hx=>?_)
   ·rw[qw]at hx;split at hx
    ·rename_i hm
     obtain⟨x',h1,h2,_⟩:=hc m hm;rw[yY,h1]at hx;cases hx;exact h2
    ·cases hx
   ·rw[qw]at hx;split at hx
    ·rename_i hm
     obtain⟨x',h1,_,v,h2,h3⟩:=hc m hm;rw[yY,h1]at hx;cases hx;simpa [hm,h2]using h3
    ·cases hx
  ·cases hv
 ·rename_i yf
  obtain⟨_,v',h2,h3⟩:=h k v hv;refine⟨v',?_,h3⟩;unfold loadVar;rw[Sem.run_bind,IX hd];simp[hw,yf,h2]
def C4(P:Program)(op:Op)(ρ:Operand→AV)(σ:Hp)(v:AV):Prop:=
 ∀(η:Operand→Value) (F:Nat→Prop) (w:World) (o:Oper),o.op=op→(∀x∈op.operands.toList,aD F w (ρ x) (η x))→bA F w σ→∃v',(execOp η o).run P w=.ok (.value v') w∧aD F w v v'
def e8(P:Program)(op:Op)(ρ:Operand→AV)(v:AV):Prop:=
 ∀(η:Operand→Value) (F:Nat→Prop) (w:World) (o:Oper),o.op=op→(∀x∈op.operands.toList,aD F w (ρ x) (η x))→∃v',(∀w',(execOp η o).run P w'=.ok (.value v') w')∧aD F w v v'
theorem e8.bV{P:Program}{op:Op}{ρ:Operand→AV}{v:AV}(h:e8 P op (fun x=>Go.Proofs.YtnikdflhefijbaaGreat.bV (ρ x)) v):e8 P op ρ v:=fun η F w o ho hx=>h η F w o ho (fun x hm=>(hx x hm).bV)
theorem Bg{P:Program}{op:Op}{ρ:Operand→AV}{K:AV→Prop}(h:∃v,K v∧e8 P op (fun x=>Go.Proofs.YtnikdflhefijbaaGreat.bV (ρ x)) v):∃v,K v∧e8 P op ρ v:=by
 obtain⟨v,h1,h2⟩:=h;exact⟨v,h1,h2.bV⟩
theorem e8.afP{P:Program}{op:Op}{ρ:Operand→AV}{v:AV}(h:e8 P op ρ v)(σ:Hp):C4 P op ρ σ v:=fun η F w o ho hx _=>by
 obtain⟨v',h1,h2⟩:=h η F w o ho hx;exact⟨v',h1 w,h2⟩
theorem bA.at_{F:Nat→Prop}{w:World}{σ:Hp}(h:bA F w σ){j b:Nat}{cs:List AV}(hj:σ[j]?=some (b,cs))(hc:nD w b):At F w b 0 cs:=(h.holds (b,cs) (dz hj)).at_ hc
theorem XQ{x:Operand}{ρ:Operand→AV}:e8 P (.move x) ρ (ρ x):=fun η F w o ho hx=>⟨η x,fun _=>by simp[execOp,ho],hx x (by simp[Op.operands])⟩
theorem VG{x:Operand}{ρ:Operand→AV}:e8 P (.assign x) ρ (ρ x):=fun η F w o ho hx=>⟨η x,fun _=>by simp[execOp,ho],hx x (by simp[Op.operands])⟩
theorem aD.qO{b:Bool}{v:Value}(h:aD F w (.bool b) v):v=.bool b:=by cases h;rfl
theorem aD.gq{k:IntKind}{n:Int}{v:Value}(h:aD F w (.int k n) v):v=.int k n:=by cases h;rfl
theorem aD.GZ{n:Int}{v:Value}(h:aD F w (.gi n) v):∃b,v=.float .f64 b∧je b n:=by cases h with | gi n b h=>exact⟨b,rfl,h⟩
theorem aD.G3{n m:Int}{v:Value}(h:aD F w (.fK n m) v):∃a b,v=.complex .f64 a b∧je a n∧je b m:=by cases h with | fK n m a b h1 h2=>exact⟨a,b,rfl,h1,h2⟩
theorem aD.CB{s:ByteArray}{v:Value}(h:aD F w (.str s) v):v=.string s:=by cases h;rfl
theorem aD.uJ{b o:Nat}{v:Value}(h:aD F w (.ptr b o) v):v=.pointer (some ⟨b,o,none⟩):=by cases h;rfl
theorem aD.kK{b off len e:Nat}{v:Value}(h:aD F w (.af b off len e) v):∃a cap,v=.slice (some a) len cap∧C5 w b off len e a cap:=by cases h with | af _ _ _ _ a cap h=>exact⟨a,cap,rfl,h⟩
theorem aD.tp{cs:List AV}{v:Value}(h:aD F w (.agg cs) v):∃vs,v=.agg vs∧cs.length=vs.size∧(∀(i:Nat) (x:AV),cs[i]?=some x→x.leaf=true∧aD F w x (vs.getD i undef)):=by
 cases h with | agg cs vs hs hl h=>exact⟨vs,rfl,hs,fun i x hx=>⟨hl i x hx,h i x hx⟩⟩
theorem J6{b o:Nat}{v:Value}(h:aD F w (.agg [.ptr b o]) v):v=.agg #[.pointer (some ⟨b,o,none⟩)]∧aD F w (.ptr b o) (.pointer (some ⟨b,o,none⟩)):=by
 obtain⟨vs,rfl,hs,hi⟩:=h.tp;have h0:=(hi 0 _ rfl).2
 have e:vs = #[vs.getD 0 undef]:=Array.ext (by simpa using hs.symm) fun i h1 h2=>by
  have h3:i=0:=by simpa using h2
  subst h3;simp[Array.getD,h1]
 have e2:=h0.uJ;rw[e2]at e h0;exact⟨by rw[e],h0⟩
theorem YU{P:Program}{t:TypeId}{m:String}{x:AV}{u:Value}(h:AheadOk P t m x)(hu:aD F w x u)(w':World):(nilAhead (P.types.size+Made.depth) t u m).run P w'=.ok (some false) w':=by
 unfold AheadOk at h;split at h
 ·rw[hu.uJ];exact h _ w'
 ·rw[(J6 hu).1];exact h _ w'
 ·exact h.elim
theorem Yf{P:Program}{t:TypeId}{m:String}{x r:AV}{g:FuncId}{u:Value}(h:MethX P t m x g r)(hu:aD F w x u):∃ru,aD F w r ru∧∀w',(method (P.types.size+Made.depth) t u m).run P w'=.ok (g,ru) w':=by
 unfold MethX at h;split at h
 ·obtain⟨h,rfl⟩:=h;refine⟨u,hu,fun w'=>?_⟩;rw[hu.uJ];exact h _ w'
 ·obtain⟨h,rfl⟩:=h;refine⟨u,hu,fun w'=>?_⟩;obtain⟨b,o,e,_⟩:=hu.x5;rw[e];exact h _ w'
 ·obtain⟨h,rfl⟩:=h;refine⟨_,(J6 hu).2,fun w'=>?_⟩;rw[(J6 hu).1];exact h _ w'
 ·exact h.elim
theorem XP{c a b:Operand}{ρ:Operand→AV}{x:Bool}(h:ρ c=.bool x):e8 P (.pick c a b) ρ (if x then ρ a else ρ b):=by
 intro η F w o ho hx;have hc:=hx c (by simp[Op.operands]);have ha:=hx a (by simp[Op.operands]);have hb:=hx b (by simp[Op.operands]);rw[h]at hc;have hc:=hc.qO;cases x
 ·exact⟨η b,fun _=>by simp[execOp,ho,hc,asBool],hb⟩
 ·exact⟨η a,fun _=>by simp[execOp,ho,hc,asBool],ha⟩
theorem WX(ok:dP P TT){t:TypeId}{a:Operand}{ρ:Operand→AV}{σ:Hp}{K:AV→Prop}{i:TI}(ht:TT t=some i)(h:pQ i (ρ a) σ K):∃v,K v∧C4 P (.load t a) ρ σ v:=by
 unfold pQ at h;split at h
 ·rename_i cs fU
  split at h
  ·rename_i v hv
   refine⟨v,h,fun η F w o ho hx _=>?_⟩;have ha:=hx a (by simp[Op.operands]);rw[fU]at ha;obtain⟨b,o',e,hF,eQ⟩:=ha.x5;obtain⟨v',h1,h2⟩:=ED ok ht eQ hv;rw[vF]at h1;exact⟨v',by simp[execOp,ho,e,Instr.loadAt,Instr.sureAddr,h1],h2⟩
  ·exact h.elim
 ·rename_i b o' fU
  obtain⟨j,cs,v,h1,h2,go⟩:=h;refine⟨v,go,fun η F w o ho hx aG =>?_⟩;have ha:=hx a (by simp[Op.operands]);rw[fU]at ha;obtain⟨v',h3,h4⟩:=ED ok ht (aG.at_ h1 ha.zh) h2;rw[dD]at h3;exact⟨v',by simp[execOp,ho,ha.uJ,Instr.loadAt,Instr.sureAddr,h3],h4⟩
 ·exact h.elim
end
section
variable {P:Program} {TT:TypeId→Option TI}
theorem Gh{op:Op}{ρ:Operand→AV}{b o:Nat}{u:Value}(h0:u=.pointer (some ⟨b,o,none⟩))(h:∀(η:Operand→Value) (F:Nat→Prop) (w:World) (o:Oper),o.op=op→(∀x∈op.operands.toList,aD F w (ρ x) (η x))→nD w b∧∀w',(execOp η o).run P w'=.ok (.value u) w'):e8 P op ρ (.ptr b o):=fun η F w o ho hx=>by
 obtain⟨h1,h2⟩:=h η F w o ho hx;exact⟨u,h2,h0▸.ptr _ _ h1⟩
theorem mL{op:Op}{ρ:Operand→AV}{v:AV}{u:Value}(hu:∀F w,aD F w v u)(h:∀(η:Operand→Value) (F:Nat→Prop) (w:World) (o:Oper),o.op=op→(∀x∈op.operands.toList,aD F w (ρ x) (η x))→∀w',(execOp η o).run P w'=.ok (.value u) w'):e8 P op ρ v:=
 fun η F w o ho hx=>⟨u,h η F w o ho hx,hu F w⟩
theorem qE{b:Bool}{K:AV→Prop}(h:nX b K):K (.bool b):=by cases b <;> exact h
theorem W5{op:BinOp}{k:IntKind}{a b:Int}{K:AV→Prop}(lv:op≠.shl∧op≠.shr)(h:GO op k a b K):
  ∃v u,K v∧(∀F w,aD F w v u)∧∀(t:TypeId) (w:World),(binOp op t (.int k a) (.int k b)).run P w=.ok u w:=by
 cases op <;> simp only[GO]at h
 case add=>exact⟨_,_,h,fun _ _=>.int _ _,fun t w=>by simp[binOp,Op.intArith]⟩
 case sub=>exact⟨_,_,h,fun _ _=>.int _ _,fun t w=>by simp[binOp,Op.intArith]⟩
 case mul=>exact⟨_,_,h,fun _ _=>.int _ _,fun t w=>by simp[binOp,Op.intArith]⟩
 case quo=>exact⟨_,_,h.go,fun _ _=>.int _ _,fun t w=>by simp[binOp,Op.intDiv,h.fact]⟩
 case rem=>exact⟨_,_,h.go,fun _ _=>.int _ _,fun t w=>by simp[binOp,Op.intDiv,h.fact]⟩
 case and=>exact⟨_,_,h,fun _ _=>.int _ _,fun t w=>by rw[show binOp .and t (.int k a) (.int k b)=Op.intBits .and k a b by simp[binOp]];rfl⟩
 case or=>exact⟨_,_,h,fun _ _=>.int _ _,fun t w=>by rw[show binOp .or t (.int k a) (.int k b)=Op.intBits .or k a b by simp[binOp]];rfl⟩
 case xor=>exact⟨_,_,h,fun _ _=>.int _ _,fun t w=>by rw[show binOp .xor t (.int k a) (.int k b)=Op.intBits .xor k a b by simp[binOp]];rfl⟩
 case andNot=>exact⟨_,_,h,fun _ _=>.int _ _,fun t w=>by rw[show binOp .andNot t (.int k a) (.int k b)=Op.intBits .andNot k a b by simp[binOp]];rfl⟩
 case eql=>exact⟨_,_,qE h,fun _ _=>.bool _,fun t w=>by simp[binOp,Op.intCmp];exact Bool.beq_eq_decide_eq _ _⟩
 case neq=>exact⟨_,_,qE h,fun _ _=>.bool _,fun t w=>by simp[binOp,Op.intCmp,bne,Bool.beq_eq_decide_eq]⟩
 case lss=>exact⟨_,_,qE h,fun _ _=>.bool _,fun t w=>by simp[binOp,Op.intCmp]⟩
 case leq=>exact⟨_,_,qE h,fun _ _=>.bool _,fun t w=>by simp[binOp,Op.intCmp]⟩
 case gtr=>exact⟨_,_,qE h,fun _ _=>.bool _,fun t w=>by simp[binOp,Op.intCmp]⟩
 case geq=>exact⟨_,_,qE h,fun _ _=>.bool _,fun t w=>by simp[binOp,Op.intCmp]⟩
theorem NN{op:BinOp}{k yk:IntKind}{a b:Int}{K:AV→Prop}(h:FR op k a b K):
  ∃v u,K v∧(∀F w,aD F w v u)∧∀(t:TypeId) (w:World),(binOp op t (.int k a) (.int yk b)).run P w=.ok u w:=by
 cases op <;> simp only[FR]at h
 case shl=>exact⟨_,_,h.go,fun _ _=>.int _ _,fun t w=>by have:=h.fact;simp[binOp,Op.shift,show ¬b<0 by omega]⟩
 case shr=>exact⟨_,_,h.go,fun _ _=>.int _ _,fun t w=>by have:=h.fact;simp[binOp,Op.shift,show ¬b<0 by omega]⟩
theorem vQ{op:BinOp}{t:TypeId}{x y:Operand}{a b:Value}(h:(∀u,a≠.agg u)∧(a≠.nilIface∨b≠.nilIface))(w:World):(eqGuard op t x y a b).run P w=.ok () w:=by
 obtain⟨h1,h2⟩:=h
 cases op <;> first
  |rfl
  |(cases a <;> first
    |rfl
    |exact absurd rfl (h1 _)
    |(cases b <;> first
      |rfl
      |exact absurd rfl (h2.resolve_left (by simp))))
theorem Oc{op:BinOp}{t:TypeId}{x:Operand}{v:Value}{a b:Value}(w:World)(h:∀u,a≠.agg u):(eqGuard op t x (.const v) a b).run P w=.ok () w:=by
 by_cases hn:a=.nilIface∧b=.nilIface
 ·obtain⟨rfl,rfl⟩:=hn;cases op <;> first | rfl | simp[eqGuard]
 ·exact vQ ⟨h,by by_cases ha:a=.nilIface;exact .inr fun hb=>hn ⟨ha,hb⟩;exact .inl ha⟩ w
theorem rK{η:Operand→Value}{o:Oper}{op:BinOp}{t yt:TypeId}{x y:Operand}{w:World}{u:Value}(ho:o.op=.binOp op t x y yt)(hg:(eqGuard op t x y (η x) (η y)).run P w=.ok () w)(h:(binOp op t (η x) (η y)).run P w=.ok u w):
  (execOp η o).run P w=.ok (.value u) w:=by
 simp[execOp,ho,hg,h]
theorem qC{t:TypeId}(a b:Value)(w:World):
  (Op.equal t a b).run P w=(Op.equalIn (9999+1) t a b).run P w:=rfl
theorem Ob(ok:dP P TT){t:TypeId}{i:TI}(ht:TT t=some i){x y:AV}{want:Bool}{K:AV→Prop}(h:zT i.k want x y K):
  ∃r:Bool,K (.bool (r == want))∧∀(F:Nat→Prop) (w:World) (a b:Value),aD F w x a→aD F w y b→(∀u,a≠.agg u)∧(∀w',(Op.equal t a b).run P w'=.ok r w')∧
   binOp .eql t a b=(do pure (.bool (← Op.equal t a b)))∧binOp .neq t a b=(do pure (.bool (!(← Op.equal t a b)))):=by
 obtain⟨j,d,z,hj,hd,_,_,hf,_,_⟩:=dF ok ht;unfold zT at h;split at h
 ·rename_i e hk
  rw[hk]at hf;have:=Fg hf;subst this
  refine⟨true,by simpa using h,fun F w a b ha hb=>?_⟩;cases ha;cases hb;exact⟨by simp,fun w'=>by rw[qC,Op.equalIn,Sem.run_bind,run_underlying hd];rfl,rfl,rfl⟩
 ·rename_i e b' o' hk
  rw[hk]at hf;have:=Fg hf;subst this
  refine⟨false,by simpa using h,fun F w a b ha hb=>?_⟩;cases ha;cases hb;exact⟨by simp,fun w'=>by rw[qC,Op.equalIn,Sem.run_bind,run_underlying hd];rfl,rfl,rfl⟩
 ·rename_i e cs hk
  rw[hk]at hf;have:=Fg hf;subst this
  refine⟨false,by simpa using h,fun F w a b ha hb=>?_⟩;obtain⟨_,_,rfl,_⟩:=ha.x5;cases hb;exact⟨by simp,fun w'=>by rw[qC,Op.equalIn,Sem.run_bind,run_underlying hd];rfl,rfl,rfl⟩
 ·rename_i e hk
  rw[hk]at hf;have:=jN hf;subst this
  refine⟨true,by simpa using h,fun F w a b ha hb=>?_⟩;cases ha;cases hb;exact⟨by simp,fun w'=>by rw[qC,Op.equalIn,Sem.run_bind,run_underlying hd];rfl,rfl,rfl⟩
 ·rename_i e _ _ _ _ hk
  rw[hk]at hf;have:=jN hf;subst this
  refine⟨false,by simpa using h,fun F w a b ha hb=>?_⟩;obtain⟨_,_,rfl,_⟩:=ha.kK;cases hb;exact⟨by simp,fun w'=>by rw[qC,Op.equalIn,Sem.run_bind,run_underlying hd];rfl,rfl,rfl⟩
 ·rename_i e hk
  rw[hk]at hf;have:=jN hf;subst this
  refine⟨false,by simpa using h,fun F w a b ha hb=>?_⟩;cases ha;cases hb;exact⟨by simp,fun w'=>by rw[qC,Op.equalIn,Sem.run_bind,run_underlying hd];rfl,rfl,rfl⟩
 ·rename_i e s l hk
  rw[hk]at hf;have:=jN hf;subst this
  refine⟨false,by simpa using h.go,fun F w a b ha hb=>?_⟩;obtain⟨_,c,rfl,_,_,h4⟩:=ha.CW;obtain⟨b',o,rfl,_⟩:=h4 (List.ne_nil_of_length_pos h.fact);cases hb;exact⟨by simp,fun w'=>by rw[qC,Op.equalIn,Sem.run_bind,run_underlying hd];rfl,rfl,rfl⟩
 ·rename_i hk
  rw[hk]at hf;obtain⟨m,rfl⟩:=OR hf;refine⟨true,by simpa using h,fun F w a b ha hb=>?_⟩;cases ha;cases hb;exact⟨by simp,fun w'=>by rw[qC,Op.equalIn,Sem.run_bind,run_underlying hd];rfl,rfl,rfl⟩
 ·rename_i _ _ hk
  rw[hk]at hf;obtain⟨m,rfl⟩:=OR hf;refine⟨false,by simpa using h,fun F w a b ha hb=>?_⟩;cases ha;cases hb;exact⟨by simp,fun w'=>by rw[qC,Op.equalIn,Sem.run_bind,run_underlying hd];rfl,rfl,rfl⟩
 ·rename_i hk
  rw[hk]at hf;obtain⟨_,_,_,rfl⟩:=PX hf;refine⟨true,by simpa using h,fun F w a b ha hb=>?_⟩;cases ha;cases hb;exact⟨by simp,fun w'=>by rw[qC,Op.equalIn,Sem.run_bind,run_underlying hd];rfl,rfl,rfl⟩
 ·rename_i _ _ _ hk
  rw[hk]at hf;obtain⟨_,_,_,rfl⟩:=PX hf;refine⟨false,by simpa using h,fun F w a b ha hb=>?_⟩;cases ha;cases hb;exact⟨by simp,fun w'=>by rw[qC,Op.equalIn,Sem.run_bind,run_underlying hd];rfl,rfl,rfl⟩
 ·exact h.elim
theorem YN(ok:dP P TT){op:BinOp}{t yt:TypeId}{x y:Operand}{ρ:Operand→AV}{K:AV→Prop}(h:C0 TT op t y (ρ x) (ρ y) K):∃v,K v∧e8 P (.binOp op t x y yt) ρ v:=by
 unfold C0 at h;split at h
 ·rename_i k a k' b hx hy
  have fin:(∃v u,K v∧(∀F w,aD F w v u)∧∀(t:TypeId) (w:World),(binOp op t (.int k a) (.int k' b)).run P w=.ok u w)→∃v,K v∧e8 P (.binOp op t x y yt) ρ v:=by
   rintro⟨v,u,hk,hu,hr⟩;refine⟨v,hk,mL hu fun η F w o ho aZ=>?_⟩;have h1:=aZ x (by simp[Op.operands]);have h2:=aZ y (by simp[Op.operands]);rw[hx]at h1;rw[hy]at h2;have e1:=h1.gq;have e2:=h2.gq
   intro w;refine rK ho ?_ ?_
   ·rw[e1,e2];exact vQ ⟨by simp,.inl (by simp)⟩ w
   ·rw[e1,e2];exact hr t w
  split at h
  ·exact fin (NN h)
  ·exact fin (NN h)
  ·rename_i xa np
   split at h
   ·rename_i hk
    have:=eX hk;subst this;exact fin (W5 ⟨xa,np⟩ h)
   ·exact h.elim
 ·rename_i a b hx hy
  split at h
  ·rename_i s b' z' ht
   obtain⟨j,d,z,hj,hd,_,_,hf,_,_⟩:=dF ok ht;have:=fits_bool hf;subst this;have he:∀w,(Op.equal t (.bool a) (.bool b)).run P w=.ok (a == b) w:=fun w=>by rw[qC,Op.equalIn,Sem.run_bind,run_underlying hd];rfl
   split at h
   ·refine⟨_,qE h,mL (fun _ _=>.bool _) fun η F w o ho aZ=>?_⟩;have h1:=aZ x (by simp[Op.operands]);have h2:=aZ y (by simp[Op.operands]);rw[hx]at h1;rw[hy]at h2;have e1:=h1.qO;have e2:=h2.qO
    intro w;refine rK ho ?_ ?_
    ·rw[e1,e2];exact vQ ⟨by simp,.inl (by simp)⟩ w
    ·rw[e1,e2];simp[binOp,he]
   ·refine⟨_,qE h,mL (fun _ _=>.bool _) fun η F w o ho aZ=>?_⟩;have h1:=aZ x (by simp[Op.operands]);have h2:=aZ y (by simp[Op.operands]);rw[hx]at h1;rw[hy]at h2;have e1:=h1.qO;have e2:=h2.qO
    intro w;refine rK ho ?_ ?_
    ·rw[e1,e2];exact vQ ⟨by simp,.inl (by simp)⟩ w
    ·rw[e1,e2];simp[binOp,he]
   ·exact h.elim
  ·exact h.elim
 ·rename_i a b hx hy
  have fin:∀r:Bool,K (.bool r)→(∀w,(binOp op t (.string a) (.string b)).run P w=.ok (.bool r) w)→∃v,K v∧e8 P (.binOp op t x y yt) ρ v:=by
   intro r hk hr;refine⟨_,hk,mL (fun _ _=>.bool _) fun η F w o ho aZ=>?_⟩;have h1:=aZ x (by simp[Op.operands]);have h2:=aZ y (by simp[Op.operands]);rw[hx]at h1;rw[hy]at h2;have e1:=h1.CB;have e2:=h2.CB
   intro w;refine rK ho ?_ ?_
   ·rw[e1,e2];exact vQ ⟨by simp,.inl (by simp)⟩ w
   ·rw[e1,e2];exact hr w
  split at h
  ·exact fin _ (qE h) fun w=>rfl
  ·exact fin _ (qE h) fun w=>rfl
  ·exact h.elim
 ·split at h
  ·rename_i i hc ht
   obtain⟨cv,rfl⟩:∃cv,y=.const cv:=by cases y <;> first | exact⟨_,rfl⟩ | cases hc
   split at h
   ·obtain⟨r,hk,hr⟩:=Ob ok ht h;refine⟨_,hk,mL (fun _ _=>.bool _) fun η F w o ho aZ=>?_⟩;obtain⟨g1,g2,g3,g4⟩:=hr F w _ _ (aZ x (by simp[Op.operands])) (aZ (.const cv) (by simp[Op.operands]));exact fun w=>rK ho (Oc w g1) (by rw[g3];simp[g2])
   ·obtain⟨r,hk,hr⟩:=Ob ok ht h;refine⟨_,hk,mL (fun _ _=>.bool _) fun η F w o ho aZ=>?_⟩;obtain⟨g1,g2,g3,g4⟩:=hr F w _ _ (aZ x (by simp[Op.operands])) (aZ (.const cv) (by simp[Op.operands]));exact fun w=>rK ho (Oc w g1) (by rw[g4];simp[g2])
   ·exact h.elim
  ·exact h.elim
end
section
variable {P:Program} {TT:TypeId→Option TI}
theorem IN{F:Nat→Prop}{w:World}{x:AV}{v:Value}{cs:List AV}(h:aD F w x v)(hc:x.cells?=some cs):
  v.cells.size=cs.length∧∀(i:Nat) (y:AV),cs[i]?=some y→y.leaf=true∧aD F w y (v.cells.getD i undef):=by
 have one:∀(hl:x.leaf=true),some [x]=some cs→v.cells.size=cs.length∧∀(i:Nat) (y:AV),cs[i]?=some y→y.leaf=true∧aD F w y (v.cells.getD i undef):=by
  intro hl e;have e:=Option.some.inj e;subst e;have h1:=h.one hl;have hv:v.cells = #[v]:=by cases v <;> first | rfl | cases h1
  rw[hv];exact⟨rfl,fun i y hi=>by cases i <;> simp at hi;subst hi;exact⟨hl,h⟩⟩
 cases x with
 |agg cs'=>
  obtain rfl:=Option.some.inj hc;obtain⟨vs,rfl,h1,h2⟩:=h.tp;exact⟨h1.symm,h2⟩
 |tup=>cases hc
 |any=>cases hc
 |nP=>cases hc
 |r9=>cases hc
 |mh=>cases hc
 |_=>exact one rfl hc
def o0(F:Nat→Prop)(w:World)(cs:List AV)(vs:Array Value):Prop:=cs.length=vs.size∧∀(i:Nat) (x:AV),cs[i]?=some x→x.leaf=true∧aD F w x (vs.getD i undef)
theorem o0.set{F:Nat→Prop}{w:World}{cs:List AV}{vs:Array Value}(h:o0 F w cs vs)(k:Nat){x:AV}{v:Value}(hl:x.leaf=true)(hx:aD F w x v):o0 F w (cs.set k x) (vs.setIfInBounds k v):=by
 refine⟨by simp[h.1],fun i y hi=>?_⟩;rw[gQ]at hi
 by_cases hk:k=i
 ·subst hk
  by_cases ab:k<cs.length
  ·simp[ab]at hi;subst hi;have:k<vs.size:=by rw[← h.1];exact ab
   exact⟨hl,by simpa [Array.getD,this]using hx⟩
  ·simp[ab]at hi
 ·simp[hk]at hi;obtain⟨h1,h2⟩:=h.2 i y hi;refine⟨h1,?_⟩;have ab:i<vs.size:=by rw[← h.1];exact (cW.1 hi).1
  simpa [Array.getD,ab,Array.getElem_setIfInBounds,hk]using h2
theorem OC{F:Nat→Prop}{w:World}:∀(xs:List AV) (us:List Value) (cs:List AV) (vs:Array Value) (k n:Nat),xs.length=us.length→
  (∀(i:Nat) (x:AV),xs[i]?=some x→x.leaf=true∧aD F w x (us.getD i undef))→o0 F w cs vs→o0 F w (fG cs (k+n) xs) ((us.zipIdx n).foldl (fun c p=>c.setIfInBounds (k+p.2) p.1) vs)
 | [],[],cs,vs,k,n,_,_,h=>h
 |x::xs,u::us,cs,vs,k,n,hl,hx,h=>by
  have h0:=hx 0 x rfl;simp only[fG,List.zipIdx_cons,AZ];exact OC xs us _ _ k (n+1) (by simpa using hl) (fun i y hi=>by simpa using hx (i+1) y (by simpa using hi)) (h.set _ h0.1 (by simpa using h0.2))
 | [],_::_,_,_,_,_,hl,_,_=>by simp at hl
 |_::_,[],_,_,_,_,hl,_,_=>by simp at hl
theorem za:∀(xs cs:List AV) (k:Nat),(fG cs k xs).length=cs.length
 | [],cs,k=>rfl
 |x::xs,cs,k=>by simp[fG,za xs]
theorem Fh{F:Nat→Prop}{w:World}{pl:List (Nat×Nat)}{place:Nat→Option (Nat×Nat)}(hp:∀(i:Nat) (p:Nat×Nat),pl[i]?=some p→place i=some p):
  ∀(parts:List (Nat×AV)) (us:List (Nat×Value)) (cs:List AV) (vs:Array Value) (out:List AV),parts.length=us.length→
   (∀(i:Nat) (p:Nat×AV) (u:Nat×Value),parts[i]?=some p→us[i]?=some u→p.1=u.1∧aD F w p.2 u.2)→o0 F w cs vs→rY pl cs parts=some out→∃eG,Instr.fill place vs us=some eG∧o0 F w out eG
 | [],[],cs,vs,out,_,_,h,e=>⟨vs,rfl,by simp[rY]at e;subst e;exact h⟩
 |p::parts,u::us,cs,vs,out,hl,hx,h,e=>by
  obtain⟨i,x⟩:=p;obtain⟨i',v⟩:=u;obtain⟨rfl,hv⟩:=hx 0 _ _ rfl rfl;simp only[rY]at e;split at e
  ·rename_i off size xs h1 h2
   split at e
   ·rename_i e1 e2
    have e1:=ju e1;have e2:=cj e2;obtain⟨c1,c2⟩:=IN hv h2
    have hs:=OC xs v.cells.toList cs vs off 0 (by simp[c1]) (fun i y hi=>by
     have:=c2 i y hi;have ab:i<v.cells.size:=by rw[c1];exact (cW.1 hi).1
     simpa [Array.getD,List.getD,ab]using this) h
    obtain⟨eG,f1,f2⟩:=Fh hp parts us _ _ out (by simpa using hl) (fun i p u hi hu=>hx (i+1) p u (by simpa using hi) (by simpa using hu)) hs e;refine⟨eG,?_,f2⟩;simp only[Instr.fill,hp _ _ h1];rw[if_neg (by simp[c1,e1];rw[← h.1];omega)];rw[← f1]
    congr 1
    rw[← Array.foldl_toList];simp
   ·cases e
  ·cases e
 | [],_::_,_,_,_,hl,_,_,_=>by simp at hl
 |_::_,[],_,_,_,hl,_,_,_=>by simp at hl
theorem NQ(ok:dP P TT):∀(fs:List Field) (ps:List (Nat×Nat)),BN TT (fs.map fun f=>(f.offset,f.type))=some ps→fs.mapM (fun f=>(P.info? f.type).map fun i=>(f.offset,i.size))=some ps
 | [],ps,h=>by simp[BN]at h;subst h;rfl
 |f::fs,ps,h=>by
  simp only[pn,BN]at h;split at h
  ·rename_i i ps' h1 h2
   obtain⟨j,_,_,hj,_,hs,_⟩:=dF ok h1;have:=NQ ok fs ps' h2;simp at h;subst h;simp[List.mapM_cons,hj,this,hs]
  ·cases h
theorem vZ{F:Nat→Prop}{w:World}{xs:List AV}{z:Value}(h:pM xs z.cells.toList=true):o0 F w xs z.cells:=by
 obtain⟨h1,h2⟩:=Pa (F:=F) (w:=w) h;refine⟨by simpa using h1,fun i x hx=>?_⟩;obtain⟨h3,h4⟩:=h2 i x hx;refine⟨h4,?_⟩;have ab:i<z.cells.size:=by have:=(List.getElem?_eq_some_iff.1 hx).1;simp at h1;omega
 simpa [Array.getD,List.getD,ab]using h3
theorem o0.UQ{F:Nat→Prop}{w:World}{cs:List AV}{vs:Array Value}(h:o0 F w cs vs):aD F w (.agg cs) (.agg vs):=.agg _ _ h.1 (fun i x hx=>(h.2 i x hx).1) (fun i x hx=>(h.2 i x hx).2)
theorem Pz{F:Nat→Prop}{w:World}{parts:Array (Nat×Operand)}{ρ:Operand→AV}{η:Operand→Value}(hx:∀x∈(parts.toList.map (·.2)),aD F w (ρ x) (η x)):
  (parts.toList.map fun p=>(p.1,ρ p.2)).length=(parts.map fun (i,x)=>(i,η x)).toList.length∧∀(i:Nat) (p:Nat×AV) (u:Nat×Value),(parts.toList.map fun p=>(p.1,ρ p.2))[i]?=some p→(parts.map fun (i,x)=>(i,η x)).toList[i]?=some u→p.1=u.1∧aD F w p.2 u.2:=by
 refine⟨by simp,fun i p u hp hu=>?_⟩;simp only[Array.toList_map,fD,vL]at hp hu;obtain⟨a,h1,rfl⟩:=hp;obtain⟨a',h2,rfl⟩:=hu;rw[h1]at h2;cases h2;exact⟨rfl,hx a.2 (eW.2 ⟨a,dz h1,rfl⟩)⟩
theorem Wb(ok:dP P TT){t:TypeId}{parts:Array (Nat×Operand)}{ρ:Operand→AV}{v:AV}(h:F8 TT t (parts.toList.map fun p=>(p.1,ρ p.2))=some v):e8 P (.build t parts) ρ v:=by
 intro η F w o ho hx;obtain⟨hl,hr⟩:=Pz (parts:=parts) (ρ:=ρ) (η:=η) (F:=F) (w:=w) (by simpa [Op.operands]using hx)
 have fin:∀{cells:Array Value} {cs:List AV},P.built t (parts.map fun (i,x)=>(i,η x)).toList=some cells→o0 F w cs cells→∃v',(∀w',(execOp η o).run P w'=.ok (.value v') w')∧aD F w (.agg cs) v':=
  fun hb hc=>⟨_,fun w'=>by simp only[execOp,ho,Sem.run_bind,run_build w' t _ _ hb];rfl,hc.UQ⟩
 unfold F8 at h;split at h
 ·rename_i fs sz qz z0 ht
  obtain⟨j,d,z,hj,hd,hs,hb,hf,hz,gN⟩:=dF ok ht;obtain⟨fields,rfl,yN⟩:=IM hf;split at h
  ·rename_i ps w8
   rw[← yN]at w8;have hm:=NQ ok _ _ w8;obtain⟨out,e1,rfl⟩:=vL.1 h;obtain⟨eG,f1,f2⟩:=Fh (place:=(ps.toArray[·]?)) (fun i p hi=>by simpa using hi) _ _ _ _ _ hl hr (vZ (F:=F) (w:=w) gN) e1;exact fin (by simp only[Program.built,hj,hd,hz,hm];exact f1) f2
  ·cases h
 ·rename_i n e sz qz z0 ht
  obtain⟨j,d,z,hj,hd,hs,hb,hf,hz,gN⟩:=dF ok ht;obtain rfl:=Q8 hf;split at h
  ·rename_i i hi
   obtain⟨j',d',z',iA,j6,cC,_⟩:=dF ok hi;obtain⟨out,e1,rfl⟩:=vL.1 h
   obtain⟨eG,f1,f2⟩:=Fh (place:=fun k=>some (k*j'.size,j'.size)) (fun k p hk=>by
    obtain⟨a,ha,rfl⟩:=cW.1 hk
    simp[cC]) _ _ _ _ _ hl hr (vZ (F:=F) (w:=w) gN) e1
   exact fin (by simp only[Program.built,hj,hd,hz,iA];exact f1) f2
  ·cases h
 ·cases h
end
section
variable {P:Program} {TT:TypeId→Option TI}
theorem Zm{op:UnOp}{t:TypeId}{x:Operand}{ρ:Operand→AV}{K:AV→Prop}(h:C9 op (ρ x) K):∃v,K v∧e8 P (.unOp op t x) ρ v:=by
 unfold C9 at h;split at h
 ·rename_i b hx
  refine⟨_,h,mL (fun _ _=>.bool _) fun η F w o ho aZ=>?_⟩;have h1:=aZ x (by simp[Op.operands]);rw[hx]at h1;simp[execOp,ho,h1.qO,Op.unary]
 ·rename_i k n hx
  refine⟨_,h,mL (fun _ _=>.int _ _) fun η F w o ho aZ=>?_⟩;have h1:=aZ x (by simp[Op.operands]);rw[hx]at h1;simp[execOp,ho,h1.gq,Op.unary,Op.intArith]
 ·rename_i k n hx
  refine⟨_,h,mL (fun _ _=>.int _ _) fun η F w o ho aZ=>?_⟩;have h1:=aZ x (by simp[Op.operands]);rw[hx]at h1;rw[show execOp η o=(do pure (.value (← Op.intBits .xor k (if k.signed then -1 else k.max) n))) by simp[execOp,ho,h1.gq,Op.unary]];exact fun _=>rfl
 ·rename_i n hx
  refine⟨_,h,fun η F w o ho aZ=>?_⟩;have h1:=aZ x (by simp[Op.operands]);rw[hx]at h1;obtain⟨b,e,hb⟩:=h1.GZ;exact⟨.float .f64 (Op.negFloat .f64 b),fun w'=>by simp[execOp,ho,e,Op.unary],.gi _ _ (ac5 hb)⟩
 ·exact h.elim
theorem Xl(ok:dP P TT){s d:TypeId}{x:Operand}{ρ:Operand→AV}{K:AV→Prop}(h:Cv TT s d (ρ x) K):∃v,K v∧e8 P (.convert s d x) ρ v:=by
 unfold Cv at h;split at h
 ·rename_i i k sz qz z0 k' n hs hd hx
  obtain⟨_,ds,_,_,DA,_⟩:=dF ok hs;obtain⟨_,dd,_,_,vt,_,_,hf,_,_⟩:=dF ok hd;obtain rfl:=fits_int hf;refine⟨_,h,mL (fun _ _=>.int _ _) fun η F w o ho aZ=>?_⟩;have h1:=aZ x (by simp[Op.operands]);rw[hx]at h1;simp[execOp,ho,h1.gq,convert,run_underlying DA,run_underlying vt,Conv.intToInt]
 ·rename_i i sz qz z0 k' n hs hd hx
  obtain⟨_,ds,_,_,DA,_⟩:=dF ok hs;obtain⟨_,dd,_,_,vt,_,_,hf,_,_⟩:=dF ok hd;obtain rfl:=aa7 hf;refine⟨_,h.go,fun η F w o ho aZ=>?_⟩;have h1:=aZ x (by simp[Op.operands]);rw[hx]at h1;refine⟨.float .f64 (FloatKind.nearest .f64 n),fun w'=>?_,.gi _ _ (adT h.fact)⟩;have hr:=run_convert_int_float (P:=P) w' s d k' .f64 n (by rw[DA];rfl) vt;simp only[execOp,ho,h1.gq,Sem.run_bind,hr];rfl
 ·rename_i i k sz qz z0 n hs hd hx
  obtain⟨_,ds,_,_,DA,_⟩:=dF ok hs;obtain⟨_,dd,_,_,vt,_,_,hf,_,_⟩:=dF ok hd;obtain rfl:=fits_int hf;refine⟨_,h.go,fun η F w o ho aZ=>?_⟩;have h1:=aZ x (by simp[Op.operands]);rw[hx]at h1;obtain⟨b,e,hb⟩:=h1.GZ;refine⟨.int k n,fun w'=>?_,.int _ _⟩;have hr:=run_convert_float_int (P:=P) w' s d .f64 k b n (by rw[DA];rfl) vt (ac6 hb k h.fact);simp only[execOp,ho,e,Sem.run_bind,hr];rfl
 ·exact h.elim
theorem V1(ok:dP P TT){t:TypeId}{x:Operand}{ρ:Operand→AV}{i:TI}(ht:TT t=some i)(hn:i.k≠.iface):e8 P (.makeInterface t x) ρ (.iface t (ρ x)):=by
 intro η F w o ho hx;obtain⟨_,d,_,_,hd,_,_,hf,_,_⟩:=dF ok ht;refine⟨_,?_,.iface _ _ _ (hx x (by simp[Op.operands]))⟩;have:∀m,d≠.interface m:=by rintro m rfl;cases hk:i.k <;> rw[hk]at hf <;> simp_all [TK.fits]
 cases d <;> first | exact absurd rfl (this _) | simp[execOp,ho,Instr.makeInterface,run_underlying hd]
theorem Va{f:Fn}{first cap:Array Operand}{ρ:Operand→AV}:e8 P (.makeFunc f first cap) ρ (.fn f (first.toList.map ρ) (cap.toList.map ρ)):=by
 intro η F w o ho hx
 have key:∀(xs:Array Operand),(∀x∈xs.toList,aD F w (ρ x) (η x))→∀(i:Nat) (x:AV),(xs.toList.map ρ)[i]?=some x→aD F w x ((xs.map η).getD i undef):=by
  intro xs h i x hi;simp only[fD,vL]at hi;obtain⟨a,h1,rfl⟩:=hi;have ab:i<xs.size:=by have:=(List.getElem?_eq_some_iff.1 h1).1;simpa using this
  have:xs[i]=a:=by simpa [ab]using h1
  simpa [Array.getD,ab,this]using h a (List.mem_of_getElem? h1)
 exact⟨.func f (first.map η) (cap.map η),by simp[execOp,ho,Instr.makeFunc],.fn _ _ _ _ _ (by simp) (by simp) (key first fun x Dj=>hx x (by simp only[Op.operands,Array.toList_append,List.mem_append];exact .inl Dj)) (key cap fun x Dj=>hx x (by simp only[Op.operands,Array.toList_append,List.mem_append];exact .inr Dj))⟩
theorem ox(b o n:Nat):(⟨b,o,none⟩:Addr).add n=⟨b,o+n,none⟩:=Addr.add_mid b o n
theorem U8(ok:dP P TT){s:TypeId}{x:Operand}{f:Nat}{ρ:Operand→AV}{K:AV→Prop}(h:Bo TT s (ρ x) f K):∃v,K v∧e8 P (.fieldAddr s x f) ρ v:=by
 unfold Bo at h;split at h
 ·rename_i fs sz qz z0 ht
  obtain⟨_,d,_,_,hd,_,_,hf,_,_⟩:=dF ok ht;obtain⟨fields,rfl,yN⟩:=IM hf;split at h
  ·rename_i off t jJ
   split at h
   ·rename_i i hi
    obtain⟨j',d',z',iA,j6,cC,_⟩:=dF ok hi;rw[← yN,fD,vL]at jJ;obtain⟨fd,Mq,e⟩:=jJ;cases e;have GU:fields[f]?=some fd:=by simpa using Mq
    split at h
    ·rename_i b o' hb hx
     have hb:=cj hb;have hz:¬j'.size=0:=by omega
     refine⟨_,h,Gh rfl fun η F w o ho aZ=>?_⟩;have h1:=aZ x (by simp[Op.operands]);rw[hx]at h1;exact⟨h1.zh,fun _=>by simp[execOp,ho,h1.uJ,Instr.fieldAt,run_underlying hd,GU,Instr.sureAddr,fieldPlace,run_sizeOf iA,hz,ox]⟩
    ·rename_i cs hb hx
     have hb:=cj hb;have hz:¬j'.size=0:=by omega
     refine⟨_,h,fun η F w o ho aZ=>?_⟩;have h1:=aZ x (by simp[Op.operands]);rw[hx]at h1;obtain⟨b,o',e,hF,eQ⟩:=h1.x5;exact⟨_,by simp[execOp,ho,e,Instr.fieldAt,run_underlying hd,GU,Instr.sureAddr,fieldPlace,run_sizeOf iA,hz,ox],(eQ.drop _).fQ hF⟩
    ·exact h.elim
   ·exact h.elim
  ·exact h.elim
 ·exact h.elim
theorem Bk(ok:dP P TT){t:TypeId}{i:TI}(ht:TT t=some i){F:Nat→Prop}{w:World}{cs:List AV}{vs:Array Value}(h:o0 F w cs vs){k:Nat}{v:AV}(hv:ef i cs k=some v):
  ∃v',(∀w',(part t vs k).run P w'=.ok v' w')∧aD F w v v':=by
 obtain⟨j,d,z,hj,hd,hs,hb,hf,hz,gN⟩:=dF ok ht;have hw:=PW hf;obtain⟨hl,hr⟩:=h;unfold ef at hv;split at hv
 ·rename_i yf
  split at hv
  ·rename_i hle
   have hle:=cj hle;simp only[Option.some.injEq]at hv;subst hv;refine⟨.agg (vs.extract k (k+j.size)),fun _=>by unfold part;simp[Sem.run_bind,IX hd,hw,yf,run_sizeOf hj],o0.UQ ⟨by simp;omega,fun m x hx=>?_⟩⟩;rw[qw]at hx;split at hx
   ·rename_i hm
    rw[yY]at hx;obtain⟨h1,h2⟩:=hr _ x hx;have ab:k+m<vs.size:=by rw[← hl];exact (cW.1 hx).1
    have da:m<min (k+j.size) vs.size-k:=by omega
    refine⟨h1,?_⟩;simpa [Array.getD,ab,da]using h2
   ·cases hx
  ·cases hv
 ·rename_i yf
  obtain⟨h1,h2⟩:=hr k v hv;have ab:k<vs.size:=by rw[← hl];exact (cW.1 hv).1
  refine⟨vs.getD k undef,fun w'=>?_,h2⟩;unfold part;rw[Sem.run_bind,IX hd];simp[hw,yf,ab,Array.getD]
theorem P3(ok:dP P TT)(D:Nat):∀(d:Nat) (t:TypeId) (x y:AV) (l:List Bool),y7 P TT d t x y=some l→∀(F:Nat→Prop) (w:World) (a b:Value),aD F w x a→aD F w y b→∀w',(Op.equalIn (D+d) t a b).run P w'=.ok (eP l) w':=by
 intro d
 induction d with
 |zero=>intro t x y l h;cases h
 |succ d ih=>
  intro t x y l h F w a b ha hb w';unfold y7 at h;split at h
  ·rename_i p q hu
   cases h;rw[ha.qO,hb.qO];rw[show D+(d+1)=(D+d)+1 from rfl,run_equalIn_bool' w' (D+d) t p q hu];simp[eP]
  ·rename_i k0 k p k' q hu
   split at h
   ·rename_i hk
    have:=eX hk;subst this;cases h;rw[ha.gq,hb.gq];rw[show D+(d+1)=(D+d)+1 from rfl,run_equalIn_int w' (D+d) t k k0 p q hu];simp[eP];exact gu3 _ _
   ·cases h
  ·rename_i p q hu
   cases h;rw[ha.CB,hb.CB];rw[show D+(d+1)=(D+d)+1 from rfl,run_equalIn_string w' (D+d) t p q hu];simp[eP]
  ·rename_i fs xs ys hu
   split at h
   ·cases h
   ·rename_i aq
    obtain⟨vs,rfl,bY⟩:=ha.tp;obtain⟨us,rfl,dU⟩:=hb.tp;have hf:P.fieldsOf t=fs:=by simp[Program.fieldsOf,hu]
    rw[show D+(d+1)=(D+d)+1 from rfl,run_equalIn_agg w' (D+d) t vs us (by rw[hf];exact hu) aq,hf]
    have key:∀(gs:List Field) (l:List Bool),G1 TT (y7 P TT d) xs ys gs=some l→(Op.eqFields (D+d) vs us gs).run P w'=.ok (eP l) w':=by
     intro gs
     induction gs with
     |nil=>intro l h;cases h;simp[Op.eqFields,eP]
     |cons f gs ihg=>
      intro l h;unfold G1 at h;split at h
      ·rename_i i hn hi
       split at h
       ·rename_i p q hp hq
        split at h
        ·rename_i l1 l2 h1 h2
         cases h;obtain⟨p',e1,r1⟩:=Bk ok hi ⟨bY.1,bY.2⟩ hp;obtain⟨q',e2,r2⟩:=Bk ok hi ⟨dU.1,dU.2⟩ hq;have e3:=ih f.type p q l1 h1 F w p' q' r1 r2 w'
         have hn' : f.name ≠ "_" := by intro e; rw [e] at hn; cases hn
         simp only[Op.eqFields,hn',ne_eq,not_false_eq_true,if_true,Sem.run_bind,e1,e2,e3,Result.andThen_ok];cases l5:eP l1
         ·simp only[Bool.not_false,if_true,Sem.run_pure];have:eP (l1++l2)=false:=by unfold eP at l5 ⊢;rw[xt,l5];rfl
          rw[this]
         ·simp only[DU,vJ,if_false];rw[ihg l2 h2];have:eP (l1++l2)=eP l2:=by unfold eP at l5 ⊢;rw[xt,l5];rfl
          rw[this]
        ·cases h
       ·cases h
      ·cases h
    exact key fs.toList l h
  ·rename_i n e xs ys hu
   obtain⟨vs,rfl,bY⟩:=ha.tp;obtain⟨us,rfl,dU⟩:=hb.tp
   have key:∀(ks:List Nat) (l:List Bool),G0 TT (y7 P TT d) e (P.cellsOf e) xs ys ks=some l→(Op.eqItems (D+d) e (P.cellsOf e) vs us ks).run P w'=.ok (eP l) w':=by
    intro ks
    induction ks with
    |nil=>intro l h;cases h;simp[Op.eqItems,eP]
    |cons k ks ihk=>
     intro l h;unfold G0 at h;split at h
     ·rename_i i hi
      split at h
      ·rename_i p q hp hq
       split at h
       ·rename_i l1 l2 h1 h2
        cases h;obtain⟨p',e1,r1⟩:=Bk ok hi ⟨bY.1,bY.2⟩ hp;obtain⟨q',e2,r2⟩:=Bk ok hi ⟨dU.1,dU.2⟩ hq;have e3:=ih e p q l1 h1 F w p' q' r1 r2 w';simp only[Op.eqItems,Sem.run_bind,e1,e2,e3,Result.andThen_ok];cases l5:eP l1
        ·simp only[Bool.not_false,if_true,Sem.run_pure];have:eP (l1++l2)=false:=by unfold eP at l5 ⊢;rw[xt,l5];rfl
         rw[this]
        ·simp only[DU,vJ,if_false];rw[ihk l2 h2];have:eP (l1++l2)=eP l2:=by unfold eP at l5 ⊢;rw[xt,l5];rfl
         rw[this]
       ·cases h
      ·cases h
     ·cases h
   split at h
   ·rename_i i hi
    obtain⟨j,_,_,hj,_⟩:=dF ok hi;rw[show D+(d+1)=(D+d)+1 from rfl,run_equalIn_array w' (D+d) vs us hu hj];exact key _ l h
   ·cases h
  ·cases h
theorem YC{op:BinOp}{t yt:TypeId}{x y:Operand}{ρ:Operand→AV}{K:AV→Prop}{a b c d:Int}(hx:ρ x=.fK a b)(hy:ρ y=.fK c d)(h:Lv op a b c d K):∃v,K v∧e8 P (.binOp op t x y yt) ρ v:=by
 have both:∀{η:Operand→Value} {F:Nat→Prop} {w:World},(∀z∈(Op.binOp op t x y yt).operands.toList,aD F w (ρ z) (η z))→∃a' b' c' d',η x=.complex .f64 a' b'∧η y=.complex .f64 c' d'∧je a' a∧je b' b∧je c' c∧je d' d:=fun {η F w} aZ=>by
  have h1:=aZ x (by simp[Op.operands]);have h2:=aZ y (by simp[Op.operands]);rw[hx]at h1;rw[hy]at h2;obtain⟨a',b',e1,h3,h4⟩:=h1.G3;obtain⟨c',d',e2,h5,h6⟩:=h2.G3;exact⟨a',b',c',d',e1,e2,h3,h4,h5,h6⟩
 cases op <;> simp only[Lv]at h
 case add=>
  refine⟨_,h.go,fun η F w o ho aZ=>?_⟩;obtain⟨a',b',c',d',e1,e2,h3,h4,h5,h6⟩:=both aZ;obtain⟨r,g1,g2⟩:=JY h3 h5 h.fact.1;obtain⟨q,g3,g4⟩:=JY h4 h6 h.fact.2;refine⟨.complex .f64 r q,fun w'=>rK ho (by rw[e1,e2];exact vQ ⟨by simp,.inl (by simp)⟩ w') ?_,.fK _ _ _ _ g2 g4⟩;rw[e1,e2];exact run_complex_sum w' .add (.inl rfl) t .f64 a' b' c' d' r q (by simp[cSumBits,g1,g3])
 case sub=>
  refine⟨_,h.go,fun η F w o ho aZ=>?_⟩;obtain⟨a',b',c',d',e1,e2,h3,h4,h5,h6⟩:=both aZ;obtain⟨r,g1,g2⟩:=JX h3 h5 h.fact.1;obtain⟨q,g3,g4⟩:=JX h4 h6 h.fact.2;refine⟨.complex .f64 r q,fun w'=>rK ho (by rw[e1,e2];exact vQ ⟨by simp,.inl (by simp)⟩ w') ?_,.fK _ _ _ _ g2 g4⟩;rw[e1,e2];exact run_complex_sum w' .sub (.inr rfl) t .f64 a' b' c' d' r q (by simp[cSumBits,g1,g3])
 case mul=>
  refine⟨_,h.go,fun η F w o ho aZ=>?_⟩;obtain⟨a',b',c',d',e1,e2,h3,h4,h5,h6⟩:=both aZ;obtain⟨⟨f1,f2,f3⟩,f4,f5,f6⟩:=h.fact;obtain⟨r1,p1,q1⟩:=Fz h3 h5 f1;obtain⟨r2,p2,q2⟩:=Fz h4 h6 f2;obtain⟨r3,p3,q3⟩:=JX q1 q2 f3;obtain⟨r4,p4,q4⟩:=Fz h3 h6 f4;obtain⟨r5,p5,q5⟩:=Fz h4 h5 f5;obtain⟨r6,p6,q6⟩:=JY q4 q5 f6;refine⟨.complex .f64 r3 r6,fun w'=>rK ho (by rw[e1,e2];exact vQ ⟨by simp,.inl (by simp)⟩ w') ?_,.fK _ _ _ _ q3 q6⟩;rw[e1,e2];exact run_complex_mul w' t a' b' c' d' r3 r6 (by simp[cMulBits,p1,p2,p3,p4,p5,p6])
theorem Xo(ok:dP P TT){op:BinOp}{t yt:TypeId}{x y:Operand}{ρ:Operand→AV}{K:AV→Prop}(h:C1 P TT op t y (ρ x) (ρ y) K):∃v,K v∧e8 P (.binOp op t x y yt) ρ v:=by
 unfold C1 at h;split at h
 ·rename_i xs ys hx hy
  have both:∀(η:Operand→Value) (F:Nat→Prop) (w:World),(∀z∈(Op.binOp op t x y yt).operands.toList,aD F w (ρ z) (η z))→∃vs us,η x=.agg vs∧η y=.agg us∧aD F w (.agg xs) (.agg vs)∧aD F w (.agg ys) (.agg us):=fun η F w aZ=>by
   have h1:=aZ x (by simp[Op.operands]);have h2:=aZ y (by simp[Op.operands]);rw[hx]at h1;rw[hy]at h2;obtain⟨vs,e1,_⟩:=h1.tp;obtain⟨us,e2,_⟩:=h2.tp;rw[e1]at h1;rw[e2]at h2;exact⟨vs,us,e1,e2,h1,h2⟩
  split at h
  ·obtain⟨g1,g2,go⟩:=h;refine⟨_,qE go,mL (fun _ _=>.bool _) fun η F w o ho aZ=>?_⟩;obtain⟨vs,us,e1,e2,r1,r2⟩:=both η F w aZ;intro w';refine rK ho ?_ ?_
   ·rw[e1,e2];exact run_eqGuard_agg w' _ t x y vs us g1
   ·rw[e1,e2,run_eql_struct,show (10000:Nat)=9992+8 from rfl,P3 ok 9992 8 t _ _ _ g2 F w _ _ r1 r2 w'];rfl
  ·obtain⟨g1,g2,go⟩:=h;refine⟨_,qE go,mL (fun _ _=>.bool _) fun η F w o ho aZ=>?_⟩;obtain⟨vs,us,e1,e2,r1,r2⟩:=both η F w aZ;intro w';refine rK ho ?_ ?_
   ·rw[e1,e2];exact run_eqGuard_agg w' _ t x y vs us g1
   ·rw[e1,e2,run_neq_struct,show (10000:Nat)=9992+8 from rfl,P3 ok 9992 8 t _ _ _ g2 F w _ _ r1 r2 w'];rfl
  ·exact h.elim
 ·rename_i a b c d hx hy
  exact YC hx hy h
 ·exact YN ok h
theorem V3(ok:dP P TT){s:TypeId}{x:Operand}{f:Nat}{ρ:Operand→AV}{K:AV→Prop}(h:Ca TT s (ρ x) f K):∃v,K v∧e8 P (.field s x f) ρ v:=by
 unfold Ca at h;split at h
 ·rename_i fs sz qz z0 cs ht hx
  obtain⟨_,d,_,_,hd,_,_,hf,_,_⟩:=dF ok ht;obtain⟨fields,rfl,yN⟩:=IM hf;split at h
  ·rename_i off t jJ
   split at h
   ·rename_i i hi
    rw[← yN,fD,vL]at jJ;obtain⟨fd,Mq,e⟩:=jJ;cases e;have GU:fields[f]?=some fd:=by simpa using Mq
    split at h
    ·rename_i v hv
     refine⟨v,h,fun η F w o ho aZ=>?_⟩;have h1:=aZ x (by simp[Op.operands]);rw[hx]at h1;obtain⟨vs,e,h2,h3⟩:=h1.tp;obtain⟨v',h4,h5⟩:=Bk ok hi (w:=w) ⟨h2,h3⟩ hv;exact⟨v',by simp[execOp,ho,e,Instr.field,run_underlying hd,GU,asAgg,h4],h5⟩
    ·exact h.elim
   ·exact h.elim
  ·exact h.elim
 ·exact h.elim
theorem U6(ok:dP P TT){t:TypeId}{x ix:Operand}{ρ:Operand→AV}{K:AV→Prop}(h:Bl TT t (ρ x) (ρ ix) K):∃v,K v∧e8 P (.indexAddr t x ix) ρ v:=by
 unfold Bl at h;split at h
 ·rename_i e sz qz z0 k n ht yL
  obtain⟨_,d,_,_,hd,_,_,hf,_,_⟩:=dF ok ht;obtain rfl:=jN hf;split at h
  ·rename_i i s l hi hx
   obtain⟨j',_,_,iA,_,cC,_⟩:=dF ok hi;obtain⟨dG,mZ⟩:=h;obtain⟨dt,h0,h1,go⟩:=mZ;refine⟨_,go,fun η F w o ho aZ=>?_⟩;have a1:=aZ x (by simp[Op.operands]);rw[hx]at a1;have a2:=aZ ix (by simp[Op.operands]);rw[yL]at a2;obtain⟨a,c,e,AN,vw,hc3⟩:=a1.CW;have ab:n.toNat<l.length:=(cW.1 h1).1;obtain⟨b,o',rfl,hF,TP⟩:=hc3 (fun e=>by subst e;cases ab);obtain⟨cs',q1,q2,q3⟩:=TP _ ab;have j6:l[n.toNat]=dt:=by rw[bu ab]at h1;exact Option.some.inj h1
   rw[j6]at q3;have hn:0≤n∧n<(l.length:Int):=by omega
   refine⟨_,?_,(At.RY s q2 q3).fQ hF⟩;simp[execOp,ho,e,a2.gq,Instr.indexAt,asIntOf,run_underlying hd,hn,run_sizeOf iA,ox,cC,dG]
  ·rename_i i b off len es hi hx
   obtain⟨j',_,_,iA,_,cC,_⟩:=dF ok hi;obtain⟨⟨dG,h0,h1⟩,go⟩:=h;refine⟨_,go,Gh rfl fun η F w o ho aZ=>?_⟩;have a1:=aZ x (by simp[Op.operands]);rw[hx]at a1;have a2:=aZ ix (by simp[Op.operands]);rw[yL]at a2;obtain⟨a,cap,e,c,T,fz,m1,m2,m3,m4⟩:=a1.kK;have ha:a=⟨b,off,none⟩:=by rcases m4 with m4 | m4;exact m4.1;omega
   subst ha;exact⟨⟨c,T,fz,m1⟩,fun _=>by simp[execOp,ho,e,a2.gq,Instr.indexAt,asIntOf,run_underlying hd,h0,h1,run_sizeOf iA,ox,cC,dG]⟩
  ·exact h.elim
 ·rename_i m e sz qz z0 k n ht yL
  obtain⟨_,d,_,_,hd,_,_,hf,_,_⟩:=dF ok ht;obtain rfl:=Q8 hf;split at h
  ·rename_i i b o' hi hx
   obtain⟨j',_,_,iA,_,cC,_⟩:=dF ok hi;obtain⟨⟨h0,h1⟩,go⟩:=h;refine⟨_,go,Gh rfl fun η F w o ho aZ=>?_⟩;have a1:=aZ x (by simp[Op.operands]);rw[hx]at a1;have a2:=aZ ix (by simp[Op.operands]);rw[yL]at a2;exact⟨a1.zh,fun _=>by simp[execOp,ho,a1.uJ,a2.gq,Instr.indexAt,asIntOf,Instr.sureAddr,run_underlying hd,h0,h1,run_sizeOf iA,ox,cC]⟩
  ·rename_i i cs hi hx
   obtain⟨j',_,_,iA,_,cC,_⟩:=dF ok hi;obtain⟨⟨h0,h1⟩,go⟩:=h;refine⟨_,go,fun η F w o ho aZ=>?_⟩;have a1:=aZ x (by simp[Op.operands]);rw[hx]at a1;have a2:=aZ ix (by simp[Op.operands]);rw[yL]at a2;obtain⟨b,o',e,hF,eQ⟩:=a1.x5;exact⟨_,by simp[execOp,ho,e,a2.gq,Instr.indexAt,asIntOf,Instr.sureAddr,run_underlying hd,h0,h1,run_sizeOf iA,ox,cC],(eQ.drop _).fQ hF⟩
  ·exact h.elim
 ·exact h.elim
theorem Vj{x:Operand}{i:Nat}{ρ:Operand→AV}{vs:List AV}{v:AV}(hx:ρ x=.tup vs)(hv:vs[i]?=some v):e8 P (.extract x i) ρ v:=by
 intro η F w o ho aZ;have a1:=aZ x (by simp[Op.operands]);rw[hx]at a1;cases he:η x with
 |tuple us=>
  rw[he]at a1;cases a1 with
  |tup cs vs hs h=>
   have h1:=h i v hv;have ab:i<us.size:=by rw[← hs];exact (cW.1 hv).1
   refine⟨us.getD i undef,?_,h1⟩;simp[execOp,ho,he,Instr.extract,ab,Array.getD]
 |_=>rw[he]at a1;cases a1
theorem NY(ok:dP P TT){x:Operand}{tx t e:TypeId}{s b:Nat}{z:List AV}{ρ:Operand→AV}{K:AV→Prop}(ht:TT t=some ⟨.ptr e,s,b,z⟩)(l0:z=[.cR])(h:(∃t' v,ρ x=.iface t' v∧(match Nat.beq t' t with | true=>K (.tup [v,.bool true]) | false=>K (.tup [.cR,.bool false])))∨(ρ x=.nilif∧K (.tup [.cR,.bool false]))):∃v,K v∧e8 P (.typeAssert x tx t true) ρ v:=by
 obtain⟨j,d,zv,hj,hd,hs,⟨hb,n9⟩,hf,hz,gN⟩:=dF ok ht;obtain rfl:=Fg hf
 have K9:∀{F:Nat→Prop} {w:World} {a c:AV} {u v:Value},aD F w a u→aD F w c v→aD F w (.tup [a,c]) (.tuple #[u,v]):=fun h1 h2=>.tup _ _ rfl fun i y hy=>by
  rcases i with _ | _ | i
  ·simp at hy;subst hy;exact h1
  ·simp at hy;subst hy;exact h2
  ·simp at hy
 have LY:zv=.pointer none:=by
  obtain⟨j2,z2,k1,k2,k3⟩:=RI ok ht rfl;rw[hj]at k1;cases k1;rw[hz]at k2;cases k2;cases zv with
  |agg cs=>cases k3
  |pointer p=>cases p with
   |none=>rfl
   |some p=>subst l0;exact absurd gN (by simp[Value.cells,pM,AV.isVal])
  |_=>subst l0;exact absurd gN (by simp[Value.cells,pM,AV.isVal])
 have hzv:∀w,(zeroValue t).run P w=.ok (.pointer none) w:=fun w=>by simp[zeroValue,typeInfo,hj,hz,LY]
 rcases h with ⟨t',v,hx,h⟩ | ⟨hx,h⟩
 ·split at h
  ·rename_i hb
   have e:=ju hb;subst e;refine⟨_,h,fun η F w o ho aZ=>?_⟩;have a1:=aZ x (by simp[Op.operands]);rw[hx]at a1;cases hv:η x with
   |iface t2 u=>
    rw[hv]at a1;cases a1 with
    |iface _ _ _ hu=>exact⟨.tuple #[u,.bool true],fun w'=>by simp[execOp,ho,hv,Instr.typeAssert,run_underlying hd],K9 hu (.bool _)⟩
   |_=>rw[hv]at a1;cases a1
  ·rename_i hb
   refine⟨_,h,fun η F w o ho aZ=>?_⟩;have a1:=aZ x (by simp[Op.operands]);rw[hx]at a1;cases hv:η x with
   |iface t2 u=>
    rw[hv]at a1;cases a1 with
    |iface _ _ _ hu=>
     have bf:¬t'=t:=fun e=>by subst e;rw[xq]at hb;cases hb
     exact⟨.tuple #[.pointer none,.bool false],fun w'=>by simp[execOp,ho,hv,Instr.typeAssert,run_underlying hd,bf,hzv],K9 .cR (.bool _)⟩
   |_=>rw[hv]at a1;cases a1
 ·refine⟨_,h,fun η F w o ho aZ=>?_⟩;have a1:=aZ x (by simp[Op.operands]);rw[hx]at a1;have hv:η x=.nilIface:=by revert a1;generalize η x=u;intro a1;cases a1;rfl
  exact⟨.tuple #[.pointer none,.bool false],fun w'=>by simp[execOp,ho,hv,Instr.typeAssert,run_underlying hd,hzv],K9 .cR (.bool _)⟩
theorem ue{n:Int}{y:Nat}{code:BoundsCode}{k:IntKind}(h0:0≤n)(h1:n≤y)(w:World):(Instr.sliceBound (.int k n) y code).run P w=.ok n.toNat w:=by
 simp[Instr.sliceBound,asIntOf,h0,h1]
theorem Iz{lo hi:Option AV}{sg C7:Option Value}{F:Nat→Prop}{w:World}{len cap:Nat}{l h:Int}(Dr:∀x,lo=some x→∃v,sg=some v∧aD F w x v)(Ll:lo=none→sg=none)(HB:∀x,hi=some x→∃v,C7=some v∧aD F w x v)(agv:hi=none→C7=none)
  (el:s6 lo=some l) (eh:zZ len hi=some h) (h1:0≤l) (h2:l≤h) (h3:h≤len) (h4:len≤cap) (w':World):(Instr.sliceBounds true len cap sg C7 none).run P w'=.ok (l.toNat,h.toNat,cap) w':=by
 have e2:(C7=none∧h=len)∨∃k,C7=some (.int k h):=by
  cases hi with
  |none=>exact .inl ⟨agv rfl,by simpa [zZ]using eh.symm⟩
  |some x=>
   obtain⟨v,rfl,hv⟩:=HB x rfl;cases x <;> simp[zZ]at eh;subst eh;exact .inr ⟨_,by rw[hv.gq]⟩
 have e1:(sg=none∧l=0)∨∃k,sg=some (.int k l):=by
  cases lo with
  |none=>exact .inl ⟨Ll rfl,by simpa [s6]using el.symm⟩
  |some x=>
   obtain⟨v,rfl,hv⟩:=Dr x rfl;cases x <;> simp[s6]at el;subst el;exact .inr ⟨_,by rw[hv.gq]⟩
 have hh:(h.toNat:Int)=h:=by omega
 rcases e2 with ⟨rfl,rfl⟩ | ⟨k2,rfl⟩ <;> rcases e1 with ⟨rfl,rfl⟩ | ⟨k1,rfl⟩
 ·simp[Instr.sliceBounds]
 ·simp[Instr.sliceBounds,ue h1 (show l≤(len:Nat) from h2)]
 ·simp[Instr.sliceBounds,ue (show 0≤h by omega) (show h≤(cap:Nat) by omega)]
 ·simp[Instr.sliceBounds,ue (show 0≤h by omega) (show h≤(cap:Nat) by omega),ue h1 (show l≤(h.toNat:Nat) by omega)]
theorem Vl{lo:Option AV}{sg:Option Value}{F:Nat→Prop}{w:World}{len cap:Nat}{l h m:Int}{k1 k2:IntKind}(Dr:∀x,lo=some x→∃v,sg=some v∧aD F w x v)(Ll:lo=none→sg=none)
  (el:s6 lo=some l) (h1:0≤l) (h2:l≤h) (h3:h≤m) (h4:m≤len) (h5:len≤cap) (w':World):(Instr.sliceBounds true len cap sg (some (.int k1 h)) (some (.int k2 m))).run P w'=.ok (l.toNat,h.toNat,m.toNat) w':=by
 have e1:(sg=none∧l=0)∨∃k,sg=some (.int k l):=by
  cases lo with
  |none=>exact .inl ⟨Ll rfl,by simpa [s6]using el.symm⟩
  |some x=>
   obtain⟨v,rfl,hv⟩:=Dr x rfl;cases x <;> simp[s6]at el;subst el;exact .inr ⟨_,by rw[hv.gq]⟩
 have hh:(h.toNat:Int)=h:=by omega
 rcases e1 with ⟨rfl,rfl⟩ | ⟨k1,rfl⟩
 ·simp[Instr.sliceBounds,ue (show 0≤m by omega) (show m≤(cap:Nat) by omega),ue (show 0≤h by omega) (show h≤(m.toNat:Nat) by omega)]
 ·simp[Instr.sliceBounds,ue (show 0≤m by omega) (show m≤(cap:Nat) by omega),ue (show 0≤h by omega) (show h≤(m.toNat:Nat) by omega),ue h1 (show l≤(h.toNat:Nat) by omega)]
theorem oy{F:Nat→Prop}{w:World}{ρ:Operand→AV}{η:Operand→Value}{o:Option Operand}(h:∀x,o=some x→aD F w (ρ x) (η x)):(∀x,o.map ρ=some x→∃v,o.map η=some v∧aD F w x v)∧(o.map ρ=none→o.map η=none):=by
 cases o with
 |none=>exact⟨(fun x h=>by cases h),fun _=>rfl⟩
 |some y=>exact⟨(fun x hx=>by cases hx;exact⟨_,rfl,h y rfl⟩),(fun h=>by cases h)⟩
theorem VF(ok:dP P TT){t:TypeId}{x:Operand}{lo hi mx:Option Operand}{ρ:Operand→AV}{K:AV→Prop}(h:zE TT t (ρ x) (lo.map ρ) (hi.map ρ) (mx.map ρ) K):∃v,K v∧e8 P (.slice t x lo hi mx) ρ v:=by
 unfold zE at h;split at h
 ·rename_i e sz qz z0 ht AG
  have AG:mx=none:=by simpa using AG
  subst AG;obtain⟨_,d,_,_,hd,_,_,hf,_,_⟩:=dF ok ht;obtain rfl:=jN hf
  have yq:∀{η:Operand→Value} {F:Nat→Prop} {w:World},(∀y∈(Op.slice t x lo hi none).operands.toList,aD F w (ρ y) (η y))→aD F w (ρ x) (η x)∧(∀y,lo=some y→aD F w (ρ y) (η y))∧(∀y,hi=some y→aD F w (ρ y) (η y)):=by
   intro η F w hy;refine⟨hy x (by simp[Op.operands]),fun y e=>hy y (by subst e;simp[Op.operands]),fun y e=>hy y (by subst e;simp[Op.operands])⟩
  split at h
  ·rename_i i b off len es kS hx
   obtain⟨j',_,_,iA,_,cC,_⟩:=dF ok kS;split at h
   ·rename_i l hh el eh
    obtain⟨⟨h1,h2,h3,dG⟩,go⟩:=h;refine⟨_,go,fun η F w o ho aZ=>?_⟩;obtain⟨a1,a2,a3⟩:=yq aZ;rw[hx]at a1;obtain⟨a,cap,ea,c,T,fz,m1,m2,m3,m4⟩:=a1.kK;have hb:=Iz (P:=P) (w:=w) (oy a2).1 (oy a2).2 (oy a3).1 (oy a3).2 el eh h1 h2 h3 m2;refine⟨.slice (some (if cap=l.toNat then a else a.add (l.toNat*j'.size))) (hh.toNat-l.toNat) (cap-l.toNat),?_,?_⟩
    ·intro w';simp only[execOp,ho,Instr.sliceAt,Sem.run_bind,run_underlying hd,Result.andThen_ok,Option.map_none,ea,Instr.slice,hb,run_sizeOf iA,Sem.run_pure];split <;> rfl
    ·refine .af _ _ _ _ _ _ ⟨c,T,fz,m1,by omega,by omega,?_⟩
     by_cases fk:cap=l.toNat
     ·refine .inr ?_;rw[az fk]
      rcases m4 with ⟨rfl,_⟩ | ⟨q1,q2,q3,q4⟩
      ·exact⟨rfl,rfl,by omega,by omega⟩
      ·exact⟨q1,q2,by omega,by omega⟩
     ·refine .inl ?_;rw[aB fk]
      rcases m4 with ⟨rfl,q⟩ | ⟨q1,q2,q3,q4⟩
      ·refine⟨by rw[ox,cC,dG],?_⟩
       have:off+l.toNat*es+(cap-l.toNat)*es=off+cap*es:=by
        rw[D8,← qv];congr 2;omega
       omega
      ·omega
   ·exact h.elim
  ·rename_i i s xs kS hx
   obtain⟨j',_,_,iA,_,cC,_⟩:=dF ok kS;split at h
   ·rename_i l hh el eh
    obtain⟨⟨h1,h2,h3,dG⟩,go⟩:=h;refine⟨_,go,fun η F w o ho aZ=>?_⟩;obtain⟨a1,a2,a3⟩:=yq aZ;rw[hx]at a1;obtain⟨a,cap,ea,c1,c2,c3⟩:=a1.CW;have hb:=Iz (P:=P) (w:=w) (oy a2).1 (oy a2).2 (oy a3).1 (oy a3).2 el eh h1 h2 h3 c1;have hlen:((xs.drop l.toNat).take (hh.toNat-l.toNat)).length=hh.toNat-l.toNat:=by simp;omega
    refine⟨.slice (if cap=l.toNat then a else a.map (·.add (l.toNat*j'.size))) (hh.toNat-l.toNat) (cap-l.toNat),?_,?_⟩
    ·intro w';simp only[execOp,ho,Instr.sliceAt,Sem.run_bind,run_underlying hd,Result.andThen_ok,Option.map_none,ea,Instr.slice,hb,run_sizeOf iA,Sem.run_pure]
    ·refine .ae _ _ _ ⟨_,_,by rw[hlen],by omega,by omega,(fun he=>?_),fun bf=>?_⟩
     ·have MS:=a1.agH ea;split at he
      ·have:=MS he;omega
      ·have:=MS (Option.map_eq_none_iff.1 he);omega
     have th:0<hh.toNat-l.toNat:=by
      rcases px (hh.toNat-l.toNat) with h0 | h0
      ·exact absurd (fE.1 (by rw[hlen,h0])) bf
      ·exact h0
     obtain⟨b,o',rfl,hF,hr⟩:=c3 (fun e=>by subst e;simp at h3;omega);refine⟨b,o'+l.toNat*s.size,by rw[if_neg (by omega)];simp[ox,cC,dG],hF,fun m hm=>?_⟩;rw[hlen]at hm;obtain⟨cs',q1,q2,q3⟩:=hr (l.toNat+m) (by omega);refine⟨cs',q1,?_,by simpa using q3⟩;rw[D8,← qv];exact q2
   ·exact h.elim
  ·rename_i i kS hx
   obtain⟨j',_,_,iA,_,cC,_⟩:=dF ok kS;split at h
   ·rename_i l hh el eh
    obtain⟨⟨h1,h2,h3⟩,go⟩:=h;refine⟨_,go,fun η F w o ho aZ=>?_⟩;obtain⟨a1,a2,a3⟩:=yq aZ;rw[hx]at a1;have ea:η x=.slice none 0 0:=by revert a1;generalize η x=u;intro a1;cases a1;rfl
    have hb:=Iz (P:=P) (w:=w) (cap:=0) (oy a2).1 (oy a2).2 (oy a3).1 (oy a3).2 el eh h1 h2 h3 (bg _);have gY:l.toNat=0:=by omega
    have hh0:hh.toNat=0:=by omega
    refine⟨.slice none 0 0,?_,.ag⟩;intro w';simp[execOp,ho,Instr.sliceAt,Sem.run_bind,run_underlying hd,Result.andThen_ok,ea,Instr.slice,hb,run_sizeOf iA,gY,hh0]
   ·exact h.elim
  ·exact h.elim
 ·rename_i e sz qz z0 k2 m ht AG
  obtain⟨mo,rfl,yJ⟩:∃mo,mx=some mo∧ρ mo=.int k2 m:=by
   cases mx with
   |none=>cases AG
   |some mo=>exact⟨mo,rfl,Option.some.inj AG⟩
  obtain⟨_,d,_,_,hd,_,_,hf,_,_⟩:=dF ok ht;obtain rfl:=jN hf;split at h
  ·rename_i i b off len es k1 hh kS hx HB
   obtain⟨gd,rfl,hho⟩:∃gd,hi=some gd∧ρ gd=.int k1 hh:=by
    cases hi with
    |none=>cases HB
    |some gd=>exact⟨gd,rfl,Option.some.inj HB⟩
   obtain⟨j',_,_,iA,_,cC,_⟩:=dF ok kS;split at h
   ·rename_i l el
    obtain⟨⟨h1,h2,h3,h4,dG⟩,go⟩:=h;refine⟨_,go,fun η F w o ho aZ=>?_⟩;have a1:=aZ x (by simp[Op.operands]);have a2:∀y,lo=some y→aD F w (ρ y) (η y):=fun y e=>aZ y (by subst e;simp[Op.operands]);have a3:=aZ gd (by simp[Op.operands]);have a4:=aZ mo (by simp[Op.operands]);rw[hx]at a1;rw[hho]at a3;rw[yJ]at a4;have e3:=a3.gq;have e4:=a4.gq;obtain⟨a,cap,ea,c,T,fz,m1,m2,m3,m4⟩:=a1.kK;have hb:=Vl (P:=P) (w:=w) (k1:=k1) (k2:=k2) (oy a2).1 (oy a2).2 el h1 h2 h3 h4 m2;refine⟨.slice (some (if m.toNat=l.toNat then a else a.add (l.toNat*j'.size))) (hh.toNat-l.toNat) (m.toNat-l.toNat),?_,?_⟩
    ·intro w';simp only[execOp,ho,Instr.sliceAt,Sem.run_bind,run_underlying hd,Result.andThen_ok,HP,ea,e3,e4,Instr.slice,hb,run_sizeOf iA,Sem.run_pure];split <;> rfl
    ·refine .af _ _ _ _ _ _ ⟨c,T,fz,m1,by omega,by omega,?_⟩
     by_cases fk:m.toNat=l.toNat
     ·refine .inr ?_;rw[az fk]
      rcases m4 with ⟨rfl,_⟩ | ⟨q1,q2,q3,q4⟩
      ·exact⟨rfl,rfl,by omega,by omega⟩
      ·exact⟨q1,q2,by omega,by omega⟩
     ·refine .inl ?_;rw[aB fk]
      rcases m4 with ⟨rfl,q⟩ | ⟨q1,q2,q3,q4⟩
      ·refine⟨by rw[ox,cC,dG],?_⟩
       have h6:off+l.toNat*es+(m.toNat-l.toNat)*es=off+m.toNat*es:=by
        rw[D8,← qv];congr 2;omega
       have h7:m.toNat*es≤cap*es:=nt _ (by omega);omega
      ·omega
   ·exact h.elim
  ·exact h.elim
 ·exact h.elim
theorem sP{η:Operand→Value}(b:Builtin)(args:Array Operand)(cS:Array TypeId)(o:Oper)(ho:o.op=.call ⟨.builtin b,args,cS⟩):execOp η o=builtin b cS o.type (args.map fun | .const _=>true | _=>false) (args.map η):=by
 simp[execOp,ho,resolve,invoke];rfl
theorem Yl(ok:dP P TT){x:Operand}{cS:Array TypeId}{t:TypeId}{i:TI}{ρ:Operand→AV}{K:AV→Prop}(hty:cS.toList=[t])(ht:TT t=some i)(h:CK i.k (ρ x) K):∃v,K v∧e8 P (.call ⟨.builtin .len,#[x],cS⟩) ρ v:=by
 obtain⟨_,d,_,_,hd,_,_,hf,_,_⟩:=dF ok ht;obtain rfl:cS = #[t]:=by cases cS;simp_all
 unfold CK at h
 have fin:∀(n:Nat),K (.int .i64 n)→(∀(F:Nat→Prop) (w:World) (v:Value),aD F w (ρ x) v→∀ty w',(Builtin.len_ #[t] ty #[v]).run P w'=.ok (.int .i64 n) w')→∃v,K v∧e8 P (.call ⟨.builtin .len,#[x],#[t]⟩) ρ v:=by
  intro n hk hr;refine⟨_,hk,mL (fun _ _=>.int _ _) fun η F w o ho aZ=>?_⟩;have a1:=aZ x (by simp[Op.operands,Call.operands]);rw[sP _ _ _ o ho];simp[builtin,hr F w _ a1]
 split at h
 ·rename_i e s l hk hx
  rw[hk]at hf;obtain rfl:=jN hf;refine fin _ h fun F w v hv ty w'=>?_;rw[hx]at hv;obtain⟨a,c,rfl,_⟩:=hv.CW;simp[Builtin.len_,run_underlying hd,goInt]
 ·rename_i e b off len es hk hx
  rw[hk]at hf;obtain rfl:=jN hf;refine fin _ h fun F w v hv ty w'=>?_;rw[hx]at hv;obtain⟨a,c,rfl,_⟩:=hv.kK;simp[Builtin.len_,run_underlying hd,goInt]
 ·rename_i e hk hx
  rw[hk]at hf;obtain rfl:=jN hf;refine fin 0 h fun F w v hv ty w'=>?_;rw[hx]at hv;cases hv;simp[Builtin.len_,run_underlying hd,goInt]
 ·rename_i e hk hx
  rw[hk]at hf;obtain rfl:=jN hf;refine fin 0 h fun F w v hv ty w'=>?_;rw[hx]at hv;cases hv;simp[Builtin.len_,run_underlying hd,goInt]
 ·rename_i e hk hx
  rw[hk]at hf;obtain rfl:=jN hf;refine fin 0 h fun F w v hv ty w'=>?_;rw[hx]at hv;cases hv;simp[Builtin.len_,run_underlying hd,goInt]
 ·exact h.elim
theorem YJ(ok:dP P TT){x:Operand}{cS:Array TypeId}{t:TypeId}{i:TI}{ρ:Operand→AV}{K:AV→Prop}(hty:cS.toList=[t])(ht:TT t=some i)(h:CZ i.k (ρ x) K):∃v,K v∧e8 P (.call ⟨.builtin .cap,#[x],cS⟩) ρ v:=by
 obtain⟨_,d,_,_,hd,_,_,hf,_,_⟩:=dF ok ht;obtain rfl:cS = #[t]:=by cases cS;simp_all
 unfold CZ at h
 have fin:K (.int .i64 0)→(∀(F:Nat→Prop) (w:World) (v:Value),aD F w (ρ x) v→∀ty w',(Builtin.cap_ #[t] ty #[v]).run P w'=.ok (.int .i64 0) w')→∃v,K v∧e8 P (.call ⟨.builtin .cap,#[x],#[t]⟩) ρ v:=by
  intro hk hr;refine⟨_,hk,mL (fun _ _=>.int _ _) fun η F w o ho aZ=>?_⟩;have a1:=aZ x (by simp[Op.operands,Call.operands]);rw[sP _ _ _ o ho];simp[builtin,hr F w _ a1]
 split at h
 ·rename_i e hk hx
  rw[hk]at hf;obtain rfl:=jN hf;refine fin h fun F w v hv ty w'=>?_;rw[hx]at hv;cases hv;simp[Builtin.cap_,run_underlying hd,goInt]
 ·rename_i e hk hx
  rw[hk]at hf;obtain rfl:=jN hf;refine fin h fun F w v hv ty w'=>?_;rw[hx]at hv;cases hv;simp[Builtin.cap_,run_underlying hd,goInt]
 ·exact h.elim
theorem Ye{x y:Operand}{cS:Array TypeId}{ρ:Operand→AV}{K:AV→Prop}(h:CH [ρ x,ρ y] K):∃v,K v∧e8 P (.call ⟨.builtin .min,#[x,y],cS⟩) ρ v:=by
 unfold CH at h;split at h
 ·rename_i k a k' b e
  simp only[List.cons.injEq,and_true]at e;split at h
  ·refine⟨_,h,mL (fun _ _=>.int _ _) fun η F w o ho aZ=>?_⟩;have a1:=aZ x (by simp[Op.operands,Call.operands]);rw[e.1]at a1;have a2:=aZ y (by simp[Op.operands,Call.operands]);rw[e.2]at a2;rw[sP _ _ _ o ho];simp[builtin,Builtin.min_,Builtin.min2,a1.gq,a2.gq]
  ·exact h.elim
 ·exact h.elim
theorem Yh{x y:Operand}{cS:Array TypeId}{ρ:Operand→AV}{K:AV→Prop}(h:CI [ρ x,ρ y] K):∃v,K v∧e8 P (.call ⟨.builtin .max,#[x,y],cS⟩) ρ v:=by
 unfold CI at h;split at h
 ·rename_i k a k' b e
  simp only[List.cons.injEq,and_true]at e;split at h
  ·refine⟨_,h,mL (fun _ _=>.int _ _) fun η F w o ho aZ=>?_⟩;have a1:=aZ x (by simp[Op.operands,Call.operands]);rw[e.1]at a1;have a2:=aZ y (by simp[Op.operands,Call.operands]);rw[e.2]at a2;rw[sP _ _ _ o ho];simp[builtin,Builtin.max_,Builtin.max2,a1.gq,a2.gq]
  ·exact h.elim
 ·exact h.elim
theorem Xi{x y:Operand}{cS:Array TypeId}{ρ:Operand→AV}{K:AV→Prop}(h:Cu (ρ x) (ρ y) K):∃v,K v∧e8 P (.call ⟨.builtin .complex,#[x,y],cS⟩) ρ v:=by
 unfold Cu at h;split at h
 ·rename_i a b hx hy
  refine⟨_,h,fun η F w o ho aZ=>?_⟩;have a1:=aZ x (by simp[Op.operands,Call.operands]);rw[hx]at a1;have a2:=aZ y (by simp[Op.operands,Call.operands]);rw[hy]at a2;obtain⟨r,e1,h1⟩:=a1.GZ;obtain⟨q,e2,h2⟩:=a2.GZ;refine⟨.complex .f64 r q,fun w'=>?_,.fK _ _ _ _ h1 h2⟩;rw[sP _ _ _ o ho];rw[show Array.map η #[x,y] = #[η x,η y] by simp,e1,e2];rfl
 ·exact h.elim
theorem WH{x:Operand}{cS:Array TypeId}{ρ:Operand→AV}{K:AV→Prop}(h:Ci (ρ x) K):∃v,K v∧e8 P (.call ⟨.builtin .real,#[x],cS⟩) ρ v:=by
 unfold Ci at h;split at h
 ·rename_i a b hx
  refine⟨_,h,fun η F w o ho aZ=>?_⟩;have a1:=aZ x (by simp[Op.operands,Call.operands]);rw[hx]at a1;obtain⟨r,q,e1,h1,h2⟩:=a1.G3;refine⟨.float .f64 r,fun w'=>?_,.gi _ _ h1⟩;rw[sP _ _ _ o ho];rw[show Array.map η #[x] = #[η x] by simp,e1];rfl
 ·exact h.elim
theorem W6{x:Operand}{cS:Array TypeId}{ρ:Operand→AV}{K:AV→Prop}(h:Cj (ρ x) K):∃v,K v∧e8 P (.call ⟨.builtin .imag,#[x],cS⟩) ρ v:=by
 unfold Cj at h;split at h
 ·rename_i a b hx
  refine⟨_,h,fun η F w o ho aZ=>?_⟩;have a1:=aZ x (by simp[Op.operands,Call.operands]);rw[hx]at a1;obtain⟨r,q,e1,h1,h2⟩:=a1.G3;refine⟨.float .f64 q,fun w'=>?_,.gi _ _ h2⟩;rw[sP _ _ _ o ho];rw[show Array.map η #[x] = #[η x] by simp,e1];rfl
 ·exact h.elim
theorem Holds.GN{F:Nat→Prop}{w:World}{b:Nat}{x:AV}{o:Obj}(h:Holds F w b [x])(hx:wJ x=some o):¬F b∧w.heap[b]?=some o:=by
 obtain⟨hF,⟨c,T,h1,h2,h3⟩ | ⟨x',o',h1,h2,h3⟩ | ⟨_,_,h1,_⟩⟩:=h
 ·have:=(h3 0 _ rfl).1;rw[ES hx]at this;cases this
 ·cases h1;rw[hx]at h3;cases h3;exact⟨hF,h2⟩
 ·cases h1;cases hx
theorem Holds.CJ{F:Nat→Prop}{w:World}{b:Nat}{l:List (Int×Int)}(h:Holds F w b [.nP l]):¬F b∧w.heap[b]?=some (.map (fZ 0 l).toArray l.length):=h.GN rfl
theorem Holds.TL{F:Nat→Prop}{w:World}{b:Nat}{L:Loop}{t:Nat→AV}(h:Holds F w b [.mh L t]):¬F b∧w.heap[b]?=some (.loop L)∧∀i,aD F w (t i) (L.tmps.getD i undef):=by
 obtain⟨hF,⟨c,T,h1,h2,h3⟩ | ⟨x,o,h1,h2,h3⟩ | ⟨_,_,h1,h2⟩⟩:=h
 ·have:=(h3 0 _ rfl).1;cases this
 ·cases h1;cases h3
 ·cases h1;exact⟨hF,h2⟩
theorem aD.Uk{F:Nat→Prop}{w:World}{b:Nat}{v:Value}(h:aD F w (.nk b) v):v=.pointer (some ⟨b,0,none⟩):=by cases h;rfl
theorem aD.KJ{F:Nat→Prop}{w:World}{b:Nat}{v:Value}(h:aD F w (.mX b) v):v=.map (some b):=by cases h;rfl
theorem I5(ok:dP P TT){t:TypeId}{z:Int}(h:Aj TT t=some z):∃k e,P.underlying t=some (.map k e)∧P.underlying k=some (.int .i64)∧∀w,(zeroValue e).run P w=.ok (.int .i64 z) w:=by
 unfold Aj at h;split at h
 ·rename_i k e s1 b1 z1 ht
  split at h
  ·rename_i s2 b2 z2 s3 b3 zz hk he
   cases h;obtain⟨_,d1,_,_,xd,_,_,iJ,_,_⟩:=dF ok ht;obtain⟨_,d2,_,_,qo,_,_,vr,_,_⟩:=dF ok hk;obtain⟨j3,d3,zv,hj3,hd3,_,_,hf3,tB,gN⟩:=dF ok he;have:=aa6 iJ;subst this;have:=fits_int vr;subst this
   have LY:zv=.int .i64 z:=by
    obtain⟨j2,z2',k1,k2,k3⟩:=RI ok he rfl;rw[hj3]at k1;cases k1;rw[tB]at k2;cases k2;cases zv with
    |agg cs=>cases k3
    |int q n=>
     simp[Value.cells,pM,AV.isVal]at gN;obtain⟨rfl,rfl⟩:=gN;rfl
    |_=>exact absurd gN (by simp[Value.cells,pM,AV.isVal])
   exact⟨k,e,xd,qo,fun w=>by simp[zeroValue,typeInfo,hj3,tB,LY]⟩
  ·cases h
 ·cases h
theorem Vs(ok:dP P TT){t:TypeId}{m k:Operand}{c:Bool}{ρ:Operand→AV}{σ:Hp}{K:AV→Prop}(h:BQ TT t (bV (ρ m)) (bV (ρ k)) c σ K):∃v,K v∧C4 P (.lookup t m k c) ρ σ v:=by
 unfold BQ at h;split at h
 ·rename_i z n hz hk
  obtain⟨kt,et,h1,h2,h3⟩:=I5 ok hz;obtain⟨j,b,l,hm,hj,go⟩:=h
  have hs:∀(η:Operand→Value) (F:Nat→Prop) (w:World) (o:Oper),o.op=.lookup t m k c→(∀x∈(Op.lookup t m k c).operands.toList,aD F w (ρ x) (η x))→bA F w σ→(execOp η o).run P w=.ok (.value (if c then .tuple #[.int .i64 ((getM l n).getD z),.bool (getM l n).isSome] else .int .i64 ((getM l n).getD z))) w:=fun η F w o ho hx aG=>by
   have a1:=(hx m (by simp[Op.operands])).bV;rw[hm]at a1;have a2:=(hx k (by simp[Op.operands])).bV;rw[hk]at a2;have e1:η m=.map (some b):=a1.KJ;have e2:η k=.int .i64 n:=a2.gq;obtain⟨_,hb⟩:=(aG.holds _ (dz hj)).CJ;simp[execOp,ho,e1,e2,VI h1 h2 (h3 w) hb n c]
  cases c with
  |true=>
   exact⟨_,go,fun η F w o ho hx aG=>⟨_,hs η F w o ho hx aG,.tup _ _ rfl fun i y hy=>by
    rcases i with _ | _ | i
    ·simp at hy;subst hy;exact .int _ _
    ·simp at hy;subst hy;exact .bool _
    ·simp at hy⟩⟩
  |false=>exact⟨_,go,fun η F w o ho hx aG=>⟨_,hs η F w o ho hx aG,.int _ _⟩⟩
 ·exact h.elim
def Kt:Op→Bool
 |.load _ _ | .lookup _ _ _ _=>false
 |_=>true
theorem PF(ok:dP P TT){op:Op}{ρ:Operand→AV}{σ:Hp}{K:AV→Prop}(hb:Kt op=true)(h:fB P TT op ρ σ K):∃v,K v∧e8 P op ρ v:=by
 unfold fB at h;split at h
 ·rw[xR]at h;exact⟨_,h,XQ⟩
 ·rw[xR]at h;exact⟨_,h,VG⟩
 ·split at h
  ·rename_i x hx
   rw[xR,xR]at h;refine⟨_,?_,XP hx⟩;cases x <;> exact h
  ·exact h.elim
 ·split at h
  ·rename_i v hv
   exact⟨v,h,Wb ok hv⟩
  ·exact h.elim
 ·split at h
  ·cases hb
  ·exact h.elim
 ·rename_i x
  split at h
  ·rename_i b o' hx
   refine⟨_,h,Gh rfl fun η F w o ho aZ=>?_⟩;have h1:=aZ x (by simp[Op.operands]);rw[hx]at h1;exact⟨h1.zh,fun _=>by simp[execOp,ho,h1.uJ]⟩
  ·rename_i cs hx
   refine⟨_,h,fun η F w o ho aZ=>?_⟩;have h1:=aZ x (by simp[Op.operands]);rw[hx]at h1;obtain⟨b,o',e,hF,eQ⟩:=h1.x5;exact⟨_,by simp[execOp,ho,e],eQ.fQ hF⟩
  ·rename_i f a c hx
   refine⟨_,h,fun η F w o ho aZ=>?_⟩;have h1:=aZ x (by simp[Op.operands]);rw[hx]at h1;cases hv:η x with
   |func f' v1 v2=>
    rw[hv]at h1;have:f'=.func f:=by cases h1;rfl
    subst this;exact⟨_,by simp[execOp,ho,hv],h1⟩
   |_=>rw[hv]at h1;cases h1
  ·rename_i m t pv c hx
   obtain⟨ha,h⟩:=h;refine⟨_,h,fun η F w o ho aZ=>?_⟩;have h1:=aZ x (by simp[Op.operands]);rw[hx]at h1;cases hv:η x with
   |func f' v1 v2=>
    rw[hv]at h1;have h2:=h1
    obtain⟨rfl,hs,hr⟩:f'=.method m∧1=v1.size∧aD F w (.iface t pv) (v1.getD 0 undef):=by
     cases h1 with | fn _ _ _ _ _ fj dw h1 h2=>exact⟨rfl,fj,h1 0 _ rfl⟩
    obtain⟨u,h0,hn⟩:∃u,v1[0]?=some (.iface t u)∧∀w',(nilAhead (P.types.size+Made.depth) t u m).run P w'=.ok (some false) w':=by
     have ab:0<v1.size:=by omega
     have e1:v1.getD 0 undef=v1[0]:=by simp[Array.getD,ab]
     rw[e1]at hr;rw[pA ab];revert hr;generalize v1[0]=u;intro hr;cases hr with
     |iface _ _ u h=>exact⟨u,rfl,YU ha h⟩
    refine⟨.func (.method m) v1 v2,fun w'=>?_,h2⟩;have hn:=hn w';simp only[execOp,ho,hv,h0,Sem.run_bind,run_program,Result.andThen_ok,hn];rfl
   |_=>rw[hv]at h1;cases h1
  ·rename_i t v hx
   refine⟨_,h,fun η F w o ho aZ=>?_⟩;have h1:=aZ x (by simp[Op.operands]);rw[hx]at h1;cases hv:η x with
   |iface t' v'=>
    rw[hv]at h1;exact⟨_,by simp[execOp,ho,hv],h1⟩
   |_=>rw[hv]at h1;cases h1
  ·exact h.elim
 ·exact Bg (Xo ok (ρ:=fun x=>bV (ρ x)) h)
 ·exact Zm h
 ·exact Xl ok h
 ·rename_i t x
  split at h
  ·exact h.elim
  ·rename_i i hn hi
   exact⟨_,h,V1 ok hi (fun e=>hn i.size i.bytes i.zero (by rw[← e]))⟩
  ·exact h.elim
 ·exact⟨_,h,Va⟩
 ·exact Bg (VF ok (ρ:=fun x=>bV (ρ x)) h)
 ·exact U8 ok h
 ·exact V3 ok h
 ·exact Bg (U6 ok (ρ:=fun x=>bV (ρ x)) h)
 ·rename_i x tx t ok2
  split at h
  ·rename_i e s b t' v ht hx
   exact NY ok ht rfl (.inl ⟨t',v,hx,h⟩)
  ·rename_i e s b ht hx
   exact NY ok ht rfl (.inr ⟨hx,h⟩)
  ·exact h.elim
 ·cases hb
 ·split at h
  ·rename_i vs hx
   split at h
   ·rename_i v hv;exact⟨v,h,Vj hx hv⟩
   ·exact h.elim
  ·exact h.elim
 ·rename_i args cS
  split at h
  ·rename_i x t hx ht
   obtain rfl:args = #[x]:=by cases args;simp_all
   split at h
   ·rename_i i hi;exact Bg (Yl ok ht hi (ρ:=fun x=>bV (ρ x)) h)
   ·exact h.elim
  ·exact h.elim
 ·rename_i args cS
  split at h
  ·rename_i x y hx
   obtain rfl:args = #[x,y]:=by cases args;simp_all
   exact Ye h
  ·exact h.elim
 ·rename_i args cS
  split at h
  ·rename_i x y hx
   obtain rfl:args = #[x,y]:=by cases args;simp_all
   exact Yh h
  ·exact h.elim
 ·rename_i args cS
  split at h
  ·rename_i x y hx
   obtain rfl:args = #[x,y]:=by cases args;simp_all
   exact Xi h
  ·exact h.elim
 ·rename_i args cS
  split at h
  ·rename_i x hx
   obtain rfl:args = #[x]:=by cases args;simp_all
   exact WH h
  ·exact h.elim
 ·rename_i args cS
  split at h
  ·rename_i x hx
   obtain rfl:args = #[x]:=by cases args;simp_all
   exact W6 h
  ·exact h.elim
 ·rename_i args cS
  split at h
  ·rename_i x t hx ht
   obtain rfl:args = #[x]:=by cases args;simp_all
   split at h
   ·rename_i i hi;exact Bg (YJ ok ht hi (ρ:=fun x=>bV (ρ x)) h)
   ·exact h.elim
  ·exact h.elim
 ·exact h.elim
theorem ER(ok:dP P TT){op:Op}{ρ:Operand→AV}{σ:Hp}{K:AV→Prop}(h:fB P TT op ρ σ K):∃v,K v∧C4 P op ρ σ v:=by
 cases hb:Kt op with
 |true=>
  obtain⟨v,h1,h2⟩:=PF ok hb h;exact⟨v,h1,h2.afP σ⟩
 |false=>
  cases op with
  |load t a=>
   have h:(match TT t with | some i=>pQ i (ρ a) σ K | none=>False):=h;split at h
   ·rename_i i hi;exact WX ok hi h
   ·exact h.elim
  |lookup t m k c=>exact Vs ok h
  |_=>cases hb
end
section
variable {P:Program} {ops:Array Oper} {Q:Exit→Act→World→Prop} {md:Region.Mode} {S:World→Prop}
def yy(P:Program)(o:Oper)(a:Act)(next:Act→World→Prop):Result Next→Prop
 |.ok (.value v) w'=>next (a.put o.dst v) w'
 |.ok .skip w'=>next (a.put o.dst undef) w'
 |.ok (.enter f args) w'=>Calls P f args w' fun e lX=>∃v,e=.returned v∧next (a.put o.dst v) lX
 |.ok (.round l f tmps assign body) w'=>RoundIn Fence.wide 0 P l f tmps assign body w' fun e lX=>∃v,e=.returned v∧next (a.put o.dst v) lX
 |_=>False
def wq(P:Program)(o:Oper)(a:Act)(w:World)(next:Act→World→Prop)(_:Exit→Act→World→Prop):Prop:=yy P o a next ((execOp a.eval o).run P w)
theorem RA{o:Oper}{a:Act}{w:World}{K K':Act→World→Prop}(h:∀a w,K a w→K' a w)(hh:wq P o a w K Q):wq P o a w K' Q:=by
 unfold wq at *;generalize (execOp a.eval o).run P w=r at *;cases r with
 |ok x w'=>
  cases x <;> simp only[yy]at hh ⊢ <;>
   first
    |exact h _ _ hh
    |exact Calls.mono hh (fun _ _ ⟨v,he,hv⟩=>⟨v,he,h _ _ hv⟩)
    |exact RoundIn.mono hh (fun _ _ ⟨v,he,hv⟩=>⟨v,he,h _ _ hv⟩)
 |halt x w'=>cases x <;> simp only[yy]at hh
def nL(P:Program)(ops:Array Oper)(Q:Exit→Act→World→Prop)(i:Nat)(K:Act→World→Prop)(a:Act)(w:World):Prop:=
 match ops[i]? with
 |none=>K a w
 |some o=>if Region.wanted o (yielded ops a.tmps) then wq P o a w K Q else K (a.put o.dst undef) w
theorem IT{i:Nat}{a:Act}{w:World}{K K':Act→World→Prop}(h:∀a w,K a w→K' a w)(hh:nL P ops Q i K a w):nL P ops Q i K' a w:=by
 unfold nL at *;split
 ·exact h _ _ (by simpa [*]using hh)
 ·rename_i o ho
  simp only[ho]at hh;split
  ·rename_i hw;simp only[hw,if_true]at hh;exact RA h hh
  ·rename_i hw;simp only[hw]at hh;exact h _ _ hh
def wk(P:Program)(ops:Array Oper)(Q:Exit→Act→World→Prop):List Oper→Act→World→Prop
 | [],a,w=>Q .normal a w
 |o::rest,a,w=>if Region.wanted o (yielded ops a.tmps) then wq P o a w (wk P ops Q rest) Q else wk P ops Q rest (a.put o.dst undef) w
def wx(P:Program)(md:Region.Mode)(ops:Array Oper)(Q:Exit→Act→World→Prop):Nat→Array Bool→Act→World→Prop
 | 0,aA,a,w=>Region.ready md ops aA=[]∧Q .normal a w
 |fuel+1,aA,a,w=>(Region.ready md ops aA=[]→Q .normal a w)∧∀i∈Region.ready md ops aA,nL P ops Q i (wx P md ops Q fuel (aA.setIfInBounds i true)) a w
theorem Vz{i:Nat}{o:Oper}{v:Value}{a:Act}(hi:ops[i]?=some o)(hy:YieldsIf P ops S o v a){K:Act→World→Prop}{w:World}(hS:S w)(h:K (a.put o.dst v) w):nL P ops Q i K a w:=by
 unfold nL;simp only[hi]
 rcases hy with ⟨hw,hv⟩ | ⟨hw,rfl⟩
 ·simp only[hw,if_true,wq,hv w hS];exact h
 ·simp only[hw,vJ,if_false];exact h
theorem XB{j:Nat}{oi oj:Oper}{v:Value}(hj:ops[j]?=some oj)(vB:oi.apart ops oj=true)(hsi:∀cs b,oi.op≠.select cs b)(hsj:∀cs b,oj.op≠.select cs b)
  {K:Act→World→Prop} {a:Act} {w:World} (hy:YieldsIf P ops S oi v a) (h:nL P ops Q j K (a.put oi.dst v) w):nL P ops Q j (fun a' w'=>YieldsIf P ops S oi v a'∧K (a'.put oi.dst v) w') a w:=by
 obtain⟨h1,h2,h3⟩:=Oper.apart_spec vB;have keep:∀u,YieldsIf P ops S oi v (a.put oj.dst u):=fun u=>hy.of_same (execOp_put oi hsi a oj.dst u h3) (wanted_put oi a oj.dst u h3);have go:∀(u:Value) (w':World),K ((a.put oi.dst v).put oj.dst u) w'→YieldsIf P ops S oi v (a.put oj.dst u)∧K ((a.put oj.dst u).put oi.dst v) w':=fun u w' hk=>⟨keep u,by rw[← Act.put_comm a v u h2];exact hk⟩
 unfold nL at *;simp only[hj]at *;rw[wanted_put oj a oi.dst v h1]at h
 by_cases hw:Region.wanted oj (yielded ops a.tmps)=true
 ·rw[az hw]at h ⊢;unfold wq at *;rw[execOp_put oj hsj a oi.dst v h1]at h;generalize (execOp a.eval oj).run P w=r at *;cases r with
  |ok x w'=>
   cases x <;> simp only[yy]at h ⊢
   case value u=>exact go u w' h
   case skip=>exact go undef w' h
   case enter f args=>exact Calls.mono h fun e lX ⟨u,he,hk⟩=>⟨u,he,go u lX hk⟩
   case round l f tmps assign body=>exact RoundIn.mono h fun e lX ⟨u,he,hk⟩=>⟨u,he,go u lX hk⟩
  |halt x w'=>cases x <;> simp only[yy]at h
 ·rw[aB hw]at h ⊢;exact go undef w h
def FW(r:Option Nat):Fence:= { Fence.wide with round:=r }
variable {r:Option Nat}
theorem Tz{o:Oper}(cm:∀c,o.op≠.defer c){a:Act}{w:World}{K:Act→World→Prop}(h:wq P o a w K Q):o.wpIn (FW r) 0 P a w K Q:=by
 refine⟨fun _ _=>trivial,?_⟩;rw[show (FW r).round=r from rfl,Oper.semAt_eq r a.eval o cm];unfold wq at h;generalize (execOp a.eval o).run P w=x at *;cases x with
 |ok x w'=>
  cases x <;> simp only[yy]at h <;> simp only[Oper.uponIn]
  case value u=>exact h
  case skip=>exact h
  case enter f args=>
   refine⟨fun hd=>(by cases hd),?_⟩;have h2:CallsIn Fence.wide (0-1) P f args w' _:=callsIn_wide.2 h;exact CallsIn.mono (F:=FW r) h2 fun e lX ⟨u,he,hk⟩=>by subst he;exact hk
  case round l f tmps assign body=>
   refine⟨fun hd=>(by cases hd),?_⟩;exact RoundIn.mono (F:=FW r) h fun e lX ⟨u,he,hk⟩=>by subst he;exact hk
 |halt x w'=>cases x <;> simp only[yy]at h
theorem Pc:∀(l:List Oper) (a:Act) (w:World),(∀o∈l,∀c,o.op≠.defer c)→wk P ops Q l a w→wpListIn (FW r) 0 P ops Q l a w
 | [],_,_,_,h=>h
 |o::l,a,w,cm,h=>by
  have ih:=fun a w=>Pc l a w fun o ho=>cm o (dq _ ho);unfold wk at h;unfold wpListIn;split
  ·rename_i hw
   rw[az hw]at h;exact Tz (cm o (cF ..)) (RA ih h)
  ·rename_i hw
   rw[aB hw]at h;exact⟨fun _ _=>trivial,ih _ _ h⟩
theorem Qj(cm:∀o∈ops.toList,∀c,o.op≠.defer c):∀(fuel:Nat) (aA:Array Bool) (a:Act) (w:World),wx P md ops Q fuel aA a w→wpAnyIn (FW r) 0 P md ops Q fuel aA a w
 | 0,_,_,_,h=>h
 |fuel+1,aA,a,w,h=>by
  refine⟨h.1,fun i hi=>?_⟩;have h2:=IT (Qj cm fuel (aA.setIfInBounds i true)) (h.2 i hi);unfold nL at h2;unfold wpOpIn;cases ho:ops[i]? with
  |none=>rw[ho]at h2;exact h2
  |some o=>
   rw[ho]at h2;simp only at h2 ⊢;split
   ·rename_i hw
    rw[az hw]at h2;exact Tz (cm o (Array.mem_toList_iff.2 (Array.mem_of_getElem? ho))) h2
   ·rename_i hw
    rw[aB hw]at h2;exact⟨fun _ _=>trivial,h2⟩
theorem VK{id:Nat}{a:Act}{w:World}(cm:∀o∈ops.toList,∀c,o.op≠.defer c)(h:wk P ops Q ops.toList a w):(Code.region id ops false).wpIn (FW r) 0 P Q a w:=
 wpIn_region_list (Pc _ _ _ cm h)
theorem II{id:Nat}{a:Act}{w:World}(hm:P.follows .mixedOrders=true)(cm:∀o∈ops.toList,∀c,o.op≠.defer c)(h:wx P .any ops Q ops.size (Array.replicate ops.size false) a { w with drawn:=w.drawn+1 }):(Code.region id ops true).wpIn (FW r) 0 P Q a w:=
 wpIn_region_any hm (Qj cm _ _ _ _ h)
end
end Go.Proofs.YtnikdflhefijbaaGreat
