import Derived.ChangeKeysEq
import Derived.Deep.MidRow
import Derived.Laws.Pointers
import Derived.Laws.Small
import Derived.Laws.StructEq
import Derived.Test.YtnikdflhefijbaaGreatBn3
namespace Go.Proofs.YtnikdflhefijbaaGreat
open Go.RowKit
def TK.fits:TypeDesc→TK→Bool
 |.int k,.int k'=>decide (k=k')
 |.bool,.bool=>true
 |.string,.str=>true
 |.slice e,.slice e'=>decide (e=e')
 |.pointer e,.ptr e'=>decide (e=e')
 |.struct fs,.aY l=>decide (fs.toList.map (fun f=>(f.offset,f.type))=l)
 |.array n e,.arr n' e'=>decide (n=n')&&decide (e=e')
 |.interface _,.iface=>true
 |.func _ _ _,.func=>true
 |.map k e,.map k' e'=>decide (k=k')&&decide (e=e')
 |.float .f64,.gd=>true
 |.complex .f64,.fL=>true
 |_,_=>false
def AV.isVal:AV→Value→Bool
 |.int k n,.int k' n'=>decide (k=k')&&decide (n=n')
 |.bool b,.bool b'=>b == b'
 |.str s,.string s'=>decide (s.size=0)&&decide (s'.size=0)
 |.cQ,.pointer none=>true
 |.aj,.slice none 0 0=>true
 |.nilif,.nilIface=>true
 |.iC,.nilFunc=>true
 |.pt,.map none=>true
 |.gd n,.float .f64 b=>decide (n=0)&&decide (b=0)
 |.fL n m,.complex .f64 a b=>decide (n=0∧m=0)&&decide (a=0∧b=0)
 |_,_=>false
def pT:List AV→List Value→Bool
 | [],[]=>true
 |x::xs,v::vs=>x.isVal v&&pT xs vs
 |_,_=>false
def TV:Value→Bool
 |.agg _=>true
 |_=>false
def HA(P:Program)(t:TypeId)(i:TI):Bool:=
 match P.info? t,P.underlying t with
 |some j,some d=>decide (j.size=i.size)&&(decide (j.bytes=i.bytes∧i.zero.length=i.size)&&(TK.fits d i.k&&(match j.zero with | some z=>pT i.zero z.cells.toList&&(i.wide||!TV z) | none=>false)))
 |_,_=>false
def dz(P:Program)(TT:TypeId→Option TI):Prop:=∀t i,TT t=some i→HA P t i=true
def UD(P:Program)(TT:TypeId→Option TI)(n:Nat):Bool:=(List.range n).all fun t=>match TT t with | some i=>HA P t i | none=>true
theorem abz{P:Program}{TT:TypeId→Option TI}{n:Nat}(h:UD P TT n=true)(ho:∀t,n≤t→TT t=none):dz P TT:=by
 intro t i hi
 by_cases ht:t<n
 ·have:=fk.1 h t (gw.2 ht)
  rw[hi]at this
  exact this
 ·rw[ho t (Nat.le_of_not_lt ht)]at hi
  cases hi
theorem dp{P:Program}{TT:TypeId→Option TI}(ok:dz P TT){t:TypeId}{i:TI}(h:TT t=some i):
  ∃j d z,P.info? t=some j∧P.underlying t=some d∧j.size=i.size∧(j.bytes=i.bytes∧i.zero.length=i.size)∧TK.fits d i.k=true∧j.zero=some z∧pT i.zero z.cells.toList=true:=by
 have h1:=ok t i h
 unfold HA at h1
 split at h1
 ·rename_i j d hj hd
  simp only[bL,decide_eq_true_eq]at h1
  obtain⟨h2,h3,h4,h5⟩:=h1
  split at h5
  ·rename_i z hz
   simp only[bL]at h5
   exact⟨j,d,z,hj,hd,h2,h3,h4,hz,h5.1⟩
  ·cases h5
 ·cases h1
theorem SB{P:Program}{TT:TypeId→Option TI}(ok:dz P TT){t:TypeId}{i:TI}(h:TT t=some i)(hw:i.wide=false):∃j z,P.info? t=some j∧j.zero=some z∧TV z=false:=by
 have h1:=ok t i h
 unfold HA at h1
 split at h1
 ·rename_i j d hj hd
  simp only[bL,decide_eq_true_eq]at h1
  obtain⟨h2,h3,h4,h5⟩:=h1
  split at h5
  ·rename_i z hz
   simp only[bL,qA,hw,lN,false_or,lf]at h5
   exact⟨j,z,hj,hz,h5.2⟩
  ·cases h5
 ·cases h1
theorem fits_int{d:TypeDesc}{k:IntKind}(h:TK.fits d (.int k)=true):d=.int k:=by cases d <;> simp_all [TK.fits]
theorem fits_bool{d:TypeDesc}(h:TK.fits d .bool=true):d=.bool:=by cases d <;> simp_all [TK.fits]
theorem jT{d:TypeDesc}{e:TypeId}(h:TK.fits d (.slice e)=true):d=.slice e:=by cases d <;> simp_all [TK.fits]
theorem aaz{d:TypeDesc}{k e:TypeId}(h:TK.fits d (.map k e)=true):d=.map k e:=by cases d <;> simp_all [TK.fits]
theorem F8{d:TypeDesc}{e:TypeId}(h:TK.fits d (.ptr e)=true):d=.pointer e:=by cases d <;> simp_all [TK.fits]
theorem JN{d:TypeDesc}{l:List (Nat×TypeId)}(h:TK.fits d (.aY l)=true):∃fs,d=.struct fs∧fs.toList.map (fun f=>(f.offset,f.type))=l:=by cases d <;> simp_all [TK.fits]
theorem R7{d:TypeDesc}{n:Nat}{e:TypeId}(h:TK.fits d (.arr n e)=true):d=.array n e:=by cases d <;> simp_all [TK.fits]
theorem PX{d:TypeDesc}(h:TK.fits d .iface=true):∃m,d=.interface m:=by cases d <;> simp_all [TK.fits]
theorem QV{d:TypeDesc}(h:TK.fits d .func=true):∃a b c,d=.func a b c:=by cases d <;> simp_all [TK.fits]
theorem aaA{d:TypeDesc}(h:TK.fits d .gd=true):d=.float .f64:=by
 unfold TK.fits at h
 split at h <;> simp_all
theorem QU{d:TypeDesc}{i:TI}(h:TK.fits d i.k=true):d.isRow=i.wide:=by
 unfold TI.wide
 cases hk:i.k <;> rw[hk]at h <;> cases d <;> first | rfl | simp[TK.fits]at h
theorem YT{F:Nat→Prop}{w:World}{x:AV}{v:Value}(h:x.isVal v=true):aA F w x v∧x.leaf=true:=by
 unfold AV.isVal at h
 split at h
 ·simp only[bL,decide_eq_true_eq]at h;obtain⟨rfl,rfl⟩:=h;exact⟨.int _ _,rfl⟩
 ·simp only[beq_iff_eq]at h;subst h;exact⟨.bool _,rfl⟩
 ·rename_i s s'
  simp only[bL,decide_eq_true_eq]at h
  obtain⟨h1,h2⟩:=h
  have:s=s':=by
   apply ByteArray.ext
   apply Array.ext
   ·exact h1.trans h2.symm
   ·intro i hi _;have:i<s.size:=hi;omega
  subst this
  exact⟨.str _,rfl⟩
 ·exact⟨.cQ,rfl⟩
 ·exact⟨.aj,rfl⟩
 ·exact⟨.nilif,rfl⟩
 ·exact⟨.iC,rfl⟩
 ·exact⟨.pt,rfl⟩
 ·simp only[bL,decide_eq_true_eq]at h;obtain⟨rfl,rfl⟩:=h;exact⟨.gd _ _ KA,rfl⟩
 ·simp only[bL,decide_eq_true_eq]at h;obtain⟨⟨rfl,rfl⟩,rfl,rfl⟩:=h;exact⟨.fL _ _ _ _ KA KA,rfl⟩
 ·cases h
theorem Qd{F:Nat→Prop}{w:World}:∀{xs:List AV} {vs:List Value},pT xs vs=true→xs.length=vs.length∧∀i x,xs[i]?=some x→aA F w x (vs.getD i undef)∧x.leaf=true
 | [],[],_=>⟨rfl,fun i x h=>by simp at h⟩
 |x::xs,v::vs,h=>by
  simp only[pT,bL]at h
  obtain⟨h1,h2⟩:=Qd (F:=F) (w:=w) h.2
  refine⟨by simp[h1],fun i y hi=>?_⟩
  cases i with
  |zero=>simp at hi;subst hi;simpa using YT h.1
  |succ i=>simpa using h2 i y (by simpa using hi)
 | [],_::_,h=>by simp[pT]at h
 |_::_,[],h=>by simp[pT]at h
theorem bE.refl(F:Nat→Prop)(w:World):bE F w F w:=⟨rfl,rfl,rfl,aU _,fun _ h=>h,fun _ _=>rfl,fun _ c _ fz h=>⟨c,fz,h,rfl⟩,aU _⟩
theorem bE.trans{F F' nI:Nat→Prop}{w w' l4:World}(h:bE F w F' w')(k:bE F' w' nI l4):bE F w nI l4:=
 ⟨k.os.trans h.os,k.tape.trans h.tape,k.output.trans h.output,fD h.size k.size,fun b hb=>k.sub b (h.sub b hb),fun b hb=>(k.fix b (h.sub b hb)).trans (h.fix b hb),
  fun b c T fz hb=>by
   obtain⟨c',rG,h1,h2⟩:=h.rows b c T fz hb
   obtain⟨c'',ag5,h3,h4⟩:=k.rows b c' T rG h1
   exact⟨c'',ag5,h3,h4.trans h2⟩,fD h.drawn k.drawn⟩
theorem KG{w w':World}{b:Nat}(h:w'.heap[b]?=w.heap[b]?)(o:Nat):w'.cell? ⟨b,o,none⟩=w.cell? ⟨b,o,none⟩:=World.cell?_of_block (w:=w) (a:=⟨b,o,none⟩) h
theorem vc.fix{w w':World}{b o:Nat}{cs:List Value}(h:vc w b o cs)(hb:w'.heap[b]?=w.heap[b]?):vc w' b o cs:=fun j u hu=>(KG hb _).trans (h j u hu)
theorem nP.mono{F F':Nat→Prop}{w w':World}(aq:bE F w F' w'){b:Nat}(h:nP w b):nP w' b:=by
 obtain⟨c,T,fz,h⟩:=h
 obtain⟨c',rG,h',_⟩:=aq.rows b c T fz h
 exact⟨c',T,rG,h'⟩
theorem FC.mono{F F':Nat→Prop}{w w':World}(aq:bE F w F' w'){b:Nat}(h:FC F w b):FC F' w' b:=⟨aq.sub b h.1,h.2.mono aq⟩
theorem kO.mono{F F':Nat→Prop}{w w':World}(aq:bE F w F' w'):∀(s:Sh) (cs:List Value) (d:s.T),kO F w s cs d→kO F' w' s cs d:=by
 intro s
 induction s with
 |int k=>exact fun _ _ h=>h
 |bool=>exact fun _ _ h=>h
 |str=>exact fun _ _ h=>h
 |nil=>exact fun _ _ h=>h
 |slice e ih=>
  rintro cs l ⟨a,c,h1,h2,h3,h0,h4⟩
  refine⟨a,c,h1,h2,h3,h0,fun aP=>?_⟩
  obtain⟨b,o,rfl,hF,hi⟩:=h4 aP
  refine⟨b,o,rfl,hF.mono aq,fun i h=>?_⟩
  obtain⟨cs',q1,q2,q3⟩:=hi i h
  exact⟨cs',q1,q2.fix (aq.fix b hF.1),ih _ _ q3⟩
 |field f r qn jK=>
  rintro cs d ⟨c1,c2,h1,h2,h3,h4⟩
  exact⟨c1,c2,h1,h2,qn _ _ h3,jK _ _ h4⟩
theorem DL.mono{F F':Nat→Prop}{w w':World}(aq:bE F w F' w'){b off len e:Nat}{a:Addr}{cap:Nat}(h:DL w b off len e a cap):DL w' b off len e a cap:=by
 obtain⟨c,T,fz,h1,h2,h3,h4⟩:=h
 obtain⟨c',rG,h5,h6⟩:=aq.rows b c T fz h1
 exact⟨c',T,rG,h5,h2,h3,by rw[h6];exact h4⟩
theorem aA.mono{F F':Nat→Prop}{w w':World}(aq:bE F w F' w'){x:AV}{v:Value}(h:aA F w x v):aA F' w' x v:=by
 induction h with
 |int k n=>exact .int k n
 |bool b=>exact .bool b
 |str s=>exact .str s
 |af e l v h=>exact .af e l v (kO.mono aq _ _ _ h)
 |kq a=>exact .kq a
 |gU a c h=>exact .gU a c h
 |aj=>exact .aj
 |ae b off len e a cap h=>exact .ae b off len e a cap (h.mono aq)
 |cQ=>exact .cQ
 |ptr b off h=>exact .ptr b off (h.mono aq)
 |nj b=>exact .nj b
 |nr b=>exact .nr b
 |fO cs b o f hF h1 hl h ih=>exact .fO cs b o f (hF.mono aq) (fun i x hx=>(KG (aq.fix b hF.1) _).trans (h1 i x hx)) hl ih
 |agg cs vs hs hl h ih=>exact .agg cs vs hs hl ih
 |tup cs vs hs h ih=>exact .tup cs vs hs ih
 |iface t a v h ih=>exact .iface t a v ih
 |nilif=>exact .nilif
 |fn f c1 c2 v1 v2 fh gQ h1 h2 DZ DY=>exact .fn f c1 c2 v1 v2 fh gQ DZ DY
 |iC=>exact .iC
 |pt=>exact .pt
 |gd n b h=>exact .gd n b h
 |fL n m a b h1 h2=>exact .fL n m a b h1 h2
 |any v=>exact .any v
 |via x v hl h ih=>exact .via x v hl ih
theorem aA.bN{F:Nat→Prop}{w:World}{x:AV}{v:Value}(h:aA F w x v):aA F w (Go.Proofs.YtnikdflhefijbaaGreat.bN x) v:=by
 cases h with
 |via x v hl h=>exact h
 |int k n=>exact .int k n
 |bool b=>exact .bool b
 |str s=>exact .str s
 |af e l v h=>exact .af e l v h
 |kq a=>exact .kq a
 |gU a c h=>exact .gU a c h
 |aj=>exact .aj
 |ae b off len e a cap h=>exact .ae b off len e a cap h
 |cQ=>exact .cQ
 |ptr b off h=>exact .ptr b off h
 |nj b=>exact .nj b
 |nr b=>exact .nr b
 |fO cs b o f hF h1 hl h=>exact .fO cs b o f hF h1 hl h
 |agg cs vs hs hl h=>exact .agg cs vs hs hl h
 |tup cs vs hs h=>exact .tup cs vs hs h
 |iface t a v h=>exact .iface t a v h
 |nilif=>exact .nilif
 |fn f c1 c2 v1 v2 fh gQ h1 h2=>exact .fn f c1 c2 v1 v2 fh gQ h1 h2
 |iC=>exact .iC
 |pt=>exact .pt
 |gd n b h=>exact .gd n b h
 |fL n m a b h1 h2=>exact .fL n m a b h1 h2
 |any v=>exact .any v
theorem iQ.mono{F F':Nat→Prop}{w w':World}(aq:bE F w F' w'){xs:List AV}{vs:Array Value}(h:iQ F w xs vs):iQ F' w' xs vs:=⟨h.1,fun i x hx=>(h.2 i x hx).mono aq⟩
theorem aA.one{F:Nat→Prop}{w:World}{x:AV}{v:Value}(h:aA F w x v)(hl:x.leaf=true):v.oneCell'=true:=by
 induction h with
 |af e l v h=>
  obtain⟨a,c,h1,_⟩:=h
  obtain rfl:=I7.1 h1
  rfl
 |agg=>cases hl
 |tup=>cases hl
 |any=>cases hl
 |via x v h1 h ih=>exact ih h1
 |_=>rfl
theorem aA.DD{F:Nat→Prop}{w:World}{e:Sh}{l:List e.T}{v:Value}(h:aA F w (.af e l) v):∃a c,v=.slice a l.length c∧l.length≤c∧c≤maxLen∧
   (l≠[]→∃b o,a=some ⟨b,o,none⟩∧FC F w b∧∀i,(h:i<l.length)→∃cs',cs'.length=e.size∧vc w b (o+i*e.size) cs'∧kO F w e cs' l[i]):=by
 cases h with
 |af e l v h=>
  obtain⟨a,c,h1,h2,h3,_,h4⟩:=h
  exact⟨a,c,I7.1 h1,h2,h3,h4⟩
theorem aA.ag6{F:Nat→Prop}{w:World}{e:Sh}{l:List e.T}{v:Value}(h:aA F w (.af e l) v){a:Option Addr}{n c:Nat}(hv:v=.slice a n c):a=none→c=0:=by
 cases h with
 |af e l v h=>
  obtain⟨a',c',h1,h2,h3,h4,_⟩:=h
  have:=I7.1 h1
  rw[hv]at this
  cases this
  exact h4
theorem kO.cells{F:Nat→Prop}{w:World}:∀(s:Sh) (cs:List Value) (d:s.T),kO F w s cs d→(s.cells d).length=cs.length∧∀i x,(s.cells d)[i]?=some x→x.leaf=true∧aA F w x (cs.getD i undef):=by
 intro s
 induction s with
 |int k=>rintro cs d h;obtain rfl:cs=[.int k d]:=h;exact⟨rfl,fun i x hx=>by cases i <;> simp[Sh.cells]at hx;subst hx;exact⟨rfl,.int _ _⟩⟩
 |bool=>rintro cs d h;obtain rfl:cs=[.bool d]:=h;exact⟨rfl,fun i x hx=>by cases i <;> simp[Sh.cells]at hx;subst hx;exact⟨rfl,.bool _⟩⟩
 |str=>rintro cs d h;obtain rfl:cs=[.string d]:=h;exact⟨rfl,fun i x hx=>by cases i <;> simp[Sh.cells]at hx;subst hx;exact⟨rfl,.str _⟩⟩
 |nil=>rintro cs d h;obtain rfl:cs=[]:=h;exact⟨rfl,fun i x hx=>by simp[Sh.cells]at hx⟩
 |slice e ih=>
  rintro cs l h
  have h':=h
  obtain⟨a,c,rfl,_⟩:=h'
  exact⟨rfl,fun i x hx=>by cases i <;> simp[Sh.cells]at hx;subst hx;exact⟨rfl,.af e l _ h⟩⟩
 |field f r qn jK=>
  rintro cs d ⟨c1,c2,rfl,h2,h3,h4⟩
  obtain⟨a1,a2⟩:=qn _ _ h3
  obtain⟨b1,b2⟩:=jK _ _ h4
  refine⟨by simp[Sh.cells,a1,b1],fun i x hx=>?_⟩
  simp only[Sh.cells]at hx
  by_cases hi:i<(f.cells d.1).length
  ·rw[kf hi]at hx
   have:=a2 i x hx
   rw[aW,kf (by omega),← aW]
   exact this
  ·rw[iJ (by omega)]at hx
   have:=b2 _ x hx
   rw[aW,iJ (by omega),← aW,← a1]
   exact this
theorem Sh.sL(s:Sh)(d:s.T):(s.cells d).length=s.size:=by
 induction s with
 |field f r qn jK=>simp[Sh.cells,Sh.size,qn,jK]
 |_=>rfl
def At(F:Nat→Prop)(w:World)(b o:Nat)(cs:List AV):Prop:=∀(i:Nat) (x:AV),cs[i]?=some x→x.leaf=true∧∃v,w.cell? ⟨b,o+i,none⟩=some v∧aA F w x v
theorem J5{x:AV}{o:Obj}(h:wV x=some o):x.leaf=false:=by cases x <;> first | rfl | simp[wV]at h
theorem PQ{x:AV}{c:Array Value}{T:TypeId}{fz:Nat×Nat}(h:wV x=some (.cells c T fz)):False:=by cases x <;> simp[wV]at h
theorem Holds.cells{F:Nat→Prop}{w:World}{b:Nat}{cs:List AV}(h:Holds F w b cs)(hc:nP w b):¬F b∧Ha F w b cs:=by
 obtain⟨hF,h | ⟨x,o,_,h,hx⟩ | ⟨L,t,_,h,_⟩⟩:=h
 ·exact⟨hF,h⟩
 ·obtain⟨c,T,fz,h'⟩:=hc
  rw[h]at h';cases h'
  cases PQ hx
 ·obtain⟨c,T,fz,h'⟩:=hc
  rw[h]at h';cases h'
theorem Holds.L4{F:Nat→Prop}{w:World}{b k:Nat}{cs:List AV}{x:AV}(h:Holds F w b cs)(hk:cs[k]?=some x)(hx:x.leaf=true):¬F b∧Ha F w b cs:=by
 obtain⟨hF,h | ⟨y,o,rfl,h,hy⟩ | ⟨L,t,rfl,h,_⟩⟩:=h
 ·exact⟨hF,h⟩
 ·cases k with
  |zero=>simp at hk;subst hk;rw[J5 hy]at hx;cases hx
  |succ k=>simp at hk
 ·cases k with
  |zero=>simp at hk;subst hk;cases hx
  |succ k=>simp at hk
theorem aA.zF{F:Nat→Prop}{w:World}{b o:Nat}{v:Value}(h:aA F w (.ptr b o) v):nP w b:=by cases h;assumption
theorem Holds.at_{F:Nat→Prop}{w:World}{b:Nat}{cs:List AV}(h0:Holds F w b cs)(hc:nP w b):At F w b 0 cs:=by
 obtain⟨_,c,T,h1,h2,h3⟩:=h0.cells hc
 intro i x hx
 have hi:i<cs.length:=(cf.1 hx).1
 obtain⟨h4,h5⟩:=h3 i x hx
 refine⟨h4,c.getD i undef,?_,h5⟩
 rw[eF,Lh h1]
 have:i<c.size:=by omega
 simp[Array.getD,this]
theorem At.drop{F:Nat→Prop}{w:World}{b o:Nat}{cs:List AV}(h:At F w b o cs)(k:Nat):At F w b (o+k) (cs.drop k):=by
 intro i x hx
 rw[zj]at hx
 obtain⟨h1,v,h2,h3⟩:=h (k+i) x hx
 exact⟨h1,v,by rw[← h2,EJ],h3⟩
theorem At.SQ{F:Nat→Prop}{w:World}{b o:Nat}(s:Sh){cs:List Value}{d:s.T}(h:vc w b o cs)(hr:kO F w s cs d):At F w b o (s.cells d):=by
 obtain⟨h1,h2⟩:=kO.cells s cs d hr
 intro i x hx
 obtain⟨h3,h4⟩:=h2 i x hx
 have hi:i<cs.length:=by rw[← h1];exact (cf.1 hx).1
 exact⟨h3,_,h i _ (by rw[List.getElem?_eq_getElem hi]),by simpa [List.getD,hi]using h4⟩
theorem At.fO{F:Nat→Prop}{w:World}{b o:Nat}{cs:List AV}(h:At F w b o cs)(hF:FC F w b):aA F w (.fO cs) (.pointer (some ⟨b,o,none⟩)):=by
 refine .fO cs b o (fun i=>(w.cell? ⟨b,o+i,none⟩).getD undef) hF (fun i x hx=>?_) (fun i x hx=>(h i x hx).1) (fun i x hx=>?_)
 ·obtain⟨_,v,h2,_⟩:=h i x hx;rw[h2];rfl
 ·obtain⟨_,v,h2,h3⟩:=h i x hx;rw[h2];exact h3
theorem aA.yb{F:Nat→Prop}{w:World}{cs:List AV}{v:Value}(h:aA F w (.fO cs) v):∃b o,v=.pointer (some ⟨b,o,none⟩)∧FC F w b∧At F w b o cs:=by
 cases h with
 |fO cs b o f hF h1 hl h=>exact⟨b,o,rfl,hF,fun i x hx=>⟨hl i x hx,f i,h1 i x hx,h i x hx⟩⟩
section
variable {P:Program} {TT:TypeId→Option TI} {F:Nat→Prop} {w:World}
theorem JZ{t:TypeId}{d:TypeDesc}(h:P.underlying t=some d)(w:World):(isAgg t).run P w=.ok d.isRow w:=by
 unfold isAgg
 rw[Sem.run_bind,run_underlying h w]
 cases d <;> rfl
theorem run_sizeOf{t:TypeId}{j:TypeInfo}(h:P.info? t=some j)(w:World):(sizeOf t).run P w=.ok j.size w:=by simp[sizeOf,typeInfo,h]
theorem Ff(ok:dz P TT){t:TypeId}{i:TI}(ht:TT t=some i){b o:Nat}{cs:List AV}(h:At F w b o cs){k:Nat}{v:AV}(hv:eu i cs k=some v):
  ∃v',(loadVar t ⟨b,o+k,none⟩).run P w=.ok v' w∧aA F w v v':=by
 obtain⟨j,d,z,hj,hd,hs,hb,hf,hz,hY⟩:=dp ok ht
 have hw:=QU hf
 unfold eu at hv
 split at hv
 ·rename_i yv
  split at hv
  ·rename_i hle
   have hle:=cH hle
   simp only[Option.some.injEq]at hv
   subst hv
   have hc:∀m,m<i.size→∃x,cs[k+m]?=some x∧x.leaf=true∧∃v,w.cell? ⟨b,o+k+m,none⟩=some v∧aA F w x v:=by
    intro m hm
    have hk:k+m<cs.length:=by omega
    obtain⟨h1,v,h2,h3⟩:=h (k+m) cs[k+m] (by simp[hk])
    exact⟨_,by simp[hk],h1,v,by rw[← h2,Nat.add_assoc],h3⟩
   have hr:w.rangeAt b (o+k) ((List.range i.size).map fun m=>(w.cell? ⟨b,o+k+m,none⟩).getD undef):=by
    intro m v hm
    have hmi:m<i.size:=by have:=(List.getElem?_eq_some_iff.1 hm).1;simpa using this
    obtain⟨x,_,_,v',h2,_⟩:=hc m hmi
    simp[hmi]at hm
    rw[h2]at hm ⊢
    simpa using hm
   refine⟨_,run_loadVar_mid (P:=P) w b (o+k) t _ d hr hd (by rw[hw,yv]) (by simp[hj,hs]),?_⟩
   refine .agg _ _ (by simp;omega) (fun m x hx=>?_) (fun m x hx=>?_)
   ·rw[qC]at hx
    split at hx
    ·rename_i hm
     obtain⟨x',h1,h2,_⟩:=hc m hm
     rw[zj,h1]at hx
     cases hx
     exact h2
    ·cases hx
   ·rw[qC]at hx
    split at hx
    ·rename_i hm
     obtain⟨x',h1,_,v,h2,h3⟩:=hc m hm
     rw[zj,h1]at hx
     cases hx
     simpa [hm,h2]using h3
    ·cases hx
  ·cases hv
 ·rename_i yv
  obtain⟨_,v',h2,h3⟩:=h k v hv
  refine⟨v',?_,h3⟩
  unfold loadVar
  rw[Sem.run_bind,JZ hd]
  simp[hw,yv,h2]
def DK(P:Program)(op:Op)(ρ:Operand→AV)(σ:Hp)(v:AV):Prop:=
 ∀(η:Operand→Value) (F:Nat→Prop) (w:World) (o:Oper),o.op=op→(∀x∈op.operands.toList,aA F w (ρ x) (η x))→bg F w σ→∃v',(execOp η o).run P w=.ok (.value v') w∧aA F w v v'
def eW(P:Program)(op:Op)(ρ:Operand→AV)(v:AV):Prop:=
 ∀(η:Operand→Value) (F:Nat→Prop) (w:World) (o:Oper),o.op=op→(∀x∈op.operands.toList,aA F w (ρ x) (η x))→∃v',(∀w',(execOp η o).run P w'=.ok (.value v') w')∧aA F w v v'
theorem eW.bN{P:Program}{op:Op}{ρ:Operand→AV}{v:AV}(h:eW P op (fun x=>Go.Proofs.YtnikdflhefijbaaGreat.bN (ρ x)) v):eW P op ρ v:=fun η F w o ho hx=>h η F w o ho (fun x hm=>(hx x hm).bN)
theorem By{P:Program}{op:Op}{ρ:Operand→AV}{K:AV→Prop}(h:∃v,K v∧eW P op (fun x=>Go.Proofs.YtnikdflhefijbaaGreat.bN (ρ x)) v):∃v,K v∧eW P op ρ v:=by
 obtain⟨v,h1,h2⟩:=h
 exact⟨v,h1,h2.bN⟩
theorem eW.afn{P:Program}{op:Op}{ρ:Operand→AV}{v:AV}(h:eW P op ρ v)(σ:Hp):DK P op ρ σ v:=fun η F w o ho hx _=>by
 obtain⟨v',h1,h2⟩:=h η F w o ho hx
 exact⟨v',h1 w,h2⟩
theorem bg.at_{F:Nat→Prop}{w:World}{σ:Hp}(h:bg F w σ){j b:Nat}{cs:List AV}(hj:σ[j]?=some (b,cs))(hc:nP w b):At F w b 0 cs:=(h.holds (b,cs) (cq hj)).at_ hc
theorem Yj{x:Operand}{ρ:Operand→AV}:eW P (.move x) ρ (ρ x):=fun η F w o ho hx=>⟨η x,fun _=>by simp[execOp,ho],hx x (by simp[Op.operands])⟩
theorem Wr{x:Operand}{ρ:Operand→AV}:eW P (.assign x) ρ (ρ x):=fun η F w o ho hx=>⟨η x,fun _=>by simp[execOp,ho],hx x (by simp[Op.operands])⟩
theorem aA.qV{b:Bool}{v:Value}(h:aA F w (.bool b) v):v=.bool b:=by cases h;rfl
theorem aA.gA{k:IntKind}{n:Int}{v:Value}(h:aA F w (.int k n) v):v=.int k n:=by cases h;rfl
theorem aA.HN{n:Int}{v:Value}(h:aA F w (.gd n) v):∃b,v=.float .f64 b∧jc b n:=by cases h with | gd n b h=>exact⟨b,rfl,h⟩
theorem aA.HS{n m:Int}{v:Value}(h:aA F w (.fL n m) v):∃a b,v=.complex .f64 a b∧jc a n∧jc b m:=by cases h with | fL n m a b h1 h2=>exact⟨a,b,rfl,h1,h2⟩
theorem aA.Dg{s:ByteArray}{v:Value}(h:aA F w (.str s) v):v=.string s:=by cases h;rfl
theorem aA.yE{b o:Nat}{v:Value}(h:aA F w (.ptr b o) v):v=.pointer (some ⟨b,o,none⟩):=by cases h;rfl
theorem aA.lu{b off len e:Nat}{v:Value}(h:aA F w (.ae b off len e) v):∃a cap,v=.slice (some a) len cap∧DL w b off len e a cap:=by cases h with | ae _ _ _ _ a cap h=>exact⟨a,cap,rfl,h⟩
theorem aA.uX{cs:List AV}{v:Value}(h:aA F w (.agg cs) v):∃vs,v=.agg vs∧cs.length=vs.size∧(∀(i:Nat) (x:AV),cs[i]?=some x→x.leaf=true∧aA F w x (vs.getD i undef)):=by
 cases h with | agg cs vs hs hl h=>exact⟨vs,rfl,hs,fun i x hx=>⟨hl i x hx,h i x hx⟩⟩
theorem Yi{c a b:Operand}{ρ:Operand→AV}{x:Bool}(h:ρ c=.bool x):eW P (.pick c a b) ρ (if x then ρ a else ρ b):=by
 intro η F w o ho hx
 have hc:=hx c (by simp[Op.operands])
 have ha:=hx a (by simp[Op.operands])
 have hb:=hx b (by simp[Op.operands])
 rw[h]at hc
 have hc:=hc.qV
 cases x
 ·exact⟨η b,fun _=>by simp[execOp,ho,hc,asBool],hb⟩
 ·exact⟨η a,fun _=>by simp[execOp,ho,hc,asBool],ha⟩
theorem XB(ok:dz P TT){t:TypeId}{a:Operand}{ρ:Operand→AV}{σ:Hp}{K:AV→Prop}{i:TI}(ht:TT t=some i)(h:p7 i (ρ a) σ K):∃v,K v∧DK P (.load t a) ρ σ v:=by
 unfold p7 at h
 split at h
 ·rename_i cs kC
  split at h
  ·rename_i v hv
   refine⟨v,h,fun η F w o ho hx _=>?_⟩
   have ha:=hx a (by simp[Op.operands])
   rw[kC]at ha
   obtain⟨b,o',e,hF,dR⟩:=ha.yb
   obtain⟨v',h1,h2⟩:=Ff ok ht dR hv
   rw[vK]at h1
   exact⟨v',by simp[execOp,ho,e,Instr.loadAt,Instr.sureAddr,h1],h2⟩
  ·exact h.elim
 ·rename_i b o' kC
  obtain⟨j,cs,v,h1,h2,go⟩:=h
  refine⟨v,go,fun η F w o ho hx aF =>?_⟩
  have ha:=hx a (by simp[Op.operands])
  rw[kC]at ha
  obtain⟨v',h3,h4⟩:=Ff ok ht (aF.at_ h1 ha.zF) h2
  rw[eF]at h3
  exact⟨v',by simp[execOp,ho,ha.yE,Instr.loadAt,Instr.sureAddr,h3],h4⟩
 ·exact h.elim
end
section
variable {P:Program} {TT:TypeId→Option TI}
theorem Hc{op:Op}{ρ:Operand→AV}{b o:Nat}{u:Value}(h0:u=.pointer (some ⟨b,o,none⟩))(h:∀(η:Operand→Value) (F:Nat→Prop) (w:World) (o:Oper),o.op=op→(∀x∈op.operands.toList,aA F w (ρ x) (η x))→nP w b∧∀w',(execOp η o).run P w'=.ok (.value u) w'):eW P op ρ (.ptr b o):=fun η F w o ho hx=>by
 obtain⟨h1,h2⟩:=h η F w o ho hx
 exact⟨u,h2,h0▸.ptr _ _ h1⟩
theorem mR{op:Op}{ρ:Operand→AV}{v:AV}{u:Value}(hu:∀F w,aA F w v u)(h:∀(η:Operand→Value) (F:Nat→Prop) (w:World) (o:Oper),o.op=op→(∀x∈op.operands.toList,aA F w (ρ x) (η x))→∀w',(execOp η o).run P w'=.ok (.value u) w'):eW P op ρ v:=
 fun η F w o ho hx=>⟨u,h η F w o ho hx,hu F w⟩
theorem qO{b:Bool}{K:AV→Prop}(h:og b K):K (.bool b):=by cases b <;> exact h
theorem XE{op:BinOp}{k:IntKind}{a b:Int}{K:AV→Prop}(lL:op≠.shl∧op≠.shr)(h:HG op k a b K):
  ∃v u,K v∧(∀F w,aA F w v u)∧∀(t:TypeId) (w:World),(binOp op t (.int k a) (.int k b)).run P w=.ok u w:=by
 cases op <;> simp only[HG]at h
 case add=>exact⟨_,_,h,fun _ _=>.int _ _,fun t w=>by simp[binOp,Op.intArith]⟩
 case sub=>exact⟨_,_,h,fun _ _=>.int _ _,fun t w=>by simp[binOp,Op.intArith]⟩
 case mul=>exact⟨_,_,h,fun _ _=>.int _ _,fun t w=>by simp[binOp,Op.intArith]⟩
 case quo=>exact⟨_,_,h.go,fun _ _=>.int _ _,fun t w=>by simp[binOp,Op.intDiv,h.fact]⟩
 case rem=>exact⟨_,_,h.go,fun _ _=>.int _ _,fun t w=>by simp[binOp,Op.intDiv,h.fact]⟩
 case and=>exact⟨_,_,h,fun _ _=>.int _ _,fun t w=>by rw[show binOp .and t (.int k a) (.int k b)=Op.intBits .and k a b by simp[binOp]];rfl⟩
 case or=>exact⟨_,_,h,fun _ _=>.int _ _,fun t w=>by rw[show binOp .or t (.int k a) (.int k b)=Op.intBits .or k a b by simp[binOp]];rfl⟩
 case xor=>exact⟨_,_,h,fun _ _=>.int _ _,fun t w=>by rw[show binOp .xor t (.int k a) (.int k b)=Op.intBits .xor k a b by simp[binOp]];rfl⟩
 case andNot=>exact⟨_,_,h,fun _ _=>.int _ _,fun t w=>by rw[show binOp .andNot t (.int k a) (.int k b)=Op.intBits .andNot k a b by simp[binOp]];rfl⟩
 case eql=>exact⟨_,_,qO h,fun _ _=>.bool _,fun t w=>by simp[binOp,Op.intCmp];exact Bool.beq_eq_decide_eq _ _⟩
 case neq=>exact⟨_,_,qO h,fun _ _=>.bool _,fun t w=>by simp[binOp,Op.intCmp,bne,Bool.beq_eq_decide_eq]⟩
 case lss=>exact⟨_,_,qO h,fun _ _=>.bool _,fun t w=>by simp[binOp,Op.intCmp]⟩
 case leq=>exact⟨_,_,qO h,fun _ _=>.bool _,fun t w=>by simp[binOp,Op.intCmp]⟩
 case gtr=>exact⟨_,_,qO h,fun _ _=>.bool _,fun t w=>by simp[binOp,Op.intCmp]⟩
 case geq=>exact⟨_,_,qO h,fun _ _=>.bool _,fun t w=>by simp[binOp,Op.intCmp]⟩
theorem OZ{op:BinOp}{k yk:IntKind}{a b:Int}{K:AV→Prop}(h:GM op k a b K):
  ∃v u,K v∧(∀F w,aA F w v u)∧∀(t:TypeId) (w:World),(binOp op t (.int k a) (.int yk b)).run P w=.ok u w:=by
 cases op <;> simp only[GM]at h
 case shl=>exact⟨_,_,h.go,fun _ _=>.int _ _,fun t w=>by have:=h.fact;simp[binOp,Op.shift,show ¬b<0 by omega]⟩
 case shr=>exact⟨_,_,h.go,fun _ _=>.int _ _,fun t w=>by have:=h.fact;simp[binOp,Op.shift,show ¬b<0 by omega]⟩
theorem vS{op:BinOp}{t:TypeId}{x y:Operand}{a b:Value}(h:(∀u,a≠.agg u)∧(a≠.nilIface∨b≠.nilIface))(w:World):(eqGuard op t x y a b).run P w=.ok () w:=by
 obtain⟨h1,h2⟩:=h
 cases op <;> first
  |rfl
  |(cases a <;> first
    |rfl
    |exact absurd rfl (h1 _)
    |(cases b <;> first
      |rfl
      |exact absurd rfl (h2.resolve_left (by simp))))
theorem Pg{op:BinOp}{t:TypeId}{x:Operand}{v:Value}{a b:Value}(w:World)(h:∀u,a≠.agg u):(eqGuard op t x (.const v) a b).run P w=.ok () w:=by
 by_cases hn:a=.nilIface∧b=.nilIface
 ·obtain⟨rfl,rfl⟩:=hn
  cases op <;> first | rfl | simp[eqGuard]
 ·exact vS ⟨h,by by_cases ha:a=.nilIface;exact .inr fun hb=>hn ⟨ha,hb⟩;exact .inl ha⟩ w
theorem rK{η:Operand→Value}{o:Oper}{op:BinOp}{t yt:TypeId}{x y:Operand}{w:World}{u:Value}(ho:o.op=.binOp op t x y yt)(hg:(eqGuard op t x y (η x) (η y)).run P w=.ok () w)(h:(binOp op t (η x) (η y)).run P w=.ok u w):
  (execOp η o).run P w=.ok (.value u) w:=by
 simp[execOp,ho,hg,h]
theorem qJ{t:TypeId}(a b:Value)(w:World):
  (Op.equal t a b).run P w=(Op.equalIn (9999+1) t a b).run P w:=rfl
theorem Pe(ok:dz P TT){t:TypeId}{i:TI}(ht:TT t=some i){x y:AV}{want:Bool}{K:AV→Prop}(h:Ah i.k want x y K):
  ∃r:Bool,K (.bool (r == want))∧∀(F:Nat→Prop) (w:World) (a b:Value),aA F w x a→aA F w y b→(∀u,a≠.agg u)∧(∀w',(Op.equal t a b).run P w'=.ok r w')∧
   binOp .eql t a b=(do pure (.bool (← Op.equal t a b)))∧binOp .neq t a b=(do pure (.bool (!(← Op.equal t a b)))):=by
 obtain⟨j,d,z,hj,hd,_,_,hf,_,_⟩:=dp ok ht
 unfold Ah at h
 split at h
 ·rename_i e hk
  rw[hk]at hf;have:=F8 hf;subst this
  refine⟨true,by simpa using h,fun F w a b ha hb=>?_⟩
  cases ha;cases hb
  exact⟨by simp,fun w'=>by rw[qJ,Op.equalIn,Sem.run_bind,run_underlying hd];rfl,rfl,rfl⟩
 ·rename_i e b' o' hk
  rw[hk]at hf;have:=F8 hf;subst this
  refine⟨false,by simpa using h,fun F w a b ha hb=>?_⟩
  cases ha;cases hb
  exact⟨by simp,fun w'=>by rw[qJ,Op.equalIn,Sem.run_bind,run_underlying hd];rfl,rfl,rfl⟩
 ·rename_i e cs hk
  rw[hk]at hf;have:=F8 hf;subst this
  refine⟨false,by simpa using h,fun F w a b ha hb=>?_⟩
  obtain⟨_,_,rfl,_⟩:=ha.yb
  cases hb
  exact⟨by simp,fun w'=>by rw[qJ,Op.equalIn,Sem.run_bind,run_underlying hd];rfl,rfl,rfl⟩
 ·rename_i e hk
  rw[hk]at hf;have:=jT hf;subst this
  refine⟨true,by simpa using h,fun F w a b ha hb=>?_⟩
  cases ha;cases hb
  exact⟨by simp,fun w'=>by rw[qJ,Op.equalIn,Sem.run_bind,run_underlying hd];rfl,rfl,rfl⟩
 ·rename_i e _ _ _ _ hk
  rw[hk]at hf;have:=jT hf;subst this
  refine⟨false,by simpa using h,fun F w a b ha hb=>?_⟩
  obtain⟨_,_,rfl,_⟩:=ha.lu
  cases hb
  exact⟨by simp,fun w'=>by rw[qJ,Op.equalIn,Sem.run_bind,run_underlying hd];rfl,rfl,rfl⟩
 ·rename_i e hk
  rw[hk]at hf;have:=jT hf;subst this
  refine⟨false,by simpa using h,fun F w a b ha hb=>?_⟩
  cases ha;cases hb
  exact⟨by simp,fun w'=>by rw[qJ,Op.equalIn,Sem.run_bind,run_underlying hd];rfl,rfl,rfl⟩
 ·rename_i e s l hk
  rw[hk]at hf;have:=jT hf;subst this
  refine⟨false,by simpa using h.go,fun F w a b ha hb=>?_⟩
  obtain⟨_,c,rfl,_,_,h4⟩:=ha.DD
  obtain⟨b',o,rfl,_⟩:=h4 (List.ne_nil_of_length_pos h.fact)
  cases hb
  exact⟨by simp,fun w'=>by rw[qJ,Op.equalIn,Sem.run_bind,run_underlying hd];rfl,rfl,rfl⟩
 ·rename_i hk
  rw[hk]at hf;obtain⟨m,rfl⟩:=PX hf
  refine⟨true,by simpa using h,fun F w a b ha hb=>?_⟩
  cases ha;cases hb
  exact⟨by simp,fun w'=>by rw[qJ,Op.equalIn,Sem.run_bind,run_underlying hd];rfl,rfl,rfl⟩
 ·rename_i _ _ hk
  rw[hk]at hf;obtain⟨m,rfl⟩:=PX hf
  refine⟨false,by simpa using h,fun F w a b ha hb=>?_⟩
  cases ha;cases hb
  exact⟨by simp,fun w'=>by rw[qJ,Op.equalIn,Sem.run_bind,run_underlying hd];rfl,rfl,rfl⟩
 ·rename_i hk
  rw[hk]at hf;obtain⟨_,_,_,rfl⟩:=QV hf
  refine⟨true,by simpa using h,fun F w a b ha hb=>?_⟩
  cases ha;cases hb
  exact⟨by simp,fun w'=>by rw[qJ,Op.equalIn,Sem.run_bind,run_underlying hd];rfl,rfl,rfl⟩
 ·rename_i _ _ _ hk
  rw[hk]at hf;obtain⟨_,_,_,rfl⟩:=QV hf
  refine⟨false,by simpa using h,fun F w a b ha hb=>?_⟩
  cases ha;cases hb
  exact⟨by simp,fun w'=>by rw[qJ,Op.equalIn,Sem.run_bind,run_underlying hd];rfl,rfl,rfl⟩
 ·exact h.elim
theorem Zg(ok:dz P TT){op:BinOp}{t yt:TypeId}{x y:Operand}{ρ:Operand→AV}{K:AV→Prop}(h:DH TT op t y (ρ x) (ρ y) K):∃v,K v∧eW P (.binOp op t x y yt) ρ v:=by
 unfold DH at h
 split at h
 ·rename_i k a k' b hx hy
  have fin:(∃v u,K v∧(∀F w,aA F w v u)∧∀(t:TypeId) (w:World),(binOp op t (.int k a) (.int k' b)).run P w=.ok u w)→∃v,K v∧eW P (.binOp op t x y yt) ρ v:=by
   rintro⟨v,u,hk,hu,hr⟩
   refine⟨v,hk,mR hu fun η F w o ho aN=>?_⟩
   have h1:=aN x (by simp[Op.operands])
   have h2:=aN y (by simp[Op.operands])
   rw[hx]at h1;rw[hy]at h2
   have e1:=h1.gA;have e2:=h2.gA
   intro w
   refine rK ho ?_ ?_
   ·rw[e1,e2];exact vS ⟨by simp,.inl (by simp)⟩ w
   ·rw[e1,e2];exact hr t w
  split at h
  ·exact fin (OZ h)
  ·exact fin (OZ h)
  ·rename_i rq oF
   split at h
   ·rename_i hk
    have:=fm hk
    subst this
    exact fin (XE ⟨rq,oF⟩ h)
   ·exact h.elim
 ·rename_i a b hx hy
  split at h
  ·rename_i s b' z' ht
   obtain⟨j,d,z,hj,hd,_,_,hf,_,_⟩:=dp ok ht
   have:=fits_bool hf;subst this
   have he:∀w,(Op.equal t (.bool a) (.bool b)).run P w=.ok (a == b) w:=fun w=>by rw[qJ,Op.equalIn,Sem.run_bind,run_underlying hd];rfl
   split at h
   ·refine⟨_,qO h,mR (fun _ _=>.bool _) fun η F w o ho aN=>?_⟩
    have h1:=aN x (by simp[Op.operands])
    have h2:=aN y (by simp[Op.operands])
    rw[hx]at h1;rw[hy]at h2
    have e1:=h1.qV;have e2:=h2.qV
    intro w
    refine rK ho ?_ ?_
    ·rw[e1,e2];exact vS ⟨by simp,.inl (by simp)⟩ w
    ·rw[e1,e2];simp[binOp,he]
   ·refine⟨_,qO h,mR (fun _ _=>.bool _) fun η F w o ho aN=>?_⟩
    have h1:=aN x (by simp[Op.operands])
    have h2:=aN y (by simp[Op.operands])
    rw[hx]at h1;rw[hy]at h2
    have e1:=h1.qV;have e2:=h2.qV
    intro w
    refine rK ho ?_ ?_
    ·rw[e1,e2];exact vS ⟨by simp,.inl (by simp)⟩ w
    ·rw[e1,e2];simp[binOp,he]
   ·exact h.elim
  ·exact h.elim
 ·rename_i a b hx hy
  have fin:∀r:Bool,K (.bool r)→(∀w,(binOp op t (.string a) (.string b)).run P w=.ok (.bool r) w)→∃v,K v∧eW P (.binOp op t x y yt) ρ v:=by
   intro r hk hr
   refine⟨_,hk,mR (fun _ _=>.bool _) fun η F w o ho aN=>?_⟩
   have h1:=aN x (by simp[Op.operands])
   have h2:=aN y (by simp[Op.operands])
   rw[hx]at h1;rw[hy]at h2
   have e1:=h1.Dg;have e2:=h2.Dg
   intro w
   refine rK ho ?_ ?_
   ·rw[e1,e2];exact vS ⟨by simp,.inl (by simp)⟩ w
   ·rw[e1,e2];exact hr w
  split at h
  ·exact fin _ (qO h) fun w=>rfl
  ·exact fin _ (qO h) fun w=>rfl
  ·exact h.elim
 ·split at h
  ·rename_i i hc ht
   obtain⟨cv,rfl⟩:∃cv,y=.const cv:=by cases y <;> first | exact⟨_,rfl⟩ | cases hc
   split at h
   ·obtain⟨r,hk,hr⟩:=Pe ok ht h
    refine⟨_,hk,mR (fun _ _=>.bool _) fun η F w o ho aN=>?_⟩
    obtain⟨g1,g2,g3,g4⟩:=hr F w _ _ (aN x (by simp[Op.operands])) (aN (.const cv) (by simp[Op.operands]))
    exact fun w=>rK ho (Pg w g1) (by rw[g3];simp[g2])
   ·obtain⟨r,hk,hr⟩:=Pe ok ht h
    refine⟨_,hk,mR (fun _ _=>.bool _) fun η F w o ho aN=>?_⟩
    obtain⟨g1,g2,g3,g4⟩:=hr F w _ _ (aN x (by simp[Op.operands])) (aN (.const cv) (by simp[Op.operands]))
    exact fun w=>rK ho (Pg w g1) (by rw[g4];simp[g2])
   ·exact h.elim
  ·exact h.elim
end
section
variable {P:Program} {TT:TypeId→Option TI}
theorem JP{F:Nat→Prop}{w:World}{x:AV}{v:Value}{cs:List AV}(h:aA F w x v)(hc:x.cells?=some cs):
  v.cells.size=cs.length∧∀(i:Nat) (y:AV),cs[i]?=some y→y.leaf=true∧aA F w y (v.cells.getD i undef):=by
 have one:∀(hl:x.leaf=true),some [x]=some cs→v.cells.size=cs.length∧∀(i:Nat) (y:AV),cs[i]?=some y→y.leaf=true∧aA F w y (v.cells.getD i undef):=by
  intro hl e
  have e:=Option.some.inj e
  subst e
  have h1:=h.one hl
  have hv:v.cells = #[v]:=by cases v <;> first | rfl | cases h1
  rw[hv]
  exact⟨rfl,fun i y hi=>by cases i <;> simp at hi;subst hi;exact⟨hl,h⟩⟩
 cases x with
 |agg cs'=>
  obtain rfl:=Option.some.inj hc
  obtain⟨vs,rfl,h1,h2⟩:=h.uX
  exact⟨h1.symm,h2⟩
 |tup=>cases hc
 |any=>cases hc
 |n0=>cases hc
 |rZ=>cases hc
 |mr=>cases hc
 |_=>exact one rfl hc
def pA(F:Nat→Prop)(w:World)(cs:List AV)(vs:Array Value):Prop:=cs.length=vs.size∧∀(i:Nat) (x:AV),cs[i]?=some x→x.leaf=true∧aA F w x (vs.getD i undef)
theorem pA.set{F:Nat→Prop}{w:World}{cs:List AV}{vs:Array Value}(h:pA F w cs vs)(k:Nat){x:AV}{v:Value}(hl:x.leaf=true)(hx:aA F w x v):pA F w (cs.set k x) (vs.setIfInBounds k v):=by
 refine⟨by simp[h.1],fun i y hi=>?_⟩
 rw[eR]at hi
 by_cases hk:k=i
 ·subst hk
  by_cases ab:k<cs.length
  ·simp[ab]at hi
   subst hi
   have:k<vs.size:=by rw[← h.1];exact ab
   exact⟨hl,by simpa [Array.getD,this]using hx⟩
  ·simp[ab]at hi
 ·simp[hk]at hi
  obtain⟨h1,h2⟩:=h.2 i y hi
  refine⟨h1,?_⟩
  have ab:i<vs.size:=by rw[← h.1];exact (cf.1 hi).1
  simpa [Array.getD,ab,Array.getElem_setIfInBounds,hk]using h2
theorem PB{F:Nat→Prop}{w:World}:∀(xs:List AV) (us:List Value) (cs:List AV) (vs:Array Value) (k n:Nat),xs.length=us.length→
  (∀(i:Nat) (x:AV),xs[i]?=some x→x.leaf=true∧aA F w x (us.getD i undef))→pA F w cs vs→pA F w (fS cs (k+n) xs) ((us.zipIdx n).foldl (fun c p=>c.setIfInBounds (k+p.2) p.1) vs)
 | [],[],cs,vs,k,n,_,_,h=>h
 |x::xs,u::us,cs,vs,k,n,hl,hx,h=>by
  have h0:=hx 0 x rfl
  simp only[fS,List.zipIdx_cons,IV]
  exact PB xs us _ _ k (n+1) (by simpa using hl) (fun i y hi=>by simpa using hx (i+1) y (by simpa using hi)) (h.set _ h0.1 (by simpa using h0.2))
 | [],_::_,_,_,_,_,hl,_,_=>by simp at hl
 |_::_,[],_,_,_,_,hl,_,_=>by simp at hl
theorem zp:∀(xs cs:List AV) (k:Nat),(fS cs k xs).length=cs.length
 | [],cs,k=>rfl
 |x::xs,cs,k=>by simp[fS,zp xs]
theorem F9{F:Nat→Prop}{w:World}{pl:List (Nat×Nat)}{place:Nat→Option (Nat×Nat)}(hp:∀(i:Nat) (p:Nat×Nat),pl[i]?=some p→place i=some p):
  ∀(parts:List (Nat×AV)) (us:List (Nat×Value)) (cs:List AV) (vs:Array Value) (out:List AV),parts.length=us.length→
   (∀(i:Nat) (p:Nat×AV) (u:Nat×Value),parts[i]?=some p→us[i]?=some u→p.1=u.1∧aA F w p.2 u.2)→pA F w cs vs→rW pl cs parts=some out→∃ep,Instr.fill place vs us=some ep∧pA F w out ep
 | [],[],cs,vs,out,_,_,h,e=>⟨vs,rfl,by simp[rW]at e;subst e;exact h⟩
 |p::parts,u::us,cs,vs,out,hl,hx,h,e=>by
  obtain⟨i,x⟩:=p
  obtain⟨i',v⟩:=u
  obtain⟨rfl,hv⟩:=hx 0 _ _ rfl rfl
  simp only[rW]at e
  split at e
  ·rename_i off size xs h1 h2
   split at e
   ·rename_i e1 e2
    have e1:=jx e1
    have e2:=cH e2
    obtain⟨c1,c2⟩:=JP hv h2
    have hs:=PB xs v.cells.toList cs vs off 0 (by simp[c1]) (fun i y hi=>by
     have:=c2 i y hi
     have ab:i<v.cells.size:=by rw[c1];exact (cf.1 hi).1
     simpa [Array.getD,List.getD,ab]using this) h
    obtain⟨ep,f1,f2⟩:=F9 hp parts us _ _ out (by simpa using hl) (fun i p u hi hu=>hx (i+1) p u (by simpa using hi) (by simpa using hu)) hs e
    refine⟨ep,?_,f2⟩
    simp only[Instr.fill,hp _ _ h1]
    rw[if_neg (by simp[c1,e1];rw[← h.1];omega)]
    rw[← f1]
    congr 1
    rw[← Array.foldl_toList]
    simp
   ·cases e
  ·cases e
 | [],_::_,_,_,_,hl,_,_,_=>by simp at hl
 |_::_,[],_,_,_,hl,_,_,_=>by simp at hl
theorem O1(ok:dz P TT):∀(fs:List Field) (ps:List (Nat×Nat)),Co TT (fs.map fun f=>(f.offset,f.type))=some ps→fs.mapM (fun f=>(P.info? f.type).map fun i=>(f.offset,i.size))=some ps
 | [],ps,h=>by simp[Co]at h;subst h;rfl
 |f::fs,ps,h=>by
  simp only[oL,Co]at h
  split at h
  ·rename_i i ps' h1 h2
   obtain⟨j,_,_,hj,_,hs,_⟩:=dp ok h1
   have:=O1 ok fs ps' h2
   simp at h
   subst h
   simp[List.mapM_cons,hj,this,hs]
  ·cases h
theorem v8{F:Nat→Prop}{w:World}{xs:List AV}{z:Value}(h:pT xs z.cells.toList=true):pA F w xs z.cells:=by
 obtain⟨h1,h2⟩:=Qd (F:=F) (w:=w) h
 refine⟨by simpa using h1,fun i x hx=>?_⟩
 obtain⟨h3,h4⟩:=h2 i x hx
 refine⟨h4,?_⟩
 have ab:i<z.cells.size:=by have:=(List.getElem?_eq_some_iff.1 hx).1;simp at h1;omega
 simpa [Array.getD,List.getD,ab]using h3
theorem pA.VE{F:Nat→Prop}{w:World}{cs:List AV}{vs:Array Value}(h:pA F w cs vs):aA F w (.agg cs) (.agg vs):=.agg _ _ h.1 (fun i x hx=>(h.2 i x hx).1) (fun i x hx=>(h.2 i x hx).2)
theorem Qy{F:Nat→Prop}{w:World}{parts:Array (Nat×Operand)}{ρ:Operand→AV}{η:Operand→Value}(hx:∀x∈(parts.toList.map (·.2)),aA F w (ρ x) (η x)):
  (parts.toList.map fun p=>(p.1,ρ p.2)).length=(parts.map fun (i,x)=>(i,η x)).toList.length∧∀(i:Nat) (p:Nat×AV) (u:Nat×Value),(parts.toList.map fun p=>(p.1,ρ p.2))[i]?=some p→(parts.map fun (i,x)=>(i,η x)).toList[i]?=some u→p.1=u.1∧aA F w p.2 u.2:=by
 refine⟨by simp,fun i p u hp hu=>?_⟩
 simp only[Array.toList_map,fo,xE]at hp hu
 obtain⟨a,h1,rfl⟩:=hp
 obtain⟨a',h2,rfl⟩:=hu
 rw[h1]at h2
 cases h2
 exact⟨rfl,hx a.2 (dX.2 ⟨a,cq h1,rfl⟩)⟩
theorem W4(ok:dz P TT){t:TypeId}{parts:Array (Nat×Operand)}{ρ:Operand→AV}{v:AV}(h:G1 TT t (parts.toList.map fun p=>(p.1,ρ p.2))=some v):eW P (.build t parts) ρ v:=by
 intro η F w o ho hx
 obtain⟨hl,hr⟩:=Qy (parts:=parts) (ρ:=ρ) (η:=η) (F:=F) (w:=w) (by simpa [Op.operands]using hx)
 have fin:∀{cells:Array Value} {cs:List AV},P.built t (parts.map fun (i,x)=>(i,η x)).toList=some cells→pA F w cs cells→∃v',(∀w',(execOp η o).run P w'=.ok (.value v') w')∧aA F w (.agg cs) v':=
  fun hb hc=>⟨_,fun w'=>by simp only[execOp,ho,Sem.run_bind,run_build w' t _ _ hb];rfl,hc.VE⟩
 unfold G1 at h
 split at h
 ·rename_i fs sz qE z0 ht
  obtain⟨j,d,z,hj,hd,hs,hb,hf,hz,hY⟩:=dp ok ht
  obtain⟨fields,rfl,y8⟩:=JN hf
  split at h
  ·rename_i ps xj
   rw[← y8]at xj
   have hm:=O1 ok _ _ xj
   obtain⟨out,e1,rfl⟩:=xE.1 h
   obtain⟨ep,f1,f2⟩:=F9 (place:=(ps.toArray[·]?)) (fun i p hi=>by simpa using hi) _ _ _ _ _ hl hr (v8 (F:=F) (w:=w) hY) e1
   exact fin (by simp only[Program.built,hj,hd,hz,hm];exact f1) f2
  ·cases h
 ·rename_i n e sz qE z0 ht
  obtain⟨j,d,z,hj,hd,hs,hb,hf,hz,hY⟩:=dp ok ht
  obtain rfl:=R7 hf
  split at h
  ·rename_i i hi
   obtain⟨j',d',z',k8,kd,dE,_⟩:=dp ok hi
   obtain⟨out,e1,rfl⟩:=xE.1 h
   obtain⟨ep,f1,f2⟩:=F9 (place:=fun k=>some (k*j'.size,j'.size)) (fun k p hk=>by
    obtain⟨a,ha,rfl⟩:=cf.1 hk
    simp[dE]) _ _ _ _ _ hl hr (v8 (F:=F) (w:=w) hY) e1
   exact fin (by simp only[Program.built,hj,hd,hz,k8];exact f1) f2
  ·cases h
 ·cases h
end
section
variable {P:Program} {TT:TypeId→Option TI}
theorem ZL{op:UnOp}{t:TypeId}{x:Operand}{ρ:Operand→AV}{K:AV→Prop}(h:DO op (ρ x) K):∃v,K v∧eW P (.unOp op t x) ρ v:=by
 unfold DO at h
 split at h
 ·rename_i b hx
  refine⟨_,h,mR (fun _ _=>.bool _) fun η F w o ho aN=>?_⟩
  have h1:=aN x (by simp[Op.operands]);rw[hx]at h1
  simp[execOp,ho,h1.qV,Op.unary]
 ·rename_i k n hx
  refine⟨_,h,mR (fun _ _=>.int _ _) fun η F w o ho aN=>?_⟩
  have h1:=aN x (by simp[Op.operands]);rw[hx]at h1
  simp[execOp,ho,h1.gA,Op.unary,Op.intArith]
 ·rename_i k n hx
  refine⟨_,h,mR (fun _ _=>.int _ _) fun η F w o ho aN=>?_⟩
  have h1:=aN x (by simp[Op.operands]);rw[hx]at h1
  rw[show execOp η o=(do pure (.value (← Op.intBits .xor k (if k.signed then -1 else k.max) n))) by simp[execOp,ho,h1.gA,Op.unary]]
  exact fun _=>rfl
 ·rename_i n hx
  refine⟨_,h,fun η F w o ho aN=>?_⟩
  have h1:=aN x (by simp[Op.operands]);rw[hx]at h1
  obtain⟨b,e,hb⟩:=h1.HN
  exact⟨.float .f64 (Op.negFloat .f64 b),fun w'=>by simp[execOp,ho,e,Op.unary],.gd _ _ (aco hb)⟩
 ·exact h.elim
theorem XU(ok:dz P TT){s d:TypeId}{x:Operand}{ρ:Operand→AV}{K:AV→Prop}(h:C9 TT s d (ρ x) K):∃v,K v∧eW P (.convert s d x) ρ v:=by
 unfold C9 at h
 split at h
 ·rename_i i k sz qE z0 k' n hs hd hx
  obtain⟨_,ds,_,_,Eh,_⟩:=dp ok hs
  obtain⟨_,dd,_,_,vD,_,_,hf,_,_⟩:=dp ok hd
  obtain rfl:=fits_int hf
  refine⟨_,h,mR (fun _ _=>.int _ _) fun η F w o ho aN=>?_⟩
  have h1:=aN x (by simp[Op.operands]);rw[hx]at h1
  simp[execOp,ho,h1.gA,convert,run_underlying Eh,run_underlying vD,Conv.intToInt]
 ·rename_i i sz qE z0 k' n hs hd hx
  obtain⟨_,ds,_,_,Eh,_⟩:=dp ok hs
  obtain⟨_,dd,_,_,vD,_,_,hf,_,_⟩:=dp ok hd
  obtain rfl:=aaA hf
  refine⟨_,h.go,fun η F w o ho aN=>?_⟩
  have h1:=aN x (by simp[Op.operands]);rw[hx]at h1
  refine⟨.float .f64 (FloatKind.nearest .f64 n),fun w'=>?_,.gd _ _ (adO h.fact)⟩
  have hr:=run_convert_int_float (P:=P) w' s d k' .f64 n (by rw[Eh];rfl) vD
  simp only[execOp,ho,h1.gA,Sem.run_bind,hr]
  rfl
 ·rename_i i k sz qE z0 n hs hd hx
  obtain⟨_,ds,_,_,Eh,_⟩:=dp ok hs
  obtain⟨_,dd,_,_,vD,_,_,hf,_,_⟩:=dp ok hd
  obtain rfl:=fits_int hf
  refine⟨_,h.go,fun η F w o ho aN=>?_⟩
  have h1:=aN x (by simp[Op.operands]);rw[hx]at h1
  obtain⟨b,e,hb⟩:=h1.HN
  refine⟨.int k n,fun w'=>?_,.int _ _⟩
  have hr:=run_convert_float_int (P:=P) w' s d .f64 k b n (by rw[Eh];rfl) vD (acp hb k h.fact)
  simp only[execOp,ho,e,Sem.run_bind,hr]
  rfl
 ·exact h.elim
theorem WQ(ok:dz P TT){t:TypeId}{x:Operand}{ρ:Operand→AV}{i:TI}(ht:TT t=some i)(hn:i.k≠.iface):eW P (.makeInterface t x) ρ (.iface t (ρ x)):=by
 intro η F w o ho hx
 obtain⟨_,d,_,_,hd,_,_,hf,_,_⟩:=dp ok ht
 refine⟨_,?_,.iface _ _ _ (hx x (by simp[Op.operands]))⟩
 have:∀m,d≠.interface m:=by rintro m rfl;cases hk:i.k <;> rw[hk]at hf <;> simp_all [TK.fits]
 cases d <;> first | exact absurd rfl (this _) | simp[execOp,ho,Instr.makeInterface,run_underlying hd]
theorem VW{f:Fn}{first cap:Array Operand}{ρ:Operand→AV}:eW P (.makeFunc f first cap) ρ (.fn f (first.toList.map ρ) (cap.toList.map ρ)):=by
 intro η F w o ho hx
 have key:∀(xs:Array Operand),(∀x∈xs.toList,aA F w (ρ x) (η x))→∀(i:Nat) (x:AV),(xs.toList.map ρ)[i]?=some x→aA F w x ((xs.map η).getD i undef):=by
  intro xs h i x hi
  simp only[fo,xE]at hi
  obtain⟨a,h1,rfl⟩:=hi
  have ab:i<xs.size:=by have:=(List.getElem?_eq_some_iff.1 h1).1;simpa using this
  have:xs[i]=a:=by simpa [ab]using h1
  simpa [Array.getD,ab,this]using h a (List.mem_of_getElem? h1)
 exact⟨.func f (first.map η) (cap.map η),by simp[execOp,ho,Instr.makeFunc],.fn _ _ _ _ _ (by simp) (by simp) (key first fun x jL=>hx x (by simp only[Op.operands,Array.toList_append,List.mem_append];exact .inl jL)) (key cap fun x jL=>hx x (by simp only[Op.operands,Array.toList_append,List.mem_append];exact .inr jL))⟩
theorem oW(b o n:Nat):(⟨b,o,none⟩:Addr).add n=⟨b,o+n,none⟩:=Addr.add_mid b o n
theorem VU(ok:dz P TT){s:TypeId}{x:Operand}{f:Nat}{ρ:Operand→AV}{K:AV→Prop}(h:BI TT s (ρ x) f K):∃v,K v∧eW P (.fieldAddr s x f) ρ v:=by
 unfold BI at h
 split at h
 ·rename_i fs sz qE z0 ht
  obtain⟨_,d,_,_,hd,_,_,hf,_,_⟩:=dp ok ht
  obtain⟨fields,rfl,y8⟩:=JN hf
  split at h
  ·rename_i off t jN
   split at h
   ·rename_i i hi
    obtain⟨j',d',z',k8,kd,dE,_⟩:=dp ok hi
    rw[← y8,fo,xE]at jN
    obtain⟨fd,NA,e⟩:=jN
    cases e
    have HJ:fields[f]?=some fd:=by simpa using NA
    split at h
    ·rename_i b o' hb hx
     have hb:=cH hb
     have hz:¬j'.size=0:=by omega
     refine⟨_,h,Hc rfl fun η F w o ho aN=>?_⟩
     have h1:=aN x (by simp[Op.operands]);rw[hx]at h1
     exact⟨h1.zF,fun _=>by simp[execOp,ho,h1.yE,Instr.fieldAt,run_underlying hd,HJ,Instr.sureAddr,fieldPlace,run_sizeOf k8,hz,oW]⟩
    ·rename_i cs hb hx
     have hb:=cH hb
     have hz:¬j'.size=0:=by omega
     refine⟨_,h,fun η F w o ho aN=>?_⟩
     have h1:=aN x (by simp[Op.operands]);rw[hx]at h1
     obtain⟨b,o',e,hF,dR⟩:=h1.yb
     exact⟨_,by simp[execOp,ho,e,Instr.fieldAt,run_underlying hd,HJ,Instr.sureAddr,fieldPlace,run_sizeOf k8,hz,oW],(dR.drop _).fO hF⟩
    ·exact h.elim
   ·exact h.elim
  ·exact h.elim
 ·exact h.elim
theorem BE(ok:dz P TT){t:TypeId}{i:TI}(ht:TT t=some i){F:Nat→Prop}{w:World}{cs:List AV}{vs:Array Value}(h:pA F w cs vs){k:Nat}{v:AV}(hv:eu i cs k=some v):
  ∃v',(∀w',(part t vs k).run P w'=.ok v' w')∧aA F w v v':=by
 obtain⟨j,d,z,hj,hd,hs,hb,hf,hz,hY⟩:=dp ok ht
 have hw:=QU hf
 obtain⟨hl,hr⟩:=h
 unfold eu at hv
 split at hv
 ·rename_i yv
  split at hv
  ·rename_i hle
   have hle:=cH hle
   simp only[Option.some.injEq]at hv
   subst hv
   refine⟨.agg (vs.extract k (k+j.size)),fun _=>by unfold part;simp[Sem.run_bind,JZ hd,hw,yv,run_sizeOf hj],pA.VE ⟨by simp;omega,fun m x hx=>?_⟩⟩
   rw[qC]at hx
   split at hx
   ·rename_i hm
    rw[zj]at hx
    obtain⟨h1,h2⟩:=hr _ x hx
    have ab:k+m<vs.size:=by rw[← hl];exact (cf.1 hx).1
    have dN:m<min (k+j.size) vs.size-k:=by omega
    refine⟨h1,?_⟩
    simpa [Array.getD,ab,dN]using h2
   ·cases hx
  ·cases hv
 ·rename_i yv
  obtain⟨h1,h2⟩:=hr k v hv
  have ab:k<vs.size:=by rw[← hl];exact (cf.1 hv).1
  refine⟨vs.getD k undef,fun w'=>?_,h2⟩
  unfold part
  rw[Sem.run_bind,JZ hd]
  simp[hw,yv,ab,Array.getD]
theorem QY(ok:dz P TT)(D:Nat):∀(d:Nat) (t:TypeId) (x y:AV) (l:List Bool),zm P TT d t x y=some l→∀(F:Nat→Prop) (w:World) (a b:Value),aA F w x a→aA F w y b→∀w',(Op.equalIn (D+d) t a b).run P w'=.ok (gq l) w':=by
 intro d
 induction d with
 |zero=>intro t x y l h;cases h
 |succ d ih=>
  intro t x y l h F w a b ha hb w'
  unfold zm at h
  split at h
  ·rename_i p q hu
   cases h
   rw[ha.qV,hb.qV]
   rw[show D+(d+1)=(D+d)+1 from rfl,run_equalIn_bool' w' (D+d) t p q hu]
   simp[gq]
  ·rename_i k0 k p k' q hu
   split at h
   ·rename_i hk
    have:=fm hk
    subst this
    cases h
    rw[ha.gA,hb.gA]
    rw[show D+(d+1)=(D+d)+1 from rfl,run_equalIn_int w' (D+d) t k k0 p q hu]
    simp[gq]
    exact gt6 _ _
   ·cases h
  ·rename_i p q hu
   cases h
   rw[ha.Dg,hb.Dg]
   rw[show D+(d+1)=(D+d)+1 from rfl,run_equalIn_string w' (D+d) t p q hu]
   simp[gq]
  ·rename_i fs xs ys hu
   split at h
   ·cases h
   ·rename_i aq
    obtain⟨vs,rfl,bU⟩:=ha.uX
    obtain⟨us,rfl,gv⟩:=hb.uX
    have hf:P.fieldsOf t=fs:=by simp[Program.fieldsOf,hu]
    rw[show D+(d+1)=(D+d)+1 from rfl,run_equalIn_agg w' (D+d) t vs us (by rw[hf];exact hu) aq,hf]
    have key:∀(gs:List Field) (l:List Bool),HP TT (zm P TT d) xs ys gs=some l→(Op.eqFields (D+d) vs us gs).run P w'=.ok (gq l) w':=by
     intro gs
     induction gs with
     |nil=>intro l h;cases h;simp[Op.eqFields,gq]
     |cons f gs ihg=>
      intro l h
      unfold HP at h
      split at h
      ·rename_i i hn hi
       split at h
       ·rename_i p q hp hq
        split at h
        ·rename_i l1 l2 h1 h2
         cases h
         obtain⟨p',e1,r1⟩:=BE ok hi ⟨bU.1,bU.2⟩ hp
         obtain⟨q',e2,r2⟩:=BE ok hi ⟨gv.1,gv.2⟩ hq
         have e3:=ih f.type p q l1 h1 F w p' q' r1 r2 w'
         have hn' : f.name ≠ "_" := by intro e; rw [e] at hn; cases hn
         simp only[Op.eqFields,hn',ne_eq,not_false_eq_true,if_true,Sem.run_bind,e1,e2,e3,Result.andThen_ok]
         cases mb:gq l1
         ·simp only[Bool.not_false,if_true,Sem.run_pure]
          have:gq (l1++l2)=false:=by unfold gq at mb ⊢;rw[zf,mb];rfl
          rw[this]
         ·simp only[Ew,lN,if_false]
          rw[ihg l2 h2]
          have:gq (l1++l2)=gq l2:=by unfold gq at mb ⊢;rw[zf,mb];rfl
          rw[this]
        ·cases h
       ·cases h
      ·cases h
    exact key fs.toList l h
  ·rename_i n e xs ys hu
   obtain⟨vs,rfl,bU⟩:=ha.uX
   obtain⟨us,rfl,gv⟩:=hb.uX
   have key:∀(ks:List Nat) (l:List Bool),HO TT (zm P TT d) e (P.cellsOf e) xs ys ks=some l→(Op.eqItems (D+d) e (P.cellsOf e) vs us ks).run P w'=.ok (gq l) w':=by
    intro ks
    induction ks with
    |nil=>intro l h;cases h;simp[Op.eqItems,gq]
    |cons k ks ihk=>
     intro l h
     unfold HO at h
     split at h
     ·rename_i i hi
      split at h
      ·rename_i p q hp hq
       split at h
       ·rename_i l1 l2 h1 h2
        cases h
        obtain⟨p',e1,r1⟩:=BE ok hi ⟨bU.1,bU.2⟩ hp
        obtain⟨q',e2,r2⟩:=BE ok hi ⟨gv.1,gv.2⟩ hq
        have e3:=ih e p q l1 h1 F w p' q' r1 r2 w'
        simp only[Op.eqItems,Sem.run_bind,e1,e2,e3,Result.andThen_ok]
        cases mb:gq l1
        ·simp only[Bool.not_false,if_true,Sem.run_pure]
         have:gq (l1++l2)=false:=by unfold gq at mb ⊢;rw[zf,mb];rfl
         rw[this]
        ·simp only[Ew,lN,if_false]
         rw[ihk l2 h2]
         have:gq (l1++l2)=gq l2:=by unfold gq at mb ⊢;rw[zf,mb];rfl
         rw[this]
       ·cases h
      ·cases h
     ·cases h
   split at h
   ·rename_i i hi
    obtain⟨j,_,_,hj,_⟩:=dp ok hi
    rw[show D+(d+1)=(D+d)+1 from rfl,run_equalIn_array w' (D+d) vs us hu hj]
    exact key _ l h
   ·cases h
  ·cases h
theorem Y3{op:BinOp}{t yt:TypeId}{x y:Operand}{ρ:Operand→AV}{K:AV→Prop}{a b c d:Int}(hx:ρ x=.fL a b)(hy:ρ y=.fL c d)(h:MP op a b c d K):∃v,K v∧eW P (.binOp op t x y yt) ρ v:=by
 have both:∀{η:Operand→Value} {F:Nat→Prop} {w:World},(∀z∈(Op.binOp op t x y yt).operands.toList,aA F w (ρ z) (η z))→∃a' b' c' d',η x=.complex .f64 a' b'∧η y=.complex .f64 c' d'∧jc a' a∧jc b' b∧jc c' c∧jc d' d:=fun {η F w} aN=>by
  have h1:=aN x (by simp[Op.operands])
  have h2:=aN y (by simp[Op.operands])
  rw[hx]at h1;rw[hy]at h2
  obtain⟨a',b',e1,h3,h4⟩:=h1.HS
  obtain⟨c',d',e2,h5,h6⟩:=h2.HS
  exact⟨a',b',c',d',e1,e2,h3,h4,h5,h6⟩
 cases op <;> simp only[MP]at h
 case add=>
  refine⟨_,h.go,fun η F w o ho aN=>?_⟩
  obtain⟨a',b',c',d',e1,e2,h3,h4,h5,h6⟩:=both aN
  obtain⟨r,g1,g2⟩:=K9 h3 h5 h.fact.1
  obtain⟨q,g3,g4⟩:=K9 h4 h6 h.fact.2
  refine⟨.complex .f64 r q,fun w'=>rK ho (by rw[e1,e2];exact vS ⟨by simp,.inl (by simp)⟩ w') ?_,.fL _ _ _ _ g2 g4⟩
  rw[e1,e2]
  exact run_complex_sum w' .add (.inl rfl) t .f64 a' b' c' d' r q (by simp[cSumBits,g1,g3])
 case sub=>
  refine⟨_,h.go,fun η F w o ho aN=>?_⟩
  obtain⟨a',b',c',d',e1,e2,h3,h4,h5,h6⟩:=both aN
  obtain⟨r,g1,g2⟩:=K8 h3 h5 h.fact.1
  obtain⟨q,g3,g4⟩:=K8 h4 h6 h.fact.2
  refine⟨.complex .f64 r q,fun w'=>rK ho (by rw[e1,e2];exact vS ⟨by simp,.inl (by simp)⟩ w') ?_,.fL _ _ _ _ g2 g4⟩
  rw[e1,e2]
  exact run_complex_sum w' .sub (.inr rfl) t .f64 a' b' c' d' r q (by simp[cSumBits,g1,g3])
 case mul=>
  refine⟨_,h.go,fun η F w o ho aN=>?_⟩
  obtain⟨a',b',c',d',e1,e2,h3,h4,h5,h6⟩:=both aN
  obtain⟨⟨f1,f2,f3⟩,f4,f5,f6⟩:=h.fact
  obtain⟨r1,p1,q1⟩:=Gz h3 h5 f1
  obtain⟨r2,p2,q2⟩:=Gz h4 h6 f2
  obtain⟨r3,p3,q3⟩:=K8 q1 q2 f3
  obtain⟨r4,p4,q4⟩:=Gz h3 h6 f4
  obtain⟨r5,p5,q5⟩:=Gz h4 h5 f5
  obtain⟨r6,p6,q6⟩:=K9 q4 q5 f6
  refine⟨.complex .f64 r3 r6,fun w'=>rK ho (by rw[e1,e2];exact vS ⟨by simp,.inl (by simp)⟩ w') ?_,.fL _ _ _ _ q3 q6⟩
  rw[e1,e2]
  exact run_complex_mul w' t a' b' c' d' r3 r6 (by simp[cMulBits,p1,p2,p3,p4,p5,p6])
theorem XY(ok:dz P TT){op:BinOp}{t yt:TypeId}{x y:Operand}{ρ:Operand→AV}{K:AV→Prop}(h:DJ P TT op t y (ρ x) (ρ y) K):∃v,K v∧eW P (.binOp op t x y yt) ρ v:=by
 unfold DJ at h
 split at h
 ·rename_i xs ys hx hy
  have both:∀(η:Operand→Value) (F:Nat→Prop) (w:World),(∀z∈(Op.binOp op t x y yt).operands.toList,aA F w (ρ z) (η z))→∃vs us,η x=.agg vs∧η y=.agg us∧aA F w (.agg xs) (.agg vs)∧aA F w (.agg ys) (.agg us):=fun η F w aN=>by
   have h1:=aN x (by simp[Op.operands])
   have h2:=aN y (by simp[Op.operands])
   rw[hx]at h1;rw[hy]at h2
   obtain⟨vs,e1,_⟩:=h1.uX
   obtain⟨us,e2,_⟩:=h2.uX
   rw[e1]at h1;rw[e2]at h2
   exact⟨vs,us,e1,e2,h1,h2⟩
  split at h
  ·obtain⟨g1,g2,go⟩:=h
   refine⟨_,qO go,mR (fun _ _=>.bool _) fun η F w o ho aN=>?_⟩
   obtain⟨vs,us,e1,e2,r1,r2⟩:=both η F w aN
   intro w'
   refine rK ho ?_ ?_
   ·rw[e1,e2];exact run_eqGuard_agg w' _ t x y vs us g1
   ·rw[e1,e2,run_eql_struct,show (10000:Nat)=9992+8 from rfl,QY ok 9992 8 t _ _ _ g2 F w _ _ r1 r2 w'];rfl
  ·obtain⟨g1,g2,go⟩:=h
   refine⟨_,qO go,mR (fun _ _=>.bool _) fun η F w o ho aN=>?_⟩
   obtain⟨vs,us,e1,e2,r1,r2⟩:=both η F w aN
   intro w'
   refine rK ho ?_ ?_
   ·rw[e1,e2];exact run_eqGuard_agg w' _ t x y vs us g1
   ·rw[e1,e2,run_neq_struct,show (10000:Nat)=9992+8 from rfl,QY ok 9992 8 t _ _ _ g2 F w _ _ r1 r2 w'];rfl
  ·exact h.elim
 ·rename_i a b c d hx hy
  exact Y3 hx hy h
 ·exact Zg ok h
theorem WT(ok:dz P TT){s:TypeId}{x:Operand}{f:Nat}{ρ:Operand→AV}{K:AV→Prop}(h:CL TT s (ρ x) f K):∃v,K v∧eW P (.field s x f) ρ v:=by
 unfold CL at h
 split at h
 ·rename_i fs sz qE z0 cs ht hx
  obtain⟨_,d,_,_,hd,_,_,hf,_,_⟩:=dp ok ht
  obtain⟨fields,rfl,y8⟩:=JN hf
  split at h
  ·rename_i off t jN
   split at h
   ·rename_i i hi
    rw[← y8,fo,xE]at jN
    obtain⟨fd,NA,e⟩:=jN
    cases e
    have HJ:fields[f]?=some fd:=by simpa using NA
    split at h
    ·rename_i v hv
     refine⟨v,h,fun η F w o ho aN=>?_⟩
     have h1:=aN x (by simp[Op.operands]);rw[hx]at h1
     obtain⟨vs,e,h2,h3⟩:=h1.uX
     obtain⟨v',h4,h5⟩:=BE ok hi (w:=w) ⟨h2,h3⟩ hv
     exact⟨v',by simp[execOp,ho,e,Instr.field,run_underlying hd,HJ,asAgg,h4],h5⟩
    ·exact h.elim
   ·exact h.elim
  ·exact h.elim
 ·exact h.elim
theorem VS(ok:dz P TT){t:TypeId}{x ix:Operand}{ρ:Operand→AV}{K:AV→Prop}(h:BF TT t (ρ x) (ρ ix) K):∃v,K v∧eW P (.indexAddr t x ix) ρ v:=by
 unfold BF at h
 split at h
 ·rename_i e sz qE z0 k n ht y7
  obtain⟨_,d,_,_,hd,_,_,hf,_,_⟩:=dp ok ht
  obtain rfl:=jT hf
  split at h
  ·rename_i i s l hi hx
   obtain⟨j',_,_,k8,_,dE,_⟩:=dp ok hi
   obtain⟨ei,nm⟩:=h
   obtain⟨dt,h0,h1,go⟩:=nm
   refine⟨_,go,fun η F w o ho aN=>?_⟩
   have a1:=aN x (by simp[Op.operands]);rw[hx]at a1
   have a2:=aN ix (by simp[Op.operands]);rw[y7]at a2
   obtain⟨a,c,e,ma,mJ,Ek⟩:=a1.DD
   have ab:n.toNat<l.length:=(cf.1 h1).1
   obtain⟨b,o',rfl,hF,UO⟩:=Ek (fun e=>by subst e;cases ab)
   obtain⟨cs',q1,q2,q3⟩:=UO _ ab
   have kd:l[n.toNat]=dt:=by rw[bJ ab]at h1;exact Option.some.inj h1
   rw[kd]at q3
   have hn:0≤n∧n<(l.length:Int):=by omega
   refine⟨_,?_,(At.SQ s q2 q3).fO hF⟩
   simp[execOp,ho,e,a2.gA,Instr.indexAt,asIntOf,run_underlying hd,hn,run_sizeOf k8,oW,dE,ei]
  ·rename_i i b off len es hi hx
   obtain⟨j',_,_,k8,_,dE,_⟩:=dp ok hi
   obtain⟨⟨ei,h0,h1⟩,go⟩:=h
   refine⟨_,go,Hc rfl fun η F w o ho aN=>?_⟩
   have a1:=aN x (by simp[Op.operands]);rw[hx]at a1
   have a2:=aN ix (by simp[Op.operands]);rw[y7]at a2
   obtain⟨a,cap,e,c,T,fz,m1,m2,m3,m4⟩:=a1.lu
   have ha:a=⟨b,off,none⟩:=by rcases m4 with m4 | m4;exact m4.1;omega
   subst ha
   exact⟨⟨c,T,fz,m1⟩,fun _=>by simp[execOp,ho,e,a2.gA,Instr.indexAt,asIntOf,run_underlying hd,h0,h1,run_sizeOf k8,oW,dE,ei]⟩
  ·exact h.elim
 ·rename_i m e sz qE z0 k n ht y7
  obtain⟨_,d,_,_,hd,_,_,hf,_,_⟩:=dp ok ht
  obtain rfl:=R7 hf
  split at h
  ·rename_i i b o' hi hx
   obtain⟨j',_,_,k8,_,dE,_⟩:=dp ok hi
   obtain⟨⟨h0,h1⟩,go⟩:=h
   refine⟨_,go,Hc rfl fun η F w o ho aN=>?_⟩
   have a1:=aN x (by simp[Op.operands]);rw[hx]at a1
   have a2:=aN ix (by simp[Op.operands]);rw[y7]at a2
   exact⟨a1.zF,fun _=>by simp[execOp,ho,a1.yE,a2.gA,Instr.indexAt,asIntOf,Instr.sureAddr,run_underlying hd,h0,h1,run_sizeOf k8,oW,dE]⟩
  ·rename_i i cs hi hx
   obtain⟨j',_,_,k8,_,dE,_⟩:=dp ok hi
   obtain⟨⟨h0,h1⟩,go⟩:=h
   refine⟨_,go,fun η F w o ho aN=>?_⟩
   have a1:=aN x (by simp[Op.operands]);rw[hx]at a1
   have a2:=aN ix (by simp[Op.operands]);rw[y7]at a2
   obtain⟨b,o',e,hF,dR⟩:=a1.yb
   exact⟨_,by simp[execOp,ho,e,a2.gA,Instr.indexAt,asIntOf,Instr.sureAddr,run_underlying hd,h0,h1,run_sizeOf k8,oW,dE],(dR.drop _).fO hF⟩
  ·exact h.elim
 ·exact h.elim
theorem V3{x:Operand}{i:Nat}{ρ:Operand→AV}{vs:List AV}{v:AV}(hx:ρ x=.tup vs)(hv:vs[i]?=some v):eW P (.extract x i) ρ v:=by
 intro η F w o ho aN
 have a1:=aN x (by simp[Op.operands]);rw[hx]at a1
 cases he:η x with
 |tuple us=>
  rw[he]at a1
  cases a1 with
  |tup cs vs hs h=>
   have h1:=h i v hv
   have ab:i<us.size:=by rw[← hs];exact (cf.1 hv).1
   refine⟨us.getD i undef,?_,h1⟩
   simp[execOp,ho,he,Instr.extract,ab,Array.getD]
 |_=>rw[he]at a1;cases a1
theorem O8(ok:dz P TT){x:Operand}{tx t e:TypeId}{s b:Nat}{z:List AV}{ρ:Operand→AV}{K:AV→Prop}(ht:TT t=some ⟨.ptr e,s,b,z⟩)(iw:z=[.cQ])(h:(∃t' v,ρ x=.iface t' v∧(match Nat.beq t' t with | true=>K (.tup [v,.bool true]) | false=>K (.tup [.cQ,.bool false])))∨(ρ x=.nilif∧K (.tup [.cQ,.bool false]))):∃v,K v∧eW P (.typeAssert x tx t true) ρ v:=by
 obtain⟨j,d,zv,hj,hd,hs,⟨hb,ov⟩,hf,hz,hY⟩:=dp ok ht
 obtain rfl:=F8 hf
 have Mo:∀{F:Nat→Prop} {w:World} {a c:AV} {u v:Value},aA F w a u→aA F w c v→aA F w (.tup [a,c]) (.tuple #[u,v]):=fun h1 h2=>.tup _ _ rfl fun i y hy=>by
  rcases i with _ | _ | i
  ·simp at hy;subst hy;exact h1
  ·simp at hy;subst hy;exact h2
  ·simp at hy
 have Na:zv=.pointer none:=by
  obtain⟨j2,z2,k1,k2,k3⟩:=SB ok ht rfl
  rw[hj]at k1;cases k1
  rw[hz]at k2;cases k2
  cases zv with
  |agg cs=>cases k3
  |pointer p=>cases p with
   |none=>rfl
   |some p=>subst iw;exact absurd hY (by simp[Value.cells,pT,AV.isVal])
  |_=>subst iw;exact absurd hY (by simp[Value.cells,pT,AV.isVal])
 have hzv:∀w,(zeroValue t).run P w=.ok (.pointer none) w:=fun w=>by simp[zeroValue,typeInfo,hj,hz,Na]
 rcases h with ⟨t',v,hx,h⟩ | ⟨hx,h⟩
 ·split at h
  ·rename_i hb
   have e:=jx hb
   subst e
   refine⟨_,h,fun η F w o ho aN=>?_⟩
   have a1:=aN x (by simp[Op.operands]);rw[hx]at a1
   cases hv:η x with
   |iface t2 u=>
    rw[hv]at a1
    cases a1 with
    |iface _ _ _ hu=>exact⟨.tuple #[u,.bool true],fun w'=>by simp[execOp,ho,hv,Instr.typeAssert,run_underlying hd],Mo hu (.bool _)⟩
   |_=>rw[hv]at a1;cases a1
  ·rename_i hb
   refine⟨_,h,fun η F w o ho aN=>?_⟩
   have a1:=aN x (by simp[Op.operands]);rw[hx]at a1
   cases hv:η x with
   |iface t2 u=>
    rw[hv]at a1
    cases a1 with
    |iface _ _ _ hu=>
     have aP:¬t'=t:=fun e=>by subst e;rw[xz]at hb;cases hb
     exact⟨.tuple #[.pointer none,.bool false],fun w'=>by simp[execOp,ho,hv,Instr.typeAssert,run_underlying hd,aP,hzv],Mo .cQ (.bool _)⟩
   |_=>rw[hv]at a1;cases a1
 ·refine⟨_,h,fun η F w o ho aN=>?_⟩
  have a1:=aN x (by simp[Op.operands]);rw[hx]at a1
  have hv:η x=.nilIface:=by revert a1;generalize η x=u;intro a1;cases a1;rfl
  exact⟨.tuple #[.pointer none,.bool false],fun w'=>by simp[execOp,ho,hv,Instr.typeAssert,run_underlying hd,hzv],Mo .cQ (.bool _)⟩
theorem uh{n:Int}{y:Nat}{code:BoundsCode}{k:IntKind}(h0:0≤n)(h1:n≤y)(w:World):(Instr.sliceBound (.int k n) y code).run P w=.ok n.toNat w:=by
 simp[Instr.sliceBound,asIntOf,h0,h1]
theorem Jx{lo hi:Option AV}{sc DN:Option Value}{F:Nat→Prop}{w:World}{len cap:Nat}{l h:Int}(pD:∀x,lo=some x→∃v,sc=some v∧aA F w x v)(MC:lo=none→sc=none)(ID:∀x,hi=some x→∃v,DN=some v∧aA F w x v)(afW:hi=none→DN=none)
  (el:s4 lo=some l) (eh:An len hi=some h) (h1:0≤l) (h2:l≤h) (h3:h≤len) (h4:len≤cap) (w':World):(Instr.sliceBounds true len cap sc DN none).run P w'=.ok (l.toNat,h.toNat,cap) w':=by
 have e2:(DN=none∧h=len)∨∃k,DN=some (.int k h):=by
  cases hi with
  |none=>exact .inl ⟨afW rfl,by simpa [An]using eh.symm⟩
  |some x=>
   obtain⟨v,rfl,hv⟩:=ID x rfl
   cases x <;> simp[An]at eh
   subst eh
   exact .inr ⟨_,by rw[hv.gA]⟩
 have e1:(sc=none∧l=0)∨∃k,sc=some (.int k l):=by
  cases lo with
  |none=>exact .inl ⟨MC rfl,by simpa [s4]using el.symm⟩
  |some x=>
   obtain⟨v,rfl,hv⟩:=pD x rfl
   cases x <;> simp[s4]at el
   subst el
   exact .inr ⟨_,by rw[hv.gA]⟩
 have hh:(h.toNat:Int)=h:=by omega
 rcases e2 with ⟨rfl,rfl⟩ | ⟨k2,rfl⟩ <;> rcases e1 with ⟨rfl,rfl⟩ | ⟨k1,rfl⟩
 ·simp[Instr.sliceBounds]
 ·simp[Instr.sliceBounds,uh h1 (show l≤(len:Nat) from h2)]
 ·simp[Instr.sliceBounds,uh (show 0≤h by omega) (show h≤(cap:Nat) by omega)]
 ·simp[Instr.sliceBounds,uh (show 0≤h by omega) (show h≤(cap:Nat) by omega),uh h1 (show l≤(h.toNat:Nat) by omega)]
theorem V5{lo:Option AV}{sc:Option Value}{F:Nat→Prop}{w:World}{len cap:Nat}{l h m:Int}{k1 k2:IntKind}(pD:∀x,lo=some x→∃v,sc=some v∧aA F w x v)(MC:lo=none→sc=none)
  (el:s4 lo=some l) (h1:0≤l) (h2:l≤h) (h3:h≤m) (h4:m≤len) (h5:len≤cap) (w':World):(Instr.sliceBounds true len cap sc (some (.int k1 h)) (some (.int k2 m))).run P w'=.ok (l.toNat,h.toNat,m.toNat) w':=by
 have e1:(sc=none∧l=0)∨∃k,sc=some (.int k l):=by
  cases lo with
  |none=>exact .inl ⟨MC rfl,by simpa [s4]using el.symm⟩
  |some x=>
   obtain⟨v,rfl,hv⟩:=pD x rfl
   cases x <;> simp[s4]at el
   subst el
   exact .inr ⟨_,by rw[hv.gA]⟩
 have hh:(h.toNat:Int)=h:=by omega
 rcases e1 with ⟨rfl,rfl⟩ | ⟨k1,rfl⟩
 ·simp[Instr.sliceBounds,uh (show 0≤m by omega) (show m≤(cap:Nat) by omega),uh (show 0≤h by omega) (show h≤(m.toNat:Nat) by omega)]
 ·simp[Instr.sliceBounds,uh (show 0≤m by omega) (show m≤(cap:Nat) by omega),uh (show 0≤h by omega) (show h≤(m.toNat:Nat) by omega),uh h1 (show l≤(h.toNat:Nat) by omega)]
theorem oX{F:Nat→Prop}{w:World}{ρ:Operand→AV}{η:Operand→Value}{o:Option Operand}(h:∀x,o=some x→aA F w (ρ x) (η x)):(∀x,o.map ρ=some x→∃v,o.map η=some v∧aA F w x v)∧(o.map ρ=none→o.map η=none):=by
 cases o with
 |none=>exact⟨(fun x h=>by cases h),fun _=>rfl⟩
 |some y=>exact⟨(fun x hx=>by cases hx;exact⟨_,rfl,h y rfl⟩),(fun h=>by cases h)⟩
theorem Wp(ok:dz P TT){t:TypeId}{x:Operand}{lo hi mx:Option Operand}{ρ:Operand→AV}{K:AV→Prop}(h:zX TT t (ρ x) (lo.map ρ) (hi.map ρ) (mx.map ρ) K):∃v,K v∧eW P (.slice t x lo hi mx) ρ v:=by
 unfold zX at h
 split at h
 ·rename_i e sz qE z0 ht A0
  have A0:mx=none:=by simpa using A0
  subst A0
  obtain⟨_,d,_,_,hd,_,_,hf,_,_⟩:=dp ok ht
  obtain rfl:=jT hf
  have yM:∀{η:Operand→Value} {F:Nat→Prop} {w:World},(∀y∈(Op.slice t x lo hi none).operands.toList,aA F w (ρ y) (η y))→aA F w (ρ x) (η x)∧(∀y,lo=some y→aA F w (ρ y) (η y))∧(∀y,hi=some y→aA F w (ρ y) (η y)):=by
   intro η F w hy
   refine⟨hy x (by simp[Op.operands]),fun y e=>hy y (by subst e;simp[Op.operands]),fun y e=>hy y (by subst e;simp[Op.operands])⟩
  split at h
  ·rename_i i b off len es eN hx
   obtain⟨j',_,_,k8,_,dE,_⟩:=dp ok eN
   split at h
   ·rename_i l hh el eh
    obtain⟨⟨h1,h2,h3,ei⟩,go⟩:=h
    refine⟨_,go,fun η F w o ho aN=>?_⟩
    obtain⟨a1,a2,a3⟩:=yM aN
    rw[hx]at a1
    obtain⟨a,cap,ea,c,T,fz,m1,m2,m3,m4⟩:=a1.lu
    have hb:=Jx (P:=P) (w:=w) (oX a2).1 (oX a2).2 (oX a3).1 (oX a3).2 el eh h1 h2 h3 m2
    refine⟨.slice (some (if cap=l.toNat then a else a.add (l.toNat*j'.size))) (hh.toNat-l.toNat) (cap-l.toNat),?_,?_⟩
    ·intro w'
     simp only[execOp,ho,Instr.sliceAt,Sem.run_bind,run_underlying hd,Result.andThen_ok,Option.map_none,ea,Instr.slice,hb,run_sizeOf k8,Sem.run_pure]
     split <;> rfl
    ·refine .ae _ _ _ _ _ _ ⟨c,T,fz,m1,by omega,by omega,?_⟩
     by_cases ej:cap=l.toNat
     ·refine .inr ?_
      rw[ai ej]
      rcases m4 with ⟨rfl,_⟩ | ⟨q1,q2,q3,q4⟩
      ·exact⟨rfl,rfl,by omega,by omega⟩
      ·exact⟨q1,q2,by omega,by omega⟩
     ·refine .inl ?_
      rw[ah ej]
      rcases m4 with ⟨rfl,q⟩ | ⟨q1,q2,q3,q4⟩
      ·refine⟨by rw[oW,dE,ei],?_⟩
       have:off+l.toNat*es+(cap-l.toNat)*es=off+cap*es:=by
        rw[EJ,← qy];congr 2;omega
       omega
      ·omega
   ·exact h.elim
  ·rename_i i s xs eN hx
   obtain⟨j',_,_,k8,_,dE,_⟩:=dp ok eN
   split at h
   ·rename_i l hh el eh
    obtain⟨⟨h1,h2,h3,ei⟩,go⟩:=h
    refine⟨_,go,fun η F w o ho aN=>?_⟩
    obtain⟨a1,a2,a3⟩:=yM aN
    rw[hx]at a1
    obtain⟨a,cap,ea,c1,c2,c3⟩:=a1.DD
    have hb:=Jx (P:=P) (w:=w) (oX a2).1 (oX a2).2 (oX a3).1 (oX a3).2 el eh h1 h2 h3 c1
    have hlen:((xs.drop l.toNat).take (hh.toNat-l.toNat)).length=hh.toNat-l.toNat:=by simp;omega
    refine⟨.slice (if cap=l.toNat then a else a.map (·.add (l.toNat*j'.size))) (hh.toNat-l.toNat) (cap-l.toNat),?_,?_⟩
    ·intro w'
     simp only[execOp,ho,Instr.sliceAt,Sem.run_bind,run_underlying hd,Result.andThen_ok,Option.map_none,ea,Instr.slice,hb,run_sizeOf k8,Sem.run_pure]
    ·refine .af _ _ _ ⟨_,_,by rw[hlen],by omega,by omega,(fun he=>?_),fun aP=>?_⟩
     ·have N8:=a1.ag6 ea
      split at he
      ·have:=N8 he;omega
      ·have:=N8 (Option.map_eq_none_iff.1 he);omega
     have tk:0<hh.toNat-l.toNat:=by
      rcases tT (hh.toNat-l.toNat) with h0 | h0
      ·exact absurd (jP.1 (by rw[hlen,h0])) aP
      ·exact h0
     obtain⟨b,o',rfl,hF,hr⟩:=c3 (fun e=>by subst e;simp at h3;omega)
     refine⟨b,o'+l.toNat*s.size,by rw[if_neg (by omega)];simp[oW,dE,ei],hF,fun m hm=>?_⟩
     rw[hlen]at hm
     obtain⟨cs',q1,q2,q3⟩:=hr (l.toNat+m) (by omega)
     refine⟨cs',q1,?_,by simpa using q3⟩
     rw[EJ,← qy]
     exact q2
   ·exact h.elim
  ·rename_i i eN hx
   obtain⟨j',_,_,k8,_,dE,_⟩:=dp ok eN
   split at h
   ·rename_i l hh el eh
    obtain⟨⟨h1,h2,h3⟩,go⟩:=h
    refine⟨_,go,fun η F w o ho aN=>?_⟩
    obtain⟨a1,a2,a3⟩:=yM aN
    rw[hx]at a1
    have ea:η x=.slice none 0 0:=by revert a1;generalize η x=u;intro a1;cases a1;rfl
    have hb:=Jx (P:=P) (w:=w) (cap:=0) (oX a2).1 (oX a2).2 (oX a3).1 (oX a3).2 el eh h1 h2 h3 (aU _)
    have ib:l.toNat=0:=by omega
    have hh0:hh.toNat=0:=by omega
    refine⟨.slice none 0 0,?_,.aj⟩
    intro w'
    simp[execOp,ho,Instr.sliceAt,Sem.run_bind,run_underlying hd,Result.andThen_ok,ea,Instr.slice,hb,run_sizeOf k8,ib,hh0]
   ·exact h.elim
  ·exact h.elim
 ·rename_i e sz qE z0 k2 m ht A0
  obtain⟨mo,rfl,hmo⟩:∃mo,mx=some mo∧ρ mo=.int k2 m:=by
   cases mx with
   |none=>cases A0
   |some mo=>exact⟨mo,rfl,Option.some.inj A0⟩
  obtain⟨_,d,_,_,hd,_,_,hf,_,_⟩:=dp ok ht
  obtain rfl:=jT hf
  split at h
  ·rename_i i b off len es k1 hh eN hx ID
   obtain⟨fZ,rfl,hho⟩:∃fZ,hi=some fZ∧ρ fZ=.int k1 hh:=by
    cases hi with
    |none=>cases ID
    |some fZ=>exact⟨fZ,rfl,Option.some.inj ID⟩
   obtain⟨j',_,_,k8,_,dE,_⟩:=dp ok eN
   split at h
   ·rename_i l el
    obtain⟨⟨h1,h2,h3,h4,ei⟩,go⟩:=h
    refine⟨_,go,fun η F w o ho aN=>?_⟩
    have a1:=aN x (by simp[Op.operands])
    have a2:∀y,lo=some y→aA F w (ρ y) (η y):=fun y e=>aN y (by subst e;simp[Op.operands])
    have a3:=aN fZ (by simp[Op.operands])
    have a4:=aN mo (by simp[Op.operands])
    rw[hx]at a1
    rw[hho]at a3
    rw[hmo]at a4
    have e3:=a3.gA
    have e4:=a4.gA
    obtain⟨a,cap,ea,c,T,fz,m1,m2,m3,m4⟩:=a1.lu
    have hb:=V5 (P:=P) (w:=w) (k1:=k1) (k2:=k2) (oX a2).1 (oX a2).2 el h1 h2 h3 h4 m2
    refine⟨.slice (some (if m.toNat=l.toNat then a else a.add (l.toNat*j'.size))) (hh.toNat-l.toNat) (m.toNat-l.toNat),?_,?_⟩
    ·intro w'
     simp only[execOp,ho,Instr.sliceAt,Sem.run_bind,run_underlying hd,Result.andThen_ok,Option.map_some,ea,e3,e4,Instr.slice,hb,run_sizeOf k8,Sem.run_pure]
     split <;> rfl
    ·refine .ae _ _ _ _ _ _ ⟨c,T,fz,m1,by omega,by omega,?_⟩
     by_cases ej:m.toNat=l.toNat
     ·refine .inr ?_
      rw[ai ej]
      rcases m4 with ⟨rfl,_⟩ | ⟨q1,q2,q3,q4⟩
      ·exact⟨rfl,rfl,by omega,by omega⟩
      ·exact⟨q1,q2,by omega,by omega⟩
     ·refine .inl ?_
      rw[ah ej]
      rcases m4 with ⟨rfl,q⟩ | ⟨q1,q2,q3,q4⟩
      ·refine⟨by rw[oW,dE,ei],?_⟩
       have h6:off+l.toNat*es+(m.toNat-l.toNat)*es=off+m.toNat*es:=by
        rw[EJ,← qy];congr 2;omega
       have h7:m.toNat*es≤cap*es:=lO _ (by omega)
       omega
      ·omega
   ·exact h.elim
  ·exact h.elim
 ·exact h.elim
theorem sP{η:Operand→Value}(b:Builtin)(args:Array Operand)(cx:Array TypeId)(o:Oper)(ho:o.op=.call ⟨.builtin b,args,cx⟩):execOp η o=builtin b cx o.type (args.map fun | .const _=>true | _=>false) (args.map η):=by
 simp[execOp,ho,resolve,invoke]
 rfl
theorem YR(ok:dz P TT){x:Operand}{cx:Array TypeId}{t:TypeId}{i:TI}{ρ:Operand→AV}{K:AV→Prop}(hty:cx.toList=[t])(ht:TT t=some i)(h:Dr i.k (ρ x) K):∃v,K v∧eW P (.call ⟨.builtin .len,#[x],cx⟩) ρ v:=by
 obtain⟨_,d,_,_,hd,_,_,hf,_,_⟩:=dp ok ht
 obtain rfl:cx = #[t]:=by cases cx;simp_all
 unfold Dr at h
 have fin:∀(n:Nat),K (.int .i64 n)→(∀(F:Nat→Prop) (w:World) (v:Value),aA F w (ρ x) v→∀ty w',(Builtin.len_ #[t] ty #[v]).run P w'=.ok (.int .i64 n) w')→∃v,K v∧eW P (.call ⟨.builtin .len,#[x],#[t]⟩) ρ v:=by
  intro n hk hr
  refine⟨_,hk,mR (fun _ _=>.int _ _) fun η F w o ho aN=>?_⟩
  have a1:=aN x (by simp[Op.operands,Call.operands])
  rw[sP _ _ _ o ho]
  simp[builtin,hr F w _ a1]
 split at h
 ·rename_i e s l hk hx
  rw[hk]at hf;obtain rfl:=jT hf
  refine fin _ h fun F w v hv ty w'=>?_
  rw[hx]at hv
  obtain⟨a,c,rfl,_⟩:=hv.DD
  simp[Builtin.len_,run_underlying hd,goInt]
 ·rename_i e b off len es hk hx
  rw[hk]at hf;obtain rfl:=jT hf
  refine fin _ h fun F w v hv ty w'=>?_
  rw[hx]at hv
  obtain⟨a,c,rfl,_⟩:=hv.lu
  simp[Builtin.len_,run_underlying hd,goInt]
 ·rename_i e hk hx
  rw[hk]at hf;obtain rfl:=jT hf
  refine fin 0 h fun F w v hv ty w'=>?_
  rw[hx]at hv
  cases hv
  simp[Builtin.len_,run_underlying hd,goInt]
 ·rename_i e hk hx
  rw[hk]at hf;obtain rfl:=jT hf
  refine fin 0 h fun F w v hv ty w'=>?_
  rw[hx]at hv
  cases hv
  simp[Builtin.len_,run_underlying hd,goInt]
 ·rename_i e hk hx
  rw[hk]at hf;obtain rfl:=jT hf
  refine fin 0 h fun F w v hv ty w'=>?_
  rw[hx]at hv
  cases hv
  simp[Builtin.len_,run_underlying hd,goInt]
 ·exact h.elim
theorem Zc(ok:dz P TT){x:Operand}{cx:Array TypeId}{t:TypeId}{i:TI}{ρ:Operand→AV}{K:AV→Prop}(hty:cx.toList=[t])(ht:TT t=some i)(h:DG i.k (ρ x) K):∃v,K v∧eW P (.call ⟨.builtin .cap,#[x],cx⟩) ρ v:=by
 obtain⟨_,d,_,_,hd,_,_,hf,_,_⟩:=dp ok ht
 obtain rfl:cx = #[t]:=by cases cx;simp_all
 unfold DG at h
 have fin:K (.int .i64 0)→(∀(F:Nat→Prop) (w:World) (v:Value),aA F w (ρ x) v→∀ty w',(Builtin.cap_ #[t] ty #[v]).run P w'=.ok (.int .i64 0) w')→∃v,K v∧eW P (.call ⟨.builtin .cap,#[x],#[t]⟩) ρ v:=by
  intro hk hr
  refine⟨_,hk,mR (fun _ _=>.int _ _) fun η F w o ho aN=>?_⟩
  have a1:=aN x (by simp[Op.operands,Call.operands])
  rw[sP _ _ _ o ho]
  simp[builtin,hr F w _ a1]
 split at h
 ·rename_i e hk hx
  rw[hk]at hf;obtain rfl:=jT hf
  refine fin h fun F w v hv ty w'=>?_
  rw[hx]at hv
  cases hv
  simp[Builtin.cap_,run_underlying hd,goInt]
 ·rename_i e hk hx
  rw[hk]at hf;obtain rfl:=jT hf
  refine fin h fun F w v hv ty w'=>?_
  rw[hx]at hv
  cases hv
  simp[Builtin.cap_,run_underlying hd,goInt]
 ·exact h.elim
theorem YK{x y:Operand}{cx:Array TypeId}{ρ:Operand→AV}{K:AV→Prop}(h:Dm [ρ x,ρ y] K):∃v,K v∧eW P (.call ⟨.builtin .min,#[x,y],cx⟩) ρ v:=by
 unfold Dm at h
 split at h
 ·rename_i k a k' b e
  simp only[List.cons.injEq,and_true]at e
  split at h
  ·refine⟨_,h,mR (fun _ _=>.int _ _) fun η F w o ho aN=>?_⟩
   have a1:=aN x (by simp[Op.operands,Call.operands]);rw[e.1]at a1
   have a2:=aN y (by simp[Op.operands,Call.operands]);rw[e.2]at a2
   rw[sP _ _ _ o ho]
   simp[builtin,Builtin.min_,Builtin.min2,a1.gA,a2.gA]
  ·exact h.elim
 ·exact h.elim
theorem YN{x y:Operand}{cx:Array TypeId}{ρ:Operand→AV}{K:AV→Prop}(h:Dn [ρ x,ρ y] K):∃v,K v∧eW P (.call ⟨.builtin .max,#[x,y],cx⟩) ρ v:=by
 unfold Dn at h
 split at h
 ·rename_i k a k' b e
  simp only[List.cons.injEq,and_true]at e
  split at h
  ·refine⟨_,h,mR (fun _ _=>.int _ _) fun η F w o ho aN=>?_⟩
   have a1:=aN x (by simp[Op.operands,Call.operands]);rw[e.1]at a1
   have a2:=aN y (by simp[Op.operands,Call.operands]);rw[e.2]at a2
   rw[sP _ _ _ o ho]
   simp[builtin,Builtin.max_,Builtin.max2,a1.gA,a2.gA]
  ·exact h.elim
 ·exact h.elim
theorem XR{x y:Operand}{cx:Array TypeId}{ρ:Operand→AV}{K:AV→Prop}(h:C8 (ρ x) (ρ y) K):∃v,K v∧eW P (.call ⟨.builtin .complex,#[x,y],cx⟩) ρ v:=by
 unfold C8 at h
 split at h
 ·rename_i a b hx hy
  refine⟨_,h,fun η F w o ho aN=>?_⟩
  have a1:=aN x (by simp[Op.operands,Call.operands]);rw[hx]at a1
  have a2:=aN y (by simp[Op.operands,Call.operands]);rw[hy]at a2
  obtain⟨r,e1,h1⟩:=a1.HN
  obtain⟨q,e2,h2⟩:=a2.HN
  refine⟨.complex .f64 r q,fun w'=>?_,.fL _ _ _ _ h1 h2⟩
  rw[sP _ _ _ o ho]
  rw[show Array.map η #[x,y] = #[η x,η y] by simp,e1,e2];rfl
 ·exact h.elim
theorem Xr{x:Operand}{cx:Array TypeId}{ρ:Operand→AV}{K:AV→Prop}(h:CT (ρ x) K):∃v,K v∧eW P (.call ⟨.builtin .real,#[x],cx⟩) ρ v:=by
 unfold CT at h
 split at h
 ·rename_i a b hx
  refine⟨_,h,fun η F w o ho aN=>?_⟩
  have a1:=aN x (by simp[Op.operands,Call.operands]);rw[hx]at a1
  obtain⟨r,q,e1,h1,h2⟩:=a1.HS
  refine⟨.float .f64 r,fun w'=>?_,.gd _ _ h1⟩
  rw[sP _ _ _ o ho]
  rw[show Array.map η #[x] = #[η x] by simp,e1];rfl
 ·exact h.elim
theorem XF{x:Operand}{cx:Array TypeId}{ρ:Operand→AV}{K:AV→Prop}(h:CZ (ρ x) K):∃v,K v∧eW P (.call ⟨.builtin .imag,#[x],cx⟩) ρ v:=by
 unfold CZ at h
 split at h
 ·rename_i a b hx
  refine⟨_,h,fun η F w o ho aN=>?_⟩
  have a1:=aN x (by simp[Op.operands,Call.operands]);rw[hx]at a1
  obtain⟨r,q,e1,h1,h2⟩:=a1.HS
  refine⟨.float .f64 q,fun w'=>?_,.gd _ _ h2⟩
  rw[sP _ _ _ o ho]
  rw[show Array.map η #[x] = #[η x] by simp,e1];rfl
 ·exact h.elim
theorem Holds.HE{F:Nat→Prop}{w:World}{b:Nat}{x:AV}{o:Obj}(h:Holds F w b [x])(hx:wV x=some o):¬F b∧w.heap[b]?=some o:=by
 obtain⟨hF,⟨c,T,h1,h2,h3⟩ | ⟨x',o',h1,h2,h3⟩ | ⟨_,_,h1,_⟩⟩:=h
 ·have:=(h3 0 _ rfl).1;rw[J5 hx]at this;cases this
 ·cases h1;rw[hx]at h3;cases h3;exact⟨hF,h2⟩
 ·cases h1;cases hx
theorem Holds.Dp{F:Nat→Prop}{w:World}{b:Nat}{l:List (Int×Int)}(h:Holds F w b [.n0 l]):¬F b∧w.heap[b]?=some (.map (fV 0 l).toArray l.length):=h.HE rfl
theorem Holds.UK{F:Nat→Prop}{w:World}{b:Nat}{L:Loop}{t:Nat→AV}(h:Holds F w b [.mr L t]):¬F b∧w.heap[b]?=some (.loop L)∧∀i,aA F w (t i) (L.tmps.getD i undef):=by
 obtain⟨hF,⟨c,T,h1,h2,h3⟩ | ⟨x,o,h1,h2,h3⟩ | ⟨_,_,h1,h2⟩⟩:=h
 ·have:=(h3 0 _ rfl).1;cases this
 ·cases h1;cases h3
 ·cases h1;exact⟨hF,h2⟩
theorem aA.Vj{F:Nat→Prop}{w:World}{b:Nat}{v:Value}(h:aA F w (.nr b) v):v=.pointer (some ⟨b,0,none⟩):=by cases h;rfl
theorem aA.L0{F:Nat→Prop}{w:World}{b:Nat}{v:Value}(h:aA F w (.nj b) v):v=.map (some b):=by cases h;rfl
theorem J8(ok:dz P TT){t:TypeId}{z:Int}(h:AD TT t=some z):∃k e,P.underlying t=some (.map k e)∧P.underlying k=some (.int .i64)∧∀w,(zeroValue e).run P w=.ok (.int .i64 z) w:=by
 unfold AD at h
 split at h
 ·rename_i k e s1 b1 z1 ht
  split at h
  ·rename_i s2 b2 z2 s3 b3 zz hk he
   cases h
   obtain⟨_,d1,_,_,qv,_,_,iH,_,_⟩:=dp ok ht
   obtain⟨_,d2,_,_,mI,_,_,vC,_,_⟩:=dp ok hk
   obtain⟨j3,d3,zv,hj3,hd3,_,_,hf3,l5,hY⟩:=dp ok he
   have:=aaz iH;subst this
   have:=fits_int vC;subst this
   have Na:zv=.int .i64 z:=by
    obtain⟨j2,z2',k1,k2,k3⟩:=SB ok he rfl
    rw[hj3]at k1;cases k1
    rw[l5]at k2;cases k2
    cases zv with
    |agg cs=>cases k3
    |int q n=>
     simp[Value.cells,pT,AV.isVal]at hY
     obtain⟨rfl,rfl⟩:=hY
     rfl
    |_=>exact absurd hY (by simp[Value.cells,pT,AV.isVal])
   exact⟨k,e,qv,mI,fun w=>by simp[zeroValue,typeInfo,hj3,l5,Na]⟩
  ·cases h
 ·cases h
theorem Wb(ok:dz P TT){t:TypeId}{m k:Operand}{c:Bool}{ρ:Operand→AV}{σ:Hp}{K:AV→Prop}(h:Ct TT t (bN (ρ m)) (bN (ρ k)) c σ K):∃v,K v∧DK P (.lookup t m k c) ρ σ v:=by
 unfold Ct at h
 split at h
 ·rename_i z n hz hk
  obtain⟨kt,et,h1,h2,h3⟩:=J8 ok hz
  obtain⟨j,b,l,hm,hj,go⟩:=h
  have hs:∀(η:Operand→Value) (F:Nat→Prop) (w:World) (o:Oper),o.op=.lookup t m k c→(∀x∈(Op.lookup t m k c).operands.toList,aA F w (ρ x) (η x))→bg F w σ→(execOp η o).run P w=.ok (.value (if c then .tuple #[.int .i64 ((getM l n).getD z),.bool (getM l n).isSome] else .int .i64 ((getM l n).getD z))) w:=fun η F w o ho hx aF=>by
   have a1:=(hx m (by simp[Op.operands])).bN
   rw[hm]at a1
   have a2:=(hx k (by simp[Op.operands])).bN
   rw[hk]at a2
   have e1:η m=.map (some b):=a1.L0
   have e2:η k=.int .i64 n:=a2.gA
   obtain⟨_,hb⟩:=(aF.holds _ (cq hj)).Dp
   simp[execOp,ho,e1,e2,Wt h1 h2 (h3 w) hb n c]
  cases c with
  |true=>
   exact⟨_,go,fun η F w o ho hx aF=>⟨_,hs η F w o ho hx aF,.tup _ _ rfl fun i y hy=>by
    rcases i with _ | _ | i
    ·simp at hy;subst hy;exact .int _ _
    ·simp at hy;subst hy;exact .bool _
    ·simp at hy⟩⟩
  |false=>exact⟨_,go,fun η F w o ho hx aF=>⟨_,hs η F w o ho hx aF,.int _ _⟩⟩
 ·exact h.elim
def LF:Op→Bool
 |.load _ _ | .lookup _ _ _ _=>false
 |_=>true
theorem QF(ok:dz P TT){op:Op}{ρ:Operand→AV}{σ:Hp}{K:AV→Prop}(hb:LF op=true)(h:fy P TT op ρ σ K):∃v,K v∧eW P op ρ v:=by
 unfold fy at h
 split at h
 ·rw[xW]at h;exact⟨_,h,Yj⟩
 ·rw[xW]at h;exact⟨_,h,Wr⟩
 ·split at h
  ·rename_i x hx
   rw[xW,xW]at h
   refine⟨_,?_,Yi hx⟩
   cases x <;> exact h
  ·exact h.elim
 ·split at h
  ·rename_i v hv
   exact⟨v,h,W4 ok hv⟩
  ·exact h.elim
 ·split at h
  ·cases hb
  ·exact h.elim
 ·rename_i x
  split at h
  ·rename_i b o' hx
   refine⟨_,h,Hc rfl fun η F w o ho aN=>?_⟩
   have h1:=aN x (by simp[Op.operands]);rw[hx]at h1
   exact⟨h1.zF,fun _=>by simp[execOp,ho,h1.yE]⟩
  ·rename_i cs hx
   refine⟨_,h,fun η F w o ho aN=>?_⟩
   have h1:=aN x (by simp[Op.operands]);rw[hx]at h1
   obtain⟨b,o',e,hF,dR⟩:=h1.yb
   exact⟨_,by simp[execOp,ho,e],dR.fO hF⟩
  ·rename_i f a c hx
   refine⟨_,h,fun η F w o ho aN=>?_⟩
   have h1:=aN x (by simp[Op.operands]);rw[hx]at h1
   cases hv:η x with
   |func f' v1 v2=>
    rw[hv]at h1
    have:f'=.func f:=by cases h1;rfl
    subst this
    exact⟨_,by simp[execOp,ho,hv],h1⟩
   |_=>rw[hv]at h1;cases h1
  ·rename_i m t b o' c hx
   obtain⟨ha,h⟩:=h
   refine⟨_,h,fun η F w o ho aN=>?_⟩
   have h1:=aN x (by simp[Op.operands]);rw[hx]at h1
   cases hv:η x with
   |func f' v1 v2=>
    rw[hv]at h1
    have h2:=h1
    obtain⟨rfl,hs,hr⟩:f'=.method m∧1=v1.size∧aA F w (.iface t (.ptr b o')) (v1.getD 0 undef):=by
     cases h1 with | fn _ _ _ _ _ fh gQ h1 h2=>exact⟨rfl,fh,h1 0 _ rfl⟩
    have h0:v1[0]?=some (.iface t (.pointer (some ⟨b,o',none⟩))):=by
     have ab:0<v1.size:=by omega
     have e1:v1.getD 0 undef=v1[0]:=by simp[Array.getD,ab]
     rw[e1]at hr
     rw[xF ab]
     revert hr
     generalize v1[0]=u
     intro hr
     cases hr with
     |iface _ _ _ h=>cases h;rfl
    refine⟨.func (.method m) v1 v2,fun w'=>?_,h2⟩
    have hn:=ha ⟨b,o',none⟩ w'
    simp only[execOp,ho,hv,h0,Sem.run_bind,run_program,Result.andThen_ok,hn]
    rfl
   |_=>rw[hv]at h1;cases h1
  ·rename_i t v hx
   refine⟨_,h,fun η F w o ho aN=>?_⟩
   have h1:=aN x (by simp[Op.operands]);rw[hx]at h1
   cases hv:η x with
   |iface t' v'=>
    rw[hv]at h1
    exact⟨_,by simp[execOp,ho,hv],h1⟩
   |_=>rw[hv]at h1;cases h1
  ·exact h.elim
 ·exact By (XY ok (ρ:=fun x=>bN (ρ x)) h)
 ·exact ZL h
 ·exact XU ok h
 ·rename_i t x
  split at h
  ·exact h.elim
  ·rename_i i hn hi
   exact⟨_,h,WQ ok hi (fun e=>hn i.size i.bytes i.zero (by rw[← e]))⟩
  ·exact h.elim
 ·exact⟨_,h,VW⟩
 ·exact By (Wp ok (ρ:=fun x=>bN (ρ x)) h)
 ·exact VU ok h
 ·exact WT ok h
 ·exact By (VS ok (ρ:=fun x=>bN (ρ x)) h)
 ·rename_i x tx t ok2
  split at h
  ·rename_i e s b t' v ht hx
   exact O8 ok ht rfl (.inl ⟨t',v,hx,h⟩)
  ·rename_i e s b ht hx
   exact O8 ok ht rfl (.inr ⟨hx,h⟩)
  ·exact h.elim
 ·cases hb
 ·split at h
  ·rename_i vs hx
   split at h
   ·rename_i v hv;exact⟨v,h,V3 hx hv⟩
   ·exact h.elim
  ·exact h.elim
 ·rename_i args cx
  split at h
  ·rename_i x t hx ht
   obtain rfl:args = #[x]:=by cases args;simp_all
   split at h
   ·rename_i i hi;exact By (YR ok ht hi (ρ:=fun x=>bN (ρ x)) h)
   ·exact h.elim
  ·exact h.elim
 ·rename_i args cx
  split at h
  ·rename_i x y hx
   obtain rfl:args = #[x,y]:=by cases args;simp_all
   exact YK h
  ·exact h.elim
 ·rename_i args cx
  split at h
  ·rename_i x y hx
   obtain rfl:args = #[x,y]:=by cases args;simp_all
   exact YN h
  ·exact h.elim
 ·rename_i args cx
  split at h
  ·rename_i x y hx
   obtain rfl:args = #[x,y]:=by cases args;simp_all
   exact XR h
  ·exact h.elim
 ·rename_i args cx
  split at h
  ·rename_i x hx
   obtain rfl:args = #[x]:=by cases args;simp_all
   exact Xr h
  ·exact h.elim
 ·rename_i args cx
  split at h
  ·rename_i x hx
   obtain rfl:args = #[x]:=by cases args;simp_all
   exact XF h
  ·exact h.elim
 ·rename_i args cx
  split at h
  ·rename_i x t hx ht
   obtain rfl:args = #[x]:=by cases args;simp_all
   split at h
   ·rename_i i hi;exact By (Zc ok ht hi (ρ:=fun x=>bN (ρ x)) h)
   ·exact h.elim
  ·exact h.elim
 ·exact h.elim
theorem FA(ok:dz P TT){op:Op}{ρ:Operand→AV}{σ:Hp}{K:AV→Prop}(h:fy P TT op ρ σ K):∃v,K v∧DK P op ρ σ v:=by
 cases hb:LF op with
 |true=>
  obtain⟨v,h1,h2⟩:=QF ok hb h
  exact⟨v,h1,h2.afn σ⟩
 |false=>
  cases op with
  |load t a=>
   have h:(match TT t with | some i=>p7 i (ρ a) σ K | none=>False):=h
   split at h
   ·rename_i i hi;exact XB ok hi h
   ·exact h.elim
  |lookup t m k c=>exact Wb ok h
  |_=>cases hb
end
end Go.Proofs.YtnikdflhefijbaaGreat
