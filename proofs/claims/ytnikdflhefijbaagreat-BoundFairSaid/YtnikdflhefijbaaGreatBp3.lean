import Derived.ChangeKeysEq
import Derived.Deep.MidRow
import Derived.Laws.Pointers
import Derived.Laws.Small
import Derived.Laws.StructEq
import Derived.Test.YtnikdflhefijbaaGreatBp2
import Derived.OrdersHeld
import Derived.OrdersIn
import Derived.RangeFuncRecord
import Derived.TacticsIn
namespace Go.Proofs.YtnikdflhefijbaaGreat
open Go.RowKit
def TK.fits:TypeDesc→TK→Bool
 |.int k,.int k'=>decide (k=k')
 |.bool,.bool=>true
 |.string,.str=>true
 |.slice e,.slice e'=>decide (e=e')
 |.pointer e,.ptr e'=>decide (e=e')
 |.struct fs,.aV l=>decide (fs.toList.map (fun f=>(f.offset,f.type))=l)
 |.array n e,.arr n' e'=>decide (n=n')&&decide (e=e')
 |.interface _,.iface=>true
 |.func _ _ _,.func=>true
 |.map k e,.map k' e'=>decide (k=k')&&decide (e=e')
 |.float .f64,.gk=>true
 |.complex .f64,.fR=>true
 |_,_=>false
def AV.isVal:AV→Value→Bool
 |.int k n,.int k' n'=>decide (k=k')&&decide (n=n')
 |.bool b,.bool b'=>b == b'
 |.str s,.string s'=>decide (s.size=0)&&decide (s'.size=0)
 |.cN,.pointer none=>true
 |.aj,.slice none 0 0=>true
 |.nilif,.nilIface=>true
 |.iH,.nilFunc=>true
 |.pK,.map none=>true
 |.gk n,.float .f64 b=>decide (n=0)&&decide (b=0)
 |.fR n m,.complex .f64 a b=>decide (n=0∧m=0)&&decide (a=0∧b=0)
 |_,_=>false
def qj:List AV→List Value→Bool
 | [],[]=>true
 |x::xs,v::vs=>x.isVal v&&qj xs vs
 |_,_=>false
def Vh:Value→Bool
 |.agg _=>true
 |_=>false
def Is(P:Program)(t:TypeId)(i:TI):Bool:=
 match P.info? t,P.underlying t with
 |some j,some d=>decide (j.size=i.size)&&(decide (j.bytes=i.bytes∧i.zero.length=i.size)&&(TK.fits d i.k&&(match j.zero with | some z=>qj i.zero z.cells.toList&&(i.wide||!Vh z) | none=>false)))
 |_,_=>false
def dD(P:Program)(TT:TypeId→Option TI):Prop:=∀t i,TT t=some i→Is P t i=true
def VR(P:Program)(TT:TypeId→Option TI)(n:Nat):Bool:=(List.range n).all fun t=>match TT t with | some i=>Is P t i | none=>true
theorem adl{P:Program}{TT:TypeId→Option TI}{n:Nat}(h:VR P TT n=true)(ho:∀t,n≤t→TT t=none):dD P TT:=by
 intro t i hi
 by_cases ht:t<n
 ·have:=fp.1 h t (fA.2 ht)
  rw[hi]at this
  exact this
 ·rw[ho t (Nat.le_of_not_lt ht)]at hi
  cases hi
theorem dp{P:Program}{TT:TypeId→Option TI}(ok:dD P TT){t:TypeId}{i:TI}(h:TT t=some i):
  ∃j d z,P.info? t=some j∧P.underlying t=some d∧j.size=i.size∧(j.bytes=i.bytes∧i.zero.length=i.size)∧TK.fits d i.k=true∧j.zero=some z∧qj i.zero z.cells.toList=true:=by
 have h1:=ok t i h
 unfold Is at h1
 split at h1
 ·rename_i j d hj hd
  simp only[bL,decide_eq_true_eq]at h1
  obtain⟨h2,h3,h4,h5⟩:=h1
  split at h5
  ·rename_i z hz
   simp only[bL]at h5
   exact⟨j,d,z,hj,hd,h2,h3,h4,hz,h5.1⟩
  ·cases h5
 ·cases h1
theorem TW{P:Program}{TT:TypeId→Option TI}(ok:dD P TT){t:TypeId}{i:TI}(h:TT t=some i)(hw:i.wide=false):∃j z,P.info? t=some j∧j.zero=some z∧Vh z=false:=by
 have h1:=ok t i h
 unfold Is at h1
 split at h1
 ·rename_i j d hj hd
  simp only[bL,decide_eq_true_eq]at h1
  obtain⟨h2,h3,h4,h5⟩:=h1
  split at h5
  ·rename_i z hz
   simp only[bL,oW,hw,lS,false_or,jq]at h5
   exact⟨j,z,hj,hz,h5.2⟩
  ·cases h5
 ·cases h1
theorem fits_int{d:TypeDesc}{k:IntKind}(h:TK.fits d (.int k)=true):d=.int k:=by cases d <;> simp_all [TK.fits]
theorem fits_bool{d:TypeDesc}(h:TK.fits d .bool=true):d=.bool:=by cases d <;> simp_all [TK.fits]
theorem jX{d:TypeDesc}{e:TypeId}(h:TK.fits d (.slice e)=true):d=.slice e:=by cases d <;> simp_all [TK.fits]
theorem ack{d:TypeDesc}{k e:TypeId}(h:TK.fits d (.map k e)=true):d=.map k e:=by cases d <;> simp_all [TK.fits]
theorem Ha{d:TypeDesc}{e:TypeId}(h:TK.fits d (.ptr e)=true):d=.pointer e:=by cases d <;> simp_all [TK.fits]
theorem KL{d:TypeDesc}{l:List (Nat×TypeId)}(h:TK.fits d (.aV l)=true):∃fs,d=.struct fs∧fs.toList.map (fun f=>(f.offset,f.type))=l:=by cases d <;> simp_all [TK.fits]
theorem Tq{d:TypeDesc}{n:Nat}{e:TypeId}(h:TK.fits d (.arr n e)=true):d=.array n e:=by cases d <;> simp_all [TK.fits]
theorem QW{d:TypeDesc}(h:TK.fits d .iface=true):∃m,d=.interface m:=by cases d <;> simp_all [TK.fits]
theorem RX{d:TypeDesc}(h:TK.fits d .func=true):∃a b c,d=.func a b c:=by cases d <;> simp_all [TK.fits]
theorem acm{d:TypeDesc}(h:TK.fits d .gk=true):d=.float .f64:=by
 unfold TK.fits at h
 split at h <;> simp_all
theorem RW{d:TypeDesc}{i:TI}(h:TK.fits d i.k=true):d.isRow=i.wide:=by
 unfold TI.wide
 cases hk:i.k <;> rw[hk]at h <;> cases d <;> first | rfl | simp[TK.fits]at h
theorem aab{F:Nat→Prop}{w:World}{x:AV}{v:Value}(h:x.isVal v=true):ax F w x v∧x.leaf=true:=by
 unfold AV.isVal at h
 split at h
 ·simp only[bL,decide_eq_true_eq]at h;obtain⟨rfl,rfl⟩:=h;exact⟨.int _ _,rfl⟩
 ·simp only[beq_iff_eq]at h;subst h;exact⟨.bool _,rfl⟩
 ·rename_i s s'
  simp only[bL,decide_eq_true_eq]at h
  obtain⟨h1,h2⟩:=h
  have:s=s':=by
   apply ByteArray.ext
   apply Array.ext
   ·exact h1.trans h2.symm
   ·intro i hi _;have:i<s.size:=hi;omega
  subst this
  exact⟨.str _,rfl⟩
 ·exact⟨.cN,rfl⟩
 ·exact⟨.aj,rfl⟩
 ·exact⟨.nilif,rfl⟩
 ·exact⟨.iH,rfl⟩
 ·exact⟨.pK,rfl⟩
 ·simp only[bL,decide_eq_true_eq]at h;obtain⟨rfl,rfl⟩:=h;exact⟨.gk _ _ LB,rfl⟩
 ·simp only[bL,decide_eq_true_eq]at h;obtain⟨⟨rfl,rfl⟩,rfl,rfl⟩:=h;exact⟨.fR _ _ _ _ LB LB,rfl⟩
 ·cases h
theorem Rb{F:Nat→Prop}{w:World}:∀{xs:List AV} {vs:List Value},qj xs vs=true→xs.length=vs.length∧∀i x,xs[i]?=some x→ax F w x (vs.getD i undef)∧x.leaf=true
 | [],[],_=>⟨rfl,fun i x h=>by simp at h⟩
 |x::xs,v::vs,h=>by
  simp only[qj,bL]at h
  obtain⟨h1,h2⟩:=Rb (F:=F) (w:=w) h.2
  refine⟨by simp[h1],fun i y hi=>?_⟩
  cases i with
  |zero=>simp at hi;subst hi;simpa using aab h.1
  |succ i=>simpa using h2 i y (by simpa using hi)
 | [],_::_,h=>by simp[qj]at h
 |_::_,[],h=>by simp[qj]at h
theorem bh.refl(F:Nat→Prop)(w:World):bh F w F w:=⟨rfl,rfl,rfl,aM _,fun _ h=>h,fun _ _=>rfl,fun _ c _ fz h=>⟨c,fz,h,rfl⟩,aM _⟩
theorem bh.trans{F F' nZ:Nat→Prop}{w w' mf:World}(h:bh F w F' w')(k:bh F' w' nZ mf):bh F w nZ mf:=
 ⟨k.os.trans h.os,k.tape.trans h.tape,k.output.trans h.output,fy h.size k.size,fun b hb=>k.sub b (h.sub b hb),fun b hb=>(k.fix b (h.sub b hb)).trans (h.fix b hb),
  fun b c T fz hb=>by
   obtain⟨c',sf,h1,h2⟩:=h.rows b c T fz hb
   obtain⟨c'',ai2,h3,h4⟩:=k.rows b c' T sf h1
   exact⟨c'',ai2,h3,h4.trans h2⟩,fy h.drawn k.drawn⟩
theorem LM{w w':World}{b:Nat}(h:w'.heap[b]?=w.heap[b]?)(o:Nat):w'.cell? ⟨b,o,none⟩=w.cell? ⟨b,o,none⟩:=World.cell?_of_block (w:=w) (a:=⟨b,o,none⟩) h
theorem wh.fix{w w':World}{b o:Nat}{cs:List Value}(h:wh w b o cs)(hb:w'.heap[b]?=w.heap[b]?):wh w' b o cs:=fun j u hu=>(LM hb _).trans (h j u hu)
theorem oc.mono{F F':Nat→Prop}{w w':World}(ao:bh F w F' w'){b:Nat}(h:oc w b):oc w' b:=by
 obtain⟨c,T,fz,h⟩:=h
 obtain⟨c',sf,h',_⟩:=ao.rows b c T fz h
 exact⟨c',T,sf,h'⟩
theorem FC.mono{F F':Nat→Prop}{w w':World}(ao:bh F w F' w'){b:Nat}(h:FC F w b):FC F' w' b:=⟨ao.sub b h.1,h.2.mono ao⟩
theorem kP.mono{F F':Nat→Prop}{w w':World}(ao:bh F w F' w'):∀(s:Sh) (cs:List Value) (d:s.T),kP F w s cs d→kP F' w' s cs d:=by
 intro s
 induction s with
 |int k=>exact fun _ _ h=>h
 |bool=>exact fun _ _ h=>h
 |str=>exact fun _ _ h=>h
 |nil=>exact fun _ _ h=>h
 |slice e ih=>
  rintro cs l ⟨a,c,h1,h2,h3,h0,h4⟩
  refine⟨a,c,h1,h2,h3,h0,fun aO=>?_⟩
  obtain⟨b,o,rfl,hF,hi⟩:=h4 aO
  refine⟨b,o,rfl,hF.mono ao,fun i h=>?_⟩
  obtain⟨cs',q1,q2,q3⟩:=hi i h
  exact⟨cs',q1,q2.fix (ao.fix b hF.1),ih _ _ q3⟩
 |field f r qJ jS=>
  rintro cs d ⟨c1,c2,h1,h2,h3,h4⟩
  exact⟨c1,c2,h1,h2,qJ _ _ h3,jS _ _ h4⟩
theorem EK.mono{F F':Nat→Prop}{w w':World}(ao:bh F w F' w'){b off len e:Nat}{a:Addr}{cap:Nat}(h:EK w b off len e a cap):EK w' b off len e a cap:=by
 obtain⟨c,T,fz,h1,h2,h3,h4⟩:=h
 obtain⟨c',sf,h5,h6⟩:=ao.rows b c T fz h1
 exact⟨c',T,sf,h5,h2,h3,by rw[h6];exact h4⟩
theorem ax.mono{F F':Nat→Prop}{w w':World}(ao:bh F w F' w'){x:AV}{v:Value}(h:ax F w x v):ax F' w' x v:=by
 induction h with
 |int k n=>exact .int k n
 |bool b=>exact .bool b
 |str s=>exact .str s
 |ai e l v h=>exact .ai e l v (kP.mono ao _ _ _ h)
 |kv a=>exact .kv a
 |gz a c h=>exact .gz a c h
 |aj=>exact .aj
 |ae b off len e a cap h=>exact .ae b off len e a cap (h.mono ao)
 |cN=>exact .cN
 |ptr b off h=>exact .ptr b off (h.mono ao)
 |nz b=>exact .nz b
 |nJ b=>exact .nJ b
 |fV cs b o f hF h1 hl h ih=>exact .fV cs b o f (hF.mono ao) (fun i x hx=>(LM (ao.fix b hF.1) _).trans (h1 i x hx)) hl ih
 |agg cs vs hs hl h ih=>exact .agg cs vs hs hl ih
 |tup cs vs hs h ih=>exact .tup cs vs hs ih
 |iface t a v h ih=>exact .iface t a v ih
 |nilif=>exact .nilif
 |fn f c1 c2 v1 v2 fh gy h1 h2 EV EU=>exact .fn f c1 c2 v1 v2 fh gy EV EU
 |iH=>exact .iH
 |pK=>exact .pK
 |gk n b h=>exact .gk n b h
 |fR n m a b h1 h2=>exact .fR n m a b h1 h2
 |any v=>exact .any v
 |via x v hl h ih=>exact .via x v hl ih
theorem ax.bJ{F:Nat→Prop}{w:World}{x:AV}{v:Value}(h:ax F w x v):ax F w (Go.Proofs.YtnikdflhefijbaaGreat.bJ x) v:=by
 cases h with
 |via x v hl h=>exact h
 |int k n=>exact .int k n
 |bool b=>exact .bool b
 |str s=>exact .str s
 |ai e l v h=>exact .ai e l v h
 |kv a=>exact .kv a
 |gz a c h=>exact .gz a c h
 |aj=>exact .aj
 |ae b off len e a cap h=>exact .ae b off len e a cap h
 |cN=>exact .cN
 |ptr b off h=>exact .ptr b off h
 |nz b=>exact .nz b
 |nJ b=>exact .nJ b
 |fV cs b o f hF h1 hl h=>exact .fV cs b o f hF h1 hl h
 |agg cs vs hs hl h=>exact .agg cs vs hs hl h
 |tup cs vs hs h=>exact .tup cs vs hs h
 |iface t a v h=>exact .iface t a v h
 |nilif=>exact .nilif
 |fn f c1 c2 v1 v2 fh gy h1 h2=>exact .fn f c1 c2 v1 v2 fh gy h1 h2
 |iH=>exact .iH
 |pK=>exact .pK
 |gk n b h=>exact .gk n b h
 |fR n m a b h1 h2=>exact .fR n m a b h1 h2
 |any v=>exact .any v
theorem jb.mono{F F':Nat→Prop}{w w':World}(ao:bh F w F' w'){xs:List AV}{vs:Array Value}(h:jb F w xs vs):jb F' w' xs vs:=⟨h.1,fun i x hx=>(h.2 i x hx).mono ao⟩
theorem ax.one{F:Nat→Prop}{w:World}{x:AV}{v:Value}(h:ax F w x v)(hl:x.leaf=true):v.oneCell'=true:=by
 induction h with
 |ai e l v h=>
  obtain⟨a,c,h1,_⟩:=h
  obtain rfl:=J5.1 h1
  rfl
 |agg=>cases hl
 |tup=>cases hl
 |any=>cases hl
 |via x v h1 h ih=>exact ih h1
 |_=>rfl
theorem ax.ED{F:Nat→Prop}{w:World}{e:Sh}{l:List e.T}{v:Value}(h:ax F w (.ai e l) v):∃a c,v=.slice a l.length c∧l.length≤c∧c≤maxLen∧
   (l≠[]→∃b o,a=some ⟨b,o,none⟩∧FC F w b∧∀i,(h:i<l.length)→∃cs',cs'.length=e.size∧wh w b (o+i*e.size) cs'∧kP F w e cs' l[i]):=by
 cases h with
 |ai e l v h=>
  obtain⟨a,c,h1,h2,h3,_,h4⟩:=h
  exact⟨a,c,J5.1 h1,h2,h3,h4⟩
theorem ax.ai3{F:Nat→Prop}{w:World}{e:Sh}{l:List e.T}{v:Value}(h:ax F w (.ai e l) v){a:Option Addr}{n c:Nat}(hv:v=.slice a n c):a=none→c=0:=by
 cases h with
 |ai e l v h=>
  obtain⟨a',c',h1,h2,h3,h4,_⟩:=h
  have:=J5.1 h1
  rw[hv]at this
  cases this
  exact h4
theorem kP.cells{F:Nat→Prop}{w:World}:∀(s:Sh) (cs:List Value) (d:s.T),kP F w s cs d→(s.cells d).length=cs.length∧∀i x,(s.cells d)[i]?=some x→x.leaf=true∧ax F w x (cs.getD i undef):=by
 intro s
 induction s with
 |int k=>rintro cs d h;obtain rfl:cs=[.int k d]:=h;exact⟨rfl,fun i x hx=>by cases i <;> simp[Sh.cells]at hx;subst hx;exact⟨rfl,.int _ _⟩⟩
 |bool=>rintro cs d h;obtain rfl:cs=[.bool d]:=h;exact⟨rfl,fun i x hx=>by cases i <;> simp[Sh.cells]at hx;subst hx;exact⟨rfl,.bool _⟩⟩
 |str=>rintro cs d h;obtain rfl:cs=[.string d]:=h;exact⟨rfl,fun i x hx=>by cases i <;> simp[Sh.cells]at hx;subst hx;exact⟨rfl,.str _⟩⟩
 |nil=>rintro cs d h;obtain rfl:cs=[]:=h;exact⟨rfl,fun i x hx=>by simp[Sh.cells]at hx⟩
 |slice e ih=>
  rintro cs l h
  have h':=h
  obtain⟨a,c,rfl,_⟩:=h'
  exact⟨rfl,fun i x hx=>by cases i <;> simp[Sh.cells]at hx;subst hx;exact⟨rfl,.ai e l _ h⟩⟩
 |field f r qJ jS=>
  rintro cs d ⟨c1,c2,rfl,h2,h3,h4⟩
  obtain⟨a1,a2⟩:=qJ _ _ h3
  obtain⟨b1,b2⟩:=jS _ _ h4
  refine⟨by simp[Sh.cells,a1,b1],fun i x hx=>?_⟩
  simp only[Sh.cells]at hx
  by_cases hi:i<(f.cells d.1).length
  ·rw[jG hi]at hx
   have:=a2 i x hx
   rw[aR,jG (by omega),← aR]
   exact this
  ·rw[ij (by omega)]at hx
   have:=b2 _ x hx
   rw[aR,ij (by omega),← aR,← a1]
   exact this
theorem Sh.uZ(s:Sh)(d:s.T):(s.cells d).length=s.size:=by
 induction s with
 |field f r qJ jS=>simp[Sh.cells,Sh.size,qJ,jS]
 |_=>rfl
def At(F:Nat→Prop)(w:World)(b o:Nat)(cs:List AV):Prop:=∀(i:Nat) (x:AV),cs[i]?=some x→x.leaf=true∧∃v,w.cell? ⟨b,o+i,none⟩=some v∧ax F w x v
theorem GH{x:AV}{o:Obj}(h:xS x=some o):x.leaf=false:=by cases x <;> first | rfl | simp[xS]at h
theorem QN{x:AV}{c:Array Value}{T:TypeId}{fz:Nat×Nat}(h:xS x=some (.cells c T fz)):False:=by cases x <;> simp[xS]at h
theorem Holds.cells{F:Nat→Prop}{w:World}{b:Nat}{cs:List AV}(h:Holds F w b cs)(hc:oc w b):¬F b∧DM F w b cs:=by
 obtain⟨hF,h | ⟨x,o,_,h,hx⟩ | ⟨L,t,_,h,_⟩⟩:=h
 ·exact⟨hF,h⟩
 ·obtain⟨c,T,fz,h'⟩:=hc
  rw[h]at h';cases h'
  cases QN hx
 ·obtain⟨c,T,fz,h'⟩:=hc
  rw[h]at h';cases h'
theorem Holds.M9{F:Nat→Prop}{w:World}{b k:Nat}{cs:List AV}{x:AV}(h:Holds F w b cs)(hk:cs[k]?=some x)(hx:x.leaf=true):¬F b∧DM F w b cs:=by
 obtain⟨hF,h | ⟨y,o,rfl,h,hy⟩ | ⟨L,t,rfl,h,_⟩⟩:=h
 ·exact⟨hF,h⟩
 ·cases k with
  |zero=>simp at hk;subst hk;rw[GH hy]at hx;cases hx
  |succ k=>simp at hk
 ·cases k with
  |zero=>simp at hk;subst hk;cases hx
  |succ k=>simp at hk
theorem ax.Ax{F:Nat→Prop}{w:World}{b o:Nat}{v:Value}(h:ax F w (.ptr b o) v):oc w b:=by cases h;assumption
theorem Holds.at_{F:Nat→Prop}{w:World}{b:Nat}{cs:List AV}(h0:Holds F w b cs)(hc:oc w b):At F w b 0 cs:=by
 obtain⟨_,c,T,h1,h2,h3⟩:=h0.cells hc
 intro i x hx
 have hi:i<cs.length:=(bQ.1 hx).1
 obtain⟨h4,h5⟩:=h3 i x hx
 refine⟨h4,c.getD i undef,?_,h5⟩
 rw[dK,HA h1]
 have:i<c.size:=by omega
 simp[Array.getD,this]
theorem At.drop{F:Nat→Prop}{w:World}{b o:Nat}{cs:List AV}(h:At F w b o cs)(k:Nat):At F w b (o+k) (cs.drop k):=by
 intro i x hx
 rw[wV]at hx
 obtain⟨h1,v,h2,h3⟩:=h (k+i) x hx
 exact⟨h1,v,by rw[← h2,Ci],h3⟩
theorem At.Un{F:Nat→Prop}{w:World}{b o:Nat}(s:Sh){cs:List Value}{d:s.T}(h:wh w b o cs)(hr:kP F w s cs d):At F w b o (s.cells d):=by
 obtain⟨h1,h2⟩:=kP.cells s cs d hr
 intro i x hx
 obtain⟨h3,h4⟩:=h2 i x hx
 have hi:i<cs.length:=by rw[← h1];exact (bQ.1 hx).1
 exact⟨h3,_,h i _ (by rw[List.getElem?_eq_getElem hi]),by simpa [List.getD,hi]using h4⟩
theorem At.fV{F:Nat→Prop}{w:World}{b o:Nat}{cs:List AV}(h:At F w b o cs)(hF:FC F w b):ax F w (.fV cs) (.pointer (some ⟨b,o,none⟩)):=by
 refine .fV cs b o (fun i=>(w.cell? ⟨b,o+i,none⟩).getD undef) hF (fun i x hx=>?_) (fun i x hx=>(h i x hx).1) (fun i x hx=>?_)
 ·obtain⟨_,v,h2,_⟩:=h i x hx;rw[h2];rfl
 ·obtain⟨_,v,h2,h3⟩:=h i x hx;rw[h2];exact h3
theorem ax.y8{F:Nat→Prop}{w:World}{cs:List AV}{v:Value}(h:ax F w (.fV cs) v):∃b o,v=.pointer (some ⟨b,o,none⟩)∧FC F w b∧At F w b o cs:=by
 cases h with
 |fV cs b o f hF h1 hl h=>exact⟨b,o,rfl,hF,fun i x hx=>⟨hl i x hx,f i,h1 i x hx,h i x hx⟩⟩
section
variable {P:Program} {TT:TypeId→Option TI} {F:Nat→Prop} {w:World}
theorem KZ{t:TypeId}{d:TypeDesc}(h:P.underlying t=some d)(w:World):(isAgg t).run P w=.ok d.isRow w:=by
 unfold isAgg
 rw[Sem.run_bind,run_underlying h w]
 cases d <;> rfl
theorem run_sizeOf{t:TypeId}{j:TypeInfo}(h:P.info? t=some j)(w:World):(sizeOf t).run P w=.ok j.size w:=by simp[sizeOf,typeInfo,h]
theorem Gp(ok:dD P TT){t:TypeId}{i:TI}(ht:TT t=some i){b o:Nat}{cs:List AV}(h:At F w b o cs){k:Nat}{v:AV}(hv:dP i cs k=some v):
  ∃v',(loadVar t ⟨b,o+k,none⟩).run P w=.ok v' w∧ax F w v v':=by
 obtain⟨j,d,z,hj,hd,hs,hb,hf,hz,ib⟩:=dp ok ht
 have hw:=RW hf
 unfold dP at hv
 split at hv
 ·rename_i zn
  split at hv
  ·rename_i hle
   have hle:=cT hle
   simp only[Option.some.injEq]at hv
   subst hv
   have hc:∀m,m<i.size→∃x,cs[k+m]?=some x∧x.leaf=true∧∃v,w.cell? ⟨b,o+k+m,none⟩=some v∧ax F w x v:=by
    intro m hm
    have hk:k+m<cs.length:=by omega
    obtain⟨h1,v,h2,h3⟩:=h (k+m) cs[k+m] (by simp[hk])
    exact⟨_,by simp[hk],h1,v,by rw[← h2,Nat.add_assoc],h3⟩
   have hr:w.rangeAt b (o+k) ((List.range i.size).map fun m=>(w.cell? ⟨b,o+k+m,none⟩).getD undef):=by
    intro m v hm
    have hmi:m<i.size:=by have:=(List.getElem?_eq_some_iff.1 hm).1;simpa using this
    obtain⟨x,_,_,v',h2,_⟩:=hc m hmi
    simp[hmi]at hm
    rw[h2]at hm ⊢
    simpa using hm
   refine⟨_,run_loadVar_mid (P:=P) w b (o+k) t _ d hr hd (by rw[hw,zn]) (by simp[hj,hs]),?_⟩
   refine .agg _ _ (by simp;omega) (fun m x hx=>?_) (fun m x hx=>?_)
   ·rw[nV]at hx
    split at hx
    ·rename_i hm
     obtain⟨x',h1,h2,_⟩:=hc m hm
     rw[wV,h1]at hx
     cases hx
     exact h2
    ·cases hx
   ·rw[nV]at hx
    split at hx
    ·rename_i hm
     obtain⟨x',h1,_,v,h2,h3⟩:=hc m hm
     rw[wV,h1]at hx
     cases hx
     simpa [hm,h2]using h3
    ·cases hx
  ·cases hv
 ·rename_i zn
  obtain⟨_,v',h2,h3⟩:=h k v hv
  refine⟨v',?_,h3⟩
  unfold loadVar
  rw[Sem.run_bind,KZ hd]
  simp[hw,zn,h2]
def EJ(P:Program)(op:Op)(ρ:Operand→AV)(σ:Hp)(v:AV):Prop:=
 ∀(η:Operand→Value) (F:Nat→Prop) (w:World) (o:Oper),o.op=op→(∀x∈op.operands.toList,ax F w (ρ x) (η x))→aX F w σ→∃v',(execOp η o).run P w=.ok (.value v') w∧ax F w v v'
def fe(P:Program)(op:Op)(ρ:Operand→AV)(v:AV):Prop:=
 ∀(η:Operand→Value) (F:Nat→Prop) (w:World) (o:Oper),o.op=op→(∀x∈op.operands.toList,ax F w (ρ x) (η x))→∃v',(∀w',(execOp η o).run P w'=.ok (.value v') w')∧ax F w v v'
theorem fe.bJ{P:Program}{op:Op}{ρ:Operand→AV}{v:AV}(h:fe P op (fun x=>Go.Proofs.YtnikdflhefijbaaGreat.bJ (ρ x)) v):fe P op ρ v:=fun η F w o ho hx=>h η F w o ho (fun x hm=>(hx x hm).bJ)
theorem Cu{P:Program}{op:Op}{ρ:Operand→AV}{K:AV→Prop}(h:∃v,K v∧fe P op (fun x=>Go.Proofs.YtnikdflhefijbaaGreat.bJ (ρ x)) v):∃v,K v∧fe P op ρ v:=by
 obtain⟨v,h1,h2⟩:=h
 exact⟨v,h1,h2.bJ⟩
theorem fe.ahp{P:Program}{op:Op}{ρ:Operand→AV}{v:AV}(h:fe P op ρ v)(σ:Hp):EJ P op ρ σ v:=fun η F w o ho hx _=>by
 obtain⟨v',h1,h2⟩:=h η F w o ho hx
 exact⟨v',h1 w,h2⟩
theorem aX.at_{F:Nat→Prop}{w:World}{σ:Hp}(h:aX F w σ){j b:Nat}{cs:List AV}(hj:σ[j]?=some (b,cs))(hc:oc w b):At F w b 0 cs:=(h.holds (b,cs) (bH hj)).at_ hc
theorem ZG{x:Operand}{ρ:Operand→AV}:fe P (.move x) ρ (ρ x):=fun η F w o ho hx=>⟨η x,fun _=>by simp[execOp,ho],hx x (by simp[Op.operands])⟩
theorem XS{x:Operand}{ρ:Operand→AV}:fe P (.assign x) ρ (ρ x):=fun η F w o ho hx=>⟨η x,fun _=>by simp[execOp,ho],hx x (by simp[Op.operands])⟩
theorem ax.rC{b:Bool}{v:Value}(h:ax F w (.bool b) v):v=.bool b:=by cases h;rfl
theorem ax.gu{k:IntKind}{n:Int}{v:Value}(h:ax F w (.int k n) v):v=.int k n:=by cases h;rfl
theorem ax.IH{n:Int}{v:Value}(h:ax F w (.gk n) v):∃b,v=.float .f64 b∧jv b n:=by cases h with | gk n b h=>exact⟨b,rfl,h⟩
theorem ax.IL{n m:Int}{v:Value}(h:ax F w (.fR n m) v):∃a b,v=.complex .f64 a b∧jv a n∧jv b m:=by cases h with | fR n m a b h1 h2=>exact⟨a,b,rfl,h1,h2⟩
theorem ax.Ef{s:ByteArray}{v:Value}(h:ax F w (.str s) v):v=.string s:=by cases h;rfl
theorem ax.zu{b o:Nat}{v:Value}(h:ax F w (.ptr b o) v):v=.pointer (some ⟨b,o,none⟩):=by cases h;rfl
theorem ax.lD{b off len e:Nat}{v:Value}(h:ax F w (.ae b off len e) v):∃a cap,v=.slice (some a) len cap∧EK w b off len e a cap:=by cases h with | ae _ _ _ _ a cap h=>exact⟨a,cap,rfl,h⟩
theorem ax.v7{cs:List AV}{v:Value}(h:ax F w (.agg cs) v):∃vs,v=.agg vs∧cs.length=vs.size∧(∀(i:Nat) (x:AV),cs[i]?=some x→x.leaf=true∧ax F w x (vs.getD i undef)):=by
 cases h with | agg cs vs hs hl h=>exact⟨vs,rfl,hs,fun i x hx=>⟨hl i x hx,h i x hx⟩⟩
theorem ZF{c a b:Operand}{ρ:Operand→AV}{x:Bool}(h:ρ c=.bool x):fe P (.pick c a b) ρ (if x then ρ a else ρ b):=by
 intro η F w o ho hx
 have hc:=hx c (by simp[Op.operands])
 have ha:=hx a (by simp[Op.operands])
 have hb:=hx b (by simp[Op.operands])
 rw[h]at hc
 have hc:=hc.rC
 cases x
 ·exact⟨η b,fun _=>by simp[execOp,ho,hc,asBool],hb⟩
 ·exact⟨η a,fun _=>by simp[execOp,ho,hc,asBool],ha⟩
theorem YS(ok:dD P TT){t:TypeId}{a:Operand}{ρ:Operand→AV}{σ:Hp}{K:AV→Prop}{i:TI}(ht:TT t=some i)(h:qo i (ρ a) σ K):∃v,K v∧EJ P (.load t a) ρ σ v:=by
 unfold qo at h
 split at h
 ·rename_i cs kH
  split at h
  ·rename_i v hv
   refine⟨v,h,fun η F w o ho hx _=>?_⟩
   have ha:=hx a (by simp[Op.operands])
   rw[kH]at ha
   obtain⟨b,o',e,hF,dX⟩:=ha.y8
   obtain⟨v',h1,h2⟩:=Gp ok ht dX hv
   rw[uN]at h1
   exact⟨v',by simp[execOp,ho,e,Instr.loadAt,Instr.sureAddr,h1],h2⟩
  ·exact h.elim
 ·rename_i b o' kH
  obtain⟨j,cs,v,h1,h2,go⟩:=h
  refine⟨v,go,fun η F w o ho hx aC =>?_⟩
  have ha:=hx a (by simp[Op.operands])
  rw[kH]at ha
  obtain⟨v',h3,h4⟩:=Gp ok ht (aC.at_ h1 ha.Ax) h2
  rw[dK]at h3
  exact⟨v',by simp[execOp,ho,ha.zu,Instr.loadAt,Instr.sureAddr,h3],h4⟩
 ·exact h.elim
end
section
variable {P:Program} {TT:TypeId→Option TI}
theorem H6{op:Op}{ρ:Operand→AV}{b o:Nat}{u:Value}(h0:u=.pointer (some ⟨b,o,none⟩))(h:∀(η:Operand→Value) (F:Nat→Prop) (w:World) (o:Oper),o.op=op→(∀x∈op.operands.toList,ax F w (ρ x) (η x))→oc w b∧∀w',(execOp η o).run P w'=.ok (.value u) w'):fe P op ρ (.ptr b o):=fun η F w o ho hx=>by
 obtain⟨h1,h2⟩:=h η F w o ho hx
 exact⟨u,h2,h0▸.ptr _ _ h1⟩
theorem ng{op:Op}{ρ:Operand→AV}{v:AV}{u:Value}(hu:∀F w,ax F w v u)(h:∀(η:Operand→Value) (F:Nat→Prop) (w:World) (o:Oper),o.op=op→(∀x∈op.operands.toList,ax F w (ρ x) (η x))→∀w',(execOp η o).run P w'=.ok (.value u) w'):fe P op ρ v:=
 fun η F w o ho hx=>⟨u,h η F w o ho hx,hu F w⟩
theorem ri{b:Bool}{K:AV→Prop}(h:oK b K):K (.bool b):=by cases b <;> exact h
theorem YW{op:BinOp}{k:IntKind}{a b:Int}{K:AV→Prop}(lP:op≠.shl∧op≠.shr)(h:Iz op k a b K):
  ∃v u,K v∧(∀F w,ax F w v u)∧∀(t:TypeId) (w:World),(binOp op t (.int k a) (.int k b)).run P w=.ok u w:=by
 cases op <;> simp only[Iz]at h
 case add=>exact⟨_,_,h,fun _ _=>.int _ _,fun t w=>by simp[binOp,Op.intArith]⟩
 case sub=>exact⟨_,_,h,fun _ _=>.int _ _,fun t w=>by simp[binOp,Op.intArith]⟩
 case mul=>exact⟨_,_,h,fun _ _=>.int _ _,fun t w=>by simp[binOp,Op.intArith]⟩
 case quo=>exact⟨_,_,h.go,fun _ _=>.int _ _,fun t w=>by simp[binOp,Op.intDiv,h.fact]⟩
 case rem=>exact⟨_,_,h.go,fun _ _=>.int _ _,fun t w=>by simp[binOp,Op.intDiv,h.fact]⟩
 case and=>exact⟨_,_,h,fun _ _=>.int _ _,fun t w=>by rw[show binOp .and t (.int k a) (.int k b)=Op.intBits .and k a b by simp[binOp]];rfl⟩
 case or=>exact⟨_,_,h,fun _ _=>.int _ _,fun t w=>by rw[show binOp .or t (.int k a) (.int k b)=Op.intBits .or k a b by simp[binOp]];rfl⟩
 case xor=>exact⟨_,_,h,fun _ _=>.int _ _,fun t w=>by rw[show binOp .xor t (.int k a) (.int k b)=Op.intBits .xor k a b by simp[binOp]];rfl⟩
 case andNot=>exact⟨_,_,h,fun _ _=>.int _ _,fun t w=>by rw[show binOp .andNot t (.int k a) (.int k b)=Op.intBits .andNot k a b by simp[binOp]];rfl⟩
 case eql=>exact⟨_,_,ri h,fun _ _=>.bool _,fun t w=>by simp[binOp,Op.intCmp];exact Bool.beq_eq_decide_eq _ _⟩
 case neq=>exact⟨_,_,ri h,fun _ _=>.bool _,fun t w=>by simp[binOp,Op.intCmp,bne,Bool.beq_eq_decide_eq]⟩
 case lss=>exact⟨_,_,ri h,fun _ _=>.bool _,fun t w=>by simp[binOp,Op.intCmp]⟩
 case leq=>exact⟨_,_,ri h,fun _ _=>.bool _,fun t w=>by simp[binOp,Op.intCmp]⟩
 case gtr=>exact⟨_,_,ri h,fun _ _=>.bool _,fun t w=>by simp[binOp,Op.intCmp]⟩
 case geq=>exact⟨_,_,ri h,fun _ _=>.bool _,fun t w=>by simp[binOp,Op.intCmp]⟩
theorem PR{op:BinOp}{k yk:IntKind}{a b:Int}{K:AV→Prop}(h:HG op k a b K):
  ∃v u,K v∧(∀F w,ax F w v u)∧∀(t:TypeId) (w:World),(binOp op t (.int k a) (.int yk b)).run P w=.ok u w:=by
 cases op <;> simp only[HG]at h
 case shl=>exact⟨_,_,h.go,fun _ _=>.int _ _,fun t w=>by have:=h.fact;simp[binOp,Op.shift,show ¬b<0 by omega]⟩
 case shr=>exact⟨_,_,h.go,fun _ _=>.int _ _,fun t w=>by have:=h.fact;simp[binOp,Op.shift,show ¬b<0 by omega]⟩
theorem w7{op:BinOp}{t:TypeId}{x y:Operand}{a b:Value}(h:(∀u,a≠.agg u)∧(a≠.nilIface∨b≠.nilIface))(w:World):(eqGuard op t x y a b).run P w=.ok () w:=by
 obtain⟨h1,h2⟩:=h
 cases op <;> first
  |rfl
  |(cases a <;> first
    |rfl
    |exact absurd rfl (h1 _)
    |(cases b <;> first
      |rfl
      |exact absurd rfl (h2.resolve_left (by simp))))
theorem Qe{op:BinOp}{t:TypeId}{x:Operand}{v:Value}{a b:Value}(w:World)(h:∀u,a≠.agg u):(eqGuard op t x (.const v) a b).run P w=.ok () w:=by
 by_cases hn:a=.nilIface∧b=.nilIface
 ·obtain⟨rfl,rfl⟩:=hn
  cases op <;> first | rfl | simp[eqGuard]
 ·exact w7 ⟨h,by by_cases ha:a=.nilIface;exact .inr fun hb=>hn ⟨ha,hb⟩;exact .inl ha⟩ w
theorem sk{η:Operand→Value}{o:Oper}{op:BinOp}{t yt:TypeId}{x y:Operand}{w:World}{u:Value}(ho:o.op=.binOp op t x y yt)(hg:(eqGuard op t x y (η x) (η y)).run P w=.ok () w)(h:(binOp op t (η x) (η y)).run P w=.ok u w):
  (execOp η o).run P w=.ok (.value u) w:=by
 simp[execOp,ho,hg,h]
theorem q9{t:TypeId}(a b:Value)(w:World):
  (Op.equal t a b).run P w=(Op.equalIn (9999+1) t a b).run P w:=rfl
theorem Qc(ok:dD P TT){t:TypeId}{i:TI}(ht:TT t=some i){x y:AV}{want:Bool}{K:AV→Prop}(h:A7 i.k want x y K):
  ∃r:Bool,K (.bool (r == want))∧∀(F:Nat→Prop) (w:World) (a b:Value),ax F w x a→ax F w y b→(∀u,a≠.agg u)∧(∀w',(Op.equal t a b).run P w'=.ok r w')∧
   binOp .eql t a b=(do pure (.bool (← Op.equal t a b)))∧binOp .neq t a b=(do pure (.bool (!(← Op.equal t a b)))):=by
 obtain⟨j,d,z,hj,hd,_,_,hf,_,_⟩:=dp ok ht
 unfold A7 at h
 split at h
 ·rename_i e hk
  rw[hk]at hf;have:=Ha hf;subst this
  refine⟨true,by simpa using h,fun F w a b ha hb=>?_⟩
  cases ha;cases hb
  exact⟨by simp,fun w'=>by rw[q9,Op.equalIn,Sem.run_bind,run_underlying hd];rfl,rfl,rfl⟩
 ·rename_i e b' o' hk
  rw[hk]at hf;have:=Ha hf;subst this
  refine⟨false,by simpa using h,fun F w a b ha hb=>?_⟩
  cases ha;cases hb
  exact⟨by simp,fun w'=>by rw[q9,Op.equalIn,Sem.run_bind,run_underlying hd];rfl,rfl,rfl⟩
 ·rename_i e cs hk
  rw[hk]at hf;have:=Ha hf;subst this
  refine⟨false,by simpa using h,fun F w a b ha hb=>?_⟩
  obtain⟨_,_,rfl,_⟩:=ha.y8
  cases hb
  exact⟨by simp,fun w'=>by rw[q9,Op.equalIn,Sem.run_bind,run_underlying hd];rfl,rfl,rfl⟩
 ·rename_i e hk
  rw[hk]at hf;have:=jX hf;subst this
  refine⟨true,by simpa using h,fun F w a b ha hb=>?_⟩
  cases ha;cases hb
  exact⟨by simp,fun w'=>by rw[q9,Op.equalIn,Sem.run_bind,run_underlying hd];rfl,rfl,rfl⟩
 ·rename_i e _ _ _ _ hk
  rw[hk]at hf;have:=jX hf;subst this
  refine⟨false,by simpa using h,fun F w a b ha hb=>?_⟩
  obtain⟨_,_,rfl,_⟩:=ha.lD
  cases hb
  exact⟨by simp,fun w'=>by rw[q9,Op.equalIn,Sem.run_bind,run_underlying hd];rfl,rfl,rfl⟩
 ·rename_i e hk
  rw[hk]at hf;have:=jX hf;subst this
  refine⟨false,by simpa using h,fun F w a b ha hb=>?_⟩
  cases ha;cases hb
  exact⟨by simp,fun w'=>by rw[q9,Op.equalIn,Sem.run_bind,run_underlying hd];rfl,rfl,rfl⟩
 ·rename_i e s l hk
  rw[hk]at hf;have:=jX hf;subst this
  refine⟨false,by simpa using h.go,fun F w a b ha hb=>?_⟩
  obtain⟨_,c,rfl,_,_,h4⟩:=ha.ED
  obtain⟨b',o,rfl,_⟩:=h4 (List.ne_nil_of_length_pos h.fact)
  cases hb
  exact⟨by simp,fun w'=>by rw[q9,Op.equalIn,Sem.run_bind,run_underlying hd];rfl,rfl,rfl⟩
 ·rename_i hk
  rw[hk]at hf;obtain⟨m,rfl⟩:=QW hf
  refine⟨true,by simpa using h,fun F w a b ha hb=>?_⟩
  cases ha;cases hb
  exact⟨by simp,fun w'=>by rw[q9,Op.equalIn,Sem.run_bind,run_underlying hd];rfl,rfl,rfl⟩
 ·rename_i _ _ hk
  rw[hk]at hf;obtain⟨m,rfl⟩:=QW hf
  refine⟨false,by simpa using h,fun F w a b ha hb=>?_⟩
  cases ha;cases hb
  exact⟨by simp,fun w'=>by rw[q9,Op.equalIn,Sem.run_bind,run_underlying hd];rfl,rfl,rfl⟩
 ·rename_i hk
  rw[hk]at hf;obtain⟨_,_,_,rfl⟩:=RX hf
  refine⟨true,by simpa using h,fun F w a b ha hb=>?_⟩
  cases ha;cases hb
  exact⟨by simp,fun w'=>by rw[q9,Op.equalIn,Sem.run_bind,run_underlying hd];rfl,rfl,rfl⟩
 ·rename_i _ _ _ hk
  rw[hk]at hf;obtain⟨_,_,_,rfl⟩:=RX hf
  refine⟨false,by simpa using h,fun F w a b ha hb=>?_⟩
  cases ha;cases hb
  exact⟨by simp,fun w'=>by rw[q9,Op.equalIn,Sem.run_bind,run_underlying hd];rfl,rfl,rfl⟩
 ·exact h.elim
theorem aaH(ok:dD P TT){op:BinOp}{t yt:TypeId}{x y:Operand}{ρ:Operand→AV}{K:AV→Prop}(h:EG TT op t y (ρ x) (ρ y) K):∃v,K v∧fe P (.binOp op t x y yt) ρ v:=by
 unfold EG at h
 split at h
 ·rename_i k a k' b hx hy
  have fin:(∃v u,K v∧(∀F w,ax F w v u)∧∀(t:TypeId) (w:World),(binOp op t (.int k a) (.int k' b)).run P w=.ok u w)→∃v,K v∧fe P (.binOp op t x y yt) ρ v:=by
   rintro⟨v,u,hk,hu,hr⟩
   refine⟨v,hk,ng hu fun η F w o ho aN=>?_⟩
   have h1:=aN x (by simp[Op.operands])
   have h2:=aN y (by simp[Op.operands])
   rw[hx]at h1;rw[hy]at h2
   have e1:=h1.gu;have e2:=h2.gu
   intro w
   refine sk ho ?_ ?_
   ·rw[e1,e2];exact w7 ⟨by simp,.inl (by simp)⟩ w
   ·rw[e1,e2];exact hr t w
  split at h
  ·exact fin (PR h)
  ·exact fin (PR h)
  ·rename_i rR kD
   split at h
   ·rename_i hk
    have:=fP hk
    subst this
    exact fin (YW ⟨rR,kD⟩ h)
   ·exact h.elim
 ·rename_i a b hx hy
  split at h
  ·rename_i s b' z' ht
   obtain⟨j,d,z,hj,hd,_,_,hf,_,_⟩:=dp ok ht
   have:=fits_bool hf;subst this
   have he:∀w,(Op.equal t (.bool a) (.bool b)).run P w=.ok (a == b) w:=fun w=>by rw[q9,Op.equalIn,Sem.run_bind,run_underlying hd];rfl
   split at h
   ·refine⟨_,ri h,ng (fun _ _=>.bool _) fun η F w o ho aN=>?_⟩
    have h1:=aN x (by simp[Op.operands])
    have h2:=aN y (by simp[Op.operands])
    rw[hx]at h1;rw[hy]at h2
    have e1:=h1.rC;have e2:=h2.rC
    intro w
    refine sk ho ?_ ?_
    ·rw[e1,e2];exact w7 ⟨by simp,.inl (by simp)⟩ w
    ·rw[e1,e2];simp[binOp,he]
   ·refine⟨_,ri h,ng (fun _ _=>.bool _) fun η F w o ho aN=>?_⟩
    have h1:=aN x (by simp[Op.operands])
    have h2:=aN y (by simp[Op.operands])
    rw[hx]at h1;rw[hy]at h2
    have e1:=h1.rC;have e2:=h2.rC
    intro w
    refine sk ho ?_ ?_
    ·rw[e1,e2];exact w7 ⟨by simp,.inl (by simp)⟩ w
    ·rw[e1,e2];simp[binOp,he]
   ·exact h.elim
  ·exact h.elim
 ·rename_i a b hx hy
  have fin:∀r:Bool,K (.bool r)→(∀w,(binOp op t (.string a) (.string b)).run P w=.ok (.bool r) w)→∃v,K v∧fe P (.binOp op t x y yt) ρ v:=by
   intro r hk hr
   refine⟨_,hk,ng (fun _ _=>.bool _) fun η F w o ho aN=>?_⟩
   have h1:=aN x (by simp[Op.operands])
   have h2:=aN y (by simp[Op.operands])
   rw[hx]at h1;rw[hy]at h2
   have e1:=h1.Ef;have e2:=h2.Ef
   intro w
   refine sk ho ?_ ?_
   ·rw[e1,e2];exact w7 ⟨by simp,.inl (by simp)⟩ w
   ·rw[e1,e2];exact hr w
  split at h
  ·exact fin _ (ri h) fun w=>rfl
  ·exact fin _ (ri h) fun w=>rfl
  ·exact h.elim
 ·split at h
  ·rename_i i hc ht
   obtain⟨cv,rfl⟩:∃cv,y=.const cv:=by cases y <;> first | exact⟨_,rfl⟩ | cases hc
   split at h
   ·obtain⟨r,hk,hr⟩:=Qc ok ht h
    refine⟨_,hk,ng (fun _ _=>.bool _) fun η F w o ho aN=>?_⟩
    obtain⟨g1,g2,g3,g4⟩:=hr F w _ _ (aN x (by simp[Op.operands])) (aN (.const cv) (by simp[Op.operands]))
    exact fun w=>sk ho (Qe w g1) (by rw[g3];simp[g2])
   ·obtain⟨r,hk,hr⟩:=Qc ok ht h
    refine⟨_,hk,ng (fun _ _=>.bool _) fun η F w o ho aN=>?_⟩
    obtain⟨g1,g2,g3,g4⟩:=hr F w _ _ (aN x (by simp[Op.operands])) (aN (.const cv) (by simp[Op.operands]))
    exact fun w=>sk ho (Qe w g1) (by rw[g4];simp[g2])
   ·exact h.elim
  ·exact h.elim
end
section
variable {P:Program} {TT:TypeId→Option TI}
theorem KO{F:Nat→Prop}{w:World}{x:AV}{v:Value}{cs:List AV}(h:ax F w x v)(hc:x.cells?=some cs):
  v.cells.size=cs.length∧∀(i:Nat) (y:AV),cs[i]?=some y→y.leaf=true∧ax F w y (v.cells.getD i undef):=by
 have one:∀(hl:x.leaf=true),some [x]=some cs→v.cells.size=cs.length∧∀(i:Nat) (y:AV),cs[i]?=some y→y.leaf=true∧ax F w y (v.cells.getD i undef):=by
  intro hl e
  have e:=Option.some.inj e
  subst e
  have h1:=h.one hl
  have hv:v.cells = #[v]:=by cases v <;> first | rfl | cases h1
  rw[hv]
  exact⟨rfl,fun i y hi=>by cases i <;> simp at hi;subst hi;exact⟨hl,h⟩⟩
 cases x with
 |agg cs'=>
  obtain rfl:=Option.some.inj hc
  obtain⟨vs,rfl,h1,h2⟩:=h.v7
  exact⟨h1.symm,h2⟩
 |tup=>cases hc
 |any=>cases hc
 |oE=>cases hc
 |sD=>cases hc
 |mD=>cases hc
 |_=>exact one rfl hc
def pT(F:Nat→Prop)(w:World)(cs:List AV)(vs:Array Value):Prop:=cs.length=vs.size∧∀(i:Nat) (x:AV),cs[i]?=some x→x.leaf=true∧ax F w x (vs.getD i undef)
theorem pT.set{F:Nat→Prop}{w:World}{cs:List AV}{vs:Array Value}(h:pT F w cs vs)(k:Nat){x:AV}{v:Value}(hl:x.leaf=true)(hx:ax F w x v):pT F w (cs.set k x) (vs.setIfInBounds k v):=by
 refine⟨by simp[h.1],fun i y hi=>?_⟩
 rw[dY]at hi
 by_cases hk:k=i
 ·subst hk
  by_cases ab:k<cs.length
  ·simp[ab]at hi
   subst hi
   have:k<vs.size:=by rw[← h.1];exact ab
   exact⟨hl,by simpa [Array.getD,this]using hx⟩
  ·simp[ab]at hi
 ·simp[hk]at hi
  obtain⟨h1,h2⟩:=h.2 i y hi
  refine⟨h1,?_⟩
  have ab:i<vs.size:=by rw[← h.1];exact (bQ.1 hi).1
  simpa [Array.getD,ab,Array.getElem_setIfInBounds,hk]using h2
theorem QA{F:Nat→Prop}{w:World}:∀(xs:List AV) (us:List Value) (cs:List AV) (vs:Array Value) (k n:Nat),xs.length=us.length→
  (∀(i:Nat) (x:AV),xs[i]?=some x→x.leaf=true∧ax F w x (us.getD i undef))→pT F w cs vs→pT F w (e8 cs (k+n) xs) ((us.zipIdx n).foldl (fun c p=>c.setIfInBounds (k+p.2) p.1) vs)
 | [],[],cs,vs,k,n,_,_,h=>h
 |x::xs,u::us,cs,vs,k,n,hl,hx,h=>by
  have h0:=hx 0 x rfl
  simp only[e8,List.zipIdx_cons,FK]
  exact QA xs us _ _ k (n+1) (by simpa using hl) (fun i y hi=>by simpa using hx (i+1) y (by simpa using hi)) (h.set _ h0.1 (by simpa using h0.2))
 | [],_::_,_,_,_,_,hl,_,_=>by simp at hl
 |_::_,[],_,_,_,_,hl,_,_=>by simp at hl
theorem Ai:∀(xs cs:List AV) (k:Nat),(e8 cs k xs).length=cs.length
 | [],cs,k=>rfl
 |x::xs,cs,k=>by simp[e8,Ai xs]
theorem Hb{F:Nat→Prop}{w:World}{pl:List (Nat×Nat)}{place:Nat→Option (Nat×Nat)}(hp:∀(i:Nat) (p:Nat×Nat),pl[i]?=some p→place i=some p):
  ∀(parts:List (Nat×AV)) (us:List (Nat×Value)) (cs:List AV) (vs:Array Value) (out:List AV),parts.length=us.length→
   (∀(i:Nat) (p:Nat×AV) (u:Nat×Value),parts[i]?=some p→us[i]?=some u→p.1=u.1∧ax F w p.2 u.2)→pT F w cs vs→sA pl cs parts=some out→∃eC,Instr.fill place vs us=some eC∧pT F w out eC
 | [],[],cs,vs,out,_,_,h,e=>⟨vs,rfl,by simp[sA]at e;subst e;exact h⟩
 |p::parts,u::us,cs,vs,out,hl,hx,h,e=>by
  obtain⟨i,x⟩:=p
  obtain⟨i',v⟩:=u
  obtain⟨rfl,hv⟩:=hx 0 _ _ rfl rfl
  simp only[sA]at e
  split at e
  ·rename_i off size xs h1 h2
   split at e
   ·rename_i e1 e2
    have e1:=jr e1
    have e2:=cT e2
    obtain⟨c1,c2⟩:=KO hv h2
    have hs:=QA xs v.cells.toList cs vs off 0 (by simp[c1]) (fun i y hi=>by
     have:=c2 i y hi
     have ab:i<v.cells.size:=by rw[c1];exact (bQ.1 hi).1
     simpa [Array.getD,List.getD,ab]using this) h
    obtain⟨eC,f1,f2⟩:=Hb hp parts us _ _ out (by simpa using hl) (fun i p u hi hu=>hx (i+1) p u (by simpa using hi) (by simpa using hu)) hs e
    refine⟨eC,?_,f2⟩
    simp only[Instr.fill,hp _ _ h1]
    rw[if_neg (by simp[c1,e1];rw[← h.1];omega)]
    rw[← f1]
    congr 1
    rw[← Array.foldl_toList]
    simp
   ·cases e
  ·cases e
 | [],_::_,_,_,_,hl,_,_,_=>by simp at hl
 |_::_,[],_,_,_,hl,_,_,_=>by simp at hl
theorem PT(ok:dD P TT):∀(fs:List Field) (ps:List (Nat×Nat)),Dj TT (fs.map fun f=>(f.offset,f.type))=some ps→fs.mapM (fun f=>(P.info? f.type).map fun i=>(f.offset,i.size))=some ps
 | [],ps,h=>by simp[Dj]at h;subst h;rfl
 |f::fs,ps,h=>by
  simp only[oV,Dj]at h
  split at h
  ·rename_i i ps' h1 h2
   obtain⟨j,_,_,hj,_,hs,_⟩:=dp ok h1
   have:=PT ok fs ps' h2
   simp at h
   subst h
   simp[List.mapM_cons,hj,this,hs]
  ·cases h
theorem xi{F:Nat→Prop}{w:World}{xs:List AV}{z:Value}(h:qj xs z.cells.toList=true):pT F w xs z.cells:=by
 obtain⟨h1,h2⟩:=Rb (F:=F) (w:=w) h
 refine⟨by simpa using h1,fun i x hx=>?_⟩
 obtain⟨h3,h4⟩:=h2 i x hx
 refine⟨h4,?_⟩
 have ab:i<z.cells.size:=by have:=(List.getElem?_eq_some_iff.1 hx).1;simp at h1;omega
 simpa [Array.getD,List.getD,ab]using h3
theorem pT.W2{F:Nat→Prop}{w:World}{cs:List AV}{vs:Array Value}(h:pT F w cs vs):ax F w (.agg cs) (.agg vs):=.agg _ _ h.1 (fun i x hx=>(h.2 i x hx).1) (fun i x hx=>(h.2 i x hx).2)
theorem Ry{F:Nat→Prop}{w:World}{parts:Array (Nat×Operand)}{ρ:Operand→AV}{η:Operand→Value}(hx:∀x∈(parts.toList.map (·.2)),ax F w (ρ x) (η x)):
  (parts.toList.map fun p=>(p.1,ρ p.2)).length=(parts.map fun (i,x)=>(i,η x)).toList.length∧∀(i:Nat) (p:Nat×AV) (u:Nat×Value),(parts.toList.map fun p=>(p.1,ρ p.2))[i]?=some p→(parts.map fun (i,x)=>(i,η x)).toList[i]?=some u→p.1=u.1∧ax F w p.2 u.2:=by
 refine⟨by simp,fun i p u hp hu=>?_⟩
 simp only[Array.toList_map,eU,wY]at hp hu
 obtain⟨a,h1,rfl⟩:=hp
 obtain⟨a',h2,rfl⟩:=hu
 rw[h1]at h2
 cases h2
 exact⟨rfl,hx a.2 (cY.2 ⟨a,bH h1,rfl⟩)⟩
theorem Yn(ok:dD P TT){t:TypeId}{parts:Array (Nat×Operand)}{ρ:Operand→AV}{v:AV}(h:HV TT t (parts.toList.map fun p=>(p.1,ρ p.2))=some v):fe P (.build t parts) ρ v:=by
 intro η F w o ho hx
 obtain⟨hl,hr⟩:=Ry (parts:=parts) (ρ:=ρ) (η:=η) (F:=F) (w:=w) (by simpa [Op.operands]using hx)
 have fin:∀{cells:Array Value} {cs:List AV},P.built t (parts.map fun (i,x)=>(i,η x)).toList=some cells→pT F w cs cells→∃v',(∀w',(execOp η o).run P w'=.ok (.value v') w')∧ax F w (.agg cs) v':=
  fun hb hc=>⟨_,fun w'=>by simp only[execOp,ho,Sem.run_bind,run_build w' t _ _ hb];rfl,hc.W2⟩
 unfold HV at h
 split at h
 ·rename_i fs sz qU z0 ht
  obtain⟨j,d,z,hj,hd,hs,hb,hf,hz,ib⟩:=dp ok ht
  obtain⟨fields,rfl,zW⟩:=KL hf
  split at h
  ·rename_i ps yg
   rw[← zW]at yg
   have hm:=PT ok _ _ yg
   obtain⟨out,e1,rfl⟩:=wY.1 h
   obtain⟨eC,f1,f2⟩:=Hb (place:=(ps.toArray[·]?)) (fun i p hi=>by simpa using hi) _ _ _ _ _ hl hr (xi (F:=F) (w:=w) ib) e1
   exact fin (by simp only[Program.built,hj,hd,hz,hm];exact f1) f2
  ·cases h
 ·rename_i n e sz qU z0 ht
  obtain⟨j,d,z,hj,hd,hs,hb,hf,hz,ib⟩:=dp ok ht
  obtain rfl:=Tq hf
  split at h
  ·rename_i i hi
   obtain⟨j',d',z',kZ,kh,dV,_⟩:=dp ok hi
   obtain⟨out,e1,rfl⟩:=wY.1 h
   obtain⟨eC,f1,f2⟩:=Hb (place:=fun k=>some (k*j'.size,j'.size)) (fun k p hk=>by
    obtain⟨a,ha,rfl⟩:=bQ.1 hk
    simp[dV]) _ _ _ _ _ hl hr (xi (F:=F) (w:=w) ib) e1
   exact fin (by simp only[Program.built,hj,hd,hz,kZ];exact f1) f2
  ·cases h
 ·cases h
end
section
variable {P:Program} {TT:TypeId→Option TI}
theorem ab3{op:UnOp}{t:TypeId}{x:Operand}{ρ:Operand→AV}{K:AV→Prop}(h:EN op (ρ x) K):∃v,K v∧fe P (.unOp op t x) ρ v:=by
 unfold EN at h
 split at h
 ·rename_i b hx
  refine⟨_,h,ng (fun _ _=>.bool _) fun η F w o ho aN=>?_⟩
  have h1:=aN x (by simp[Op.operands]);rw[hx]at h1
  simp[execOp,ho,h1.rC,Op.unary]
 ·rename_i k n hx
  refine⟨_,h,ng (fun _ _=>.int _ _) fun η F w o ho aN=>?_⟩
  have h1:=aN x (by simp[Op.operands]);rw[hx]at h1
  simp[execOp,ho,h1.gu,Op.unary,Op.intArith]
 ·rename_i k n hx
  refine⟨_,h,ng (fun _ _=>.int _ _) fun η F w o ho aN=>?_⟩
  have h1:=aN x (by simp[Op.operands]);rw[hx]at h1
  rw[show execOp η o=(do pure (.value (← Op.intBits .xor k (if k.signed then -1 else k.max) n))) by simp[execOp,ho,h1.gu,Op.unary]]
  exact fun _=>rfl
 ·rename_i n hx
  refine⟨_,h,fun η F w o ho aN=>?_⟩
  have h1:=aN x (by simp[Op.operands]);rw[hx]at h1
  obtain⟨b,e,hb⟩:=h1.IH
  exact⟨.float .f64 (Op.negFloat .f64 b),fun w'=>by simp[execOp,ho,e,Op.unary],.gk _ _ (ae9 hb)⟩
 ·exact h.elim
theorem Zc(ok:dD P TT){s d:TypeId}{x:Operand}{ρ:Operand→AV}{K:AV→Prop}(h:D9 TT s d (ρ x) K):∃v,K v∧fe P (.convert s d x) ρ v:=by
 unfold D9 at h
 split at h
 ·rename_i i k sz qU z0 k' n hs hd hx
  obtain⟨_,ds,_,_,Fh,_⟩:=dp ok hs
  obtain⟨_,dd,_,_,wJ,_,_,hf,_,_⟩:=dp ok hd
  obtain rfl:=fits_int hf
  refine⟨_,h,ng (fun _ _=>.int _ _) fun η F w o ho aN=>?_⟩
  have h1:=aN x (by simp[Op.operands]);rw[hx]at h1
  simp[execOp,ho,h1.gu,convert,run_underlying Fh,run_underlying wJ,Conv.intToInt]
 ·rename_i i sz qU z0 k' n hs hd hx
  obtain⟨_,ds,_,_,Fh,_⟩:=dp ok hs
  obtain⟨_,dd,_,_,wJ,_,_,hf,_,_⟩:=dp ok hd
  obtain rfl:=acm hf
  refine⟨_,h.go,fun η F w o ho aN=>?_⟩
  have h1:=aN x (by simp[Op.operands]);rw[hx]at h1
  refine⟨.float .f64 (FloatKind.nearest .f64 n),fun w'=>?_,.gk _ _ (afH h.fact)⟩
  have hr:=run_convert_int_float (P:=P) w' s d k' .f64 n (by rw[Fh];rfl) wJ
  simp only[execOp,ho,h1.gu,Sem.run_bind,hr]
  rfl
 ·rename_i i k sz qU z0 n hs hd hx
  obtain⟨_,ds,_,_,Fh,_⟩:=dp ok hs
  obtain⟨_,dd,_,_,wJ,_,_,hf,_,_⟩:=dp ok hd
  obtain rfl:=fits_int hf
  refine⟨_,h.go,fun η F w o ho aN=>?_⟩
  have h1:=aN x (by simp[Op.operands]);rw[hx]at h1
  obtain⟨b,e,hb⟩:=h1.IH
  refine⟨.int k n,fun w'=>?_,.int _ _⟩
  have hr:=run_convert_float_int (P:=P) w' s d .f64 k b n (by rw[Fh];rfl) wJ (aea hb k h.fact)
  simp only[execOp,ho,e,Sem.run_bind,hr]
  rfl
 ·exact h.elim
theorem Yd(ok:dD P TT){t:TypeId}{x:Operand}{ρ:Operand→AV}{i:TI}(ht:TT t=some i)(hn:i.k≠.iface):fe P (.makeInterface t x) ρ (.iface t (ρ x)):=by
 intro η F w o ho hx
 obtain⟨_,d,_,_,hd,_,_,hf,_,_⟩:=dp ok ht
 refine⟨_,?_,.iface _ _ _ (hx x (by simp[Op.operands]))⟩
 have:∀m,d≠.interface m:=by rintro m rfl;cases hk:i.k <;> rw[hk]at hf <;> simp_all [TK.fits]
 cases d <;> first | exact absurd rfl (this _) | simp[execOp,ho,Instr.makeInterface,run_underlying hd]
theorem Xh{f:Fn}{first cap:Array Operand}{ρ:Operand→AV}:fe P (.makeFunc f first cap) ρ (.fn f (first.toList.map ρ) (cap.toList.map ρ)):=by
 intro η F w o ho hx
 have key:∀(xs:Array Operand),(∀x∈xs.toList,ax F w (ρ x) (η x))→∀(i:Nat) (x:AV),(xs.toList.map ρ)[i]?=some x→ax F w x ((xs.map η).getD i undef):=by
  intro xs h i x hi
  simp only[eU,wY]at hi
  obtain⟨a,h1,rfl⟩:=hi
  have ab:i<xs.size:=by have:=(List.getElem?_eq_some_iff.1 h1).1;simpa using this
  have:xs[i]=a:=by simpa [ab]using h1
  simpa [Array.getD,ab,this]using h a (List.mem_of_getElem? h1)
 exact⟨.func f (first.map η) (cap.map η),by simp[execOp,ho,Instr.makeFunc],.fn _ _ _ _ _ (by simp) (by simp) (key first fun x lM=>hx x (by simp only[Op.operands,Array.toList_append,List.mem_append];exact .inl lM)) (key cap fun x lM=>hx x (by simp only[Op.operands,Array.toList_append,List.mem_append];exact .inr lM))⟩
theorem pc(b o n:Nat):(⟨b,o,none⟩:Addr).add n=⟨b,o+n,none⟩:=Addr.add_mid b o n
theorem Xf(ok:dD P TT){s:TypeId}{x:Operand}{f:Nat}{ρ:Operand→AV}{K:AV→Prop}(h:CF TT s (ρ x) f K):∃v,K v∧fe P (.fieldAddr s x f) ρ v:=by
 unfold CF at h
 split at h
 ·rename_i fs sz qU z0 ht
  obtain⟨_,d,_,_,hd,_,_,hf,_,_⟩:=dp ok ht
  obtain⟨fields,rfl,zW⟩:=KL hf
  split at h
  ·rename_i off t jT
   split at h
   ·rename_i i hi
    obtain⟨j',d',z',kZ,kh,dV,_⟩:=dp ok hi
    rw[← zW,eU,wY]at jT
    obtain⟨fd,OC,e⟩:=jT
    cases e
    have ID:fields[f]?=some fd:=by simpa using OC
    split at h
    ·rename_i b o' hb hx
     have hb:=cT hb
     have hz:¬j'.size=0:=by omega
     refine⟨_,h,H6 rfl fun η F w o ho aN=>?_⟩
     have h1:=aN x (by simp[Op.operands]);rw[hx]at h1
     exact⟨h1.Ax,fun _=>by simp[execOp,ho,h1.zu,Instr.fieldAt,run_underlying hd,ID,Instr.sureAddr,fieldPlace,run_sizeOf kZ,hz,pc]⟩
    ·rename_i cs hb hx
     have hb:=cT hb
     have hz:¬j'.size=0:=by omega
     refine⟨_,h,fun η F w o ho aN=>?_⟩
     have h1:=aN x (by simp[Op.operands]);rw[hx]at h1
     obtain⟨b,o',e,hF,dX⟩:=h1.y8
     exact⟨_,by simp[execOp,ho,e,Instr.fieldAt,run_underlying hd,ID,Instr.sureAddr,fieldPlace,run_sizeOf kZ,hz,pc],(dX.drop _).fV hF⟩
    ·exact h.elim
   ·exact h.elim
  ·exact h.elim
 ·exact h.elim
theorem CB(ok:dD P TT){t:TypeId}{i:TI}(ht:TT t=some i){F:Nat→Prop}{w:World}{cs:List AV}{vs:Array Value}(h:pT F w cs vs){k:Nat}{v:AV}(hv:dP i cs k=some v):
  ∃v',(∀w',(part t vs k).run P w'=.ok v' w')∧ax F w v v':=by
 obtain⟨j,d,z,hj,hd,hs,hb,hf,hz,ib⟩:=dp ok ht
 have hw:=RW hf
 obtain⟨hl,hr⟩:=h
 unfold dP at hv
 split at hv
 ·rename_i zn
  split at hv
  ·rename_i hle
   have hle:=cT hle
   simp only[Option.some.injEq]at hv
   subst hv
   refine⟨.agg (vs.extract k (k+j.size)),fun _=>by unfold part;simp[Sem.run_bind,KZ hd,hw,zn,run_sizeOf hj],pT.W2 ⟨by simp;omega,fun m x hx=>?_⟩⟩
   rw[nV]at hx
   split at hx
   ·rename_i hm
    rw[wV]at hx
    obtain⟨h1,h2⟩:=hr _ x hx
    have ab:k+m<vs.size:=by rw[← hl];exact (bQ.1 hx).1
    have fG:m<min (k+j.size) vs.size-k:=by omega
    refine⟨h1,?_⟩
    simpa [Array.getD,ab,fG]using h2
   ·cases hx
  ·cases hv
 ·rename_i zn
  obtain⟨h1,h2⟩:=hr k v hv
  have ab:k<vs.size:=by rw[← hl];exact (bQ.1 hv).1
  refine⟨vs.getD k undef,fun w'=>?_,h2⟩
  unfold part
  rw[Sem.run_bind,KZ hd]
  simp[hw,zn,ab,Array.getD]
theorem R0(ok:dD P TT)(D:Nat):∀(d:Nat) (t:TypeId) (x y:AV) (l:List Bool),Af P TT d t x y=some l→∀(F:Nat→Prop) (w:World) (a b:Value),ax F w x a→ax F w y b→∀w',(Op.equalIn (D+d) t a b).run P w'=.ok (fH l) w':=by
 intro d
 induction d with
 |zero=>intro t x y l h;cases h
 |succ d ih=>
  intro t x y l h F w a b ha hb w'
  unfold Af at h
  split at h
  ·rename_i p q hu
   cases h
   rw[ha.rC,hb.rC]
   rw[show D+(d+1)=(D+d)+1 from rfl,run_equalIn_bool' w' (D+d) t p q hu]
   simp[fH]
  ·rename_i k0 k p k' q hu
   split at h
   ·rename_i hk
    have:=fP hk
    subst this
    cases h
    rw[ha.gu,hb.gu]
    rw[show D+(d+1)=(D+d)+1 from rfl,run_equalIn_int w' (D+d) t k k0 p q hu]
    simp[fH]
    exact gu5 _ _
   ·cases h
  ·rename_i p q hu
   cases h
   rw[ha.Ef,hb.Ef]
   rw[show D+(d+1)=(D+d)+1 from rfl,run_equalIn_string w' (D+d) t p q hu]
   simp[fH]
  ·rename_i fs xs ys hu
   split at h
   ·cases h
   ·rename_i ao
    obtain⟨vs,rfl,bX⟩:=ha.v7
    obtain⟨us,rfl,gi⟩:=hb.v7
    have hf:P.fieldsOf t=fs:=by simp[Program.fieldsOf,hu]
    rw[show D+(d+1)=(D+d)+1 from rfl,run_equalIn_agg w' (D+d) t vs us (by rw[hf];exact hu) ao,hf]
    have key:∀(gs:List Field) (l:List Bool),IJ TT (Af P TT d) xs ys gs=some l→(Op.eqFields (D+d) vs us gs).run P w'=.ok (fH l) w':=by
     intro gs
     induction gs with
     |nil=>intro l h;cases h;simp[Op.eqFields,fH]
     |cons f gs ihg=>
      intro l h
      unfold IJ at h
      split at h
      ·rename_i i hn hi
       split at h
       ·rename_i p q hp hq
        split at h
        ·rename_i l1 l2 h1 h2
         cases h
         obtain⟨p',e1,r1⟩:=CB ok hi ⟨bX.1,bX.2⟩ hp
         obtain⟨q',e2,r2⟩:=CB ok hi ⟨gi.1,gi.2⟩ hq
         have e3:=ih f.type p q l1 h1 F w p' q' r1 r2 w'
         have hn' : f.name ≠ "_" := by intro e; rw [e] at hn; cases hn
         simp only[Op.eqFields,hn',ne_eq,not_false_eq_true,if_true,Sem.run_bind,e1,e2,e3,Result.andThen_ok]
         cases k9:fH l1
         ·simp only[Bool.not_false,if_true,Sem.run_pure]
          have:fH (l1++l2)=false:=by unfold fH at k9 ⊢;rw[Ca,k9];rfl
          rw[this]
         ·simp only[FH,lS,if_false]
          rw[ihg l2 h2]
          have:fH (l1++l2)=fH l2:=by unfold fH at k9 ⊢;rw[Ca,k9];rfl
          rw[this]
        ·cases h
       ·cases h
      ·cases h
    exact key fs.toList l h
  ·rename_i n e xs ys hu
   obtain⟨vs,rfl,bX⟩:=ha.v7
   obtain⟨us,rfl,gi⟩:=hb.v7
   have key:∀(ks:List Nat) (l:List Bool),II TT (Af P TT d) e (P.cellsOf e) xs ys ks=some l→(Op.eqItems (D+d) e (P.cellsOf e) vs us ks).run P w'=.ok (fH l) w':=by
    intro ks
    induction ks with
    |nil=>intro l h;cases h;simp[Op.eqItems,fH]
    |cons k ks ihk=>
     intro l h
     unfold II at h
     split at h
     ·rename_i i hi
      split at h
      ·rename_i p q hp hq
       split at h
       ·rename_i l1 l2 h1 h2
        cases h
        obtain⟨p',e1,r1⟩:=CB ok hi ⟨bX.1,bX.2⟩ hp
        obtain⟨q',e2,r2⟩:=CB ok hi ⟨gi.1,gi.2⟩ hq
        have e3:=ih e p q l1 h1 F w p' q' r1 r2 w'
        simp only[Op.eqItems,Sem.run_bind,e1,e2,e3,Result.andThen_ok]
        cases k9:fH l1
        ·simp only[Bool.not_false,if_true,Sem.run_pure]
         have:fH (l1++l2)=false:=by unfold fH at k9 ⊢;rw[Ca,k9];rfl
         rw[this]
        ·simp only[FH,lS,if_false]
         rw[ihk l2 h2]
         have:fH (l1++l2)=fH l2:=by unfold fH at k9 ⊢;rw[Ca,k9];rfl
         rw[this]
       ·cases h
      ·cases h
     ·cases h
   split at h
   ·rename_i i hi
    obtain⟨j,_,_,hj,_⟩:=dp ok hi
    rw[show D+(d+1)=(D+d)+1 from rfl,run_equalIn_array w' (D+d) vs us hu hj]
    exact key _ l h
   ·cases h
  ·cases h
theorem aas{op:BinOp}{t yt:TypeId}{x y:Operand}{ρ:Operand→AV}{K:AV→Prop}{a b c d:Int}(hx:ρ x=.fR a b)(hy:ρ y=.fR c d)(h:NY op a b c d K):∃v,K v∧fe P (.binOp op t x y yt) ρ v:=by
 have both:∀{η:Operand→Value} {F:Nat→Prop} {w:World},(∀z∈(Op.binOp op t x y yt).operands.toList,ax F w (ρ z) (η z))→∃a' b' c' d',η x=.complex .f64 a' b'∧η y=.complex .f64 c' d'∧jv a' a∧jv b' b∧jv c' c∧jv d' d:=fun {η F w} aN=>by
  have h1:=aN x (by simp[Op.operands])
  have h2:=aN y (by simp[Op.operands])
  rw[hx]at h1;rw[hy]at h2
  obtain⟨a',b',e1,h3,h4⟩:=h1.IL
  obtain⟨c',d',e2,h5,h6⟩:=h2.IL
  exact⟨a',b',c',d',e1,e2,h3,h4,h5,h6⟩
 cases op <;> simp only[NY]at h
 case add=>
  refine⟨_,h.go,fun η F w o ho aN=>?_⟩
  obtain⟨a',b',c',d',e1,e2,h3,h4,h5,h6⟩:=both aN
  obtain⟨r,g1,g2⟩:=Me h3 h5 h.fact.1
  obtain⟨q,g3,g4⟩:=Me h4 h6 h.fact.2
  refine⟨.complex .f64 r q,fun w'=>sk ho (by rw[e1,e2];exact w7 ⟨by simp,.inl (by simp)⟩ w') ?_,.fR _ _ _ _ g2 g4⟩
  rw[e1,e2]
  exact run_complex_sum w' .add (.inl rfl) t .f64 a' b' c' d' r q (by simp[cSumBits,g1,g3])
 case sub=>
  refine⟨_,h.go,fun η F w o ho aN=>?_⟩
  obtain⟨a',b',c',d',e1,e2,h3,h4,h5,h6⟩:=both aN
  obtain⟨r,g1,g2⟩:=Md h3 h5 h.fact.1
  obtain⟨q,g3,g4⟩:=Md h4 h6 h.fact.2
  refine⟨.complex .f64 r q,fun w'=>sk ho (by rw[e1,e2];exact w7 ⟨by simp,.inl (by simp)⟩ w') ?_,.fR _ _ _ _ g2 g4⟩
  rw[e1,e2]
  exact run_complex_sum w' .sub (.inr rfl) t .f64 a' b' c' d' r q (by simp[cSumBits,g1,g3])
 case mul=>
  refine⟨_,h.go,fun η F w o ho aN=>?_⟩
  obtain⟨a',b',c',d',e1,e2,h3,h4,h5,h6⟩:=both aN
  obtain⟨⟨f1,f2,f3⟩,f4,f5,f6⟩:=h.fact
  obtain⟨r1,p1,q1⟩:=Hx h3 h5 f1
  obtain⟨r2,p2,q2⟩:=Hx h4 h6 f2
  obtain⟨r3,p3,q3⟩:=Md q1 q2 f3
  obtain⟨r4,p4,q4⟩:=Hx h3 h6 f4
  obtain⟨r5,p5,q5⟩:=Hx h4 h5 f5
  obtain⟨r6,p6,q6⟩:=Me q4 q5 f6
  refine⟨.complex .f64 r3 r6,fun w'=>sk ho (by rw[e1,e2];exact w7 ⟨by simp,.inl (by simp)⟩ w') ?_,.fR _ _ _ _ q3 q6⟩
  rw[e1,e2]
  exact run_complex_mul w' t a' b' c' d' r3 r6 (by simp[cMulBits,p1,p2,p3,p4,p5,p6])
theorem Zf(ok:dD P TT){op:BinOp}{t yt:TypeId}{x y:Operand}{ρ:Operand→AV}{K:AV→Prop}(h:EH P TT op t y (ρ x) (ρ y) K):∃v,K v∧fe P (.binOp op t x y yt) ρ v:=by
 unfold EH at h
 split at h
 ·rename_i xs ys hx hy
  have both:∀(η:Operand→Value) (F:Nat→Prop) (w:World),(∀z∈(Op.binOp op t x y yt).operands.toList,ax F w (ρ z) (η z))→∃vs us,η x=.agg vs∧η y=.agg us∧ax F w (.agg xs) (.agg vs)∧ax F w (.agg ys) (.agg us):=fun η F w aN=>by
   have h1:=aN x (by simp[Op.operands])
   have h2:=aN y (by simp[Op.operands])
   rw[hx]at h1;rw[hy]at h2
   obtain⟨vs,e1,_⟩:=h1.v7
   obtain⟨us,e2,_⟩:=h2.v7
   rw[e1]at h1;rw[e2]at h2
   exact⟨vs,us,e1,e2,h1,h2⟩
  split at h
  ·obtain⟨g1,g2,go⟩:=h
   refine⟨_,ri go,ng (fun _ _=>.bool _) fun η F w o ho aN=>?_⟩
   obtain⟨vs,us,e1,e2,r1,r2⟩:=both η F w aN
   intro w'
   refine sk ho ?_ ?_
   ·rw[e1,e2];exact run_eqGuard_agg w' _ t x y vs us g1
   ·rw[e1,e2,run_eql_struct,show (10000:Nat)=9992+8 from rfl,R0 ok 9992 8 t _ _ _ g2 F w _ _ r1 r2 w'];rfl
  ·obtain⟨g1,g2,go⟩:=h
   refine⟨_,ri go,ng (fun _ _=>.bool _) fun η F w o ho aN=>?_⟩
   obtain⟨vs,us,e1,e2,r1,r2⟩:=both η F w aN
   intro w'
   refine sk ho ?_ ?_
   ·rw[e1,e2];exact run_eqGuard_agg w' _ t x y vs us g1
   ·rw[e1,e2,run_neq_struct,show (10000:Nat)=9992+8 from rfl,R0 ok 9992 8 t _ _ _ g2 F w _ _ r1 r2 w'];rfl
  ·exact h.elim
 ·rename_i a b c d hx hy
  exact aas hx hy h
 ·exact aaH ok h
theorem Yf(ok:dD P TT){s:TypeId}{x:Operand}{f:Nat}{ρ:Operand→AV}{K:AV→Prop}(h:DH TT s (ρ x) f K):∃v,K v∧fe P (.field s x f) ρ v:=by
 unfold DH at h
 split at h
 ·rename_i fs sz qU z0 cs ht hx
  obtain⟨_,d,_,_,hd,_,_,hf,_,_⟩:=dp ok ht
  obtain⟨fields,rfl,zW⟩:=KL hf
  split at h
  ·rename_i off t jT
   split at h
   ·rename_i i hi
    rw[← zW,eU,wY]at jT
    obtain⟨fd,OC,e⟩:=jT
    cases e
    have ID:fields[f]?=some fd:=by simpa using OC
    split at h
    ·rename_i v hv
     refine⟨v,h,fun η F w o ho aN=>?_⟩
     have h1:=aN x (by simp[Op.operands]);rw[hx]at h1
     obtain⟨vs,e,h2,h3⟩:=h1.v7
     obtain⟨v',h4,h5⟩:=CB ok hi (w:=w) ⟨h2,h3⟩ hv
     exact⟨v',by simp[execOp,ho,e,Instr.field,run_underlying hd,ID,asAgg,h4],h5⟩
    ·exact h.elim
   ·exact h.elim
  ·exact h.elim
 ·exact h.elim
theorem Xd(ok:dD P TT){t:TypeId}{x ix:Operand}{ρ:Operand→AV}{K:AV→Prop}(h:CC TT t (ρ x) (ρ ix) K):∃v,K v∧fe P (.indexAddr t x ix) ρ v:=by
 unfold CC at h
 split at h
 ·rename_i e sz qU z0 k n ht zV
  obtain⟨_,d,_,_,hd,_,_,hf,_,_⟩:=dp ok ht
  obtain rfl:=jX hf
  split at h
  ·rename_i i s l hi hx
   obtain⟨j',_,_,kZ,_,dV,_⟩:=dp ok hi
   obtain⟨eD,nB⟩:=h
   obtain⟨dt,h0,h1,go⟩:=nB
   refine⟨_,go,fun η F w o ho aN=>?_⟩
   have a1:=aN x (by simp[Op.operands]);rw[hx]at a1
   have a2:=aN ix (by simp[Op.operands]);rw[zV]at a2
   obtain⟨a,c,e,gU,mU,B3⟩:=a1.ED
   have ab:n.toNat<l.length:=(bQ.1 h1).1
   obtain⟨b,o',rfl,hF,V1⟩:=B3 (fun e=>by subst e;cases ab)
   obtain⟨cs',q1,q2,q3⟩:=V1 _ ab
   have kh:l[n.toNat]=dt:=by rw[bc ab]at h1;exact Option.some.inj h1
   rw[kh]at q3
   have hn:0≤n∧n<(l.length:Int):=by omega
   refine⟨_,?_,(At.Un s q2 q3).fV hF⟩
   simp[execOp,ho,e,a2.gu,Instr.indexAt,asIntOf,run_underlying hd,hn,run_sizeOf kZ,pc,dV,eD]
  ·rename_i i b off len es hi hx
   obtain⟨j',_,_,kZ,_,dV,_⟩:=dp ok hi
   obtain⟨⟨eD,h0,h1⟩,go⟩:=h
   refine⟨_,go,H6 rfl fun η F w o ho aN=>?_⟩
   have a1:=aN x (by simp[Op.operands]);rw[hx]at a1
   have a2:=aN ix (by simp[Op.operands]);rw[zV]at a2
   obtain⟨a,cap,e,c,T,fz,m1,m2,m3,m4⟩:=a1.lD
   have ha:a=⟨b,off,none⟩:=by rcases m4 with m4 | m4;exact m4.1;omega
   subst ha
   exact⟨⟨c,T,fz,m1⟩,fun _=>by simp[execOp,ho,e,a2.gu,Instr.indexAt,asIntOf,run_underlying hd,h0,h1,run_sizeOf kZ,pc,dV,eD]⟩
  ·exact h.elim
 ·rename_i m e sz qU z0 k n ht zV
  obtain⟨_,d,_,_,hd,_,_,hf,_,_⟩:=dp ok ht
  obtain rfl:=Tq hf
  split at h
  ·rename_i i b o' hi hx
   obtain⟨j',_,_,kZ,_,dV,_⟩:=dp ok hi
   obtain⟨⟨h0,h1⟩,go⟩:=h
   refine⟨_,go,H6 rfl fun η F w o ho aN=>?_⟩
   have a1:=aN x (by simp[Op.operands]);rw[hx]at a1
   have a2:=aN ix (by simp[Op.operands]);rw[zV]at a2
   exact⟨a1.Ax,fun _=>by simp[execOp,ho,a1.zu,a2.gu,Instr.indexAt,asIntOf,Instr.sureAddr,run_underlying hd,h0,h1,run_sizeOf kZ,pc,dV]⟩
  ·rename_i i cs hi hx
   obtain⟨j',_,_,kZ,_,dV,_⟩:=dp ok hi
   obtain⟨⟨h0,h1⟩,go⟩:=h
   refine⟨_,go,fun η F w o ho aN=>?_⟩
   have a1:=aN x (by simp[Op.operands]);rw[hx]at a1
   have a2:=aN ix (by simp[Op.operands]);rw[zV]at a2
   obtain⟨b,o',e,hF,dX⟩:=a1.y8
   exact⟨_,by simp[execOp,ho,e,a2.gu,Instr.indexAt,asIntOf,Instr.sureAddr,run_underlying hd,h0,h1,run_sizeOf kZ,pc,dV],(dX.drop _).fV hF⟩
  ·exact h.elim
 ·exact h.elim
theorem Xq{x:Operand}{i:Nat}{ρ:Operand→AV}{vs:List AV}{v:AV}(hx:ρ x=.tup vs)(hv:vs[i]?=some v):fe P (.extract x i) ρ v:=by
 intro η F w o ho aN
 have a1:=aN x (by simp[Op.operands]);rw[hx]at a1
 cases he:η x with
 |tuple us=>
  rw[he]at a1
  cases a1 with
  |tup cs vs hs h=>
   have h1:=h i v hv
   have ab:i<us.size:=by rw[← hs];exact (bQ.1 hv).1
   refine⟨us.getD i undef,?_,h1⟩
   simp[execOp,ho,he,Instr.extract,ab,Array.getD]
 |_=>rw[he]at a1;cases a1
theorem P4(ok:dD P TT){x:Operand}{tx t e:TypeId}{s b:Nat}{z:List AV}{ρ:Operand→AV}{K:AV→Prop}(ht:TT t=some ⟨.ptr e,s,b,z⟩)(iP:z=[.cN])(h:(∃t' v,ρ x=.iface t' v∧(match Nat.beq t' t with | true=>K (.tup [v,.bool true]) | false=>K (.tup [.cN,.bool false])))∨(ρ x=.nilif∧K (.tup [.cN,.bool false]))):∃v,K v∧fe P (.typeAssert x tx t true) ρ v:=by
 obtain⟨j,d,zv,hj,hd,hs,⟨hb,oO⟩,hf,hz,ib⟩:=dp ok ht
 obtain rfl:=Ha hf
 have Nx:∀{F:Nat→Prop} {w:World} {a c:AV} {u v:Value},ax F w a u→ax F w c v→ax F w (.tup [a,c]) (.tuple #[u,v]):=fun h1 h2=>.tup _ _ rfl fun i y hy=>by
  rcases i with _ | _ | i
  ·simp at hy;subst hy;exact h1
  ·simp at hy;subst hy;exact h2
  ·simp at hy
 have Oi:zv=.pointer none:=by
  obtain⟨j2,z2,k1,k2,k3⟩:=TW ok ht rfl
  rw[hj]at k1;cases k1
  rw[hz]at k2;cases k2
  cases zv with
  |agg cs=>cases k3
  |pointer p=>cases p with
   |none=>rfl
   |some p=>subst iP;exact absurd ib (by simp[Value.cells,qj,AV.isVal])
  |_=>subst iP;exact absurd ib (by simp[Value.cells,qj,AV.isVal])
 have hzv:∀w,(zeroValue t).run P w=.ok (.pointer none) w:=fun w=>by simp[zeroValue,typeInfo,hj,hz,Oi]
 rcases h with ⟨t',v,hx,h⟩ | ⟨hx,h⟩
 ·split at h
  ·rename_i hb
   have e:=jr hb
   subst e
   refine⟨_,h,fun η F w o ho aN=>?_⟩
   have a1:=aN x (by simp[Op.operands]);rw[hx]at a1
   cases hv:η x with
   |iface t2 u=>
    rw[hv]at a1
    cases a1 with
    |iface _ _ _ hu=>exact⟨.tuple #[u,.bool true],fun w'=>by simp[execOp,ho,hv,Instr.typeAssert,run_underlying hd],Nx hu (.bool _)⟩
   |_=>rw[hv]at a1;cases a1
  ·rename_i hb
   refine⟨_,h,fun η F w o ho aN=>?_⟩
   have a1:=aN x (by simp[Op.operands]);rw[hx]at a1
   cases hv:η x with
   |iface t2 u=>
    rw[hv]at a1
    cases a1 with
    |iface _ _ _ hu=>
     have aO:¬t'=t:=fun e=>by subst e;rw[yx]at hb;cases hb
     exact⟨.tuple #[.pointer none,.bool false],fun w'=>by simp[execOp,ho,hv,Instr.typeAssert,run_underlying hd,aO,hzv],Nx .cN (.bool _)⟩
   |_=>rw[hv]at a1;cases a1
 ·refine⟨_,h,fun η F w o ho aN=>?_⟩
  have a1:=aN x (by simp[Op.operands]);rw[hx]at a1
  have hv:η x=.nilIface:=by revert a1;generalize η x=u;intro a1;cases a1;rfl
  exact⟨.tuple #[.pointer none,.bool false],fun w'=>by simp[execOp,ho,hv,Instr.typeAssert,run_underlying hd,hzv],Nx .cN (.bool _)⟩
theorem vq{n:Int}{y:Nat}{code:BoundsCode}{k:IntKind}(h0:0≤n)(h1:n≤y)(w:World):(Instr.sliceBound (.int k n) y code).run P w=.ok n.toNat w:=by
 simp[Instr.sliceBound,asIntOf,h0,h1]
theorem Kx{lo hi:Option AV}{sJ EM:Option Value}{F:Nat→Prop}{w:World}{len cap:Nat}{l h:Int}(pY:∀x,lo=some x→∃v,sJ=some v∧ax F w x v)(NM:lo=none→sJ=none)(Jv:∀x,hi=some x→∃v,EM=some v∧ax F w x v)(ahT:hi=none→EM=none)
  (el:tR lo=some l) (eh:Be len hi=some h) (h1:0≤l) (h2:l≤h) (h3:h≤len) (h4:len≤cap) (w':World):(Instr.sliceBounds true len cap sJ EM none).run P w'=.ok (l.toNat,h.toNat,cap) w':=by
 have e2:(EM=none∧h=len)∨∃k,EM=some (.int k h):=by
  cases hi with
  |none=>exact .inl ⟨ahT rfl,by simpa [Be]using eh.symm⟩
  |some x=>
   obtain⟨v,rfl,hv⟩:=Jv x rfl
   cases x <;> simp[Be]at eh
   subst eh
   exact .inr ⟨_,by rw[hv.gu]⟩
 have e1:(sJ=none∧l=0)∨∃k,sJ=some (.int k l):=by
  cases lo with
  |none=>exact .inl ⟨NM rfl,by simpa [tR]using el.symm⟩
  |some x=>
   obtain⟨v,rfl,hv⟩:=pY x rfl
   cases x <;> simp[tR]at el
   subst el
   exact .inr ⟨_,by rw[hv.gu]⟩
 have hh:(h.toNat:Int)=h:=by omega
 rcases e2 with ⟨rfl,rfl⟩ | ⟨k2,rfl⟩ <;> rcases e1 with ⟨rfl,rfl⟩ | ⟨k1,rfl⟩
 ·simp[Instr.sliceBounds]
 ·simp[Instr.sliceBounds,vq h1 (show l≤(len:Nat) from h2)]
 ·simp[Instr.sliceBounds,vq (show 0≤h by omega) (show h≤(cap:Nat) by omega)]
 ·simp[Instr.sliceBounds,vq (show 0≤h by omega) (show h≤(cap:Nat) by omega),vq h1 (show l≤(h.toNat:Nat) by omega)]
theorem Xs{lo:Option AV}{sJ:Option Value}{F:Nat→Prop}{w:World}{len cap:Nat}{l h m:Int}{k1 k2:IntKind}(pY:∀x,lo=some x→∃v,sJ=some v∧ax F w x v)(NM:lo=none→sJ=none)
  (el:tR lo=some l) (h1:0≤l) (h2:l≤h) (h3:h≤m) (h4:m≤len) (h5:len≤cap) (w':World):(Instr.sliceBounds true len cap sJ (some (.int k1 h)) (some (.int k2 m))).run P w'=.ok (l.toNat,h.toNat,m.toNat) w':=by
 have e1:(sJ=none∧l=0)∨∃k,sJ=some (.int k l):=by
  cases lo with
  |none=>exact .inl ⟨NM rfl,by simpa [tR]using el.symm⟩
  |some x=>
   obtain⟨v,rfl,hv⟩:=pY x rfl
   cases x <;> simp[tR]at el
   subst el
   exact .inr ⟨_,by rw[hv.gu]⟩
 have hh:(h.toNat:Int)=h:=by omega
 rcases e1 with ⟨rfl,rfl⟩ | ⟨k1,rfl⟩
 ·simp[Instr.sliceBounds,vq (show 0≤m by omega) (show m≤(cap:Nat) by omega),vq (show 0≤h by omega) (show h≤(m.toNat:Nat) by omega)]
 ·simp[Instr.sliceBounds,vq (show 0≤m by omega) (show m≤(cap:Nat) by omega),vq (show 0≤h by omega) (show h≤(m.toNat:Nat) by omega),vq h1 (show l≤(h.toNat:Nat) by omega)]
theorem pf{F:Nat→Prop}{w:World}{ρ:Operand→AV}{η:Operand→Value}{o:Option Operand}(h:∀x,o=some x→ax F w (ρ x) (η x)):(∀x,o.map ρ=some x→∃v,o.map η=some v∧ax F w x v)∧(o.map ρ=none→o.map η=none):=by
 cases o with
 |none=>exact⟨(fun x h=>by cases h),fun _=>rfl⟩
 |some y=>exact⟨(fun x hx=>by cases hx;exact⟨_,rfl,h y rfl⟩),(fun h=>by cases h)⟩
theorem XQ(ok:dD P TT){t:TypeId}{x:Operand}{lo hi mx:Option Operand}{ρ:Operand→AV}{K:AV→Prop}(h:AU TT t (ρ x) (lo.map ρ) (hi.map ρ) (mx.map ρ) K):∃v,K v∧fe P (.slice t x lo hi mx) ρ v:=by
 unfold AU at h
 split at h
 ·rename_i e sz qU z0 ht BV
  have BV:mx=none:=by simpa using BV
  subst BV
  obtain⟨_,d,_,_,hd,_,_,hf,_,_⟩:=dp ok ht
  obtain rfl:=jX hf
  have zA:∀{η:Operand→Value} {F:Nat→Prop} {w:World},(∀y∈(Op.slice t x lo hi none).operands.toList,ax F w (ρ y) (η y))→ax F w (ρ x) (η x)∧(∀y,lo=some y→ax F w (ρ y) (η y))∧(∀y,hi=some y→ax F w (ρ y) (η y)):=by
   intro η F w hy
   refine⟨hy x (by simp[Op.operands]),fun y e=>hy y (by subst e;simp[Op.operands]),fun y e=>hy y (by subst e;simp[Op.operands])⟩
  split at h
  ·rename_i i b off len es fo hx
   obtain⟨j',_,_,kZ,_,dV,_⟩:=dp ok fo
   split at h
   ·rename_i l hh el eh
    obtain⟨⟨h1,h2,h3,eD⟩,go⟩:=h
    refine⟨_,go,fun η F w o ho aN=>?_⟩
    obtain⟨a1,a2,a3⟩:=zA aN
    rw[hx]at a1
    obtain⟨a,cap,ea,c,T,fz,m1,m2,m3,m4⟩:=a1.lD
    have hb:=Kx (P:=P) (w:=w) (pf a2).1 (pf a2).2 (pf a3).1 (pf a3).2 el eh h1 h2 h3 m2
    refine⟨.slice (some (if cap=l.toNat then a else a.add (l.toNat*j'.size))) (hh.toNat-l.toNat) (cap-l.toNat),?_,?_⟩
    ·intro w'
     simp only[execOp,ho,Instr.sliceAt,Sem.run_bind,run_underlying hd,Result.andThen_ok,Option.map_none,ea,Instr.slice,hb,run_sizeOf kZ,Sem.run_pure]
     split <;> rfl
    ·refine .ae _ _ _ _ _ _ ⟨c,T,fz,m1,by omega,by omega,?_⟩
     by_cases ey:cap=l.toNat
     ·refine .inr ?_
      rw[ag ey]
      rcases m4 with ⟨rfl,_⟩ | ⟨q1,q2,q3,q4⟩
      ·exact⟨rfl,rfl,by omega,by omega⟩
      ·exact⟨q1,q2,by omega,by omega⟩
     ·refine .inl ?_
      rw[ah ey]
      rcases m4 with ⟨rfl,q⟩ | ⟨q1,q2,q3,q4⟩
      ·refine⟨by rw[pc,dV,eD],?_⟩
       have:off+l.toNat*es+(cap-l.toNat)*es=off+cap*es:=by
        rw[Ci,← lh];congr 2;omega
       omega
      ·omega
   ·exact h.elim
  ·rename_i i s xs fo hx
   obtain⟨j',_,_,kZ,_,dV,_⟩:=dp ok fo
   split at h
   ·rename_i l hh el eh
    obtain⟨⟨h1,h2,h3,eD⟩,go⟩:=h
    refine⟨_,go,fun η F w o ho aN=>?_⟩
    obtain⟨a1,a2,a3⟩:=zA aN
    rw[hx]at a1
    obtain⟨a,cap,ea,c1,c2,c3⟩:=a1.ED
    have hb:=Kx (P:=P) (w:=w) (pf a2).1 (pf a2).2 (pf a3).1 (pf a3).2 el eh h1 h2 h3 c1
    have hlen:((xs.drop l.toNat).take (hh.toNat-l.toNat)).length=hh.toNat-l.toNat:=by simp;omega
    refine⟨.slice (if cap=l.toNat then a else a.map (·.add (l.toNat*j'.size))) (hh.toNat-l.toNat) (cap-l.toNat),?_,?_⟩
    ·intro w'
     simp only[execOp,ho,Instr.sliceAt,Sem.run_bind,run_underlying hd,Result.andThen_ok,Option.map_none,ea,Instr.slice,hb,run_sizeOf kZ,Sem.run_pure]
    ·refine .ai _ _ _ ⟨_,_,by rw[hlen],by omega,by omega,(fun he=>?_),fun aO=>?_⟩
     ·have O7:=a1.ai3 ea
      split at he
      ·have:=O7 he;omega
      ·have:=O7 (Option.map_eq_none_iff.1 he);omega
     have ui:0<hh.toNat-l.toNat:=by
      rcases uQ (hh.toNat-l.toNat) with h0 | h0
      ·exact absurd (iS.1 (by rw[hlen,h0])) aO
      ·exact h0
     obtain⟨b,o',rfl,hF,hr⟩:=c3 (fun e=>by subst e;simp at h3;omega)
     refine⟨b,o'+l.toNat*s.size,by rw[if_neg (by omega)];simp[pc,dV,eD],hF,fun m hm=>?_⟩
     rw[hlen]at hm
     obtain⟨cs',q1,q2,q3⟩:=hr (l.toNat+m) (by omega)
     refine⟨cs',q1,?_,by simpa using q3⟩
     rw[Ci,← lh]
     exact q2
   ·exact h.elim
  ·rename_i i fo hx
   obtain⟨j',_,_,kZ,_,dV,_⟩:=dp ok fo
   split at h
   ·rename_i l hh el eh
    obtain⟨⟨h1,h2,h3⟩,go⟩:=h
    refine⟨_,go,fun η F w o ho aN=>?_⟩
    obtain⟨a1,a2,a3⟩:=zA aN
    rw[hx]at a1
    have ea:η x=.slice none 0 0:=by revert a1;generalize η x=u;intro a1;cases a1;rfl
    have hb:=Kx (P:=P) (w:=w) (cap:=0) (pf a2).1 (pf a2).2 (pf a3).1 (pf a3).2 el eh h1 h2 h3 (aM _)
    have ie:l.toNat=0:=by omega
    have hh0:hh.toNat=0:=by omega
    refine⟨.slice none 0 0,?_,.aj⟩
    intro w'
    simp[execOp,ho,Instr.sliceAt,Sem.run_bind,run_underlying hd,Result.andThen_ok,ea,Instr.slice,hb,run_sizeOf kZ,ie,hh0]
   ·exact h.elim
  ·exact h.elim
 ·rename_i e sz qU z0 k2 m ht BV
  obtain⟨mo,rfl,hmo⟩:∃mo,mx=some mo∧ρ mo=.int k2 m:=by
   cases mx with
   |none=>cases BV
   |some mo=>exact⟨mo,rfl,Option.some.inj BV⟩
  obtain⟨_,d,_,_,hd,_,_,hf,_,_⟩:=dp ok ht
  obtain rfl:=jX hf
  split at h
  ·rename_i i b off len es k1 hh fo hx Jv
   obtain⟨gj,rfl,hho⟩:∃gj,hi=some gj∧ρ gj=.int k1 hh:=by
    cases hi with
    |none=>cases Jv
    |some gj=>exact⟨gj,rfl,Option.some.inj Jv⟩
   obtain⟨j',_,_,kZ,_,dV,_⟩:=dp ok fo
   split at h
   ·rename_i l el
    obtain⟨⟨h1,h2,h3,h4,eD⟩,go⟩:=h
    refine⟨_,go,fun η F w o ho aN=>?_⟩
    have a1:=aN x (by simp[Op.operands])
    have a2:∀y,lo=some y→ax F w (ρ y) (η y):=fun y e=>aN y (by subst e;simp[Op.operands])
    have a3:=aN gj (by simp[Op.operands])
    have a4:=aN mo (by simp[Op.operands])
    rw[hx]at a1
    rw[hho]at a3
    rw[hmo]at a4
    have e3:=a3.gu
    have e4:=a4.gu
    obtain⟨a,cap,ea,c,T,fz,m1,m2,m3,m4⟩:=a1.lD
    have hb:=Xs (P:=P) (w:=w) (k1:=k1) (k2:=k2) (pf a2).1 (pf a2).2 el h1 h2 h3 h4 m2
    refine⟨.slice (some (if m.toNat=l.toNat then a else a.add (l.toNat*j'.size))) (hh.toNat-l.toNat) (m.toNat-l.toNat),?_,?_⟩
    ·intro w'
     simp only[execOp,ho,Instr.sliceAt,Sem.run_bind,run_underlying hd,Result.andThen_ok,JS,ea,e3,e4,Instr.slice,hb,run_sizeOf kZ,Sem.run_pure]
     split <;> rfl
    ·refine .ae _ _ _ _ _ _ ⟨c,T,fz,m1,by omega,by omega,?_⟩
     by_cases ey:m.toNat=l.toNat
     ·refine .inr ?_
      rw[ag ey]
      rcases m4 with ⟨rfl,_⟩ | ⟨q1,q2,q3,q4⟩
      ·exact⟨rfl,rfl,by omega,by omega⟩
      ·exact⟨q1,q2,by omega,by omega⟩
     ·refine .inl ?_
      rw[ah ey]
      rcases m4 with ⟨rfl,q⟩ | ⟨q1,q2,q3,q4⟩
      ·refine⟨by rw[pc,dV,eD],?_⟩
       have h6:off+l.toNat*es+(m.toNat-l.toNat)*es=off+m.toNat*es:=by
        rw[Ci,← lh];congr 2;omega
       have h7:m.toNat*es≤cap*es:=iR _ (by omega)
       omega
      ·omega
   ·exact h.elim
  ·exact h.elim
 ·exact h.elim
theorem tq{η:Operand→Value}(b:Builtin)(args:Array Operand)(cm:Array TypeId)(o:Oper)(ho:o.op=.call ⟨.builtin b,args,cm⟩):execOp η o=builtin b cm o.type (args.map fun | .const _=>true | _=>false) (args.map η):=by
 simp[execOp,ho,resolve,invoke]
 rfl
theorem aa9(ok:dD P TT){x:Operand}{cm:Array TypeId}{t:TypeId}{i:TI}{ρ:Operand→AV}{K:AV→Prop}(hty:cm.toList=[t])(ht:TT t=some i)(h:Er i.k (ρ x) K):∃v,K v∧fe P (.call ⟨.builtin .len,#[x],cm⟩) ρ v:=by
 obtain⟨_,d,_,_,hd,_,_,hf,_,_⟩:=dp ok ht
 obtain rfl:cm = #[t]:=by cases cm;simp_all
 unfold Er at h
 have fin:∀(n:Nat),K (.int .i64 n)→(∀(F:Nat→Prop) (w:World) (v:Value),ax F w (ρ x) v→∀ty w',(Builtin.len_ #[t] ty #[v]).run P w'=.ok (.int .i64 n) w')→∃v,K v∧fe P (.call ⟨.builtin .len,#[x],#[t]⟩) ρ v:=by
  intro n hk hr
  refine⟨_,hk,ng (fun _ _=>.int _ _) fun η F w o ho aN=>?_⟩
  have a1:=aN x (by simp[Op.operands,Call.operands])
  rw[tq _ _ _ o ho]
  simp[builtin,hr F w _ a1]
 split at h
 ·rename_i e s l hk hx
  rw[hk]at hf;obtain rfl:=jX hf
  refine fin _ h fun F w v hv ty w'=>?_
  rw[hx]at hv
  obtain⟨a,c,rfl,_⟩:=hv.ED
  simp[Builtin.len_,run_underlying hd,goInt]
 ·rename_i e b off len es hk hx
  rw[hk]at hf;obtain rfl:=jX hf
  refine fin _ h fun F w v hv ty w'=>?_
  rw[hx]at hv
  obtain⟨a,c,rfl,_⟩:=hv.lD
  simp[Builtin.len_,run_underlying hd,goInt]
 ·rename_i e hk hx
  rw[hk]at hf;obtain rfl:=jX hf
  refine fin 0 h fun F w v hv ty w'=>?_
  rw[hx]at hv
  cases hv
  simp[Builtin.len_,run_underlying hd,goInt]
 ·rename_i e hk hx
  rw[hk]at hf;obtain rfl:=jX hf
  refine fin 0 h fun F w v hv ty w'=>?_
  rw[hx]at hv
  cases hv
  simp[Builtin.len_,run_underlying hd,goInt]
 ·rename_i e hk hx
  rw[hk]at hf;obtain rfl:=jX hf
  refine fin 0 h fun F w v hv ty w'=>?_
  rw[hx]at hv
  cases hv
  simp[Builtin.len_,run_underlying hd,goInt]
 ·exact h.elim
theorem aaD(ok:dD P TT){x:Operand}{cm:Array TypeId}{t:TypeId}{i:TI}{ρ:Operand→AV}{K:AV→Prop}(hty:cm.toList=[t])(ht:TT t=some i)(h:EF i.k (ρ x) K):∃v,K v∧fe P (.call ⟨.builtin .cap,#[x],cm⟩) ρ v:=by
 obtain⟨_,d,_,_,hd,_,_,hf,_,_⟩:=dp ok ht
 obtain rfl:cm = #[t]:=by cases cm;simp_all
 unfold EF at h
 have fin:K (.int .i64 0)→(∀(F:Nat→Prop) (w:World) (v:Value),ax F w (ρ x) v→∀ty w',(Builtin.cap_ #[t] ty #[v]).run P w'=.ok (.int .i64 0) w')→∃v,K v∧fe P (.call ⟨.builtin .cap,#[x],#[t]⟩) ρ v:=by
  intro hk hr
  refine⟨_,hk,ng (fun _ _=>.int _ _) fun η F w o ho aN=>?_⟩
  have a1:=aN x (by simp[Op.operands,Call.operands])
  rw[tq _ _ _ o ho]
  simp[builtin,hr F w _ a1]
 split at h
 ·rename_i e hk hx
  rw[hk]at hf;obtain rfl:=jX hf
  refine fin h fun F w v hv ty w'=>?_
  rw[hx]at hv
  cases hv
  simp[Builtin.cap_,run_underlying hd,goInt]
 ·rename_i e hk hx
  rw[hk]at hf;obtain rfl:=jX hf
  refine fin h fun F w v hv ty w'=>?_
  rw[hx]at hv
  cases hv
  simp[Builtin.cap_,run_underlying hd,goInt]
 ·exact h.elim
theorem aa1{x y:Operand}{cm:Array TypeId}{ρ:Operand→AV}{K:AV→Prop}(h:Em [ρ x,ρ y] K):∃v,K v∧fe P (.call ⟨.builtin .min,#[x,y],cm⟩) ρ v:=by
 unfold Em at h
 split at h
 ·rename_i k a k' b e
  simp only[List.cons.injEq,and_true]at e
  split at h
  ·refine⟨_,h,ng (fun _ _=>.int _ _) fun η F w o ho aN=>?_⟩
   have a1:=aN x (by simp[Op.operands,Call.operands]);rw[e.1]at a1
   have a2:=aN y (by simp[Op.operands,Call.operands]);rw[e.2]at a2
   rw[tq _ _ _ o ho]
   simp[builtin,Builtin.min_,Builtin.min2,a1.gu,a2.gu]
  ·exact h.elim
 ·exact h.elim
theorem aa4{x y:Operand}{cm:Array TypeId}{ρ:Operand→AV}{K:AV→Prop}(h:En [ρ x,ρ y] K):∃v,K v∧fe P (.call ⟨.builtin .max,#[x,y],cm⟩) ρ v:=by
 unfold En at h
 split at h
 ·rename_i k a k' b e
  simp only[List.cons.injEq,and_true]at e
  split at h
  ·refine⟨_,h,ng (fun _ _=>.int _ _) fun η F w o ho aN=>?_⟩
   have a1:=aN x (by simp[Op.operands,Call.operands]);rw[e.1]at a1
   have a2:=aN y (by simp[Op.operands,Call.operands]);rw[e.2]at a2
   rw[tq _ _ _ o ho]
   simp[builtin,Builtin.max_,Builtin.max2,a1.gu,a2.gu]
  ·exact h.elim
 ·exact h.elim
theorem Y9{x y:Operand}{cm:Array TypeId}{ρ:Operand→AV}{K:AV→Prop}(h:D8 (ρ x) (ρ y) K):∃v,K v∧fe P (.call ⟨.builtin .complex,#[x,y],cm⟩) ρ v:=by
 unfold D8 at h
 split at h
 ·rename_i a b hx hy
  refine⟨_,h,fun η F w o ho aN=>?_⟩
  have a1:=aN x (by simp[Op.operands,Call.operands]);rw[hx]at a1
  have a2:=aN y (by simp[Op.operands,Call.operands]);rw[hy]at a2
  obtain⟨r,e1,h1⟩:=a1.IH
  obtain⟨q,e2,h2⟩:=a2.IH
  refine⟨.complex .f64 r q,fun w'=>?_,.fR _ _ _ _ h1 h2⟩
  rw[tq _ _ _ o ho]
  rw[show Array.map η #[x,y] = #[η x,η y] by simp,e1,e2];rfl
 ·exact h.elim
theorem YI{x:Operand}{cm:Array TypeId}{ρ:Operand→AV}{K:AV→Prop}(h:DP (ρ x) K):∃v,K v∧fe P (.call ⟨.builtin .real,#[x],cm⟩) ρ v:=by
 unfold DP at h
 split at h
 ·rename_i a b hx
  refine⟨_,h,fun η F w o ho aN=>?_⟩
  have a1:=aN x (by simp[Op.operands,Call.operands]);rw[hx]at a1
  obtain⟨r,q,e1,h1,h2⟩:=a1.IL
  refine⟨.float .f64 r,fun w'=>?_,.gk _ _ h1⟩
  rw[tq _ _ _ o ho]
  rw[show Array.map η #[x] = #[η x] by simp,e1];rfl
 ·exact h.elim
theorem YY{x:Operand}{cm:Array TypeId}{ρ:Operand→AV}{K:AV→Prop}(h:DV (ρ x) K):∃v,K v∧fe P (.call ⟨.builtin .imag,#[x],cm⟩) ρ v:=by
 unfold DV at h
 split at h
 ·rename_i a b hx
  refine⟨_,h,fun η F w o ho aN=>?_⟩
  have a1:=aN x (by simp[Op.operands,Call.operands]);rw[hx]at a1
  obtain⟨r,q,e1,h1,h2⟩:=a1.IL
  refine⟨.float .f64 q,fun w'=>?_,.gk _ _ h2⟩
  rw[tq _ _ _ o ho]
  rw[show Array.map η #[x] = #[η x] by simp,e1];rfl
 ·exact h.elim
theorem Holds.Ix{F:Nat→Prop}{w:World}{b:Nat}{x:AV}{o:Obj}(h:Holds F w b [x])(hx:xS x=some o):¬F b∧w.heap[b]?=some o:=by
 obtain⟨hF,⟨c,T,h1,h2,h3⟩ | ⟨x',o',h1,h2,h3⟩ | ⟨_,_,h1,_⟩⟩:=h
 ·have:=(h3 0 _ rfl).1;rw[GH hx]at this;cases this
 ·cases h1;rw[hx]at h3;cases h3;exact⟨hF,h2⟩
 ·cases h1;cases hx
theorem Holds.Eo{F:Nat→Prop}{w:World}{b:Nat}{l:List (Int×Int)}(h:Holds F w b [.oE l]):¬F b∧w.heap[b]?=some (.map (gg 0 l).toArray l.length):=h.Ix rfl
theorem Holds.VX{F:Nat→Prop}{w:World}{b:Nat}{L:Loop}{t:Nat→AV}(h:Holds F w b [.mD L t]):¬F b∧w.heap[b]?=some (.loop L)∧∀i,ax F w (t i) (L.tmps.getD i undef):=by
 obtain⟨hF,⟨c,T,h1,h2,h3⟩ | ⟨x,o,h1,h2,h3⟩ | ⟨_,_,h1,h2⟩⟩:=h
 ·have:=(h3 0 _ rfl).1;cases this
 ·cases h1;cases h3
 ·cases h1;exact⟨hF,h2⟩
theorem ax.Wv{F:Nat→Prop}{w:World}{b:Nat}{v:Value}(h:ax F w (.nJ b) v):v=.pointer (some ⟨b,0,none⟩):=by cases h;rfl
theorem ax.M5{F:Nat→Prop}{w:World}{b:Nat}{v:Value}(h:ax F w (.nz b) v):v=.map (some b):=by cases h;rfl
theorem K7(ok:dD P TT){t:TypeId}{z:Int}(h:Bv TT t=some z):∃k e,P.underlying t=some (.map k e)∧P.underlying k=some (.int .i64)∧∀w,(zeroValue e).run P w=.ok (.int .i64 z) w:=by
 unfold Bv at h
 split at h
 ·rename_i k e s1 b1 z1 ht
  split at h
  ·rename_i s2 b2 z2 s3 b3 zz hk he
   cases h
   obtain⟨_,d1,_,_,zX,_,_,iQ,_,_⟩:=dp ok ht
   obtain⟨_,d2,_,_,rW,_,_,wI,_,_⟩:=dp ok hk
   obtain⟨j3,d3,zv,hj3,hd3,_,_,hf3,mh,ib⟩:=dp ok he
   have:=ack iQ;subst this
   have:=fits_int wI;subst this
   have Oi:zv=.int .i64 z:=by
    obtain⟨j2,z2',k1,k2,k3⟩:=TW ok he rfl
    rw[hj3]at k1;cases k1
    rw[mh]at k2;cases k2
    cases zv with
    |agg cs=>cases k3
    |int q n=>
     simp[Value.cells,qj,AV.isVal]at ib
     obtain⟨rfl,rfl⟩:=ib
     rfl
    |_=>exact absurd ib (by simp[Value.cells,qj,AV.isVal])
   exact⟨k,e,zX,rW,fun w=>by simp[zeroValue,typeInfo,hj3,mh,Oi]⟩
  ·cases h
 ·cases h
theorem XB(ok:dD P TT){t:TypeId}{m k:Operand}{c:Bool}{ρ:Operand→AV}{σ:Hp}{K:AV→Prop}(h:Dq TT t (bJ (ρ m)) (bJ (ρ k)) c σ K):∃v,K v∧EJ P (.lookup t m k c) ρ σ v:=by
 unfold Dq at h
 split at h
 ·rename_i z n hz hk
  obtain⟨kt,et,h1,h2,h3⟩:=K7 ok hz
  obtain⟨j,b,l,hm,hj,go⟩:=h
  have hs:∀(η:Operand→Value) (F:Nat→Prop) (w:World) (o:Oper),o.op=.lookup t m k c→(∀x∈(Op.lookup t m k c).operands.toList,ax F w (ρ x) (η x))→aX F w σ→(execOp η o).run P w=.ok (.value (if c then .tuple #[.int .i64 ((getM l n).getD z),.bool (getM l n).isSome] else .int .i64 ((getM l n).getD z))) w:=fun η F w o ho hx aC=>by
   have a1:=(hx m (by simp[Op.operands])).bJ
   rw[hm]at a1
   have a2:=(hx k (by simp[Op.operands])).bJ
   rw[hk]at a2
   have e1:η m=.map (some b):=a1.M5
   have e2:η k=.int .i64 n:=a2.gu
   obtain⟨_,hb⟩:=(aC.holds _ (bH hj)).Eo
   simp[execOp,ho,e1,e2,XU h1 h2 (h3 w) hb n c]
  cases c with
  |true=>
   exact⟨_,go,fun η F w o ho hx aC=>⟨_,hs η F w o ho hx aC,.tup _ _ rfl fun i y hy=>by
    rcases i with _ | _ | i
    ·simp at hy;subst hy;exact .int _ _
    ·simp at hy;subst hy;exact .bool _
    ·simp at hy⟩⟩
  |false=>exact⟨_,go,fun η F w o ho hx aC=>⟨_,hs η F w o ho hx aC,.int _ _⟩⟩
 ·exact h.elim
def MM:Op→Bool
 |.load _ _ | .lookup _ _ _ _=>false
 |_=>true
theorem RE(ok:dD P TT){op:Op}{ρ:Operand→AV}{σ:Hp}{K:AV→Prop}(hb:MM op=true)(h:fI P TT op ρ σ K):∃v,K v∧fe P op ρ v:=by
 unfold fI at h
 split at h
 ·rw[yT]at h;exact⟨_,h,ZG⟩
 ·rw[yT]at h;exact⟨_,h,XS⟩
 ·split at h
  ·rename_i x hx
   rw[yT,yT]at h
   refine⟨_,?_,ZF hx⟩
   cases x <;> exact h
  ·exact h.elim
 ·split at h
  ·rename_i v hv
   exact⟨v,h,Yn ok hv⟩
  ·exact h.elim
 ·split at h
  ·cases hb
  ·exact h.elim
 ·rename_i x
  split at h
  ·rename_i b o' hx
   refine⟨_,h,H6 rfl fun η F w o ho aN=>?_⟩
   have h1:=aN x (by simp[Op.operands]);rw[hx]at h1
   exact⟨h1.Ax,fun _=>by simp[execOp,ho,h1.zu]⟩
  ·rename_i cs hx
   refine⟨_,h,fun η F w o ho aN=>?_⟩
   have h1:=aN x (by simp[Op.operands]);rw[hx]at h1
   obtain⟨b,o',e,hF,dX⟩:=h1.y8
   exact⟨_,by simp[execOp,ho,e],dX.fV hF⟩
  ·rename_i f a c hx
   refine⟨_,h,fun η F w o ho aN=>?_⟩
   have h1:=aN x (by simp[Op.operands]);rw[hx]at h1
   cases hv:η x with
   |func f' v1 v2=>
    rw[hv]at h1
    have:f'=.func f:=by cases h1;rfl
    subst this
    exact⟨_,by simp[execOp,ho,hv],h1⟩
   |_=>rw[hv]at h1;cases h1
  ·rename_i m t b o' c hx
   obtain⟨ha,h⟩:=h
   refine⟨_,h,fun η F w o ho aN=>?_⟩
   have h1:=aN x (by simp[Op.operands]);rw[hx]at h1
   cases hv:η x with
   |func f' v1 v2=>
    rw[hv]at h1
    have h2:=h1
    obtain⟨rfl,hs,hr⟩:f'=.method m∧1=v1.size∧ax F w (.iface t (.ptr b o')) (v1.getD 0 undef):=by
     cases h1 with | fn _ _ _ _ _ fh gy h1 h2=>exact⟨rfl,fh,h1 0 _ rfl⟩
    have h0:v1[0]?=some (.iface t (.pointer (some ⟨b,o',none⟩))):=by
     have ab:0<v1.size:=by omega
     have e1:v1.getD 0 undef=v1[0]:=by simp[Array.getD,ab]
     rw[e1]at hr
     rw[qa ab]
     revert hr
     generalize v1[0]=u
     intro hr
     cases hr with
     |iface _ _ _ h=>cases h;rfl
    refine⟨.func (.method m) v1 v2,fun w'=>?_,h2⟩
    have hn:=ha ⟨b,o',none⟩ w'
    simp only[execOp,ho,hv,h0,Sem.run_bind,run_program,Result.andThen_ok,hn]
    rfl
   |_=>rw[hv]at h1;cases h1
  ·rename_i t v hx
   refine⟨_,h,fun η F w o ho aN=>?_⟩
   have h1:=aN x (by simp[Op.operands]);rw[hx]at h1
   cases hv:η x with
   |iface t' v'=>
    rw[hv]at h1
    exact⟨_,by simp[execOp,ho,hv],h1⟩
   |_=>rw[hv]at h1;cases h1
  ·exact h.elim
 ·exact Cu (Zf ok (ρ:=fun x=>bJ (ρ x)) h)
 ·exact ab3 h
 ·exact Zc ok h
 ·rename_i t x
  split at h
  ·exact h.elim
  ·rename_i i hn hi
   exact⟨_,h,Yd ok hi (fun e=>hn i.size i.bytes i.zero (by rw[← e]))⟩
  ·exact h.elim
 ·exact⟨_,h,Xh⟩
 ·exact Cu (XQ ok (ρ:=fun x=>bJ (ρ x)) h)
 ·exact Xf ok h
 ·exact Yf ok h
 ·exact Cu (Xd ok (ρ:=fun x=>bJ (ρ x)) h)
 ·rename_i x tx t ok2
  split at h
  ·rename_i e s b t' v ht hx
   exact P4 ok ht rfl (.inl ⟨t',v,hx,h⟩)
  ·rename_i e s b ht hx
   exact P4 ok ht rfl (.inr ⟨hx,h⟩)
  ·exact h.elim
 ·cases hb
 ·split at h
  ·rename_i vs hx
   split at h
   ·rename_i v hv;exact⟨v,h,Xq hx hv⟩
   ·exact h.elim
  ·exact h.elim
 ·rename_i args cm
  split at h
  ·rename_i x t hx ht
   obtain rfl:args = #[x]:=by cases args;simp_all
   split at h
   ·rename_i i hi;exact Cu (aa9 ok ht hi (ρ:=fun x=>bJ (ρ x)) h)
   ·exact h.elim
  ·exact h.elim
 ·rename_i args cm
  split at h
  ·rename_i x y hx
   obtain rfl:args = #[x,y]:=by cases args;simp_all
   exact aa1 h
  ·exact h.elim
 ·rename_i args cm
  split at h
  ·rename_i x y hx
   obtain rfl:args = #[x,y]:=by cases args;simp_all
   exact aa4 h
  ·exact h.elim
 ·rename_i args cm
  split at h
  ·rename_i x y hx
   obtain rfl:args = #[x,y]:=by cases args;simp_all
   exact Y9 h
  ·exact h.elim
 ·rename_i args cm
  split at h
  ·rename_i x hx
   obtain rfl:args = #[x]:=by cases args;simp_all
   exact YI h
  ·exact h.elim
 ·rename_i args cm
  split at h
  ·rename_i x hx
   obtain rfl:args = #[x]:=by cases args;simp_all
   exact YY h
  ·exact h.elim
 ·rename_i args cm
  split at h
  ·rename_i x t hx ht
   obtain rfl:args = #[x]:=by cases args;simp_all
   split at h
   ·rename_i i hi;exact Cu (aaD ok ht hi (ρ:=fun x=>bJ (ρ x)) h)
   ·exact h.elim
  ·exact h.elim
 ·exact h.elim
theorem GG(ok:dD P TT){op:Op}{ρ:Operand→AV}{σ:Hp}{K:AV→Prop}(h:fI P TT op ρ σ K):∃v,K v∧EJ P op ρ σ v:=by
 cases hb:MM op with
 |true=>
  obtain⟨v,h1,h2⟩:=RE ok hb h
  exact⟨v,h1,h2.ahp σ⟩
 |false=>
  cases op with
  |load t a=>
   have h:(match TT t with | some i=>qo i (ρ a) σ K | none=>False):=h
   split at h
   ·rename_i i hi;exact YS ok hi h
   ·exact h.elim
  |lookup t m k c=>exact XB ok h
  |_=>cases hb
end
section
variable {P:Program} {ops:Array Oper} {Q:Exit→Act→World→Prop} {md:Region.Mode} {S:World→Prop}
def zH(P:Program)(o:Oper)(a:Act)(next:Act→World→Prop):Result Next→Prop
 |.ok (.value v) w'=>next (a.put o.dst v) w'
 |.ok .skip w'=>next (a.put o.dst undef) w'
 |.ok (.enter f args) w'=>Calls P f args w' fun e mf=>∃v,e=.returned v∧next (a.put o.dst v) mf
 |.ok (.round l f tmps assign body) w'=>RoundIn Fence.wide 0 P l f tmps assign body w' fun e mf=>∃v,e=.returned v∧next (a.put o.dst v) mf
 |_=>False
def wq(P:Program)(o:Oper)(a:Act)(w:World)(next:Act→World→Prop)(_:Exit→Act→World→Prop):Prop:=zH P o a next ((execOp a.eval o).run P w)
theorem TH{o:Oper}{a:Act}{w:World}{K K':Act→World→Prop}(h:∀a w,K a w→K' a w)(hh:wq P o a w K Q):wq P o a w K' Q:=by
 unfold wq at *
 generalize (execOp a.eval o).run P w=r at *
 cases r with
 |ok x w'=>
  cases x <;> simp only[zH]at hh ⊢ <;>
   first
    |exact h _ _ hh
    |exact Calls.mono hh (fun _ _ ⟨v,he,hv⟩=>⟨v,he,h _ _ hv⟩)
    |exact RoundIn.mono hh (fun _ _ ⟨v,he,hv⟩=>⟨v,he,h _ _ hv⟩)
 |halt x w'=>cases x <;> simp only[zH]at hh
def ox(P:Program)(ops:Array Oper)(Q:Exit→Act→World→Prop)(i:Nat)(K:Act→World→Prop)(a:Act)(w:World):Prop:=
 match ops[i]? with
 |none=>K a w
 |some o=>if Region.wanted o (yielded ops a.tmps) then wq P o a w K Q else K (a.put o.dst undef) w
theorem KR{i:Nat}{a:Act}{w:World}{K K':Act→World→Prop}(h:∀a w,K a w→K' a w)(hh:ox P ops Q i K a w):ox P ops Q i K' a w:=by
 unfold ox at *
 split
 ·exact h _ _ (by simpa [*]using hh)
 ·rename_i o ho
  simp only[ho]at hh
  split
  ·rename_i hw;simp only[hw,if_true]at hh;exact TH h hh
  ·rename_i hw;simp only[hw]at hh;exact h _ _ hh
def xE(P:Program)(ops:Array Oper)(Q:Exit→Act→World→Prop):List Oper→Act→World→Prop
 | [],a,w=>Q .normal a w
 |o::rest,a,w=>if Region.wanted o (yielded ops a.tmps) then wq P o a w (xE P ops Q rest) Q else xE P ops Q rest (a.put o.dst undef) w
def xL(P:Program)(md:Region.Mode)(ops:Array Oper)(Q:Exit→Act→World→Prop):Nat→Array Bool→Act→World→Prop
 | 0,au,a,w=>Region.ready md ops au=[]∧Q .normal a w
 |fuel+1,au,a,w=>(Region.ready md ops au=[]→Q .normal a w)∧∀i∈Region.ready md ops au,ox P ops Q i (xL P md ops Q fuel (au.setIfInBounds i true)) a w
theorem XH{i:Nat}{o:Oper}{v:Value}{a:Act}(hi:ops[i]?=some o)(hy:YieldsIf P ops S o v a){K:Act→World→Prop}{w:World}(hS:S w)(h:K (a.put o.dst v) w):ox P ops Q i K a w:=by
 unfold ox
 simp only[hi]
 rcases hy with ⟨hw,hv⟩ | ⟨hw,rfl⟩
 ·simp only[hw,if_true,wq,hv w hS];exact h
 ·simp only[hw,lS,if_false];exact h
theorem Zs{j:Nat}{oi oj:Oper}{v:Value}(hj:ops[j]?=some oj)(wL:oi.apart ops oj=true)(hsi:∀cs b,oi.op≠.select cs b)(hsj:∀cs b,oj.op≠.select cs b)
  {K:Act→World→Prop} {a:Act} {w:World} (hy:YieldsIf P ops S oi v a) (h:ox P ops Q j K (a.put oi.dst v) w):ox P ops Q j (fun a' w'=>YieldsIf P ops S oi v a'∧K (a'.put oi.dst v) w') a w:=by
 obtain⟨h1,h2,h3⟩:=Oper.apart_spec wL
 have keep:∀u,YieldsIf P ops S oi v (a.put oj.dst u):=fun u=>hy.of_same (execOp_put oi hsi a oj.dst u h3) (wanted_put oi a oj.dst u h3)
 have go:∀(u:Value) (w':World),K ((a.put oi.dst v).put oj.dst u) w'→YieldsIf P ops S oi v (a.put oj.dst u)∧K ((a.put oj.dst u).put oi.dst v) w':=fun u w' hk=>⟨keep u,by rw[← Act.put_comm a v u h2];exact hk⟩
 unfold ox at *
 simp only[hj]at *
 rw[wanted_put oj a oi.dst v h1]at h
 by_cases hw:Region.wanted oj (yielded ops a.tmps)=true
 ·rw[ag hw]at h ⊢
  unfold wq at *
  rw[execOp_put oj hsj a oi.dst v h1]at h
  generalize (execOp a.eval oj).run P w=r at *
  cases r with
  |ok x w'=>
   cases x <;> simp only[zH]at h ⊢
   case value u=>exact go u w' h
   case skip=>exact go undef w' h
   case enter f args=>exact Calls.mono h fun e mf ⟨u,he,hk⟩=>⟨u,he,go u mf hk⟩
   case round l f tmps assign body=>exact RoundIn.mono h fun e mf ⟨u,he,hk⟩=>⟨u,he,go u mf hk⟩
  |halt x w'=>cases x <;> simp only[zH]at h
 ·rw[ah hw]at h ⊢
  exact go undef w h
def FW(r:Option Nat):Fence:= { Fence.wide with round:=r }
variable {r:Option Nat}
theorem VQ{o:Oper}(bZ:∀c,o.op≠.defer c){a:Act}{w:World}{K:Act→World→Prop}(h:wq P o a w K Q):o.wpIn (FW r) 0 P a w K Q:=by
 refine⟨fun _ _=>trivial,?_⟩
 rw[show (FW r).round=r from rfl,Oper.semAt_eq r a.eval o bZ]
 unfold wq at h
 generalize (execOp a.eval o).run P w=x at *
 cases x with
 |ok x w'=>
  cases x <;> simp only[zH]at h <;> simp only[Oper.uponIn]
  case value u=>exact h
  case skip=>exact h
  case enter f args=>
   refine⟨fun hd=>(by cases hd),?_⟩
   have h2:CallsIn Fence.wide (0-1) P f args w' _:=callsIn_wide.2 h
   exact CallsIn.mono (F:=FW r) h2 fun e mf ⟨u,he,hk⟩=>by subst he;exact hk
  case round l f tmps assign body=>
   refine⟨fun hd=>(by cases hd),?_⟩
   exact RoundIn.mono (F:=FW r) h fun e mf ⟨u,he,hk⟩=>by subst he;exact hk
 |halt x w'=>cases x <;> simp only[zH]at h
theorem Rc:∀(l:List Oper) (a:Act) (w:World),(∀o∈l,∀c,o.op≠.defer c)→xE P ops Q l a w→wpListIn (FW r) 0 P ops Q l a w
 | [],_,_,_,h=>h
 |o::l,a,w,bZ,h=>by
  have ih:=fun a w=>Rc l a w fun o ho=>bZ o (cE _ ho)
  unfold xE at h
  unfold wpListIn
  split
  ·rename_i hw
   rw[ag hw]at h
   exact VQ (bZ o (bV ..)) (TH ih h)
  ·rename_i hw
   rw[ah hw]at h
   exact⟨fun _ _=>trivial,ih _ _ h⟩
theorem Sg(bZ:∀o∈ops.toList,∀c,o.op≠.defer c):∀(fuel:Nat) (au:Array Bool) (a:Act) (w:World),xL P md ops Q fuel au a w→wpAnyIn (FW r) 0 P md ops Q fuel au a w
 | 0,_,_,_,h=>h
 |fuel+1,au,a,w,h=>by
  refine⟨h.1,fun i hi=>?_⟩
  have h2:=KR (Sg bZ fuel (au.setIfInBounds i true)) (h.2 i hi)
  unfold ox at h2
  unfold wpOpIn
  cases ho:ops[i]? with
  |none=>rw[ho]at h2;exact h2
  |some o=>
   rw[ho]at h2
   simp only at h2 ⊢
   split
   ·rename_i hw
    rw[ag hw]at h2
    exact VQ (bZ o (Array.mem_toList_iff.2 (Array.mem_of_getElem? ho))) h2
   ·rename_i hw
    rw[ah hw]at h2
    exact⟨fun _ _=>trivial,h2⟩
theorem XW{id:Nat}{a:Act}{w:World}(bZ:∀o∈ops.toList,∀c,o.op≠.defer c)(h:xE P ops Q ops.toList a w):(Code.region id ops false).wpIn (FW r) 0 P Q a w:=
 wpIn_region_list (Rc _ _ _ bZ h)
theorem KF{id:Nat}{a:Act}{w:World}(hm:P.follows .mixedOrders=true)(bZ:∀o∈ops.toList,∀c,o.op≠.defer c)(h:xL P .any ops Q ops.size (Array.replicate ops.size false) a { w with drawn:=w.drawn+1 }):(Code.region id ops true).wpIn (FW r) 0 P Q a w:=
 wpIn_region_any hm (Sg bZ _ _ _ _ h)
end
end Go.Proofs.YtnikdflhefijbaaGreat
